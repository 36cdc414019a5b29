/- ReadList: the plain law, the walks of the program and of the reference, and the law. No condition. -/
import Derived.Test.YthibddfcjnljfaaDoorTextW
import Derived.Test.YthibddfcjnljfaaDoorNumW
import Derived.Test.YthibddfcjnljfaaDoorSplitW
namespace Go.Proofs.YthibddfcjnljfaaDoor
open Go.RowKit Go.Shelf

/-! ### plain -/
def okP (p : List UInt8) : Bool := match numOf p with
  | some n => !outB n
  | none => false
def valP (p : List UInt8) : Int := (numOf p).getD 0
theorem map_self {g : List UInt8 → List UInt8} : ∀ (l : List (List UInt8)), l.map g = l → ∀ p ∈ l, g p = p
  | [], _, p, h => by simp at h
  | a :: l, h, p, hp => by
    rw [List.map_cons] at h
    injection h with h1 h2
    rcases List.mem_cons.1 hp with e | e
    · rw [e]; exact h1
    · exact map_self l h2 p e
theorem map_same {g : List UInt8 → List UInt8} : ∀ (l : List (List UInt8)), (∀ p ∈ l, g p = p) → l.map g = l
  | [], _ => rfl
  | a :: l, h => by rw [List.map_cons, h a (by simp), map_same l (fun p hp => h p (by simp [hp]))]
theorem okP_out {p : List UInt8} (h : okP p = true) : outB (valP p) = false ∧ Lib.itoa (valP p) = p := by
  unfold okP at h
  unfold valP
  cases hn : numOf p with
  | none => rw [hn] at h; cases h
  | some n =>
    rw [hn] at h
    exact ⟨by simpa using h, numOf_itoa hn⟩
theorem okP_of {p : List UInt8} (h : outB (valP p) = false) (he : Lib.itoa (valP p) = p) : okP p = true := by
  unfold valP at h he
  unfold okP
  cases hn : numOf p with
  | none =>
    rw [hn] at he
    have e : p = [48] := by rw [← he]; exact itoa_zero
    rw [e, numOf_zero] at hn
    cases hn
  | some n =>
    rw [hn] at h
    simpa using h
theorem numOf_nil : numOf [] = none := by
  unfold numOf
  rw [if_neg]
  intro h
  have : (trimL []).length = 0 := rfl
  omega
theorem outB_zero : outB 0 = false := by decide
theorem read_law (s : List UInt8) : textOfL ((Lib.split s [44]).map valP) = s ↔ ((Lib.split s [44]).length ≤ 100 ∧ (Lib.split s [44]).all okP = true) := by
  have hne := split_ne 44 s
  have hlen : ((Lib.split s [44]).map valP).length = (Lib.split s [44]).length := List.length_map _
  constructor
  · intro h
    have hempty : s = [] → (Lib.split s [44]).map valP = [0] := by
      intro e
      rw [e, split_none 44 [] (by simp)]
      show [(numOf []).getD 0] = [0]
      rw [numOf_nil]; rfl
    unfold textOfL at h
    split at h
    · rename_i c1
      rw [hempty h.symm] at c1
      simp at c1
    · rename_i c1
      split at h
      · rename_i c2
        rw [hempty h.symm] at c2
        simp [outB_zero] at c2
      · rename_i c2
        split at h
        · rename_i c3
          rw [hlen] at c3
          exact absurd (List.eq_nil_of_length_eq_zero c3) hne
        · have c2' : ((Lib.split s [44]).map valP).any outB = false := by simpa using c2
          have e : Lib.split s [44] = ((Lib.split s [44]).map valP).map Lib.itoa := by
            conv => lhs; rw [← h]
            unfold joinT
            refine split_join 44 _ (by intro e; exact hne (by simpa using e)) ?_
            intro x hx
            obtain ⟨n, _, rfl⟩ := List.mem_map.1 hx
            exact itoa_no n 44 (by decide) (by decide)
          rw [List.map_map] at e
          have e2 := map_self _ e.symm
          refine ⟨by omega, List.all_eq_true.2 fun p hp => okP_of ?_ (e2 p hp)⟩
          have := List.any_eq_false.1 c2' (valP p) (List.mem_map.2 ⟨p, hp, rfl⟩)
          simpa using this
  · rintro ⟨h1, h2⟩
    have hok : ∀ p ∈ Lib.split s [44], outB (valP p) = false ∧ Lib.itoa (valP p) = p := fun p hp => okP_out (List.all_eq_true.1 h2 p hp)
    have c2 : ((Lib.split s [44]).map valP).any outB = false := by
      rw [List.any_eq_false]
      intro x hx
      obtain ⟨p, hp, rfl⟩ := List.mem_map.1 hx
      rw [(hok p hp).1]; simp
    rw [textOfL_join (by omega) c2 (by rw [hlen]; intro h; exact hne (List.eq_nil_of_length_eq_zero h))]
    unfold joinT
    rw [List.map_map, map_same (g := Lib.itoa ∘ valP) _ (fun p hp => (hok p hp).2)]
    exact join_split 44 s.length s (Nat.le_refl _)
theorem split_short (c : UInt8) : ∀ (k : Nat) (s : List UInt8), s.length ≤ k → ∀ p ∈ Lib.split s [c], p.length ≤ s.length
  | 0, s, h, p, hp => by
    obtain rfl : s = [] := List.eq_nil_of_length_eq_zero (by omega)
    rw [split_none c [] (by simp), List.mem_singleton] at hp
    rw [hp]; exact Nat.le_refl _
  | k + 1, s, h, p, hp => by
    rcases cut_at c s with h1 | ⟨a, b, rfl, h1⟩
    · rw [split_none c s h1, List.mem_singleton] at hp
      rw [hp]; exact Nat.le_refl _
    · rw [split_hit c a b h1] at hp
      rw [List.length_append, List.length_cons] at h ⊢
      rcases List.mem_cons.1 hp with e | e
      · rw [e]; omega
      · have := split_short c k b (by omega) p e
        omega
theorem pieces_short {c : UInt8} {s x : ByteArray} (h : x ∈ pieces c s) : x.size ≤ s.size := by
  obtain ⟨p, hp, rfl⟩ := List.mem_map.1 h
  have h1 := split_short c s.data.toList.length s.data.toList (Nat.le_refl _) p hp
  have e1 : (bs p).size = p.length := by simp [ByteArray.size]
  have e2 : s.data.toList.length = s.size := by simp
  omega

/-- The numbers of the parts. -/
def valS (xs : List ByteArray) : List Int := xs.map fun x => valP x.data.toList
def okS (x : ByteArray) : Bool := okP x.data.toList
theorem valS_next {xs : List ByteArray} {k : Nat} (h : k < xs.length) : valS (xs.take (k + 1)) = valS (xs.take k) ++ [valP xs[k].data.toList] := by
  unfold valS
  rw [List.take_succ_eq_append_getElem h, List.map_append]; rfl
theorem valS_len (xs : List ByteArray) : (valS xs).length = xs.length := by simp [valS]
theorem valS_pieces (s : ByteArray) : valS (pieces 44 s) = (Lib.split s.data.toList [44]).map valP := by
  unfold valS pieces
  rw [List.map_map]; rfl
theorem okS_pieces (s : ByteArray) : (pieces 44 s).all okS = (Lib.split s.data.toList [44]).all okP := by
  unfold pieces
  rw [List.all_map]; rfl
theorem pieces_split (s : ByteArray) : (pieces 44 s).length = (Lib.split s.data.toList [44]).length := by simp [pieces]
/-- The list with a text. -/
def listOf (s : ByteArray) : Option (List Int) :=
  if s.data.toList = [45] then some []
  else if (pieces 44 s).length ≤ 100 ∧ (pieces 44 s).all okS = true then some (valS (pieces 44 s)) else none
theorem listOf_min {s : ByteArray} (h : s.data.toList = [45]) : listOf s = some [] := by
  unfold listOf; rw [if_pos h]
theorem listOf_t {s : ByteArray} (h : s.data.toList ≠ [45]) (h1 : (pieces 44 s).length ≤ 100) (h2 : (pieces 44 s).all okS = true) : listOf s = some (valS (pieces 44 s)) := by
  unfold listOf; rw [if_neg h, if_pos ⟨h1, h2⟩]
theorem listOf_f {s : ByteArray} (h : s.data.toList ≠ [45]) (h1 : ¬ ((pieces 44 s).length ≤ 100 ∧ (pieces 44 s).all okS = true)) : listOf s = none := by
  unfold listOf; rw [if_neg h, if_neg h1]
theorem listOf_text {s : ByteArray} (h : s.data.toList ≠ [45]) : listOf s = if textOfL (valS (pieces 44 s)) = s.data.toList then some (valS (pieces 44 s)) else none := by
  unfold listOf
  rw [if_neg h]
  have e := read_law s.data.toList
  rw [← valS_pieces, ← okS_pieces, ← pieces_split] at e
  by_cases hc : textOfL (valS (pieces 44 s)) = s.data.toList
  · rw [if_pos hc, if_pos (e.1 hc)]
  · rw [if_neg hc, if_neg (fun h => hc (e.2 h))]
theorem listOf_len (s : ByteArray) : ((listOf s).getD []).length ≤ s.size + 1 := by
  unfold listOf
  split
  · simp
  · split
    · rw [Option.getD_some, valS_len]; exact pieces_le 44 s
    · simp
abbrev RetList (o : Option (List Int)) (w : World) (e : Ending) (w' : World) : Prop := RetIntsB w (o.getD []) o.isSome e w'
theorem isMin {s : ByteArray} (h : s.data.toList = [45]) : s = ⟨#[45]⟩ := by rw [← bs_of s, h]
theorem notMin {s : ByteArray} (h : s.data.toList ≠ [45]) : (s.toList == [45]) = false := beq_eq_false_iff_ne.2 (by
  rw [ByteArray.toList_eq]
  exact h)
theorem okS_none {x : ByteArray} (h : numOf x.data.toList = none) : okS x = false := by
  unfold okS okP; rw [h]
theorem okS_some {x : ByteArray} {n : Int} (h : numOf x.data.toList = some n) : okS x = inB n (-999999999) 999999999 ∧ valP x.data.toList = n := by
  unfold okS okP valP
  rw [h]
  exact ⟨by simp [outB], rfl⟩
theorem all_bad {xs : List ByteArray} {k : Nat} (h : k < xs.length) (hk : okS xs[k] = false) : xs.all okS = false := by
  rw [List.all_eq_false]
  exact ⟨xs[k], List.getElem_mem h, by simp [hk]⟩
theorem all_next {xs : List ByteArray} {k : Nat} (h : k < xs.length) (hm : (xs.take k).all okS = true) (hk : okS xs[k] = true) : (xs.take (k + 1)).all okS = true := by
  rw [List.take_succ_eq_append_getElem h, List.all_append, hm]; simp [hk]
set_option maxHeartbeats 1000000 in
set_option maxRecDepth 100000 in
theorem s_ReadList (s : ByteArray) (w : World) (hs0 : s.size ≤ maxLen) (HS : Hid (s.size ≤ 1048576)) : Calls Tryd.prog 21 #[.string s] w (RetList (listOf s) w) := by
  obtain ⟨R, HR⟩ : ∃ R, Hid (R = listOf s) := ⟨_, Lib.hid rfl⟩
  rw [← HR.out]
  by_cases hmin : s.data.toList = [45]
  · have HN : Hid (R = some []) := Lib.hid (by rw [HR.out, listOf_min hmin])
    have e := isMin hmin
    subst e
    clear hmin
    go_enter Tryd.func21, Tryd.ntmps21
    go_wp2
    go_ret2
    exact ⟨_, by rw [HN.out]; rfl, by rw [HN.out]; exact OwnV.empty _ _, ext_alloc _ _⟩
  have HMIN := Lib.hid hmin
  have hnm := notMin hmin
  clear hmin
  obtain ⟨L, HL⟩ : ∃ L, Hid (L = pieces 44 s) := ⟨_, Lib.hid rfl⟩
  have HSH : Hid (∀ x ∈ L, x.size ≤ maxLen) := Lib.hid (by
    intro x hx
    rw [HL.out] at hx
    have := pieces_short hx
    omega)
  have HS1 := Lib.hid (s_split s 44 w hs0 HS)
  rw [← HL.out] at HS1
  go_enter Tryd.func21, Tryd.ntmps21
  go_wp2_with fail
  refine HS1.out.mono ?_
  rintro e w1 ⟨v1, rfl, o1, x1⟩
  have X1 := Lib.hid x1
  obtain ⟨a, cap, rfl, hc, hm, hr⟩ := o1.rdS
  clear o1 x1
  by_cases h100 : 100 < L.length
  · have HN : Hid (R = none) := Lib.hid (by rw [HR.out]; exact listOf_f HMIN.out (by rw [← HL.out]; omega))
    go_wp2
    go_ret2
    exact ⟨_, by rw [HN.out]; rfl, by rw [HN.out]; exact OwnV.nil _ _ _, X1.out⟩
  have h100' : L.length ≤ 100 := by omega
  go_wp2
  go_loopw [5, 6] (fun v i wr => ∃ (k : Nat), k ≤ L.length ∧ i = .int .i64 (k : Int) ∧ Hid ((L.take k).all okS = true) ∧ Hid (Own wr w1.heap.size v (valS (L.take k))) ∧ Hid (Ext w1 wr)) (fun _ i _ => L.length - (intOf i).toNat)
  case atStart => exact ⟨0, by omega, rfl, Lib.hid (by simp), Lib.hid (OwnV.empty _ _), Lib.hid (ext_alloc _ _)⟩
  case round =>
    obtain ⟨k, hk, rfl, hmid, hown, hext⟩ := hrel
    by_cases hlt : k < L.length
    · obtain ⟨b, o, rfl, hb, hcell⟩ := hr (by omega)
      have hx := (hext.out.cell (p := ⟨b, o + k, none⟩) hb).trans (hcell k hlt)
      have HLEN : Hid ((valS (L.take k)).length ≤ 1000000000000) := Lib.hid (by rw [valS_len, List.length_take]; omega)
      have hlo := hext.out.size
      obtain ⟨x, HX⟩ : ∃ x, Hid (x = L[k]) := ⟨_, Lib.hid rfl⟩
      have hsx : x.size ≤ maxLen := HSH.out x (by rw [HX.out]; exact List.getElem_mem hlt)
      rw [← HX.out] at hx
      have HNUM := Lib.hid (s_num x wr hsx)
      clear hcell hr hsx
      cases hn : numOf x.data.toList with
      | none =>
        have HN : Hid (R = none) := Lib.hid (by rw [HR.out]; exact listOf_f HMIN.out (by rw [← HL.out]; rw [all_bad hlt (by rw [← HX.out]; exact okS_none hn)]; simp))
        rw [hn] at HNUM
        clear hn
        go_wp2_with fail
        refine HNUM.out.mono ?_
        rintro e w2 ⟨rfl, x2⟩
        go_wp2
        go_ret2
        exact ⟨_, by rw [HN.out]; rfl, by rw [HN.out]; exact OwnV.nil _ _ _, (X1.out.trans hext.out).trans x2⟩
      | some n =>
        obtain ⟨q1, q2⟩ := okS_some hn
        rw [hn] at HNUM
        clear hn
        cases hin : inB n (-999999999) 999999999
        · have HN : Hid (R = none) := Lib.hid (by rw [HR.out]; exact listOf_f HMIN.out (by rw [← HL.out]; rw [all_bad hlt (by rw [← HX.out, q1]; exact hin)]; simp))
          have HIN := Lib.hid hin
          clear q1 q2 hin
          go_wp2_with fail
          refine HNUM.out.mono ?_
          rintro e w2 ⟨rfl, x2⟩
          rw [show (some n).getD 0 = n from rfl, show (some n).isSome = true from rfl]
          go_wp2_with (go_at_call 30; refine (s_in _ _ _ _).mono ?_; rintro e w' ⟨rfl, rfl⟩; rw [HIN.out])
          go_ret2
          exact ⟨_, by rw [HN.out]; rfl, by rw [HN.out]; exact OwnV.nil _ _ _, (X1.out.trans hext.out).trans x2⟩
        · have HNX := Lib.hid (all_next hlt hmid.out (by rw [← HX.out, q1]; exact hin))
          have HVX : Hid (valS (L.take (k + 1)) = valS (L.take k) ++ [n]) := Lib.hid (by rw [valS_next hlt, ← HX.out, q2])
          have HIN := Lib.hid hin
          clear q1 q2 hin
          go_wp2_with fail
          refine HNUM.out.mono ?_
          rintro e w2 ⟨rfl, x2⟩
          have hown2 := hown.out.ext x2
          have HE2 := Lib.hid (hext.out.trans x2)
          have hlo2 := HE2.out.size
          rw [show (some n).getD 0 = n from rfl, show (some n).isSome = true from rfl]
          clear hx
          go_wp2_with (first | (go_at_call 30; refine (s_in _ _ _ _).mono ?_; rintro e w' ⟨rfl, rfl⟩; rw [HIN.out]) | (at_builtin; refine wp_app1 w2 rfl _ _ rfl w1.heap.size u5 (valS (L.take k)) rfl hown2 n rfl HLEN.out hlo2 ?_; intro v3 w3 ho3 hg3))
          exact ⟨⟨k + 1, by omega, by go_num, HNX, Lib.hid (by rw [HVX.out]; exact ho3), Lib.hid (ext_app HE2.out hown2 hg3)⟩, by simp only [intOf]; omega⟩
    · obtain rfl : k = L.length := by omega
      have HN : Hid (R = some (valS L)) := Lib.hid (by
        have h3 := hmid.out
        rw [List.take_length] at h3
        rw [HR.out, HL.out]
        rw [HL.out] at h3 h100'
        exact listOf_t HMIN.out h100' h3)
      have HO : Hid (Own wr w1.heap.size u5 (valS L)) := Lib.hid (by have := hown.out; rw [List.take_length] at this; exact this)
      clear hown hmid
      go_wp2
      go_ret2
      exact ⟨_, by rw [HN.out]; rfl, by rw [HN.out]; exact HO.out.mono X1.out.size, X1.out.trans hext.out⟩
set_option maxHeartbeats 1000000 in
set_option maxRecDepth 100000 in
theorem i_ReadList (s : ByteArray) (w : World) (HS : Hid (s.size ≤ 1048576)) (hl : NumLaid w) (hmx : MaxOk w) : Calls Tryd.prog 22 #[.string s] w (RetList (listOf s) w) := by
  have HLD := Lib.hid hl
  clear hl
  obtain ⟨R, HR⟩ : ∃ R, Hid (R = listOf s) := ⟨_, Lib.hid rfl⟩
  rw [← HR.out]
  by_cases hmin : s.data.toList = [45]
  · have HN : Hid (R = some []) := Lib.hid (by rw [HR.out, listOf_min hmin])
    have e := isMin hmin
    subst e
    clear hmin
    go_enter Tryd.func22, Tryd.ntmps22
    go_wp2
    go_ret2
    exact ⟨_, by rw [HN.out]; rfl, by rw [HN.out]; exact OwnV.nil _ _ _, Ext.refl _⟩
  have HNT : Hid (R = if textOfL (valS (pieces 44 s)) = s.data.toList then some (valS (pieces 44 s)) else none) := Lib.hid (by rw [HR.out]; exact listOf_text hmin)
  have hnm := notMin hmin
  clear hmin
  obtain ⟨L, HL⟩ : ∃ L, Hid (L = pieces 44 s) := ⟨_, Lib.hid rfl⟩
  rw [← HL.out] at HNT
  have HLN : Hid (L.length ≤ 1048577) := Lib.hid (by rw [HL.out]; have := pieces_le 44 s; have := HS.out; omega)
  have HSH : Hid (∀ x ∈ L, x.size ≤ 1048576) := Lib.hid (by
    intro x hx
    rw [HL.out] at hx
    have := pieces_short hx
    have := HS.out
    omega)
  have HS1 := Lib.hid (i_Split s 44 w HS.out hmx)
  rw [← HL.out] at HS1
  clear hmx
  go_enter Tryd.func22, Tryd.ntmps22
  go_wp2_with fail
  refine HS1.out.mono ?_
  rintro e w1 ⟨v1, rfl, o1, x1⟩
  have X1 := Lib.hid x1
  obtain ⟨a, cap, rfl, hc, hm, hr⟩ := o1.rdS
  clear o1 x1
  go_wp2
  go_loopw [4, 14] (fun v i wr => ∃ (k : Nat), k ≤ L.length ∧ i = .int .i64 (k : Int) ∧ Hid (Own wr w1.heap.size v (valS (L.take k))) ∧ Hid (Ext w1 wr)) (fun _ i _ => L.length - (intOf i).toNat)
  case atStart => exact ⟨0, by omega, rfl, Lib.hid (OwnV.nil _ _ _), Lib.hid (Ext.refl _)⟩
  case round =>
    obtain ⟨k, hk, rfl, hown, hext⟩ := hrel
    by_cases hlt : k < L.length
    · obtain ⟨b, o, rfl, hb, hcell⟩ := hr (by omega)
      have hx := (hext.out.cell (p := ⟨b, o + k, none⟩) hb).trans (hcell k hlt)
      have HLEN : Hid ((valS (L.take k)).length ≤ 1000000000000) := Lib.hid (by rw [valS_len, List.length_take]; have := HLN.out; omega)
      obtain ⟨x, HX⟩ : ∃ x, Hid (x = L[k]) := ⟨_, Lib.hid rfl⟩
      have HSX : Hid (x.size ≤ 1048576) := Lib.hid (HSH.out x (by rw [HX.out]; exact List.getElem_mem hlt))
      rw [← HX.out] at hx
      obtain ⟨n, HNN⟩ : ∃ n, Hid (n = (numOf x.data.toList).getD 0) := ⟨_, Lib.hid rfl⟩
      have HVX : Hid (valS (L.take (k + 1)) = valS (L.take k) ++ [n]) := Lib.hid (by rw [valS_next hlt, ← HX.out, HNN.out]; rfl)
      have HNUM := Lib.hid (i_ReadDecimal x wr HSX (HLD.out.ext (X1.out.trans hext.out)))
      clear hcell hr
      go_wp2_with fail
      refine HNUM.out.mono ?_
      rintro e w2 ⟨rfl, x2⟩
      rw [← HNN.out]
      have hown2 := hown.out.ext x2
      have HE2 := Lib.hid (hext.out.trans x2)
      have hlo2 := HE2.out.size
      clear hx
      go_wp2_with (at_builtin; refine wp_app1 w2 rfl _ _ rfl w1.heap.size u4 (valS (L.take k)) rfl hown2 n rfl HLEN.out hlo2 ?_; intro v3 w3 ho3 hg3)
      exact ⟨⟨k + 1, by omega, by go_num, Lib.hid (by rw [HVX.out]; exact ho3), Lib.hid (ext_app HE2.out hown2 hg3)⟩, by simp only [intOf]; omega⟩
    · obtain rfl : k = L.length := by omega
      have HO : Hid (Own wr w1.heap.size u4 (valS L)) := Lib.hid (by have := hown.out; rw [List.take_length] at this; exact this)
      clear hown
      go_wp2_with fail
      refine (i_ListText _ (valS L) _ HO.out.rd (HLD.out.ext (X1.out.trans hext.out)).tab).mono ?_
      rintro e w2 ⟨rfl, x2⟩
      have HX2 := Lib.hid ((X1.out.trans hext.out).trans x2)
      by_cases he : textOfL (valS L) = s.data.toList
      · have HN2 : Hid (R = some (valS L)) := Lib.hid (by rw [HNT.out, if_pos he])
        rw [show (.string (bs (textOfL (valS L))) : Value) = .string s by rw [he]]
        clear he HNT
        go_wp2
        go_ret2
        exact ⟨_, by rw [HN2.out]; rfl, by rw [HN2.out]; exact (HO.out.ext x2).mono X1.out.size, HX2.out⟩
      · have HN2 : Hid (R = none) := Lib.hid (by rw [HNT.out, if_neg he])
        obtain ⟨T, HT⟩ : ∃ T : ByteArray, Hid (T = bs (textOfL (valS L))) := ⟨_, Lib.hid rfl⟩
        have hne : (T.toList == s.toList) = false := beq_eq_false_iff_ne.2 (by
          rw [ByteArray.toList_eq, ByteArray.toList_eq, HT.out]
          exact he)
        rw [← HT.out]
        clear he HNT
        go_wp2
        go_ret2
        exact ⟨_, by rw [HN2.out]; rfl, by rw [HN2.out]; exact OwnV.nil _ _ _, HX2.out⟩
theorem l_ReadList (s : ByteArray) (hs : s.size ≤ maxLen) (w : World) (hl : NumLaid w) (hmx : MaxOk w) : Calls Tryd.prog 7 #[.string s] w fun e w' => e = .returned (.bool true) ∧ Ext w w' := by
  have HLD := Lib.hid hl
  have HMX := Lib.hid hmx
  clear hl hmx
  have HS0 := Lib.hid hs
  unfold maxLen at hs
  by_cases hl : 1048576 < s.size
  · go_enter Tryd.func7, Tryd.ntmps7
    go_wp2
    go_ret
    exact ⟨rfl, Ext.refl _⟩
  have HS : Hid (s.size ≤ 1048576) := Lib.hid (by omega)
  obtain ⟨R, HR⟩ : ∃ R, Hid (R = (listOf s).getD []) := ⟨_, Lib.hid rfl⟩
  obtain ⟨B, HB⟩ : ∃ B, Hid (B = (listOf s).isSome) := ⟨_, Lib.hid rfl⟩
  have HRB : Hid (1 + R.length ≤ 4000000) := Lib.hid (by rw [HR.out]; have := listOf_len s; have := HS.out; omega)
  have HCS := Lib.hid (s_ReadList s w HS0.out HS)
  have HCI : Hid (∀ w', Ext w w' → Calls Tryd.prog 22 #[.string s] w' (RetIntsB w' R B)) := Lib.hid (fun w' hx => by
    rw [HR.out, HB.out]
    exact i_ReadList s w' HS (HLD.out.ext hx) (HMX.out.ext hx))
  unfold RetList at HCS
  rw [← HR.out, ← HB.out] at HCS
  have hbb : (B != B) = false := by simp
  go_enter Tryd.func7, Tryd.ntmps7
  go_wp2_with fail
  refine HCS.out.mono ?_
  rintro e w1 ⟨uw, rfl, W1, x1⟩
  go_wp2_with fail
  refine (HCI.out _ x1).mono ?_
  rintro e w2 ⟨ug, rfl, G2, x2⟩
  have W2 := W1.ext x2
  have X2 := Ext.trans x1 x2
  go_wp2_with fail
  refine (l_eqInt64S_t _ _ R _ G2.rd W2.rd).mono ?_
  rintro e w3 ⟨rfl, d3⟩
  have x3 := d3.ext
  have W3 := W2.ext x3
  have G3 := G2.ext x3
  have X3 := Ext.trans X2 x3
  go_wp2_with fail
  refine (l_markInt64S _ 1 R _ _ HRB.out G3).mono ?_
  rintro e w4 ⟨rfl, G4, g4⟩
  have W4 := W3.kept g4 (W1.apart G3 (Nat.le_refl _))
  have X4 : Ext w w4 := Below.grown X3 g4 X3.size (fun j hj => Nat.le_trans x1.size (G3.lt j hj).1)
  go_wp2_with fail
  refine (l_heldInt64S _ 1 R.length _ HRB.out G4.rd).mono ?_
  rintro e _ ⟨rfl, rfl⟩
  go_wp2_with fail
  refine (HCI.out _ X4).mono ?_
  rintro e w6 ⟨uh, rfl, V6, x6⟩
  have W6 := W4.ext x6
  have G6 := G4.ext x6
  have X6 := Ext.trans X4 x6
  go_wp2_with fail
  refine (l_eqInt64S_t _ _ R _ V6.rd W6.rd).mono ?_
  rintro e w7 ⟨rfl, d7⟩
  have G7 := G6.ext d7.ext
  have X7 := Ext.trans X6 d7.ext
  go_wp2_with fail
  refine (l_heldInt64S _ 1 R.length _ HRB.out G7.rd).mono ?_
  rintro e _ ⟨rfl, rfl⟩
  go_wp2
  go_ret
  exact ⟨rfl, X7⟩
end Go.Proofs.YthibddfcjnljfaaDoor
