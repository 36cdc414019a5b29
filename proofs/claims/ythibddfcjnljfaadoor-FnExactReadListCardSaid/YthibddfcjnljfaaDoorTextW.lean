/- ListText: the walks of the program and of the reference, and the law. No condition. -/
import Derived.Test.YthibddfcjnljfaaDoorDec
import Derived.Test.YthibddfcjnljfaaDoorStrS
import Derived.Test.YthibddfcjnljfaaDoorSplitP
import Derived.Test.YthibddfcjnljfaaDoorSlices
import Derived.Shelf.Strings.OnBuilder
namespace Go.Proofs.YthibddfcjnljfaaDoor
open Go.RowKit Go.Shelf

/-- The call hands back an index, or a number below zero. -/
def IdxPost (p : Int → Bool) (xs : List Int) (w : World) (e : Ending) (w' : World) : Prop := ∃ k : Int, e = .returned (.int .i64 k) ∧ decide (0 ≤ k) = xs.any p ∧ w = w'
def noneTo (p : Int → Bool) (xs : List Int) (k : Nat) : Prop := ∀ i (h : i < xs.length), i < k → p xs[i] = false
theorem noneTo_next {p : Int → Bool} {xs : List Int} {k : Nat} (h : noneTo p xs k) (hk : k < xs.length) (hp : p xs[k] = false) : noneTo p xs (k + 1) := by
  intro i hi h1
  by_cases e : i = k
  · subst e; exact hp
  · exact h i hi (by omega)
theorem noneTo_end {p : Int → Bool} {xs : List Int} (h : noneTo p xs xs.length) : xs.any p = false := by
  rw [List.any_eq_false]
  intro x hx
  obtain ⟨i, hi, rfl⟩ := List.mem_iff_getElem.1 hx
  rw [h i hi hi]; simp
theorem any_hit {p : Int → Bool} {xs : List Int} {k : Nat} (hk : k < xs.length) (hp : p xs[k] = true) : xs.any p = true := List.any_eq_true.2 ⟨_, List.getElem_mem hk, hp⟩
/-- A number that no list bears. -/
def outB (n : Int) : Bool := !inB n (-999999999) 999999999
theorem i_lt1 (n : Int) (w : World) : Calls Tryd.prog 32 #[.int .i64 n] w fun e w' => e = .returned (.bool (outB n)) ∧ w = w' := by
  go_enter Tryd.func32, Tryd.ntmps32
  go_wp2_with fail
  refine (i_in _ _ _ _).mono ?_
  rintro e w1 ⟨rfl, rfl⟩
  go_wp2
  go_ret
  exact ⟨rfl, rfl⟩
theorem i_IndexO (v : Value) (xs : List Int) (w : World) (h : Rd w v xs) : Calls Tryd.prog 40 #[v, .func (.func 32) #[] #[]] w (IdxPost outB xs w) := by
  obtain ⟨a, cap, rfl, hc, hm, hr⟩ := h
  obtain ⟨N, HN⟩ : ∃ N, Hid (N = xs.length) := ⟨_, Lib.hid rfl⟩
  have HC : Hid (0 < N → ∃ b o, a = some ⟨b, o, none⟩ ∧ b < w.heap.size ∧ ∀ i (h : i < xs.length), w.cell? ⟨b, o + i, none⟩ = some (.int .i64 xs[i])) := Lib.hid (fun hk => hr (by rw [← HN.out]; exact hk))
  clear hr
  rw [← HN.out] at hc ⊢
  go_enter Tryd.func40, Tryd.ntmps40
  go_wp2
  go_loop [8] (fun i => ∃ k : Nat, k ≤ N ∧ i = .int .i64 k ∧ Hid (noneTo outB xs k)) (fun i => N - (intOf i).toNat)
  case atStart => exact ⟨0, by omega, rfl, Lib.hid (fun i hi h => by omega)⟩
  case round =>
    obtain ⟨k, hk, rfl, hmid⟩ := hrel
    by_cases hlt : k < N
    · have hlt' : k < xs.length := by rw [← HN.out]; exact hlt
      obtain ⟨b, o, rfl, hb, hall⟩ := HC.out (by omega)
      have hx := hall k hlt'
      obtain ⟨z, HZ⟩ : ∃ z, Hid (z = xs[k]) := ⟨_, Lib.hid rfl⟩
      rw [← HZ.out] at hx
      clear hall
      cases hz : outB z
      · have HM := Lib.hid (noneTo_next hmid.out hlt' (by rw [← HZ.out]; exact hz))
        have HZZ := Lib.hid hz
        clear hmid hz
        go_wp2_with (go_at_call 32; refine (i_lt1 z _).mono ?_; rintro e w' ⟨rfl, rfl⟩; rw [HZZ.out])
        exact ⟨⟨k + 1, by omega, by go_num, HM⟩, by simp only [intOf]; omega⟩
      · have HM : Hid (xs.any outB = true) := Lib.hid (any_hit hlt' (by rw [← HZ.out]; exact hz))
        have HZZ := Lib.hid hz
        clear hmid hz
        go_wp2_with (go_at_call 32; refine (i_lt1 z _).mono ?_; rintro e w' ⟨rfl, rfl⟩; rw [HZZ.out])
        go_ret
        exact ⟨_, rfl, by rw [HM.out, decide_eq_true_eq]; omega, rfl⟩
    · obtain rfl : k = N := by omega
      have HM : Hid (xs.any outB = false) := Lib.hid (noneTo_end (by have := hmid.out; rw [HN.out] at this; exact this))
      clear hmid
      go_wp2
      go_ret
      exact ⟨_, rfl, by rw [HM.out]; rfl, rfl⟩
theorem i_ContainsO (v : Value) (xs : List Int) (w : World) (h : Rd w v xs) : Calls Tryd.prog 31 #[v, .func (.func 32) #[] #[]] w fun e w' => e = .returned (.bool (xs.any outB)) ∧ w = w' := by
  go_enter Tryd.func31, Tryd.ntmps31
  go_wp2_with fail
  refine (i_IndexO _ xs _ h).mono ?_
  rintro e w1 ⟨k, rfl, hk, rfl⟩
  go_wp2
  go_ret
  exact ⟨by rw [← hk]; rfl, rfl⟩

/-! ### the text of a list -/
theorem join_snoc (sep y : List UInt8) (xs : List (List UInt8)) (h : xs ≠ []) : Lib.join (xs ++ [y]) sep = Lib.join xs sep ++ sep ++ y := by
  cases xs with
  | nil => exact absurd rfl h
  | cons x r =>
    show Lib.join (x :: (r ++ [y])) sep = _
    rw [Lib.join_cons, Lib.join_cons]
    simp [Lib.joinTail]
/-- The numbers with commas between. -/
def joinT (xs : List Int) : List UInt8 := Lib.join (xs.map Lib.itoa) [44]
theorem joinT_nil : joinT [] = [] := rfl
theorem joinT_one (x : Int) : joinT [x] = Lib.itoa x := Lib.join_one _ _
theorem joinT_next {xs : List Int} {k : Nat} (hk : k < xs.length) (h0 : 0 < k) : joinT (xs.take (k + 1)) = joinT (xs.take k) ++ [44] ++ Lib.itoa xs[k] := by
  unfold joinT
  rw [List.take_succ_eq_append_getElem hk, List.map_append]
  refine join_snoc _ _ _ ?_
  intro h
  have := congrArg List.length h
  rw [List.length_map, List.length_take, List.length_nil] at this
  omega
theorem joinT_first {xs : List Int} (hk : 0 < xs.length) : joinT (xs.take (0 + 1)) = Lib.itoa xs[0] := by
  rw [List.take_succ_eq_append_getElem hk]
  exact joinT_one _
theorem outB_f {n : Int} (h : outB n = false) : -999999999 ≤ n ∧ n ≤ 999999999 := by
  unfold outB at h
  exact inB_iff.1 (by simpa using h)
theorem joinT_len : ∀ (xs : List Int) (k : Nat), k ≤ xs.length → noneTo outB xs k → (joinT (xs.take k)).length ≤ 22 * k
  | _, 0, _, _ => by simp [joinT, Lib.join, List.intercalate]
  | xs, k + 1, hk, h => by
    have ih := joinT_len xs k (by omega) (fun i hi h1 => h i hi (by omega))
    have hb := outB_f (h k (by omega) (by omega))
    have hl := Lib.itoa_length_le (xs[k]'(by omega)) (by omega) (by omega)
    by_cases h0 : k = 0
    · subst h0
      rw [joinT_first (by omega)]
      omega
    · rw [joinT_next (by omega) (by omega)]
      simp only [List.length_append, List.length_singleton]
      omega
/-- The text of a list. -/
def textOfL (xs : List Int) : List UInt8 := if 100 < xs.length then [] else if xs.any outB then [] else if xs.length = 0 then [45] else joinT xs
theorem bs_app (a b : List UInt8) : (bs a ++ bs b : ByteArray) = bs (a ++ b) := by
  apply ByteArray.ext
  simp [ByteArray.data_append]
set_option maxRecDepth 100000 in
theorem s_ListText (v : Value) (xs : List Int) (w : World) (h : Rd w v xs) : Calls Tryd.prog 15 #[v] w fun e w' => e = .returned (.string (bs (textOfL xs))) ∧ Ext w w' := by
  obtain ⟨a, cap, rfl, hc, hm, hr⟩ := h
  obtain ⟨N, HN⟩ : ∃ N, Hid (N = xs.length) := ⟨_, Lib.hid rfl⟩
  have HC : Hid (0 < N → ∃ b o, a = some ⟨b, o, none⟩ ∧ b < w.heap.size ∧ ∀ i (h : i < xs.length), w.cell? ⟨b, o + i, none⟩ = some (.int .i64 xs[i])) := Lib.hid (fun hk => hr (by rw [← HN.out]; exact hk))
  clear hr
  rw [← HN.out] at hc ⊢
  by_cases h1 : 100 < N
  · have HR : Hid (textOfL xs = []) := Lib.hid (by unfold textOfL; rw [if_pos (by rw [← HN.out]; exact h1)])
    go_enter Tryd.func15, Tryd.ntmps15
    go_wp2
    go_ret
    exact ⟨by rw [HR.out]; rfl, Ext.refl _⟩
  by_cases h2 : N = 0
  · have HR : Hid (textOfL xs = [45]) := Lib.hid (by
      have h3 := HN.out
      rw [h2] at h3
      have h4 : xs = [] := List.eq_nil_of_length_eq_zero h3.symm
      subst h4
      rfl)
    subst h2
    go_enter Tryd.func15, Tryd.ntmps15
    go_wp2
    go_ret
    exact ⟨by rw [HR.out]; rfl, Ext.refl _⟩
  have hn0 : ((N : Int) == 0) = false := beq_eq_false_iff_ne.2 (by omega)
  go_enter Tryd.func15, Tryd.ntmps15
  go_wp2
  go_loopw [3, 4] (fun s i wr => ∃ (k : Nat) (ds : List UInt8), k ≤ N ∧ i = .int .i64 k ∧ s = .string (bs ds) ∧ Hid (ds = joinT (xs.take k)) ∧ Hid (noneTo outB xs k) ∧ Hid (Ext w wr)) (fun _ i _ => N - (intOf i).toNat)
  case atStart => exact ⟨0, [], by omega, rfl, rfl, Lib.hid (by simp [joinT_nil]), Lib.hid (fun i hi h => by omega), Lib.hid (Ext.refl _)⟩
  case round =>
    obtain ⟨k, ds, hk, rfl, rfl, hds, hmid, hext⟩ := hrel
    have hdl : ds.length ≤ 10000 := by rw [hds.out]; have := joinT_len xs k (by rw [← HN.out]; exact hk) hmid.out; omega
    have hdz : (bs ds).size = ds.length := by simp [ByteArray.size]
    by_cases hlt : k < N
    · have hlt' : k < xs.length := by rw [← HN.out]; exact hlt
      obtain ⟨b, o, rfl, hb, hall⟩ := HC.out (by omega)
      have HX := Lib.hid (hall k hlt')
      have HB := Lib.hid hb
      obtain ⟨z, HZ⟩ : ∃ z, Hid (z = xs[k]) := ⟨_, Lib.hid rfl⟩
      have HXX : Hid (∀ w', Ext w w' → w'.cell? ⟨b, o + k, none⟩ = some (.int .i64 z)) := Lib.hid (fun w' he => by rw [he.cell (p := ⟨b, o + k, none⟩) HB.out, HZ.out]; exact HX.out)
      have hx := HXX.out wr hext.out
      clear hall hb HX
      cases hz : outB z
      · have hzi : inB z (-999999999) 999999999 = true := by unfold outB at hz; simpa using hz
        have HZI := Lib.hid hzi
        have HBD := Lib.hid (outB_f hz)
        have HM := Lib.hid (noneTo_next hmid.out hlt' (by rw [← HZ.out]; exact hz))
        obtain ⟨t, HT⟩ : ∃ t, Hid (t = Lib.itoa z) := ⟨_, Lib.hid rfl⟩
        have htl : t.length ≤ 100 := by
          have h5 := HBD.out
          have h6 := Lib.itoa_length_le z (by omega) (by omega)
          rw [HT.out]; omega
        have htz : (bs t).size = t.length := by simp [ByteArray.size]
        clear hz hzi
        by_cases h0 : k = 0
        · have hk0 : ¬ 0 < k := by omega
          have HD : Hid (ds ++ t = joinT (xs.take (k + 1))) := Lib.hid (by
            rw [hds.out, HT.out, HZ.out]
            subst h0
            rw [joinT_first hlt']; rfl)
          clear h0
          go_wp2_with (first | (go_at_call 30; refine (s_in _ _ _ _).mono ?_; rintro e w' ⟨rfl, rfl⟩; rw [HZI.out]) | (go_at_call 25; refine (s_dec z _ (by have := HBD.out; omega) (by have := HBD.out; omega)).mono ?_; rintro e w5 ⟨rfl, x5⟩; rw [← HT.out]))
          exact ⟨⟨k + 1, ds ++ t, by omega, by go_num, congrArg Value.string (bs_app ds t), HD, HM, Lib.hid (hext.out.trans x5)⟩, by simp only [intOf]; omega⟩
        · have HD : Hid (ds ++ [44] ++ t = joinT (xs.take (k + 1))) := Lib.hid (by rw [joinT_next hlt' (by omega), hds.out, HT.out, HZ.out])
          have hk0 : 0 < k := by omega
          have e44 : (bs ds ++ ⟨#[44]⟩ : ByteArray) = bs (ds ++ [44]) := bs_app ds [44]
          have hdz2 : (bs (ds ++ [44])).size = ds.length + 1 := by simp [ByteArray.size]
          go_wp2_with (first | (go_at_call 30; refine (s_in _ _ _ _).mono ?_; rintro e w' ⟨rfl, rfl⟩; rw [HZI.out]) | (go_at_call 25; refine (s_dec z _ (by have := HBD.out; omega) (by have := HBD.out; omega)).mono ?_; rintro e w5 ⟨rfl, x5⟩; rw [← HT.out]))
          exact ⟨⟨k + 1, ds ++ [44] ++ t, by omega, by go_num, congrArg Value.string (bs_app (ds ++ [44]) t), HD, HM, Lib.hid (hext.out.trans x5)⟩, by simp only [intOf]; omega⟩
      · have hzi : inB z (-999999999) 999999999 = false := by unfold outB at hz; simpa using hz
        have HZI := Lib.hid hzi
        have HR : Hid (textOfL xs = []) := Lib.hid (by
          unfold textOfL
          have h5 : xs.any outB = true := any_hit hlt' (by rw [← HZ.out]; exact hz)
          rw [h5]
          split
          · rfl
          · rfl)
        clear hz hzi
        go_wp2_with (go_at_call 30; refine (s_in _ _ _ _).mono ?_; rintro e w' ⟨rfl, rfl⟩; rw [HZI.out])
        go_ret
        exact ⟨by rw [HR.out]; rfl, hext.out⟩
    · obtain rfl : k = N := by omega
      have HR : Hid (textOfL xs = ds) := Lib.hid (by
        unfold textOfL
        have h5 := noneTo_end (by have := hmid.out; rw [HN.out] at this; exact this)
        rw [if_neg (by rw [← HN.out]; exact h1), h5, if_neg (by simp), if_neg (by rw [← HN.out]; exact h2), hds.out, HN.out, List.take_length])
      clear hds hmid HC HN hc
      go_wp2
      go_ret
      exact ⟨by rw [HR.out]; rfl, hext.out⟩
def laidJoin_ren : Go.Shelf.Ren := ⟨fun | 156 => 34 | 165 => 41 | 166 => 42 | 169 => 43 | 240 => 55 | 241 => 56 | 276 => 72 | 277 => 73 | n => n, fun | 31 => 24 | 9 => 9 | 3 => 3 | 4 => 4 | 0 => 0 | 20 => 20 | 72 => 56 | 76 => 58 | 70 => 54 | 37 => 51 | 75 => 48 | 127 => 71 | 164 => 91 | 5 => 5 | 80 => 60 | n => n, fun | n => n⟩
theorem laidJoin : Go.Proofs.Lays.n156 Tryd.prog laidJoin_ren := {
  mixed := by kernel_rfl
  f156 := Tryd.func34.trans (congrArg some (by kernel_rfl))
  f165 := Tryd.func41.trans (congrArg some (by kernel_rfl))
  f166 := Tryd.func42.trans (congrArg some (by kernel_rfl))
  f169 := Tryd.func43.trans (congrArg some (by kernel_rfl))
  f240 := Tryd.func55.trans (congrArg some (by kernel_rfl))
  f241 := Tryd.func56.trans (congrArg some (by kernel_rfl))
  f276 := Tryd.func72.trans (congrArg some (by kernel_rfl))
  f277 := Tryd.func73.trans (congrArg some (by kernel_rfl))
  t0 := Tryd.underlying0
  a0 := Tryd.isAgg0
  z0 := Tryd.sizeOf0
  v0 := Tryd.zeroValue0
  t3 := Tryd.underlying3
  a3 := Tryd.isAgg3
  z3 := Tryd.sizeOf3
  v3 := Tryd.zeroValue3
  t4 := Tryd.underlying4
  a4 := Tryd.isAgg4
  z4 := Tryd.sizeOf4
  v4 := Tryd.zeroValue4
  t9 := Tryd.underlying9
  a9 := Tryd.isAgg9
  z9 := Tryd.sizeOf9
  v9 := Tryd.zeroValue9
  t20 := Tryd.underlying20
  a20 := Tryd.isAgg20
  z20 := Tryd.sizeOf20
  v20 := Tryd.zeroValue20
  t31 := Tryd.underlying24
  a31 := Tryd.isAgg24
  z31 := Tryd.sizeOf24
  v31 := Tryd.zeroValue24
  t37 := Tryd.underlying51
  a37 := Tryd.isAgg51
  z37 := Tryd.sizeOf51
  v37 := Tryd.zeroValue51
  t70 := Tryd.underlying54
  a70 := Tryd.isAgg54
  z70 := Tryd.sizeOf54
  v70 := Tryd.zeroValue54
  t72 := Tryd.underlying56
  a72 := Tryd.isAgg56
  z72 := Tryd.sizeOf56
  v72 := Tryd.zeroValue56
  t75 := Tryd.underlying48
  a75 := Tryd.isAgg48
  z75 := Tryd.sizeOf48
  v75 := Tryd.zeroValue48
  t76 := Tryd.underlying58
  a76 := Tryd.isAgg58
  z76 := Tryd.sizeOf58
  v76 := Tryd.zeroValue58
  t127 := Tryd.underlying71
  a127 := Tryd.isAgg71
  z127 := Tryd.sizeOf71
  v127 := Tryd.zeroValue71
  t164 := Tryd.underlying91
  a164 := Tryd.isAgg91
  z164 := Tryd.sizeOf91
  v164 := Tryd.zeroValue91 }
theorem joinX : Builder.Extra Tryd.prog laidJoin_ren where
  sizeBuilder := by kernel_rfl
  liesBuilder := by kernel_rfl
  t5 := Tryd.underlying5
  a5 := Tryd.isAgg5
  z5 := Tryd.sizeOf5
  v5 := Tryd.zeroValue5
  infoByte := by kernel_rfl
  cellsByte := by kernel_rfl
  sizeByte := by kernel_rfl
  neB5 := by decide
/-- The numbers' texts. -/
def decS (xs : List Int) : List ByteArray := xs.map fun n => bs (Lib.itoa n)
theorem decS_len (xs : List Int) : (decS xs).length = xs.length := by simp [decS]
theorem decS_next {xs : List Int} {k : Nat} (h : k < xs.length) : decS (xs.take (k + 1)) = decS (xs.take k) ++ [bs (Lib.itoa xs[k])] := by
  unfold decS
  rw [List.take_succ_eq_append_getElem h, List.map_append]; rfl
theorem decS_data (xs : List Int) : (decS xs).map (·.data.toList) = xs.map Lib.itoa := by
  unfold decS
  rw [List.map_map]; rfl
theorem textOfL_join {xs : List Int} (h1 : ¬ 100 < xs.length) (h2 : xs.any outB = false) (h3 : ¬ xs.length = 0) : textOfL xs = joinT xs := by
  unfold textOfL
  rw [if_neg h1, h2, if_neg (by simp), if_neg h3]
theorem any_none {xs : List Int} (h : xs.any outB = false) : noneTo outB xs xs.length := by
  intro i hi _
  have := List.any_eq_false.1 h xs[i] (List.getElem_mem hi)
  simpa using this
set_option maxRecDepth 100000 in
theorem i_ListText (v : Value) (xs : List Int) (w : World) (h : Rd w v xs) (htab : Lib.TabIs Tryd.prog w "internal/strconv.uint64pow10" .u64 Lib.pow10Tab) : Calls Tryd.prog 17 #[v] w fun e w' => e = .returned (.string (bs (textOfL xs))) ∧ Ext w w' := by
  have HRD := Lib.hid h
  have HT := Lib.hid htab
  clear htab
  obtain ⟨a, cap, rfl, hc, hm, hr⟩ := h
  obtain ⟨N, HN⟩ : ∃ N, Hid (N = xs.length) := ⟨_, Lib.hid rfl⟩
  have HC : Hid (0 < N → ∃ b o, a = some ⟨b, o, none⟩ ∧ b < w.heap.size ∧ ∀ i (h : i < xs.length), w.cell? ⟨b, o + i, none⟩ = some (.int .i64 xs[i])) := Lib.hid (fun hk => hr (by rw [← HN.out]; exact hk))
  clear hr
  rw [← HN.out] at hc HRD ⊢
  by_cases h1 : 100 < N
  · have HR : Hid (textOfL xs = []) := Lib.hid (by unfold textOfL; rw [if_pos (by rw [← HN.out]; exact h1)])
    go_enter Tryd.func17, Tryd.ntmps17
    go_wp2
    go_ret
    exact ⟨by rw [HR.out]; rfl, Ext.refl _⟩
  cases hany : xs.any outB
  · have HANY := Lib.hid hany
    clear hany
    by_cases h2 : N = 0
    · have HR : Hid (textOfL xs = [45]) := Lib.hid (by
        have h3 := HN.out
        rw [h2] at h3
        have h4 : xs = [] := List.eq_nil_of_length_eq_zero h3.symm
        subst h4
        rfl)
      subst h2
      go_enter Tryd.func17, Tryd.ntmps17
      go_wp2_with (go_at_call 31; refine (i_ContainsO _ xs _ HRD.out).mono ?_; rintro e w' ⟨rfl, rfl⟩; rw [HANY.out])
      go_ret
      exact ⟨by rw [HR.out]; rfl, Ext.refl _⟩
    have hn0 : ((N : Int) == 0) = false := beq_eq_false_iff_ne.2 (by omega)
    have HR : Hid (textOfL xs = joinT xs) := Lib.hid (textOfL_join (by rw [← HN.out]; exact h1) HANY.out (by rw [← HN.out]; exact h2))
    go_enter Tryd.func17, Tryd.ntmps17
    go_wp2_with (go_at_call 31; refine (i_ContainsO _ xs _ HRD.out).mono ?_; rintro e w' ⟨rfl, rfl⟩; rw [HANY.out])
    go_loopw [3, 18] (fun v i wr => ∃ (k : Nat), k ≤ N ∧ i = .int .i64 k ∧ Hid (OwnS wr w.heap.size v (decS (xs.take k))) ∧ Hid (Ext w wr)) (fun _ i _ => N - (intOf i).toNat)
    case atStart => exact ⟨0, by omega, rfl, Lib.hid (OwnV.nil _ _ _), Lib.hid (Ext.refl _)⟩
    case round =>
      obtain ⟨k, hk, rfl, hown, hext⟩ := hrel
      by_cases hlt : k < N
      · have hlt' : k < xs.length := by rw [← HN.out]; exact hlt
        obtain ⟨b, o, rfl, hb, hall⟩ := HC.out (by omega)
        have hx := (hext.out.cell (p := ⟨b, o + k, none⟩) hb).trans (hall k hlt')
        obtain ⟨z, HZ⟩ : ∃ z, Hid (z = xs[k]) := ⟨_, Lib.hid rfl⟩
        rw [← HZ.out] at hx
        have HBD : Hid (-999999999 ≤ z ∧ z ≤ 999999999) := Lib.hid (by rw [HZ.out]; exact outB_f (any_none HANY.out k hlt' hlt'))
        obtain ⟨t, HTT⟩ : ∃ t : ByteArray, Hid (t = bs (Lib.itoa z)) := ⟨_, Lib.hid rfl⟩
        have HD : Hid (decS (xs.take (k + 1)) = decS (xs.take k) ++ [t]) := Lib.hid (by rw [decS_next hlt', HTT.out, HZ.out])
        have HLEN : Hid ((decS (xs.take k)).length ≤ 1000000000) := Lib.hid (by rw [decS_len, List.length_take]; omega)
        clear hall
        go_wp2_with fail
        refine (i_Decimal z _ (by have := HBD.out; omega) (by have := HBD.out; omega) (tab_ext HT.out hext.out)).mono ?_
        rintro e w5 ⟨rfl, x5⟩
        have HE5 := Lib.hid (hext.out.trans x5)
        have hown5 := hown.out.ext x5
        have hlo := HE5.out.size
        rw [show (.string ⟨(Lib.itoa z).toArray⟩ : Value) = .string t by rw [HTT.out]]
        clear hx
        go_wp2_with (at_builtin; refine wp_appS w5 rfl _ _ rfl w.heap.size u3 (decS (xs.take k)) rfl hown5 t rfl HLEN.out hlo ?_; intro v2 w2 ho2 hg2)
        exact ⟨⟨k + 1, by omega, by go_num, Lib.hid (by rw [HD.out]; exact ho2), Lib.hid (ext_app HE5.out hown5 hg2)⟩, by simp only [intOf]; omega⟩
      · obtain rfl : k = N := by omega
        have HOW : Hid (OwnS wr w.heap.size u3 (decS xs)) := Lib.hid (by
          have := hown.out
          rw [HN.out, List.take_length] at this
          exact this)
        obtain ⟨g, c, hv, hcap, hg1, hg2⟩ := HOW.out.head (by rw [List.length_map, decS_len, ← HN.out]; omega)
        rw [List.length_map] at hv hcap
        have HOW2 := HOW
        rw [hv] at HOW2
        have HJ := Lib.hid (Any.strings_Join laidJoin joinX g 0 c (decS xs) ⟨#[44]⟩ wr
          (fun j x hj => by
            have hj' : j < (decS xs).length := (List.getElem?_eq_some_iff.1 hj).1
            rw [Nat.zero_add, HOW2.out.cell j (by rw [List.length_map]; exact hj')]
            rw [List.getElem?_eq_getElem hj'] at hj
            cases hj
            simp)
          hg2 (by rw [decS_len, ← HN.out]; omega) hcap
          (by
            rw [decS_data]
            show (joinT xs).length ≤ _
            have h5 := joinT_len xs xs.length (Nat.le_refl _) (any_none HANY.out)
            rw [List.take_length, ← HN.out] at h5
            omega))
        have HJT : Hid (Lib.join ((decS xs).map (·.data.toList)) ((⟨#[44]⟩ : ByteArray).data.toList) = joinT xs) := Lib.hid (by rw [decS_data]; rfl)
        rw [HJT.out] at HJ
        rw [hv]
        clear hown
        go_wp2_with fail
        refine (HJ.out).mono ?_
        rintro e w6 ⟨rfl, x6⟩
        go_wp2
        go_ret
        exact ⟨by rw [HR.out]; rfl, hext.out.trans x6⟩
  · have HANY := Lib.hid hany
    have HR : Hid (textOfL xs = []) := Lib.hid (by
      unfold textOfL
      rw [hany]
      split
      · rfl
      · rfl)
    clear hany
    go_enter Tryd.func17, Tryd.ntmps17
    go_wp2_with (go_at_call 31; refine (i_ContainsO _ xs _ HRD.out).mono ?_; rintro e w' ⟨rfl, rfl⟩; rw [HANY.out])
    go_ret
    exact ⟨by rw [HR.out]; rfl, Ext.refl _⟩
theorem l_ListText (w : World) (v : Value) (xs : List Int) (h : Rd w v xs) (htab : Lib.TabIs Tryd.prog w "internal/strconv.uint64pow10" .u64 Lib.pow10Tab) : Calls Tryd.prog 5 #[v] w fun e w' => e = .returned (.bool true) ∧ Ext w w' := by
  have HT := Lib.hid htab
  clear htab
  have r0 := h
  obtain ⟨ad, cap, rfl, hc, hm, _⟩ := h
  by_cases hl : 1048576 < xs.length
  · go_enter Tryd.func5, Tryd.ntmps5
    go_wp2
    go_ret
    exact ⟨rfl, Ext.refl _⟩
  obtain ⟨R, HR⟩ : ∃ R : ByteArray, Hid (R = bs (textOfL xs)) := ⟨_, Lib.hid rfl⟩
  go_enter Tryd.func5, Tryd.ntmps5
  go_wp2_with fail
  refine (l_toInt64S _ xs _ (by omega) r0).mono ?_
  rintro e w1 ⟨u1, rfl, o1, x1⟩
  go_wp2_with fail
  refine (s_ListText _ xs _ o1.rd).mono ?_
  rintro e w2 ⟨rfl, x2⟩
  rw [← HR.out]
  have X2 := Ext.trans x1 x2
  go_wp2_with fail
  refine (l_toInt64S _ xs _ (by omega) (r0.ext X2)).mono ?_
  rintro e w3 ⟨u3, rfl, o3, x3⟩
  have X3 := Ext.trans X2 x3
  go_wp2_with fail
  refine (i_ListText _ xs _ o3.rd (tab_ext HT.out X3)).mono ?_
  rintro e w4 ⟨rfl, x4⟩
  rw [← HR.out]
  have X4 := Ext.trans X3 x4
  go_wp2_with fail
  refine (l_toInt64S _ xs _ (by omega) (r0.ext X4)).mono ?_
  rintro e w5 ⟨u5, rfl, o5, x5⟩
  have X5 := Ext.trans X4 x5
  go_wp2_with fail
  refine (l_eqInt64S_t _ _ xs _ ((o3.ext x4).ext x5).rd o5.rd).mono ?_
  rintro e w6 ⟨rfl, d6⟩
  go_wp2
  go_ret
  exact ⟨rfl, X5.trans d6.ext⟩
end Go.Proofs.YthibddfcjnljfaaDoor
