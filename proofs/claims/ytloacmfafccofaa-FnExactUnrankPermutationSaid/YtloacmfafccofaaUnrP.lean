/- UnrankPermutation: the walks of the program and of the reference, and the law. No condition. -/
import Derived.Test.YtloacmfafccofaaIdent
import Derived.Test.YtloacmfafccofaaFact
import Derived.Test.YtloacmfafccofaaOwnCp
import Derived.Test.YtloacmfafccofaaDelLay
namespace Go.Proofs.Ytloacmfafccofaa
open Go.RowKit

def unr : Nat → Nat → List Int → List Int
  | 0, _, _ => []
  | k + 1, r, L => L[r / fct k]?.getD 0 :: unr k (r % fct k) (L.take (r / fct k) ++ L.drop (r / fct k + 1))
theorem unr_len : ∀ k r L, (unr k r L).length = k
  | 0, _, _ => rfl
  | k + 1, r, L => by rw [unr, List.length_cons, unr_len k]
def unrMid (n r0 k r : Nat) (L O : List Int) : Prop := L.length = k ∧ k ≤ n ∧ r < fct k ∧ O.length = n - k ∧ O ++ unr k r L = unr n r0 (iota 0 n)
theorem unrMid_start {n r0 : Nat} (h : r0 < fct n) : unrMid n r0 n r0 (iota 0 n) [] := ⟨iota_len _ _, Nat.le_refl _, h, by simp, by simp⟩
theorem unrMid_at {n r0 k r : Nat} {L O : List Int} (h : unrMid n r0 (k + 1) r L O) : r / fct k < k + 1 := by
  rw [Nat.div_lt_iff_lt_mul (fct_pos k), Nat.mul_comm]; exact h.2.2.1
theorem unrMid_next {n r0 k r q : Nat} {y : Int} {L O : List Int} (h : unrMid n r0 (k + 1) r L O) (hq : q = r / fct k) (hql : q < L.length) (hy : y = L[q]) : unrMid n r0 k (r % fct k) (L.take q ++ L.drop (q + 1)) (O ++ [y]) := by
  obtain ⟨h1, h2, h3, h4, h5⟩ := h
  refine ⟨by rw [List.length_append, List.length_take, List.length_drop]; omega, by omega, Nat.mod_lt _ (fct_pos k), by rw [List.length_append, h4]; simp; omega, ?_⟩
  rw [← h5, unr, ← hq, List.append_assoc, List.singleton_append, hy]
  simp [hql]
theorem unrMid_end {n r0 r : Nat} {L O : List Int} (h : unrMid n r0 0 r L O) : O = unr n r0 (iota 0 n) := by
  obtain ⟨h1, h2, h3, h4, h5⟩ := h
  rw [← h5, unr, List.append_nil]
def unrOk (n r : Int) : Bool := inB n 0 12 && inB r 0 (fctI n - 1)
def unrOut (n r : Int) : List Int := if unrOk n r then unr n.toNat r.toNat (iota 0 n.toNat) else []
def unrCode (n r : Int) : Int := if unrOk n r then 0 else 2
theorem unrOut_len (n r : Int) : (unrOut n r).length ≤ 3000000 := by
  unfold unrOut unrOk; split
  · rename_i h
    rw [Bool.and_eq_true] at h
    have := inB_iff.1 h.1
    rw [unr_len]; omega
  · simp

set_option maxRecDepth 100000 in
theorem i_UnrankPermutation (n r : Int) (w : World) : Calls Try.prog 35 #[.int .i64 n, .int .i64 r] w (RetIntsI w (unrOut n r) (unrCode n r)) := by
  cases hb : inB n 0 12
  · have G : Hid (unrOut n r = []) := Lib.hid (by simp [unrOut, unrOk, hb])
    have G2 : Hid (unrCode n r = 2) := Lib.hid (by simp [unrCode, unrOk, hb])
    go_enter Try.func35, Try.ntmps35
    go_wp2_with (go_at_call 63; refine (i_in _ _ _ _).mono ?_; rintro e w' ⟨rfl, rfl⟩)
    go_ret2
    exact ⟨_, by rw [G2.out]; rfl, by rw [G.out]; exact OwnV.nil _ _ _, Ext.refl _⟩
  · obtain ⟨h1, h2⟩ := inB_iff.1 hb
    obtain ⟨N, rfl⟩ := Int.eq_ofNat_of_zero_le h1
    obtain ⟨f1, f2⟩ := fctI_bd h2
    obtain ⟨FN, HFN⟩ : ∃ F, Hid (F = fctI (N : Int)) := ⟨_, Lib.hid rfl⟩
    rw [← HFN.out] at f1 f2
    cases hb2 : inB r 0 (FN - 1)
    · have G : Hid (unrOut N r = []) := Lib.hid (by have h := hb2; rw [HFN.out] at h; simp [unrOut, unrOk, hb, h])
      have G2 : Hid (unrCode N r = 2) := Lib.hid (by have h := hb2; rw [HFN.out] at h; simp [unrCode, unrOk, hb, h])
      go_enter Try.func35, Try.ntmps35
      go_wp2_with (first | (go_at_call 63; refine (i_in _ _ _ _).mono ?_; rintro e w' ⟨rfl, rfl⟩) | (go_at_call 50; refine (i_fct _ _ h2).mono ?_; rintro e w' ⟨rfl, rfl⟩; rw [← HFN.out]))
      go_ret2
      exact ⟨_, by rw [G2.out]; rfl, by rw [G.out]; exact OwnV.nil _ _ _, Ext.refl _⟩
    · have G : Hid (unrOut N r = unr N r.toNat (iota 0 N)) := Lib.hid (by have h := hb2; rw [HFN.out] at h; simp [unrOut, unrOk, hb, h])
      have G2 : Hid (unrCode N r = 0) := Lib.hid (by have h := hb2; rw [HFN.out] at h; simp [unrCode, unrOk, hb, h])
      obtain ⟨h3, h4⟩ := inB_iff.1 hb2
      obtain ⟨R0, rfl⟩ := Int.eq_ofNat_of_zero_le h3
      have HR0 : Hid (R0 < fct N) := Lib.hid (by have := HFN.out; unfold fctI at this; simp only [Int.toNat_natCast] at this; omega)
      go_enter Try.func35, Try.ntmps35
      go_wp2_with (first | (go_at_call 63; refine (i_in _ _ _ _).mono ?_; rintro e w' ⟨rfl, rfl⟩) | (go_at_call 50; refine (i_fct _ _ h2).mono ?_; rintro e w' ⟨rfl, rfl⟩; rw [← HFN.out]) | (go_at_call 69; refine (i_identity N _ (by omega)).mono ?_; rintro e w1 ⟨v, rfl, hown, hext⟩))
      obtain ⟨A, cap, hv1, hca, hcm, hcg, _⟩ := hown.form
      rw [List.length_map, iota_len] at hv1 hca
      subst hv1
      unfold maxLen at hcm
      obtain ⟨B, HB⟩ : ∃ B, Hid (B = w1.heap.size) := ⟨_, Lib.hid rfl⟩
      have HCG : Hid (0 < N → ∃ g, A = some ⟨g, 0, none⟩ ∧ g < B) := Lib.hid (fun h => by obtain ⟨g, h1, h2, h3⟩ := hcg (by omega); exact ⟨g, h1, by rw [HB.out]; exact h3⟩)
      have HOW := Lib.hid hown
      have HEX := Lib.hid hext
      have HS0 := Lib.hid (unrMid_start HR0.out)
      have hR0 : (R0 : Int) ≤ 479001600 := by omega
      clear hown hext hcg h3 h4
      go_wp2
      go_loopw [1, 6, 7, 8] (fun r l p i wr => ∃ (k R : Nat) (L O : List Int), k ≤ N ∧ (R : Int) ≤ 479001600 ∧ r = .int .i64 R ∧ l = .slice A k cap ∧ i = .int .i64 ((k : Int) - 1) ∧ Hid (unrMid N R0 k R L O) ∧ Hid (Own wr w.heap.size l L) ∧ Hid (Own wr B p O) ∧ Hid (Ext w wr) ∧ Hid (B ≤ wr.heap.size)) (fun _ _ _ i _ => (intOf i + 1).toNat)
      case atStart => exact ⟨N, R0, iota 0 N, [], Nat.le_refl _, hR0, rfl, rfl, by go_num, HS0, HOW, Lib.hid (OwnV.nil _ _ _), HEX, Lib.hid (by rw [HB.out]; exact Nat.le_refl _)⟩
      case round =>
        obtain ⟨k1, R, L, O, hk, hR, rfl, rfl, rfl, hmid, hol, hop, hext, hBw⟩ := hrel
        by_cases hlt : 0 < k1
        · obtain ⟨k, rfl⟩ : ∃ k, k1 = k + 1 := ⟨k1 - 1, by omega⟩
          have hki : ((k + 1 : Nat) : Int) - 1 = (k : Int) := by omega
          rw [hki]
          have hat := unrMid_at hmid.out
          have hrk := hmid.out.2.2.1
          obtain ⟨F, HF⟩ : ∃ F, Hid (F = fctI (k : Int)) := ⟨_, Lib.hid rfl⟩
          obtain ⟨f1', f2'⟩ := fctI_bd (n := (k : Int)) (by omega)
          rw [← HF.out] at f1' f2'
          have hFn : F = ((fct k : Nat) : Int) := by rw [HF.out]; unfold fctI; rw [Int.toNat_natCast]
          obtain ⟨q, HQ⟩ : ∃ q, Hid (q = R / fct k) := ⟨_, Lib.hid rfl⟩
          obtain ⟨m, HM⟩ : ∃ m, Hid (m = R % fct k) := ⟨_, Lib.hid rfl⟩
          rw [← HQ.out] at hat
          have hq : (R : Int) / F = (q : Int) := by rw [HQ.out, hFn]; rfl
          have hm : (R : Int) % F = (m : Int) := by rw [HM.out, hFn]; rfl
          have hm2 : (m : Int) ≤ 479001600 := by rw [← hm]; exact Int.le_trans (Int.le_of_lt (Int.emod_lt_of_pos _ (by omega))) f2'
          have hLl : L.length = k + 1 := hmid.out.1
          have hql : q < L.length := by omega
          obtain ⟨y, HY⟩ : ∃ y, Hid (y = L[q]) := ⟨_, Lib.hid rfl⟩
          obtain ⟨g, rfl, hgB⟩ := HCG.out (by omega)
          have hx := hol.out.cell q (by rw [List.length_map]; exact hql)
          rw [List.getElem_map, ← HY.out] at hx
          have HN := Lib.hid (unrMid_next hmid.out HQ.out hql HY.out)
          have hOl : O.length ≤ 1000 := by have := hmid.out.2.2.2.1; omega
          have HGB := Lib.hid hgB
          have HLL := Lib.hid hLl
          clear HY
          clear hmid hFn hrk hLl hql hgB
          go_wp2_with (first | (go_at_call 50; refine (i_fct _ _ (by omega)).mono ?_; rintro e w' ⟨rfl, rfl⟩; rw [← HF.out]) | (at_builtin; refine wp_app1 _ rfl _ _ rfl _ _ O rfl hop.out y rfl (by omega) hBw.out ?_; intro v' w' hop2 hgr))
          have HO2 := Lib.hid hop2
          have HL1 : Hid (Own w' w.heap.size (.slice (some ⟨g, 0, none⟩) (k + 1) cap) L) := Lib.hid (hol.out.kept hgr (.inr (by
            intro e
            have h1 := (hop.out.lt g e.symm).1
            have h2 := HGB.out
            omega)))
          have HE2 : Hid (Ext w w') := Lib.hid (Below.grown hext.out hgr hext.out.size (fun j hj => Nat.le_trans HEX.out.size (by rw [← HB.out]; exact (hop.out.lt j hj).1)))
          have HBw2 : Hid (B ≤ w'.heap.size) := Lib.hid (Nat.le_trans hBw.out hgr.size)
          clear hop2 hgr hol hop hext hBw
          have key := c_Delete (.slice (some ⟨g, 0, none⟩) (k + 1) cap) L g cap q w.heap.size w' (by rw [HLL.out]) (by rw [HLL.out]; exact hat) HL1.out
          rw [HLL.out, Nat.add_sub_cancel] at key
          have HK := Lib.hid key
          clear key
          go_wp2_with fail
          refine HK.out.mono ?_
          rintro e w'' ⟨rfl, hol3, hgr3⟩
          have HO3 : Hid (Own w'' B v' (O ++ [y])) := Lib.hid (HO2.out.kept hgr3 (.inr (by
            intro e
            have h1 := (HO2.out.lt g e).1
            have h2 := HGB.out
            omega)))
          have HL3 := Lib.hid hol3
          have HE3 : Hid (Ext w w'') := Lib.hid (Below.grown HE2.out hgr3 HE2.out.size (fun j hj => (HL1.out.lt j (by rw [← hj]; rfl)).1))
          have HBw3 : Hid (B ≤ w''.heap.size) := Lib.hid (Nat.le_trans HBw2.out hgr3.size)
          clear hol3 hgr3 HO2 HL1 HE2 HBw2
          go_wp2
          exact ⟨⟨k, m, _, _, by omega, hm2, rfl, rfl, by go_num, Lib.hid (by rw [HM.out]; exact HN.out), HL3, HO3, HE3, HBw3⟩, by simp only [intOf]; omega⟩
        · obtain rfl : k1 = 0 := by omega
          have HE : Hid (O = unr N R0 (iota 0 N)) := Lib.hid (unrMid_end hmid.out)
          clear hmid
          go_wp2
          go_ret2
          exact ⟨_, by rw [G2.out]; rfl, by rw [G.out, Int.toNat_natCast, ← HE.out]; exact hop.out.mono (by rw [HB.out]; exact HEX.out.size), hext.out⟩
theorem rd_drop {w : World} {g n cap : Nat} {xs : List Int} (hn : n = xs.length) (h : Rd w (.slice (some ⟨g, 0, none⟩) n cap) xs) (i : Nat) (hi : i ≤ n) :
    ∃ A, (if cap = i then some (⟨g, 0, none⟩ : Addr) else some ⟨g, i, none⟩) = some A ∧ Rd w (.slice (some A) (n - i) (cap - i)) (xs.drop i) := by
  obtain ⟨a, cap', he, hc, hm, hr⟩ := h
  cases he
  have hl : (xs.drop i).length = xs.length - i := List.length_drop
  by_cases h : cap = i
  · refine ⟨⟨g, 0, none⟩, by simp [h], some ⟨g, 0, none⟩, cap - i, by rw [hl], by omega, by omega, fun h2 => by omega⟩
  · refine ⟨⟨g, i, none⟩, by simp [h], some ⟨g, i, none⟩, cap - i, by rw [hl], by omega, by omega, fun h2 => ?_⟩
    obtain ⟨b, o, h3, h4, h5⟩ := hr (by omega)
    cases h3
    refine ⟨_, _, rfl, h4, fun j hj => ?_⟩
    have h6 := h5 (i + j) (by omega)
    rw [Nat.zero_add] at h6
    rw [h6, List.getElem_drop]
def sliceLen : Value → Nat
  | .slice _ n _ => n
  | _ => 0
set_option maxRecDepth 100000 in
theorem s_unr (N R0 : Nat) (w : World) (h12 : N ≤ 12) (hR0 : R0 < fct N) : Calls Try.prog 68 #[.int .i64 N, .int .i64 R0] w (RetInts w (unr N R0 (iota 0 N))) := by
  have HS0 := Lib.hid (unrMid_start hR0)
  have hRb : (R0 : Int) ≤ 479001600 := by have := (fctI_bd (n := (N : Int)) (by omega)).2; unfold fctI at this; rw [Int.toNat_natCast] at this; omega
  clear hR0
  go_enter Try.func68, Try.ntmps68
  go_wp2_with (go_at_call 61; refine (s_l04One _ _ (by omega)).mono ?_; rintro e w1 ⟨v, rfl, hown, hext⟩)
  rw [Int.toNat_natCast] at hown
  have HOW := Lib.hid hown
  have HEX := Lib.hid hext
  obtain ⟨B, HB⟩ : ∃ B, Hid (B = w1.heap.size) := ⟨_, Lib.hid rfl⟩
  have HOW2 : Hid (Own (w1.alloc (.cells #[] 2)) w.heap.size v (iota 0 N)) := Lib.hid (hown.ext (ext_alloc _ _))
  have HAP : Hid (v.ownBlock = none ∨ v.ownBlock ≠ some w1.heap.size) := Lib.hid (by
    cases hv : v.ownBlock with
    | none => exact .inl rfl
    | some k => right; intro e; have := (hown.lt k hv).2; injection e with e; omega)
  clear hown hext
  go_loopw [1, 5, 6] (fun r l p wr => ∃ (k R : Nat) (L O : List Int), k ≤ N ∧ (R : Int) ≤ 479001600 ∧ r = .int .i64 R ∧ Hid (unrMid N R0 k R L O) ∧ Hid (Own wr w.heap.size l L) ∧ Hid (Own wr w.heap.size p O) ∧ Hid (l.ownBlock = none ∨ l.ownBlock ≠ p.ownBlock) ∧ Hid (Ext w wr)) (fun _ l _ _ => sliceLen l)
  case atStart => exact ⟨N, R0, iota 0 N, [], Nat.le_refl _, hRb, rfl, HS0, HOW2, Lib.hid ((OwnV.empty _ _).mono HEX.out.size), Lib.hid (HAP.out), Lib.hid (HEX.out.trans (ext_alloc _ _))⟩
  case round =>
    obtain ⟨k1, R, L, O, hk, hR, rfl, hmid, hol, hop, hap, hext⟩ := hrel
    have hLl : L.length = k1 := hmid.out.1
    obtain ⟨a, cap, hl, hca, hcm, hcg, _⟩ := hol.out.form
    rw [List.length_map, hLl] at hl hca
    subst hl
    unfold maxLen at hcm
    by_cases hlt : 0 < k1
    · obtain ⟨k, rfl⟩ : ∃ k, k1 = k + 1 := ⟨k1 - 1, by omega⟩
      obtain ⟨g, rfl, hg1, hg2⟩ := hcg (by omega)
      have hki : ((k + 1 : Nat) : Int) - 1 = (k : Int) := by omega
      have hat := unrMid_at hmid.out
      obtain ⟨F, HF⟩ : ∃ F, Hid (F = fctI (k : Int)) := ⟨_, Lib.hid rfl⟩
      obtain ⟨f1', f2'⟩ := fctI_bd (n := (k : Int)) (by omega)
      rw [← HF.out] at f1' f2'
      have hFn : F = ((fct k : Nat) : Int) := by rw [HF.out]; unfold fctI; rw [Int.toNat_natCast]
      obtain ⟨q, HQ⟩ : ∃ q, Hid (q = R / fct k) := ⟨_, Lib.hid rfl⟩
      obtain ⟨m, HM⟩ : ∃ m, Hid (m = R % fct k) := ⟨_, Lib.hid rfl⟩
      rw [← HQ.out] at hat
      have hq : (R : Int) / F = (q : Int) := by rw [HQ.out, hFn]; rfl
      have hm : (R : Int) % F = (m : Int) := by rw [HM.out, hFn]; rfl
      have hm2 : (m : Int) ≤ 479001600 := by rw [← hm]; exact Int.le_trans (Int.le_of_lt (Int.emod_lt_of_pos _ (by omega))) f2'
      have hql : q < L.length := by omega
      obtain ⟨y, HY⟩ : ∃ y, Hid (y = L[q]) := ⟨_, Lib.hid rfl⟩
      have hx := hol.out.cell q (by rw [List.length_map]; exact hql)
      rw [List.getElem_map, ← HY.out] at hx
      have HN := Lib.hid (unrMid_next hmid.out HQ.out hql HY.out)
      have hOl : O.length ≤ 1000 := by have := hmid.out.2.2.2.1; omega
      have hsz := hext.out.size
      have HLL := Lib.hid hLl
      have HCG := Lib.hid hg2
      have hqk : (q : Int) < ((k + 1 : Nat) : Int) := by omega
      clear HY
      clear hmid hFn hLl hql hcg hg1 hg2
      go_wp2_with (first | (go_at_call 49; refine (s_fct _ _ (by omega)).mono ?_; rintro e w' ⟨rfl, rfl⟩; rw [← HF.out]) | (at_builtin; refine wp_app1 _ rfl _ _ rfl _ _ O rfl hop.out y rfl (by omega) hsz ?_; intro v' w' hop2 hgr))
      have HO2 := Lib.hid hop2
      have HL1 : Hid (Own w' w.heap.size (.slice (some ⟨g, 0, none⟩) (k + 1) cap) L) := Lib.hid (hol.out.kept hgr hap.out)
      have HE2 : Hid (Ext w w') := Lib.hid (Below.grown hext.out hgr hext.out.size (fun j hj => (hop.out.lt j hj).1))
      clear hop2 hgr hol hop hext hap
      go_wp2_with fail
      refine (s_l00Own _ (L.take q) _ (by rw [List.length_take]; omega) (rd_take HL1.out.rd q (by rw [HLL.out]; omega)) (.inr ⟨_, _, _, rfl⟩)).mono ?_
      rintro e w3 ⟨v1, rfl, hown1, hext1⟩
      obtain ⟨A, hA, hrd⟩ := rd_drop HLL.out.symm (HL1.out.ext hext1).rd (q + 1) (by omega)
      have HO3 : Hid (Own w3 w.heap.size v' (O ++ [y])) := Lib.hid (HO2.out.ext hext1)
      have HE3 : Hid (Ext w w3) := Lib.hid (HE2.out.trans hext1)
      have HR1 := Lib.hid hown1
      rw [Nat.add_sub_add_right] at hrd
      have HRD := Lib.hid hrd
      have HSZ := Lib.hid hext1.size
      have HVB : Hid (∀ j, v'.ownBlock = some j → j < w'.heap.size) := Lib.hid (fun j hj => (HO2.out.lt j hj).2)
      have hlt1 : (L.take q).length + (L.drop (q + 1)).length ≤ 1000 := by have := HLL.out; rw [List.length_take, List.length_drop]; omega
      clear HL1 HO2 hown1 hext1 hrd
      go_wp2_with (at_builtin; refine wp_appRd _ rfl _ _ rfl w'.heap.size _ (L.take q) rfl HR1.out _ (L.drop (q + 1)) rfl (by intro n c h; cases h) HRD.out (by omega) HSZ.out ?_; intro v2 w4 hown4 hgr4)
      have HL4 : Hid (Own w4 w.heap.size v2 (L.take q ++ L.drop (q + 1))) := Lib.hid (hown4.mono HE2.out.size)
      have HAP4 : Hid (v2.ownBlock = none ∨ v2.ownBlock ≠ v'.ownBlock) := Lib.hid (by
        cases h : v2.ownBlock with
        | none => exact .inl rfl
        | some j => right; intro e; have := (hown4.lt j h).1; have := HVB.out j e.symm; omega)
      have HO4 : Hid (Own w4 w.heap.size v' (O ++ [y])) := Lib.hid (HO3.out.kept hgr4 (by
        cases h : v'.ownBlock with
        | none => exact .inl rfl
        | some j => right; intro e; have := (HR1.out.lt j e.symm).1; have := HVB.out j h; omega))
      have HE4 : Hid (Ext w w4) := Lib.hid (Below.grown HE3.out hgr4 HE3.out.size (fun j hj => Nat.le_trans HE2.out.size (HR1.out.lt j hj).1))
      have HLV : Hid (∃ a c, v2 = .slice a k c) := Lib.hid (by
        obtain ⟨a, c, h, _⟩ := hown4.form
        refine ⟨a, c, ?_⟩
        rw [h, List.length_map, List.length_append, List.length_take, List.length_drop, HLL.out, show min q (k + 1) + (k + 1 - (q + 1)) = k from by omega])
      clear hown4 hgr4 HO3 HE3
      go_wp2
      refine ⟨⟨k, m, _, _, by omega, hm2, rfl, Lib.hid (by rw [HM.out]; exact HN.out), HL4, HO4, HAP4, HE4⟩, ?_⟩
      obtain ⟨a, c, rfl⟩ := HLV.out
      simp only [sliceLen]; omega
    · obtain rfl : k1 = 0 := by omega
      have HE : Hid (O = unr N R0 (iota 0 N)) := Lib.hid (unrMid_end hmid.out)
      clear hmid
      go_wp2
      go_ret
      exact ⟨_, rfl, by rw [← HE.out]; exact hop.out, hext.out⟩
theorem s_minP (a b : Int) (w : World) : Calls Try.prog 67 #[.int .i64 a, .int .i64 b] w fun e w' => e = .returned (.int .i64 (min a b)) ∧ w = w' := by
  by_cases h : a < b
  · go_enter Try.func67, Try.ntmps67
    have HE : Hid (a = min a b) := Lib.hid (by omega)
    go_wp2
    go_ret
    exact ⟨ret_i64 HE.out, rfl⟩
  · go_enter Try.func67, Try.ntmps67
    have HE : Hid (b = min a b) := Lib.hid (by omega)
    go_wp2
    go_ret
    exact ⟨ret_i64 HE.out, rfl⟩
theorem s_UnrankPermutation (n r : Int) (w : World) : Calls Try.prog 34 #[.int .i64 n, .int .i64 r] w (RetIntsI w (unrOut n r) (unrCode n r)) := by
  cases hb : inB n 0 12
  · have G : Hid (unrOut n r = []) := Lib.hid (by simp [unrOut, unrOk, hb])
    have G2 : Hid (unrCode n r = 2) := Lib.hid (by simp [unrCode, unrOk, hb])
    go_enter Try.func34, Try.ntmps34
    go_wp2_with (go_at_call 58; refine (s_in _ _ _ _).mono ?_; rintro e w' ⟨rfl, rfl⟩)
    go_ret2
    exact ⟨_, by rw [G2.out]; rfl, by rw [G.out]; exact OwnV.nil _ _ _, Ext.refl _⟩
  · obtain ⟨h1, h2⟩ := inB_iff.1 hb
    obtain ⟨N, rfl⟩ := Int.eq_ofNat_of_zero_le h1
    obtain ⟨f1, f2⟩ := fctI_bd h2
    obtain ⟨FN, HFN⟩ : ∃ F, Hid (F = fctI (N : Int)) := ⟨_, Lib.hid rfl⟩
    rw [← HFN.out] at f1 f2
    have HMN : Hid (min (N : Int) 12 = (N : Int)) := Lib.hid (by omega)
    cases hb2 : inB r 0 (FN - 1)
    · have G : Hid (unrOut N r = []) := Lib.hid (by have h := hb2; rw [HFN.out] at h; simp [unrOut, unrOk, hb, h])
      have G2 : Hid (unrCode N r = 2) := Lib.hid (by have h := hb2; rw [HFN.out] at h; simp [unrCode, unrOk, hb, h])
      go_enter Try.func34, Try.ntmps34
      go_wp2_with (first | (go_at_call 58; refine (s_in _ _ _ _).mono ?_; rintro e w' ⟨rfl, rfl⟩) | (go_at_call 67; refine (s_minP _ _ _).mono ?_; rintro e w' ⟨rfl, rfl⟩; rw [HMN.out]) | (go_at_call 49; refine (s_fct _ _ h2).mono ?_; rintro e w' ⟨rfl, rfl⟩; rw [← HFN.out]))
      go_ret2
      exact ⟨_, by rw [G2.out]; rfl, by rw [G.out]; exact OwnV.nil _ _ _, Ext.refl _⟩
    · have G : Hid (unrOut N r = unr N r.toNat (iota 0 N)) := Lib.hid (by have h := hb2; rw [HFN.out] at h; simp [unrOut, unrOk, hb, h])
      have G2 : Hid (unrCode N r = 0) := Lib.hid (by have h := hb2; rw [HFN.out] at h; simp [unrCode, unrOk, hb, h])
      obtain ⟨h3, h4⟩ := inB_iff.1 hb2
      obtain ⟨R0, rfl⟩ := Int.eq_ofNat_of_zero_le h3
      have HR0 : Hid (R0 < fct N) := Lib.hid (by have := HFN.out; unfold fctI at this; simp only [Int.toNat_natCast] at this; omega)
      go_enter Try.func34, Try.ntmps34
      go_wp2_with (first | (go_at_call 58; refine (s_in _ _ _ _).mono ?_; rintro e w' ⟨rfl, rfl⟩) | (go_at_call 67; refine (s_minP _ _ _).mono ?_; rintro e w' ⟨rfl, rfl⟩; rw [HMN.out]) | (go_at_call 49; refine (s_fct _ _ h2).mono ?_; rintro e w' ⟨rfl, rfl⟩; rw [← HFN.out]) | (go_at_call 68; refine (s_unr N R0 _ (by omega) HR0.out).mono ?_; rintro e w1 ⟨v, rfl, hown, hext⟩))
      go_ret2
      exact ⟨_, by rw [G2.out]; rfl, by rw [G.out]; exact hown, hext⟩
theorem l_UnrankPermutation (a0 : Int) (a1 : Int) (w : World) :
    Calls Try.prog 10 #[.int .i64 a0, .int .i64 a1] w fun e w' => e = .returned (.bool true) ∧ Ext w w' := by
  have hbd := Lib.hid (show (unrOut a0 a1).length ≤ 3000000 from unrOut_len a0 a1)
  obtain ⟨R, HR⟩ : ∃ R : List Int, Hid (R = unrOut a0 a1) := ⟨_, Lib.hid rfl⟩
  have hb : R.length ≤ 3000000 := by rw [HR.out]; exact hbd.out
  clear hbd
  have X0 : Ext w w := Ext.refl w
  go_enter Try.func10, Try.ntmps10
  go_wp2_with fail
  refine (s_UnrankPermutation a0 a1 _  ).mono ?_
  rintro e w1 ⟨u_wt, rfl, wt_1, x1⟩
  rw [← HR.out] at wt_1
  have z1 := x1.size
  have X1 : Ext w w1 := X0.trans x1
  go_wp2_with fail
  refine (i_UnrankPermutation a0 a1 _  ).mono ?_
  rintro e w2 ⟨u_gt, rfl, gt_2, x2⟩
  rw [← HR.out] at gt_2
  have z2 := x2.size
  have X2 : Ext w w2 := X1.trans x2
  have wt_2 := wt_1.ext x2
  go_wp2_with fail
  refine (l_eqInt64S_t _ _ R _ gt_2.rd wt_2.rd).mono ?_
  rintro e w3 ⟨rfl, d3⟩
  have x3 := d3.ext
  have z3 := x3.size
  have X3 : Ext w w3 := X2.trans x3
  have wt_3 := wt_2.ext x3
  have gt_3 := gt_2.ext x3
  go_wp2_with fail
  refine (l_markInt64S _ (1) R _ _ (by omega) gt_3).mono ?_
  rintro e w4 ⟨rfl, gt_4, g4⟩
  have z4 := g4.size
  have X4 : Ext w w4 := Below.grown X3 g4 X3.size (fun j hj => Nat.le_trans (X1.size) (gt_3.lt j hj).1)
  have wt_4 := wt_3.kept g4 (wt_1.apart gt_3 (by omega))
  go_wp2_with fail
  refine (l_heldInt64S _ 1 R.length _ (by omega) gt_4.rd).mono ?_
  rintro e _ ⟨rfl, rfl⟩
  go_wp2_with fail
  refine (i_UnrankPermutation a0 a1 _  ).mono ?_
  rintro e w5 ⟨u_ht, rfl, ht_5, x5⟩
  rw [← HR.out] at ht_5
  have z5 := x5.size
  have X5 : Ext w w5 := X4.trans x5
  have wt_5 := wt_4.ext x5
  have gt_5 := gt_4.ext x5
  go_wp2_with fail
  refine (l_eqInt64S_t _ _ R _ ht_5.rd wt_5.rd).mono ?_
  rintro e w6 ⟨rfl, d6⟩
  have x6 := d6.ext
  have z6 := x6.size
  have X6 : Ext w w6 := X5.trans x6
  have wt_6 := wt_5.ext x6
  have gt_6 := gt_5.ext x6
  have ht_6 := ht_5.ext x6
  go_wp2_with fail
  refine (l_heldInt64S _ 1 R.length _ (by omega) gt_6.rd).mono ?_
  rintro e _ ⟨rfl, rfl⟩
  go_wp2
  go_ret
  exact ⟨rfl, X6⟩

end Go.Proofs.Ytloacmfafccofaa
