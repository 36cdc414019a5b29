/- Laws on fields with a list as their result: FieldSquares. No condition. -/
import Derived.Test.YtafaecpmffmfgaaLFldM
import Derived.Test.YtafaecpmffmfgaaFldSq
namespace Go.Proofs.Ytafaecpmffmfgaa
open Go.RowKit

set_option maxRecDepth 100000 in
set_option maxHeartbeats 1000000 in
theorem l_FieldSquares (w : World) (P D : Int) (v : Value) (xs : List Int) (h : Rd w v xs ∧ D ≤ 9223372036854775807) :
    Calls Try.prog 15 #[.agg #[.int .i64 P, .int .i64 D, v]] w fun e w' => e = .returned (.bool true) ∧ Ext w w' := by
  obtain ⟨h, hD⟩ := h
  have HRD := Lib.hid h
  have HF := Lib.hid (FldAt.new w P D v 24)
  have HE0 := Lib.hid (ext_alloc w (.cells #[.int .i64 P, .int .i64 D, v] 24))
  obtain ⟨R, HR⟩ : ∃ R, Hid (outSquares P D xs = R) := ⟨_, Lib.hid rfl⟩
  have HRB : Hid (R.length ≤ 100000) := Lib.hid (by rw [← HR.out]; exact Nat.le_trans (outSquares_len _ _ _) (by omega))
  clear h
  go_enter Try.func15, Try.ntmps15
  go_wp2_with fail
  refine (l_szField P D v xs 1048576 _ (HRD.out.ext HE0.out) (by omega) (by omega)).mono ?_
  rintro e w1 ⟨rfl, x1⟩
  have HE1 := Lib.hid (HE0.out.trans x1)
  have HF1 := Lib.hid (HF.out.ext x1)
  clear x1
  obtain ⟨_, c0, c1, c2⟩ := HF1.out
  by_cases hn : (xs.length : Int) ≤ 1048576
  · obtain ⟨N, HN⟩ : ∃ N, Hid (N = xs.length) := ⟨_, Lib.hid rfl⟩
    rw [if_pos hn]
    have hn1 : xs.length ≤ 1048576 := by omega
    have HN1 := Lib.hid hn1
    rw [← HN.out] at hn ⊢
    clear hn1
    go_wp2_with fail
    refine (l_toField P D v xs _ HN1.out (HRD.out.ext HE1.out)).mono ?_
    rintro e w2 ⟨v2, rfl, o2, x2⟩
    have HE2 := Lib.hid (HE1.out.trans x2)
    have E2 := Lib.hid x2
    have HO2 := Lib.hid o2
    clear x2 o2 c0 c1 c2
    obtain ⟨_, c0, c1, c2⟩ := HF1.out.ext E2.out
    go_wp2_with fail
    refine (s_FieldSquares P D v2 xs _ HO2.out.rd HO2.out.sane (by have := HN1.out; omega) hD).mono ?_
    rintro e w3 ⟨uw, rfl, ow, x3⟩
    rw [HR.out] at ow
    have HW3 := Lib.hid ow
    have HWB : Hid (∀ k, uw.ownBlock = some k → k < w3.heap.size) := Lib.hid (fun k hk => (ow.lt k hk).2)
    have HE3 := Lib.hid (HE2.out.trans x3)
    have E3 := Lib.hid (E2.out.trans x3)
    clear x3 ow c0 c1 c2
    obtain ⟨_, c0, c1, c2⟩ := HF1.out.ext E3.out
    go_wp2_with fail
    refine (l_toField P D v xs _ HN1.out (HRD.out.ext HE3.out)).mono ?_
    rintro e w4 ⟨v4, rfl, o4, x4⟩
    obtain ⟨A, cap, hv4, _⟩ := o4.form
    subst hv4
    rw [List.length_map, ← HN.out] at o4 ⊢
    have HO4 := Lib.hid o4
    have HE4 := Lib.hid (HE3.out.trans x4)
    have E4 := Lib.hid (E3.out.trans x4)
    have HG4 := Lib.hid (FldAt.new w4 P D (.slice A N cap) 27)
    have HX4 := Lib.hid (ext_alloc w4 (.cells #[.int .i64 P, .int .i64 D, .slice A N cap] 27))
    have HW4 := Lib.hid (HW3.out.ext x4)
    have HOB : Hid (∀ k, Value.ownBlock (.slice A N cap) = some k → w3.heap.size ≤ k ∧ k < w4.heap.size) := Lib.hid (fun k hk => o4.lt k hk)
    have HZ34 := Lib.hid x4.size
    clear x4 o4 c0 c1 c2
    go_wp2_with fail
    refine (i_FieldSquares P D _ xs _ (HO4.out.rd.ext HX4.out) (by have := HN1.out; omega) hD).mono ?_
    rintro e w5 ⟨ug, rfl, og, x5⟩
    rw [HR.out] at og
    have HG5 : Hid (Own w5 w4.heap.size ug R) := Lib.hid (OwnV.mono og HX4.out.size)
    have HX5 := Lib.hid (HX4.out.trans x5)
    have HB5 := Lib.hid (HG4.out.ext x5)
    have HW5 := Lib.hid (HW4.out.ext HX5.out)
    have HO5 := Lib.hid (HO4.out.ext HX5.out)
    have HE5 := Lib.hid (HE4.out.trans HX5.out)
    have E5 := Lib.hid (E4.out.trans HX5.out)
    clear x5 og
    go_wp2_with fail
    refine (l_eqInt64S_t _ _ R _ HG5.out.rd HW5.out.rd).mono ?_
    rintro e w6 ⟨rfl, d6⟩
    have HG6 := Lib.hid (HG5.out.ext d6.ext)
    have HB6 := Lib.hid (HB5.out.ext d6.ext)
    have HW6 := Lib.hid (HW5.out.ext d6.ext)
    have HO6 := Lib.hid (HO5.out.ext d6.ext)
    have HE6 := Lib.hid (HE5.out.trans d6.ext)
    have E6 := Lib.hid (E5.out.trans d6.ext)
    have HF6 := Lib.hid (HF1.out.ext E6.out)
    clear d6
    obtain ⟨_, c0, c1, c2⟩ := HF6.out
    obtain ⟨_, d0, d1, d2⟩ := HB6.out
    go_wp2
    go_region_held3 (fun w' => Ext w6 w' ∧ w'.cell? ⟨w.heap.size, 0, none⟩ = some (.int .i64 P) ∧ w'.cell? ⟨w.heap.size, 1, none⟩ = some (.int .i64 D) ∧ w'.cell? ⟨w.heap.size, 2, none⟩ = some v ∧ w'.cell? ⟨w4.heap.size, 0, none⟩ = some (.int .i64 P) ∧ w'.cell? ⟨w4.heap.size, 1, none⟩ = some (.int .i64 D) ∧ w'.cell? ⟨w4.heap.size, 2, none⟩ = some (.slice A N cap)) (first | exact ⟨Ext.drewN (Ext.refl _) 1, c0, c1, c2, d0, d1, d2⟩ | exact ⟨x8, (HF6.out.ext x8).2.1, (HF6.out.ext x8).2.2.1, (HF6.out.ext x8).2.2.2, (HB6.out.ext x8).2.1, (HB6.out.ext x8).2.2.1, (HB6.out.ext x8).2.2.2⟩ | exact ⟨x7, (HF6.out.ext x7).2.1, (HF6.out.ext x7).2.2.1, (HF6.out.ext x7).2.2.2, (HB6.out.ext x7).2.1, (HB6.out.ext x7).2.2.1, (HB6.out.ext x7).2.2.2⟩)
      (first | (go_at_call 18; refine (l_toField P D v xs _ HN1.out (HRD.out.ext (HE6.out.drewN 1))).mono ?_; rintro e w7 ⟨v7, rfl, o7, y7⟩; have x7 := Ext.trans (Ext.drewN (Ext.refl w6) 1) y7) | (go_at_call 20; refine (l_eqField_t P D _ _ xs _ (HO6.out.rd.ext x7) o7.rd).mono ?_; rintro e w8 ⟨rfl, y8⟩; have x8 := Ext.trans x7 y8))
    have HG8 := Lib.hid (HG6.out.ext x8)
    have HB8 := Lib.hid (HB6.out.ext x8)
    have HW8 := Lib.hid (HW6.out.ext x8)
    have HO8 := Lib.hid (HO6.out.ext x8)
    have E8 := Lib.hid (E6.out.trans x8)
    have HE8 := Lib.hid (HE6.out.trans x8)
    clear x8 x7 o7 y7 y8 c0 c1 c2 d0 d1 d2
    obtain ⟨_, d0, d1, d2⟩ := HB8.out
    go_wp2_with fail
    refine (l_markField P D _ 1 xs _ _ (by have := HN1.out; omega) HO8.out).mono ?_
    rintro e w9 ⟨rfl, o9, g9⟩
    have HG9 : Hid (Own w9 w4.heap.size ug R) := Lib.hid (HG8.out.kept g9 (by
      cases hu : ug.ownBlock with
      | none => exact .inl rfl
      | some k => exact .inr fun he => by have h1 := (HG8.out.lt k hu).1; have h2 := (HOB.out k he.symm).2; omega))
    have HW9 := Lib.hid (HW8.out.kept g9 (by
      cases hu : uw.ownBlock with
      | none => exact .inl rfl
      | some k => exact .inr fun he => by have h1 := HWB.out k hu; have h2 := (HOB.out k he.symm).1; omega))
    have E9 : Hid (Ext w1 w9) := Lib.hid (Below.grown E8.out g9 E8.out.size (fun j hj => Nat.le_trans E3.out.size (HOB.out j hj).1))
    have HE9 := Lib.hid (HE1.out.trans E9.out)
    have hk9 : (1 : Int) ≤ ((1 + xs.length : Nat) : Int) := by omega
    clear o9 g9 d0 d1 d2
    generalize ((1 + xs.length : Nat) : Int) = k9 at hk9 ⊢
    go_wp2_with fail
    refine (l_eqInt64S_t _ _ R _ HG9.out.rd HW9.out.rd).mono ?_
    rintro e w10 ⟨rfl, d10⟩
    have HG10 := Lib.hid (HG9.out.ext d10.ext)
    have HW10 := Lib.hid (HW9.out.ext d10.ext)
    have E10 := Lib.hid (E9.out.trans d10.ext)
    clear d10
    go_wp2_with fail
    refine (l_markInt64S _ 1 R _ _ (by have := HRB.out; omega) HG10.out).mono ?_
    rintro e w11 ⟨rfl, o11, g11⟩
    have HG11 := Lib.hid o11
    have HW11 := Lib.hid (HW10.out.kept g11 (by
      cases hu : uw.ownBlock with
      | none => exact .inl rfl
      | some k => exact .inr fun he => by have h1 := HWB.out k hu; have h2 := (HG10.out.lt k he.symm).1; have h3 := HZ34.out; omega))
    have E11 : Hid (Ext w1 w11) := Lib.hid (Below.grown E10.out g11 E10.out.size (fun j hj => Nat.le_trans E4.out.size (HG10.out.lt j hj).1))
    have HE11 := Lib.hid (HE1.out.trans E11.out)
    have HF11 := Lib.hid (HF1.out.ext E11.out)
    clear o11 g11
    have hne : (((1 + R.length : Nat) : Int) != ((1 + R.length : Nat) : Int)) = false := by simp
    have hpos : (0 : Int) ≤ ((1 + R.length : Nat) : Int) := by omega
    obtain ⟨M, HM⟩ : ∃ M, Hid (((1 + R.length : Nat) : Int) = M) := ⟨_, Lib.hid rfl⟩
    rw [HM.out] at hne hpos ⊢
    go_wp2_with fail
    refine (l_heldInt64S _ 1 R.length _ (by have := HRB.out; omega) HG11.out.rd).mono ?_
    rintro e _ ⟨rfl, rfl⟩
    rw [HM.out]
    obtain ⟨_, c0, c1, c2⟩ := HF11.out
    go_wp2_with fail
    refine (l_toField P D v xs _ HN1.out (HRD.out.ext HE11.out)).mono ?_
    rintro e w12 ⟨v12, rfl, o12, x12⟩
    have HO12 := Lib.hid o12
    have HG12 := Lib.hid (HG11.out.ext x12)
    have HW12 := Lib.hid (HW11.out.ext x12)
    have HE12 := Lib.hid (HE11.out.trans x12)
    clear x12 o12 c0 c1 c2
    go_wp2_with fail
    refine (i_FieldSquares P D _ xs _ HO12.out.rd (by have := HN1.out; omega) hD).mono ?_
    rintro e w13 ⟨uh, rfl, oh, x13⟩
    rw [HR.out] at oh
    have HH13 := Lib.hid oh
    have HG13 := Lib.hid (HG12.out.ext x13)
    have HW13 := Lib.hid (HW12.out.ext x13)
    have HE13 := Lib.hid (HE12.out.trans x13)
    clear x13 oh
    go_wp2_with fail
    refine (l_eqInt64S_t _ _ R _ HH13.out.rd HW13.out.rd).mono ?_
    rintro e w14 ⟨rfl, d14⟩
    have HG14 := Lib.hid (HG13.out.ext d14.ext)
    have HE14 := Lib.hid (HE13.out.trans d14.ext)
    clear d14
    go_wp2_with fail
    refine (l_heldInt64S _ 1 R.length _ (by have := HRB.out; omega) HG14.out.rd).mono ?_
    rintro e _ ⟨rfl, rfl⟩
    rw [HM.out]
    go_wp2
    go_ret
    exact ⟨rfl, HE14.out⟩
  · rw [if_neg hn]
    clear hn
    go_wp2
    go_ret
    exact ⟨rfl, HE1.out⟩
end Go.Proofs.Ytafaecpmffmfgaa
