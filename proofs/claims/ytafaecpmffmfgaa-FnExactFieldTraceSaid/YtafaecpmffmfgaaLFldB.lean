/- Laws on fields: FieldOrder, FieldInverse, FieldPower, PrimitiveElement, FieldTrace. No condition. -/
import Derived.Test.YtafaecpmffmfgaaFldLaw
import Derived.Test.YtafaecpmffmfgaaFldTop2
namespace Go.Proofs.Ytafaecpmffmfgaa
open Go.RowKit

set_option maxRecDepth 100000 in
set_option maxHeartbeats 1000000 in
theorem l_FieldOrder (w : World) (P D : Int) (v : Value) (xs : List Int) (h : Rd w v xs ∧ D ≤ 9223372036854775807) (a1 : Int) :
    Calls Try.prog 9 #[.agg #[.int .i64 P, .int .i64 D, v], .int .i64 a1] w fun e w' => e = .returned (.bool true) ∧ Ext w w' := by
  obtain ⟨h, hD⟩ := h
  have HRD := Lib.hid h
  have HF := Lib.hid (FldAt.new w P D v 24)
  have HE0 := Lib.hid (ext_alloc w (.cells #[.int .i64 P, .int .i64 D, v] 24))
  obtain ⟨R, HR⟩ : ∃ R : Int, Hid (outOrder P D xs a1 = R) := ⟨_, Lib.hid rfl⟩
  have hRR : (R != R) = false := by simp
  clear h
  go_enter Try.func9, Try.ntmps9
  go_wp2_with fail
  refine (l_szField P D v xs 1048576 _ (HRD.out.ext HE0.out) (by omega) (by omega)).mono ?_
  rintro e w1 ⟨rfl, x1⟩
  have HE1 := Lib.hid (HE0.out.trans x1)
  have HF1 := Lib.hid (HF.out.ext x1)
  clear x1
  obtain ⟨_, c0, c1, c2⟩ := HF1.out
  by_cases hn : (xs.length : Int) ≤ 1048576
  · obtain ⟨N, HN⟩ : ∃ N, Hid (N = xs.length) := ⟨_, Lib.hid rfl⟩
    rw [if_pos hn]
    have hn1 : xs.length ≤ 1048576 := by omega
    have HN1 := Lib.hid hn1
    rw [← HN.out] at hn ⊢
    clear hn1
    go_wp2_with fail
    refine (l_toField P D v xs _ HN1.out (HRD.out.ext HE1.out)).mono ?_
    rintro e w2 ⟨v2, rfl, o2, x2⟩
    have HE2 := Lib.hid (HE1.out.trans x2)
    have HF2 := Lib.hid (HF1.out.ext x2)
    have HO2 := Lib.hid o2
    clear x2 o2 c0 c1 c2
    obtain ⟨_, c0, c1, c2⟩ := HF2.out
    go_wp2_with fail
    refine (s_FieldOrder P D v2 xs a1 _ HO2.out.rd HO2.out.sane (by have := HN1.out; omega) hD).mono ?_
    rintro e w3 ⟨rfl, x3⟩
    rw [HR.out]
    have HE3 := Lib.hid (HE2.out.trans x3)
    have HF3 := Lib.hid (HF2.out.ext x3)
    clear x3 c0 c1 c2
    obtain ⟨_, c0, c1, c2⟩ := HF3.out
    go_wp2_with fail
    refine (l_toField P D v xs _ HN1.out (HRD.out.ext HE3.out)).mono ?_
    rintro e w4 ⟨v4, rfl, o4, x4⟩
    obtain ⟨A, cap, hv4, _⟩ := o4.form
    subst hv4
    rw [List.length_map, ← HN.out] at o4 ⊢
    have HO4 := Lib.hid o4
    have HE4 := Lib.hid (HE3.out.trans x4)
    have HF4 := Lib.hid (HF3.out.ext x4)
    have HG4 := Lib.hid (FldAt.new w4 P D (.slice A N cap) 27)
    have HX4 := Lib.hid (ext_alloc w4 (.cells #[.int .i64 P, .int .i64 D, .slice A N cap] 27))
    clear x4 o4 c0 c1 c2
    go_wp2_with fail
    refine (i_FieldOrder P D _ xs a1 _ (HO4.out.rd.ext HX4.out) (by have := HN1.out; omega) hD).mono ?_
    rintro e w5 ⟨rfl, x5⟩
    rw [HR.out]
    have HX5 := Lib.hid (HX4.out.trans x5)
    have HE5 := Lib.hid (HE4.out.trans HX5.out)
    have HF5 := Lib.hid (HF4.out.ext HX5.out)
    have HG5 := Lib.hid (HG4.out.ext x5)
    have HR5 := Lib.hid (HO4.out.rd.ext HX5.out)
    clear x5
    obtain ⟨_, c0, c1, c2⟩ := HF5.out
    obtain ⟨_, d0, d1, d2⟩ := HG5.out
    go_wp2
    go_region_held3 (fun w' => Ext w5 w' ∧ w'.cell? ⟨w.heap.size, 0, none⟩ = some (.int .i64 P) ∧ w'.cell? ⟨w.heap.size, 1, none⟩ = some (.int .i64 D) ∧ w'.cell? ⟨w.heap.size, 2, none⟩ = some v ∧ w'.cell? ⟨w4.heap.size, 0, none⟩ = some (.int .i64 P) ∧ w'.cell? ⟨w4.heap.size, 1, none⟩ = some (.int .i64 D) ∧ w'.cell? ⟨w4.heap.size, 2, none⟩ = some (.slice A N cap)) (first | exact ⟨Ext.drewN (Ext.refl _) 1, c0, c1, c2, d0, d1, d2⟩ | exact ⟨x7, (HF5.out.ext x7).2.1, (HF5.out.ext x7).2.2.1, (HF5.out.ext x7).2.2.2, (HG5.out.ext x7).2.1, (HG5.out.ext x7).2.2.1, (HG5.out.ext x7).2.2.2⟩ | exact ⟨x6, (HF5.out.ext x6).2.1, (HF5.out.ext x6).2.2.1, (HF5.out.ext x6).2.2.2, (HG5.out.ext x6).2.1, (HG5.out.ext x6).2.2.1, (HG5.out.ext x6).2.2.2⟩)
      (first | (go_at_call 18; refine (l_toField P D v xs _ HN1.out (HRD.out.ext (HE5.out.drewN 1))).mono ?_; rintro e w6 ⟨v6, rfl, o6, y6⟩; have x6 := Ext.trans (Ext.drewN (Ext.refl w5) 1) y6) | (go_at_call 20; refine (l_eqField_t P D _ _ xs _ (HR5.out.ext x6) o6.rd).mono ?_; rintro e w7 ⟨rfl, y7⟩; have x7 := Ext.trans x6 y7))
    go_wp2
    go_ret
    exact ⟨rfl, HE5.out.trans x7⟩
  · rw [if_neg hn]
    clear hn
    go_wp2
    go_ret
    exact ⟨rfl, HE1.out⟩
set_option maxRecDepth 100000 in
set_option maxHeartbeats 1000000 in
theorem l_FieldInverse (w : World) (P D : Int) (v : Value) (xs : List Int) (h : Rd w v xs ∧ D ≤ 9223372036854775807) (a1 : Int) :
    Calls Try.prog 10 #[.agg #[.int .i64 P, .int .i64 D, v], .int .i64 a1] w fun e w' => e = .returned (.bool true) ∧ Ext w w' := by
  obtain ⟨h, hD⟩ := h
  have HRD := Lib.hid h
  have HF := Lib.hid (FldAt.new w P D v 24)
  have HE0 := Lib.hid (ext_alloc w (.cells #[.int .i64 P, .int .i64 D, v] 24))
  obtain ⟨R, HR⟩ : ∃ R : Int, Hid (outInverse P D xs a1 = R) := ⟨_, Lib.hid rfl⟩
  have hRR : (R != R) = false := by simp
  clear h
  go_enter Try.func10, Try.ntmps10
  go_wp2_with fail
  refine (l_szField P D v xs 1048576 _ (HRD.out.ext HE0.out) (by omega) (by omega)).mono ?_
  rintro e w1 ⟨rfl, x1⟩
  have HE1 := Lib.hid (HE0.out.trans x1)
  have HF1 := Lib.hid (HF.out.ext x1)
  clear x1
  obtain ⟨_, c0, c1, c2⟩ := HF1.out
  by_cases hn : (xs.length : Int) ≤ 1048576
  · obtain ⟨N, HN⟩ : ∃ N, Hid (N = xs.length) := ⟨_, Lib.hid rfl⟩
    rw [if_pos hn]
    have hn1 : xs.length ≤ 1048576 := by omega
    have HN1 := Lib.hid hn1
    rw [← HN.out] at hn ⊢
    clear hn1
    go_wp2_with fail
    refine (l_toField P D v xs _ HN1.out (HRD.out.ext HE1.out)).mono ?_
    rintro e w2 ⟨v2, rfl, o2, x2⟩
    have HE2 := Lib.hid (HE1.out.trans x2)
    have HF2 := Lib.hid (HF1.out.ext x2)
    have HO2 := Lib.hid o2
    clear x2 o2 c0 c1 c2
    obtain ⟨_, c0, c1, c2⟩ := HF2.out
    go_wp2_with fail
    refine (s_FieldInverse P D v2 xs a1 _ HO2.out.rd HO2.out.sane (by have := HN1.out; omega) hD).mono ?_
    rintro e w3 ⟨rfl, x3⟩
    rw [HR.out]
    have HE3 := Lib.hid (HE2.out.trans x3)
    have HF3 := Lib.hid (HF2.out.ext x3)
    clear x3 c0 c1 c2
    obtain ⟨_, c0, c1, c2⟩ := HF3.out
    go_wp2_with fail
    refine (l_toField P D v xs _ HN1.out (HRD.out.ext HE3.out)).mono ?_
    rintro e w4 ⟨v4, rfl, o4, x4⟩
    obtain ⟨A, cap, hv4, _⟩ := o4.form
    subst hv4
    rw [List.length_map, ← HN.out] at o4 ⊢
    have HO4 := Lib.hid o4
    have HE4 := Lib.hid (HE3.out.trans x4)
    have HF4 := Lib.hid (HF3.out.ext x4)
    have HG4 := Lib.hid (FldAt.new w4 P D (.slice A N cap) 27)
    have HX4 := Lib.hid (ext_alloc w4 (.cells #[.int .i64 P, .int .i64 D, .slice A N cap] 27))
    clear x4 o4 c0 c1 c2
    go_wp2_with fail
    refine (i_FieldInverse P D _ xs a1 _ (HO4.out.rd.ext HX4.out) (by have := HN1.out; omega) hD).mono ?_
    rintro e w5 ⟨rfl, x5⟩
    rw [HR.out]
    have HX5 := Lib.hid (HX4.out.trans x5)
    have HE5 := Lib.hid (HE4.out.trans HX5.out)
    have HF5 := Lib.hid (HF4.out.ext HX5.out)
    have HG5 := Lib.hid (HG4.out.ext x5)
    have HR5 := Lib.hid (HO4.out.rd.ext HX5.out)
    clear x5
    obtain ⟨_, c0, c1, c2⟩ := HF5.out
    obtain ⟨_, d0, d1, d2⟩ := HG5.out
    go_wp2
    go_region_held3 (fun w' => Ext w5 w' ∧ w'.cell? ⟨w.heap.size, 0, none⟩ = some (.int .i64 P) ∧ w'.cell? ⟨w.heap.size, 1, none⟩ = some (.int .i64 D) ∧ w'.cell? ⟨w.heap.size, 2, none⟩ = some v ∧ w'.cell? ⟨w4.heap.size, 0, none⟩ = some (.int .i64 P) ∧ w'.cell? ⟨w4.heap.size, 1, none⟩ = some (.int .i64 D) ∧ w'.cell? ⟨w4.heap.size, 2, none⟩ = some (.slice A N cap)) (first | exact ⟨Ext.drewN (Ext.refl _) 1, c0, c1, c2, d0, d1, d2⟩ | exact ⟨x7, (HF5.out.ext x7).2.1, (HF5.out.ext x7).2.2.1, (HF5.out.ext x7).2.2.2, (HG5.out.ext x7).2.1, (HG5.out.ext x7).2.2.1, (HG5.out.ext x7).2.2.2⟩ | exact ⟨x6, (HF5.out.ext x6).2.1, (HF5.out.ext x6).2.2.1, (HF5.out.ext x6).2.2.2, (HG5.out.ext x6).2.1, (HG5.out.ext x6).2.2.1, (HG5.out.ext x6).2.2.2⟩)
      (first | (go_at_call 18; refine (l_toField P D v xs _ HN1.out (HRD.out.ext (HE5.out.drewN 1))).mono ?_; rintro e w6 ⟨v6, rfl, o6, y6⟩; have x6 := Ext.trans (Ext.drewN (Ext.refl w5) 1) y6) | (go_at_call 20; refine (l_eqField_t P D _ _ xs _ (HR5.out.ext x6) o6.rd).mono ?_; rintro e w7 ⟨rfl, y7⟩; have x7 := Ext.trans x6 y7))
    go_wp2
    go_ret
    exact ⟨rfl, HE5.out.trans x7⟩
  · rw [if_neg hn]
    clear hn
    go_wp2
    go_ret
    exact ⟨rfl, HE1.out⟩
set_option maxRecDepth 100000 in
set_option maxHeartbeats 1000000 in
theorem l_FieldPower (w : World) (P D : Int) (v : Value) (xs : List Int) (h : Rd w v xs ∧ D ≤ 9223372036854775807) (a1 : Int) (a2 : Int) (hb2 : a2 ≤ 9223372036854775807) :
    Calls Try.prog 12 #[.agg #[.int .i64 P, .int .i64 D, v], .int .i64 a1, .int .i64 a2] w fun e w' => e = .returned (.bool true) ∧ Ext w w' := by
  obtain ⟨h, hD⟩ := h
  have HRD := Lib.hid h
  have HF := Lib.hid (FldAt.new w P D v 24)
  have HE0 := Lib.hid (ext_alloc w (.cells #[.int .i64 P, .int .i64 D, v] 24))
  obtain ⟨R, HR⟩ : ∃ R : Int, Hid (outPower P D xs a1 a2 = R) := ⟨_, Lib.hid rfl⟩
  have hRR : (R != R) = false := by simp
  clear h
  go_enter Try.func12, Try.ntmps12
  go_wp2_with fail
  refine (l_szField P D v xs 1048576 _ (HRD.out.ext HE0.out) (by omega) (by omega)).mono ?_
  rintro e w1 ⟨rfl, x1⟩
  have HE1 := Lib.hid (HE0.out.trans x1)
  have HF1 := Lib.hid (HF.out.ext x1)
  clear x1
  obtain ⟨_, c0, c1, c2⟩ := HF1.out
  by_cases hn : (xs.length : Int) ≤ 1048576
  · obtain ⟨N, HN⟩ : ∃ N, Hid (N = xs.length) := ⟨_, Lib.hid rfl⟩
    rw [if_pos hn]
    have hn1 : xs.length ≤ 1048576 := by omega
    have HN1 := Lib.hid hn1
    rw [← HN.out] at hn ⊢
    clear hn1
    go_wp2_with fail
    refine (l_toField P D v xs _ HN1.out (HRD.out.ext HE1.out)).mono ?_
    rintro e w2 ⟨v2, rfl, o2, x2⟩
    have HE2 := Lib.hid (HE1.out.trans x2)
    have HF2 := Lib.hid (HF1.out.ext x2)
    have HO2 := Lib.hid o2
    clear x2 o2 c0 c1 c2
    obtain ⟨_, c0, c1, c2⟩ := HF2.out
    go_wp2_with fail
    refine (s_FieldPower P D v2 xs a1 a2 hb2 _ HO2.out.rd HO2.out.sane (by have := HN1.out; omega) hD).mono ?_
    rintro e w3 ⟨rfl, x3⟩
    rw [HR.out]
    have HE3 := Lib.hid (HE2.out.trans x3)
    have HF3 := Lib.hid (HF2.out.ext x3)
    clear x3 c0 c1 c2
    obtain ⟨_, c0, c1, c2⟩ := HF3.out
    go_wp2_with fail
    refine (l_toField P D v xs _ HN1.out (HRD.out.ext HE3.out)).mono ?_
    rintro e w4 ⟨v4, rfl, o4, x4⟩
    obtain ⟨A, cap, hv4, _⟩ := o4.form
    subst hv4
    rw [List.length_map, ← HN.out] at o4 ⊢
    have HO4 := Lib.hid o4
    have HE4 := Lib.hid (HE3.out.trans x4)
    have HF4 := Lib.hid (HF3.out.ext x4)
    have HG4 := Lib.hid (FldAt.new w4 P D (.slice A N cap) 27)
    have HX4 := Lib.hid (ext_alloc w4 (.cells #[.int .i64 P, .int .i64 D, .slice A N cap] 27))
    clear x4 o4 c0 c1 c2
    go_wp2_with fail
    refine (i_FieldPower P D _ xs a1 a2 hb2 _ (HO4.out.rd.ext HX4.out) (by have := HN1.out; omega) hD).mono ?_
    rintro e w5 ⟨rfl, x5⟩
    rw [HR.out]
    have HX5 := Lib.hid (HX4.out.trans x5)
    have HE5 := Lib.hid (HE4.out.trans HX5.out)
    have HF5 := Lib.hid (HF4.out.ext HX5.out)
    have HG5 := Lib.hid (HG4.out.ext x5)
    have HR5 := Lib.hid (HO4.out.rd.ext HX5.out)
    clear x5
    obtain ⟨_, c0, c1, c2⟩ := HF5.out
    obtain ⟨_, d0, d1, d2⟩ := HG5.out
    go_wp2
    go_region_held3 (fun w' => Ext w5 w' ∧ w'.cell? ⟨w.heap.size, 0, none⟩ = some (.int .i64 P) ∧ w'.cell? ⟨w.heap.size, 1, none⟩ = some (.int .i64 D) ∧ w'.cell? ⟨w.heap.size, 2, none⟩ = some v ∧ w'.cell? ⟨w4.heap.size, 0, none⟩ = some (.int .i64 P) ∧ w'.cell? ⟨w4.heap.size, 1, none⟩ = some (.int .i64 D) ∧ w'.cell? ⟨w4.heap.size, 2, none⟩ = some (.slice A N cap)) (first | exact ⟨Ext.drewN (Ext.refl _) 1, c0, c1, c2, d0, d1, d2⟩ | exact ⟨x7, (HF5.out.ext x7).2.1, (HF5.out.ext x7).2.2.1, (HF5.out.ext x7).2.2.2, (HG5.out.ext x7).2.1, (HG5.out.ext x7).2.2.1, (HG5.out.ext x7).2.2.2⟩ | exact ⟨x6, (HF5.out.ext x6).2.1, (HF5.out.ext x6).2.2.1, (HF5.out.ext x6).2.2.2, (HG5.out.ext x6).2.1, (HG5.out.ext x6).2.2.1, (HG5.out.ext x6).2.2.2⟩)
      (first | (go_at_call 18; refine (l_toField P D v xs _ HN1.out (HRD.out.ext (HE5.out.drewN 1))).mono ?_; rintro e w6 ⟨v6, rfl, o6, y6⟩; have x6 := Ext.trans (Ext.drewN (Ext.refl w5) 1) y6) | (go_at_call 20; refine (l_eqField_t P D _ _ xs _ (HR5.out.ext x6) o6.rd).mono ?_; rintro e w7 ⟨rfl, y7⟩; have x7 := Ext.trans x6 y7))
    go_wp2
    go_ret
    exact ⟨rfl, HE5.out.trans x7⟩
  · rw [if_neg hn]
    clear hn
    go_wp2
    go_ret
    exact ⟨rfl, HE1.out⟩
set_option maxRecDepth 100000 in
set_option maxHeartbeats 1000000 in
theorem l_PrimitiveElement (w : World) (P D : Int) (v : Value) (xs : List Int) (h : Rd w v xs ∧ D ≤ 9223372036854775807) :
    Calls Try.prog 11 #[.agg #[.int .i64 P, .int .i64 D, v]] w fun e w' => e = .returned (.bool true) ∧ Ext w w' := by
  obtain ⟨h, hD⟩ := h
  have HRD := Lib.hid h
  have HF := Lib.hid (FldAt.new w P D v 24)
  have HE0 := Lib.hid (ext_alloc w (.cells #[.int .i64 P, .int .i64 D, v] 24))
  obtain ⟨R, HR⟩ : ∃ R : Int, Hid (outPrimitive P D xs = R) := ⟨_, Lib.hid rfl⟩
  have hRR : (R != R) = false := by simp
  clear h
  go_enter Try.func11, Try.ntmps11
  go_wp2_with fail
  refine (l_szField P D v xs 1048576 _ (HRD.out.ext HE0.out) (by omega) (by omega)).mono ?_
  rintro e w1 ⟨rfl, x1⟩
  have HE1 := Lib.hid (HE0.out.trans x1)
  have HF1 := Lib.hid (HF.out.ext x1)
  clear x1
  obtain ⟨_, c0, c1, c2⟩ := HF1.out
  by_cases hn : (xs.length : Int) ≤ 1048576
  · obtain ⟨N, HN⟩ : ∃ N, Hid (N = xs.length) := ⟨_, Lib.hid rfl⟩
    rw [if_pos hn]
    have hn1 : xs.length ≤ 1048576 := by omega
    have HN1 := Lib.hid hn1
    rw [← HN.out] at hn ⊢
    clear hn1
    go_wp2_with fail
    refine (l_toField P D v xs _ HN1.out (HRD.out.ext HE1.out)).mono ?_
    rintro e w2 ⟨v2, rfl, o2, x2⟩
    have HE2 := Lib.hid (HE1.out.trans x2)
    have HF2 := Lib.hid (HF1.out.ext x2)
    have HO2 := Lib.hid o2
    clear x2 o2 c0 c1 c2
    obtain ⟨_, c0, c1, c2⟩ := HF2.out
    go_wp2_with fail
    refine (s_PrimitiveElement P D v2 xs  _ HO2.out.rd HO2.out.sane (by have := HN1.out; omega) hD).mono ?_
    rintro e w3 ⟨rfl, x3⟩
    rw [HR.out]
    have HE3 := Lib.hid (HE2.out.trans x3)
    have HF3 := Lib.hid (HF2.out.ext x3)
    clear x3 c0 c1 c2
    obtain ⟨_, c0, c1, c2⟩ := HF3.out
    go_wp2_with fail
    refine (l_toField P D v xs _ HN1.out (HRD.out.ext HE3.out)).mono ?_
    rintro e w4 ⟨v4, rfl, o4, x4⟩
    obtain ⟨A, cap, hv4, _⟩ := o4.form
    subst hv4
    rw [List.length_map, ← HN.out] at o4 ⊢
    have HO4 := Lib.hid o4
    have HE4 := Lib.hid (HE3.out.trans x4)
    have HF4 := Lib.hid (HF3.out.ext x4)
    have HG4 := Lib.hid (FldAt.new w4 P D (.slice A N cap) 27)
    have HX4 := Lib.hid (ext_alloc w4 (.cells #[.int .i64 P, .int .i64 D, .slice A N cap] 27))
    clear x4 o4 c0 c1 c2
    go_wp2_with fail
    refine (i_PrimitiveElement P D _ xs  _ (HO4.out.rd.ext HX4.out) (by have := HN1.out; omega) hD).mono ?_
    rintro e w5 ⟨rfl, x5⟩
    rw [HR.out]
    have HX5 := Lib.hid (HX4.out.trans x5)
    have HE5 := Lib.hid (HE4.out.trans HX5.out)
    have HF5 := Lib.hid (HF4.out.ext HX5.out)
    have HG5 := Lib.hid (HG4.out.ext x5)
    have HR5 := Lib.hid (HO4.out.rd.ext HX5.out)
    clear x5
    obtain ⟨_, c0, c1, c2⟩ := HF5.out
    obtain ⟨_, d0, d1, d2⟩ := HG5.out
    go_wp2
    go_region_held3 (fun w' => Ext w5 w' ∧ w'.cell? ⟨w.heap.size, 0, none⟩ = some (.int .i64 P) ∧ w'.cell? ⟨w.heap.size, 1, none⟩ = some (.int .i64 D) ∧ w'.cell? ⟨w.heap.size, 2, none⟩ = some v ∧ w'.cell? ⟨w4.heap.size, 0, none⟩ = some (.int .i64 P) ∧ w'.cell? ⟨w4.heap.size, 1, none⟩ = some (.int .i64 D) ∧ w'.cell? ⟨w4.heap.size, 2, none⟩ = some (.slice A N cap)) (first | exact ⟨Ext.drewN (Ext.refl _) 1, c0, c1, c2, d0, d1, d2⟩ | exact ⟨x7, (HF5.out.ext x7).2.1, (HF5.out.ext x7).2.2.1, (HF5.out.ext x7).2.2.2, (HG5.out.ext x7).2.1, (HG5.out.ext x7).2.2.1, (HG5.out.ext x7).2.2.2⟩ | exact ⟨x6, (HF5.out.ext x6).2.1, (HF5.out.ext x6).2.2.1, (HF5.out.ext x6).2.2.2, (HG5.out.ext x6).2.1, (HG5.out.ext x6).2.2.1, (HG5.out.ext x6).2.2.2⟩)
      (first | (go_at_call 18; refine (l_toField P D v xs _ HN1.out (HRD.out.ext (HE5.out.drewN 1))).mono ?_; rintro e w6 ⟨v6, rfl, o6, y6⟩; have x6 := Ext.trans (Ext.drewN (Ext.refl w5) 1) y6) | (go_at_call 20; refine (l_eqField_t P D _ _ xs _ (HR5.out.ext x6) o6.rd).mono ?_; rintro e w7 ⟨rfl, y7⟩; have x7 := Ext.trans x6 y7))
    go_wp2
    go_ret
    exact ⟨rfl, HE5.out.trans x7⟩
  · rw [if_neg hn]
    clear hn
    go_wp2
    go_ret
    exact ⟨rfl, HE1.out⟩
set_option maxRecDepth 100000 in
set_option maxHeartbeats 1000000 in
theorem l_FieldTrace (w : World) (P D : Int) (v : Value) (xs : List Int) (h : Rd w v xs ∧ D ≤ 9223372036854775807) (a1 : Int) :
    Calls Try.prog 13 #[.agg #[.int .i64 P, .int .i64 D, v], .int .i64 a1] w fun e w' => e = .returned (.bool true) ∧ Ext w w' := by
  obtain ⟨h, hD⟩ := h
  have HRD := Lib.hid h
  have HF := Lib.hid (FldAt.new w P D v 24)
  have HE0 := Lib.hid (ext_alloc w (.cells #[.int .i64 P, .int .i64 D, v] 24))
  obtain ⟨R, HR⟩ : ∃ R : Int, Hid (outTrace P D xs a1 = R) := ⟨_, Lib.hid rfl⟩
  have hRR : (R != R) = false := by simp
  clear h
  go_enter Try.func13, Try.ntmps13
  go_wp2_with fail
  refine (l_szField P D v xs 1048576 _ (HRD.out.ext HE0.out) (by omega) (by omega)).mono ?_
  rintro e w1 ⟨rfl, x1⟩
  have HE1 := Lib.hid (HE0.out.trans x1)
  have HF1 := Lib.hid (HF.out.ext x1)
  clear x1
  obtain ⟨_, c0, c1, c2⟩ := HF1.out
  by_cases hn : (xs.length : Int) ≤ 1048576
  · obtain ⟨N, HN⟩ : ∃ N, Hid (N = xs.length) := ⟨_, Lib.hid rfl⟩
    rw [if_pos hn]
    have hn1 : xs.length ≤ 1048576 := by omega
    have HN1 := Lib.hid hn1
    rw [← HN.out] at hn ⊢
    clear hn1
    go_wp2_with fail
    refine (l_toField P D v xs _ HN1.out (HRD.out.ext HE1.out)).mono ?_
    rintro e w2 ⟨v2, rfl, o2, x2⟩
    have HE2 := Lib.hid (HE1.out.trans x2)
    have HF2 := Lib.hid (HF1.out.ext x2)
    have HO2 := Lib.hid o2
    clear x2 o2 c0 c1 c2
    obtain ⟨_, c0, c1, c2⟩ := HF2.out
    go_wp2_with fail
    refine (s_FieldTrace P D v2 xs a1 _ HO2.out.rd HO2.out.sane (by have := HN1.out; omega) hD).mono ?_
    rintro e w3 ⟨rfl, x3⟩
    rw [HR.out]
    have HE3 := Lib.hid (HE2.out.trans x3)
    have HF3 := Lib.hid (HF2.out.ext x3)
    clear x3 c0 c1 c2
    obtain ⟨_, c0, c1, c2⟩ := HF3.out
    go_wp2_with fail
    refine (l_toField P D v xs _ HN1.out (HRD.out.ext HE3.out)).mono ?_
    rintro e w4 ⟨v4, rfl, o4, x4⟩
    obtain ⟨A, cap, hv4, _⟩ := o4.form
    subst hv4
    rw [List.length_map, ← HN.out] at o4 ⊢
    have HO4 := Lib.hid o4
    have HE4 := Lib.hid (HE3.out.trans x4)
    have HF4 := Lib.hid (HF3.out.ext x4)
    have HG4 := Lib.hid (FldAt.new w4 P D (.slice A N cap) 27)
    have HX4 := Lib.hid (ext_alloc w4 (.cells #[.int .i64 P, .int .i64 D, .slice A N cap] 27))
    clear x4 o4 c0 c1 c2
    go_wp2_with fail
    refine (i_FieldTrace P D _ xs a1 _ (HO4.out.rd.ext HX4.out) (by have := HN1.out; omega) hD).mono ?_
    rintro e w5 ⟨rfl, x5⟩
    rw [HR.out]
    have HX5 := Lib.hid (HX4.out.trans x5)
    have HE5 := Lib.hid (HE4.out.trans HX5.out)
    have HF5 := Lib.hid (HF4.out.ext HX5.out)
    have HG5 := Lib.hid (HG4.out.ext x5)
    have HR5 := Lib.hid (HO4.out.rd.ext HX5.out)
    clear x5
    obtain ⟨_, c0, c1, c2⟩ := HF5.out
    obtain ⟨_, d0, d1, d2⟩ := HG5.out
    go_wp2
    go_region_held3 (fun w' => Ext w5 w' ∧ w'.cell? ⟨w.heap.size, 0, none⟩ = some (.int .i64 P) ∧ w'.cell? ⟨w.heap.size, 1, none⟩ = some (.int .i64 D) ∧ w'.cell? ⟨w.heap.size, 2, none⟩ = some v ∧ w'.cell? ⟨w4.heap.size, 0, none⟩ = some (.int .i64 P) ∧ w'.cell? ⟨w4.heap.size, 1, none⟩ = some (.int .i64 D) ∧ w'.cell? ⟨w4.heap.size, 2, none⟩ = some (.slice A N cap)) (first | exact ⟨Ext.drewN (Ext.refl _) 1, c0, c1, c2, d0, d1, d2⟩ | exact ⟨x7, (HF5.out.ext x7).2.1, (HF5.out.ext x7).2.2.1, (HF5.out.ext x7).2.2.2, (HG5.out.ext x7).2.1, (HG5.out.ext x7).2.2.1, (HG5.out.ext x7).2.2.2⟩ | exact ⟨x6, (HF5.out.ext x6).2.1, (HF5.out.ext x6).2.2.1, (HF5.out.ext x6).2.2.2, (HG5.out.ext x6).2.1, (HG5.out.ext x6).2.2.1, (HG5.out.ext x6).2.2.2⟩)
      (first | (go_at_call 18; refine (l_toField P D v xs _ HN1.out (HRD.out.ext (HE5.out.drewN 1))).mono ?_; rintro e w6 ⟨v6, rfl, o6, y6⟩; have x6 := Ext.trans (Ext.drewN (Ext.refl w5) 1) y6) | (go_at_call 20; refine (l_eqField_t P D _ _ xs _ (HR5.out.ext x6) o6.rd).mono ?_; rintro e w7 ⟨rfl, y7⟩; have x7 := Ext.trans x6 y7))
    go_wp2
    go_ret
    exact ⟨rfl, HE5.out.trans x7⟩
  · rw [if_neg hn]
    clear hn
    go_wp2
    go_ret
    exact ⟨rfl, HE1.out⟩
end Go.Proofs.Ytafaecpmffmfgaa
