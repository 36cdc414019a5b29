/- ValidField, FieldSize, FieldAdd, FieldSub, FieldMul: the walks of the program and of the reference. No condition. -/
import Derived.Test.YtafaecpmffmfgaaFldEl
import Derived.Test.YtafaecpmffmfgaaFldAdd
namespace Go.Proofs.Ytafaecpmffmfgaa
open Go.RowKit

theorem rd_lit1 (w : World) (a : Int) (e : TypeId) : Rd (w.alloc (.cells #[.int .i64 a] e)) (.slice (some ⟨w.heap.size, 0, none⟩) 1 1) [a] := by
  refine ⟨_, 1, rfl, by simp, by omega, fun _ => ⟨_, 0, rfl, by simp, fun i hi => ?_⟩⟩
  have hi' : i < 1 := hi
  obtain rfl : i = 0 := by omega
  simp only [World.cell?, heap_alloc_new]
  rfl
theorem rd_lit2 (w : World) (a b : Int) (e : TypeId) : Rd (w.alloc (.cells #[.int .i64 a, .int .i64 b] e)) (.slice (some ⟨w.heap.size, 0, none⟩) 2 2) [a, b] := by
  refine ⟨_, 2, rfl, by simp, by omega, fun _ => ⟨_, 0, rfl, by simp, fun i hi => ?_⟩⟩
  have hi' : i < 2 := hi
  rcases (show i = 0 ∨ i = 1 by omega) with rfl | rfl <;> simp only [World.cell?, heap_alloc_new] <;> rfl
theorem rd_lit1o (w : World) (o : Obj) (a : Int) (e : TypeId) : Rd ((w.alloc o).alloc (.cells #[.int .i64 a] e)) (.slice (some ⟨w.heap.size + 1, 0, none⟩) 1 1) [a] := by
  have h := rd_lit1 (w.alloc o) a e
  rw [show (w.alloc o).heap.size = w.heap.size + 1 from by simp] at h
  exact h
theorem rd_lit2o (w : World) (o : Obj) (a b : Int) (e : TypeId) : Rd ((w.alloc o).alloc (.cells #[.int .i64 a, .int .i64 b] e)) (.slice (some ⟨w.heap.size + 1, 0, none⟩) 2 2) [a, b] := by
  have h := rd_lit2 (w.alloc o) a b e
  rw [show (w.alloc o).heap.size = w.heap.size + 1 from by simp] at h
  exact h
theorem fieldB_cs {P D : Int} {xs : List Int} (h : fieldB P D xs = true) : xs = xs.take D.toNat ++ [1] ∧ (xs.take D.toNat).length = D.toNat ∧ InMod P (xs.take D.toNat) := by
  obtain ⟨h1, h2, h3, h4, h5⟩ := fieldB_ok h
  obtain ⟨a1, a2, a3, a4, _⟩ := okPD_bd h1
  have hl : D.toNat < xs.length := by omega
  refine ⟨?_, by rw [List.length_take]; omega, fun x hx => allIn_mod h4 x (List.mem_of_mem_take hx)⟩
  rw [getD_get _ _ hl] at h3
  conv => lhs; rw [← List.take_append_drop D.toNat xs]
  congr 1
  rw [List.drop_eq_getElem_cons hl, h3, List.drop_of_length_le (by omega)]
theorem elB_t {P D : Int} {xs es : List Int} (h : elB P D xs es = true) : fieldB P D xs = true ∧ ∀ a ∈ es, 0 ≤ a ∧ a < P ^ D.toNat := by
  rw [elB, Bool.and_eq_true] at h
  refine ⟨h.1, fun a ha => ?_⟩
  have := inB_iff.1 (List.all_eq_true.1 h.2 a ha)
  omega
theorem elB_zero (P D : Int) (xs : List Int) (a : Int) : elB P D xs [a, 0] = elB P D xs [a] := by
  unfold elB
  cases hb : fieldB P D xs
  · rfl
  · obtain ⟨_, _, _, _, _, h6, _⟩ := fieldB_q hb
    simp only [List.all_cons, List.all_nil, Bool.and_true, Bool.true_and]
    rw [inB_t (n := 0) (by omega)]; simp
theorem s_ValidField (P D : Int) (v : Value) (xs : List Int) (w : World) (h : Rd w v xs) (hsn : Sane v) (_hn : xs.length ≤ 100000000) (_hD : D ≤ 9223372036854775807) :
    Calls Try.prog 17 #[.agg #[.int .i64 P, .int .i64 D, v]] w fun e w' => e = .returned (.bool (fieldB P D xs)) ∧ Ext w w' := by
  have HRD := Lib.hid h
  have HF := Lib.hid (FldAt.new w P D v 27)
  have HE0 := Lib.hid (ext_alloc w (.cells #[.int .i64 P, .int .i64 D, v] 27))
  clear h
  go_enter Try.func17, Try.ntmps17
  go_wp2_with fail
  refine (s_ok _ P D v xs _ HF.out (HRD.out.ext HE0.out) hsn).mono ?_
  rintro e w1 ⟨rfl, x1⟩
  go_wp2
  go_ret
  exact ⟨rfl, HE0.out.trans x1⟩
theorem s_FieldSize (P D : Int) (v : Value) (xs : List Int) (w : World) (h : Rd w v xs) (hsn : Sane v) (_hn : xs.length ≤ 100000000) (_hD : D ≤ 9223372036854775807) :
    Calls Try.prog 25 #[.agg #[.int .i64 P, .int .i64 D, v]] w fun e w' => e = .returned (.int .i64 (fsize P D xs)) ∧ Ext w w' := by
  have HRD := Lib.hid h
  have HF := Lib.hid (FldAt.new w P D v 27)
  have HE0 := Lib.hid (ext_alloc w (.cells #[.int .i64 P, .int .i64 D, v] 27))
  clear h
  cases hb : fieldB P D xs
  · have G : Hid (fsize P D xs = -1) := Lib.hid (by rw [fsize, hb]; rfl)
    go_enter Try.func25, Try.ntmps25
    go_wp2_with fail
    refine (s_ok _ P D v xs _ HF.out (HRD.out.ext HE0.out) hsn).mono ?_
    rintro e w1 ⟨rfl, x1⟩
    rw [hb]
    go_wp2
    go_ret
    exact ⟨ret_i64 G.out.symm, HE0.out.trans x1⟩
  · obtain ⟨a1, a2, a3, a4, _, _, _⟩ := fieldB_q hb
    obtain ⟨d, rfl⟩ : ∃ d : Nat, D = (d : Int) := ⟨D.toNat, by omega⟩
    have G : Hid (fsize P d xs = P ^ d) := Lib.hid (by rw [fsize, hb]; simp)
    go_enter Try.func25, Try.ntmps25
    go_wp2_with fail
    refine (s_ok _ P d v xs _ HF.out (HRD.out.ext HE0.out) hsn).mono ?_
    rintro e w1 ⟨rfl, x1⟩
    rw [hb]
    go_wp2_with fail
    refine (s_size3 _ P d v _ (HF.out.ext x1) a1 a2 (by omega)).mono ?_
    rintro e w2 ⟨rfl, x2⟩
    go_wp2
    go_ret
    exact ⟨ret_i64 G.out.symm, (HE0.out.trans x1).drawn x2⟩
theorem i_FieldSize (P D : Int) (v : Value) (xs : List Int) (w : World) (h : Rd w v xs) (hn : xs.length ≤ 100000000) (hD : D ≤ 9223372036854775807) :
    Calls Try.prog 26 #[.agg #[.int .i64 P, .int .i64 D, v]] w fun e w' => e = .returned (.int .i64 (fsize P D xs)) ∧ Ext w w' := by
  have HRD := Lib.hid h
  have HF := Lib.hid (FldAt.new w P D v 27)
  have HE0 := Lib.hid (ext_alloc w (.cells #[.int .i64 P, .int .i64 D, v] 27))
  clear h
  cases hb : fieldB P D xs
  · have G : Hid (fsize P D xs = -1) := Lib.hid (by rw [fsize, hb]; rfl)
    go_enter Try.func26, Try.ntmps26
    go_wp2_with fail
    refine (i_ValidField P D v xs _ (HRD.out.ext HE0.out) hn hD).mono ?_
    rintro e w1 ⟨rfl, x1⟩
    rw [hb]
    go_wp2
    go_ret
    exact ⟨ret_i64 G.out.symm, HE0.out.trans x1⟩
  · obtain ⟨a1, a2, a3, a4, _, _, a7⟩ := fieldB_q hb
    have G : Hid (fsize P D xs = P ^ D.toNat) := Lib.hid (by rw [fsize, hb]; rfl)
    have HU := Lib.hid a7
    clear a7
    go_enter Try.func26, Try.ntmps26
    go_wp2_with fail
    refine (i_ValidField P D v xs _ (HRD.out.ext HE0.out) hn hD).mono ?_
    rintro e w1 ⟨rfl, x1⟩
    rw [hb]
    obtain ⟨_, c0, c1, c2⟩ := HF.out.ext x1
    have HE1 := Lib.hid (HE0.out.trans x1)
    clear x1
    go_wp2_with fail
    refine (i_fieldSize P D v _ a1 (by omega) (by omega) hD).mono ?_
    rintro e w2 ⟨rfl, x2⟩
    go_wp2
    go_ret
    exact ⟨ret_i64 (by rw [G.out, HU.out]), HE1.out.trans x2⟩
def outAdd (P D : Int) (xs : List Int) (a b : Int) : Int := if elB P D xs [a, b] then sumN P 1 D.toNat a b else -1
theorem s_FieldAdd (P D : Int) (v : Value) (xs : List Int) (a b : Int) (w : World) (h : Rd w v xs) (hsn : Sane v) (_hn : xs.length ≤ 100000000) (_hD : D ≤ 9223372036854775807) :
    Calls Try.prog 27 #[.agg #[.int .i64 P, .int .i64 D, v], .int .i64 a, .int .i64 b] w fun e w' => e = .returned (.int .i64 (outAdd P D xs a b)) ∧ Ext w w' := by
  have HRD := Lib.hid h
  have HF := Lib.hid (FldAt.new w P D v 27)
  have HE0 := Lib.hid (ext_alloc w (.cells #[.int .i64 P, .int .i64 D, v] 27))
  clear h
  cases hb0 : elB P D xs [a, b]
  · have G : Hid (outAdd P D xs a b = -1) := Lib.hid (by rw [outAdd, hb0]; rfl)
    go_enter Try.func27, Try.ntmps27
    go_wp2_with fail
    refine (s_has _ P D v xs a b _ HF.out (HRD.out.ext HE0.out) hsn).mono ?_
    rintro e w1 ⟨rfl, x1⟩
    rw [hb0]
    go_wp2
    go_ret
    exact ⟨ret_i64 G.out.symm, HE0.out.trans x1⟩
  · obtain ⟨hb, hel⟩ := elB_t hb0
    obtain ⟨a1, a2, a3, a4, a5, _, _⟩ := fieldB_q hb
    obtain ⟨d, rfl⟩ : ∃ d : Nat, D = (d : Int) := ⟨D.toNat, by omega⟩
    have ha := hel a (by simp)
    have hb1 := hel b (by simp)
    have G : Hid (outAdd P (d : Int) xs a b = sumN P 1 d a b) := Lib.hid (by rw [outAdd, hb0]; simp)
    clear hel
    go_enter Try.func27, Try.ntmps27
    go_wp2_with fail
    refine (s_has _ P d v xs a b _ HF.out (HRD.out.ext HE0.out) hsn).mono ?_
    rintro e w1 ⟨rfl, x1⟩
    rw [hb0]
    have HE1 := Lib.hid (HE0.out.trans x1)
    obtain ⟨_, c0, c1, c2⟩ := HF.out.ext x1
    go_wp2_with fail
    refine (s_sum _ P d v a b 1 _ a1 a2 (by omega) (by omega) (HF.out.ext x1) (by omega) (by omega) (by omega) (by omega) (by omega) (by omega)).mono ?_
    rintro e w2 ⟨rfl, x2⟩
    go_wp2
    go_ret
    exact ⟨ret_i64 G.out.symm, HE1.out.trans x2⟩
theorem i_FieldAdd (P D : Int) (v : Value) (xs : List Int) (a b : Int) (w : World) (h : Rd w v xs) (hn : xs.length ≤ 100000000) (hD : D ≤ 9223372036854775807) :
    Calls Try.prog 28 #[.agg #[.int .i64 P, .int .i64 D, v], .int .i64 a, .int .i64 b] w fun e w' => e = .returned (.int .i64 (outAdd P D xs a b)) ∧ Ext w w' := by
  have HRD := Lib.hid h
  have HF := Lib.hid (FldAt.new w P D v 27)
  have HE0 := Lib.hid ((ext_alloc w (.cells #[.int .i64 P, .int .i64 D, v] 27)).trans (ext_alloc _ (.cells #[.int .i64 a, .int .i64 b] 2)))
  clear h
  cases hb0 : elB P D xs [a, b]
  · have G : Hid (outAdd P D xs a b = -1) := Lib.hid (by rw [outAdd, hb0]; rfl)
    go_enter Try.func28, Try.ntmps28
    go_wp2_with fail
    refine (i_are P D v _ xs [a, b] _ ?h1 ?h2 hn hD).mono ?_
    case h1 => exact HRD.out.ext HE0.out
    case h2 => exact rd_lit2o _ _ a b _
    rintro e w1 ⟨rfl, x1⟩
    rw [hb0]
    go_wp2
    go_ret
    exact ⟨ret_i64 G.out.symm, HE0.out.trans x1⟩
  · obtain ⟨hb, hel⟩ := elB_t hb0
    obtain ⟨a1, a2, a3, a4, a5, _, _⟩ := fieldB_q hb
    obtain ⟨d, rfl⟩ : ∃ d : Nat, D = (d : Int) := ⟨D.toNat, by omega⟩
    have ha := hel a (by simp)
    have hb1 := hel b (by simp)
    have G : Hid (outAdd P (d : Int) xs a b = sumN P 1 d a b) := Lib.hid (by rw [outAdd, hb0]; simp)
    clear hel
    go_enter Try.func28, Try.ntmps28
    go_wp2_with fail
    refine (i_are P d v _ xs [a, b] _ ?h1 ?h2 hn hD).mono ?_
    case h1 => exact HRD.out.ext HE0.out
    case h2 => exact rd_lit2o _ _ a b _
    rintro e w1 ⟨rfl, x1⟩
    rw [hb0]
    have HE1 := Lib.hid (HE0.out.trans x1)
    obtain ⟨_, c0, c1, c2⟩ := HF.out.ext ((ext_alloc _ (.cells #[.int .i64 a, .int .i64 b] 2)).trans x1)
    go_wp2_with fail
    refine (i_sum P d v xs a b 1 1 _ a1 a2 (by omega) (by omega) (HRD.out.ext HE1.out) (by omega) (by omega) (by omega) (by omega) (.inl ⟨rfl, rfl⟩)).mono ?_
    rintro e w2 ⟨rfl, x2⟩
    go_wp2
    go_ret
    exact ⟨ret_i64 G.out.symm, HE1.out.trans x2⟩
def outSub (P D : Int) (xs : List Int) (a b : Int) : Int := if elB P D xs [a, b] then sumN P (P - 1) D.toNat a b else -1
theorem s_FieldSub (P D : Int) (v : Value) (xs : List Int) (a b : Int) (w : World) (h : Rd w v xs) (hsn : Sane v) (_hn : xs.length ≤ 100000000) (_hD : D ≤ 9223372036854775807) :
    Calls Try.prog 29 #[.agg #[.int .i64 P, .int .i64 D, v], .int .i64 a, .int .i64 b] w fun e w' => e = .returned (.int .i64 (outSub P D xs a b)) ∧ Ext w w' := by
  have HRD := Lib.hid h
  have HF := Lib.hid (FldAt.new w P D v 27)
  have HE0 := Lib.hid (ext_alloc w (.cells #[.int .i64 P, .int .i64 D, v] 27))
  clear h
  cases hb0 : elB P D xs [a, b]
  · have G : Hid (outSub P D xs a b = -1) := Lib.hid (by rw [outSub, hb0]; rfl)
    go_enter Try.func29, Try.ntmps29
    go_wp2_with fail
    refine (s_has _ P D v xs a b _ HF.out (HRD.out.ext HE0.out) hsn).mono ?_
    rintro e w1 ⟨rfl, x1⟩
    rw [hb0]
    go_wp2
    go_ret
    exact ⟨ret_i64 G.out.symm, HE0.out.trans x1⟩
  · obtain ⟨hb, hel⟩ := elB_t hb0
    obtain ⟨a1, a2, a3, a4, a5, _, _⟩ := fieldB_q hb
    obtain ⟨d, rfl⟩ : ∃ d : Nat, D = (d : Int) := ⟨D.toNat, by omega⟩
    have ha := hel a (by simp)
    have hb1 := hel b (by simp)
    have G : Hid (outSub P (d : Int) xs a b = sumN P (P - 1) d a b) := Lib.hid (by rw [outSub, hb0]; simp)
    clear hel
    go_enter Try.func29, Try.ntmps29
    go_wp2_with fail
    refine (s_has _ P d v xs a b _ HF.out (HRD.out.ext HE0.out) hsn).mono ?_
    rintro e w1 ⟨rfl, x1⟩
    rw [hb0]
    have HE1 := Lib.hid (HE0.out.trans x1)
    obtain ⟨_, c0, c1, c2⟩ := HF.out.ext x1
    go_wp2_with fail
    refine (s_sum _ P d v a b (P - 1) _ a1 a2 (by omega) (by omega) (HF.out.ext x1) (by omega) (by omega) (by omega) (by omega) (by omega) (by omega)).mono ?_
    rintro e w2 ⟨rfl, x2⟩
    go_wp2
    go_ret
    exact ⟨ret_i64 G.out.symm, HE1.out.trans x2⟩
theorem i_FieldSub (P D : Int) (v : Value) (xs : List Int) (a b : Int) (w : World) (h : Rd w v xs) (hn : xs.length ≤ 100000000) (hD : D ≤ 9223372036854775807) :
    Calls Try.prog 30 #[.agg #[.int .i64 P, .int .i64 D, v], .int .i64 a, .int .i64 b] w fun e w' => e = .returned (.int .i64 (outSub P D xs a b)) ∧ Ext w w' := by
  have HRD := Lib.hid h
  have HF := Lib.hid (FldAt.new w P D v 27)
  have HE0 := Lib.hid ((ext_alloc w (.cells #[.int .i64 P, .int .i64 D, v] 27)).trans (ext_alloc _ (.cells #[.int .i64 a, .int .i64 b] 2)))
  clear h
  cases hb0 : elB P D xs [a, b]
  · have G : Hid (outSub P D xs a b = -1) := Lib.hid (by rw [outSub, hb0]; rfl)
    go_enter Try.func30, Try.ntmps30
    go_wp2_with fail
    refine (i_are P D v _ xs [a, b] _ ?h1 ?h2 hn hD).mono ?_
    case h1 => exact HRD.out.ext HE0.out
    case h2 => exact rd_lit2o _ _ a b _
    rintro e w1 ⟨rfl, x1⟩
    rw [hb0]
    go_wp2
    go_ret
    exact ⟨ret_i64 G.out.symm, HE0.out.trans x1⟩
  · obtain ⟨hb, hel⟩ := elB_t hb0
    obtain ⟨a1, a2, a3, a4, a5, _, _⟩ := fieldB_q hb
    obtain ⟨d, rfl⟩ : ∃ d : Nat, D = (d : Int) := ⟨D.toNat, by omega⟩
    have ha := hel a (by simp)
    have hb1 := hel b (by simp)
    have G : Hid (outSub P (d : Int) xs a b = sumN P (P - 1) d a b) := Lib.hid (by rw [outSub, hb0]; simp)
    clear hel
    go_enter Try.func30, Try.ntmps30
    go_wp2_with fail
    refine (i_are P d v _ xs [a, b] _ ?h1 ?h2 hn hD).mono ?_
    case h1 => exact HRD.out.ext HE0.out
    case h2 => exact rd_lit2o _ _ a b _
    rintro e w1 ⟨rfl, x1⟩
    rw [hb0]
    have HE1 := Lib.hid (HE0.out.trans x1)
    obtain ⟨_, c0, c1, c2⟩ := HF.out.ext ((ext_alloc _ (.cells #[.int .i64 a, .int .i64 b] 2)).trans x1)
    go_wp2_with fail
    refine (i_sum P d v xs a b (P - 1) (-1) _ a1 a2 (by omega) (by omega) (HRD.out.ext HE1.out) (by omega) (by omega) (by omega) (by omega) (.inr ⟨rfl, rfl⟩)).mono ?_
    rintro e w2 ⟨rfl, x2⟩
    go_wp2
    go_ret
    exact ⟨ret_i64 G.out.symm, HE1.out.trans x2⟩
def outMul (P D : Int) (xs : List Int) (a b : Int) : Int := if elB P D xs [a, b] then mulN P (xs.take D.toNat) a b else -1
theorem s_FieldMul (P D : Int) (v : Value) (xs : List Int) (a b : Int) (w : World) (h : Rd w v xs) (hsn : Sane v) (_hn : xs.length ≤ 100000000) (_hD : D ≤ 9223372036854775807) :
    Calls Try.prog 31 #[.agg #[.int .i64 P, .int .i64 D, v], .int .i64 a, .int .i64 b] w fun e w' => e = .returned (.int .i64 (outMul P D xs a b)) ∧ Ext w w' := by
  have HRD := Lib.hid h
  have HF := Lib.hid (FldAt.new w P D v 27)
  have HE0 := Lib.hid (ext_alloc w (.cells #[.int .i64 P, .int .i64 D, v] 27))
  clear h
  cases hb0 : elB P D xs [a, b]
  · have G : Hid (outMul P D xs a b = -1) := Lib.hid (by rw [outMul, hb0]; rfl)
    go_enter Try.func31, Try.ntmps31
    go_wp2_with fail
    refine (s_has _ P D v xs a b _ HF.out (HRD.out.ext HE0.out) hsn).mono ?_
    rintro e w1 ⟨rfl, x1⟩
    rw [hb0]
    go_wp2
    go_ret
    exact ⟨ret_i64 G.out.symm, HE0.out.trans x1⟩
  · obtain ⟨hb, hel⟩ := elB_t hb0
    obtain ⟨a1, a2, a3, a4, a5, _, _⟩ := fieldB_q hb
    obtain ⟨d, rfl⟩ : ∃ d : Nat, D = (d : Int) := ⟨D.toNat, by omega⟩
    have ha := hel a (by simp)
    have hb1 := hel b (by simp)
    have G : Hid (outMul P (d : Int) xs a b = mulN P (xs.take d) a b) := Lib.hid (by rw [outMul, hb0]; simp)
    have HCS := Lib.hid (fieldB_cs hb)
    rw [Int.toNat_natCast] at HCS
    clear hel
    go_enter Try.func31, Try.ntmps31
    go_wp2_with fail
    refine (s_has _ P d v xs a b _ HF.out (HRD.out.ext HE0.out) hsn).mono ?_
    rintro e w1 ⟨rfl, x1⟩
    rw [hb0]
    have HE1 := Lib.hid (HE0.out.trans x1)
    obtain ⟨_, c0, c1, c2⟩ := HF.out.ext x1
    go_wp2_with fail
    refine (s_mul _ P d v (xs.take d) a b _ ⟨a1, a2, by omega, by omega, HCS.out.2.1, HCS.out.2.2⟩ (HF.out.ext x1) (by rw [← HCS.out.1]; exact HRD.out.ext HE1.out) (by omega) (by omega) (by omega) (by omega)).mono ?_
    rintro e w2 ⟨rfl, x2⟩
    go_wp2
    go_ret
    exact ⟨ret_i64 G.out.symm, HE1.out.trans x2⟩
theorem i_FieldMul (P D : Int) (v : Value) (xs : List Int) (a b : Int) (w : World) (h : Rd w v xs) (hn : xs.length ≤ 100000000) (hD : D ≤ 9223372036854775807) :
    Calls Try.prog 32 #[.agg #[.int .i64 P, .int .i64 D, v], .int .i64 a, .int .i64 b] w fun e w' => e = .returned (.int .i64 (outMul P D xs a b)) ∧ Ext w w' := by
  have HRD := Lib.hid h
  have HF := Lib.hid (FldAt.new w P D v 27)
  have HE0 := Lib.hid ((ext_alloc w (.cells #[.int .i64 P, .int .i64 D, v] 27)).trans (ext_alloc _ (.cells #[.int .i64 a, .int .i64 b] 2)))
  clear h
  cases hb0 : elB P D xs [a, b]
  · have G : Hid (outMul P D xs a b = -1) := Lib.hid (by rw [outMul, hb0]; rfl)
    go_enter Try.func32, Try.ntmps32
    go_wp2_with fail
    refine (i_are P D v _ xs [a, b] _ ?h1 ?h2 hn hD).mono ?_
    case h1 => exact HRD.out.ext HE0.out
    case h2 => exact rd_lit2o _ _ a b _
    rintro e w1 ⟨rfl, x1⟩
    rw [hb0]
    go_wp2
    go_ret
    exact ⟨ret_i64 G.out.symm, HE0.out.trans x1⟩
  · obtain ⟨hb, hel⟩ := elB_t hb0
    obtain ⟨a1, a2, a3, a4, a5, _, _⟩ := fieldB_q hb
    obtain ⟨d, rfl⟩ : ∃ d : Nat, D = (d : Int) := ⟨D.toNat, by omega⟩
    have ha := hel a (by simp)
    have hb1 := hel b (by simp)
    have G : Hid (outMul P (d : Int) xs a b = mulN P (xs.take d) a b) := Lib.hid (by rw [outMul, hb0]; simp)
    have HCS := Lib.hid (fieldB_cs hb)
    rw [Int.toNat_natCast] at HCS
    clear hel
    go_enter Try.func32, Try.ntmps32
    go_wp2_with fail
    refine (i_are P d v _ xs [a, b] _ ?h1 ?h2 hn hD).mono ?_
    case h1 => exact HRD.out.ext HE0.out
    case h2 => exact rd_lit2o _ _ a b _
    rintro e w1 ⟨rfl, x1⟩
    rw [hb0]
    have HE1 := Lib.hid (HE0.out.trans x1)
    obtain ⟨_, c0, c1, c2⟩ := HF.out.ext ((ext_alloc _ (.cells #[.int .i64 a, .int .i64 b] 2)).trans x1)
    go_wp2_with fail
    refine (i_mul P d v (xs.take d) a b _ ⟨a1, a2, by omega, by omega, HCS.out.2.1, HCS.out.2.2⟩ (by rw [← HCS.out.1]; exact HRD.out.ext HE1.out) (by omega) (by omega) (by omega) (by omega)).mono ?_
    rintro e w2 ⟨rfl, x2⟩
    go_wp2
    go_ret
    exact ⟨ret_i64 G.out.symm, HE1.out.trans x2⟩
end Go.Proofs.Ytafaecpmffmfgaa
