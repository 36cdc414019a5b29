/- MakeField: the walks of the program and of the reference. No condition. -/
import Derived.Test.YtafaecpmffmfgaaFldLaw
namespace Go.Proofs.Ytafaecpmffmfgaa
open Go.RowKit

def mkB (p : Int) (D k : Nat) : Bool := irrB p (digL p D (k : Int) ++ [1])
def mkF (p : Int) (D : Nat) : Nat → Nat → Nat
  | 0, n => n
  | f + 1, n => if mkB p D n then n else mkF p D f (n + 1)
theorem mkF_spec (p : Int) (D k : Nat) (hk : mkB p D k = true) : ∀ f n, n ≤ k → k < n + f → mkB p D (mkF p D f n) = true ∧ mkF p D f n ≤ k ∧ ∀ i, n ≤ i → i < mkF p D f n → mkB p D i = false
  | 0, n, h1, h2 => by omega
  | f + 1, n, h1, h2 => by
    unfold mkF
    cases hb : mkB p D n
    · have hne : n ≠ k := by rintro rfl; rw [hk] at hb; cases hb
      obtain ⟨h3, h4, h5⟩ := mkF_spec p D k hk f (n + 1) (by omega) (by omega)
      simp only [Bool.false_eq_true, if_false]
      refine ⟨h3, h4, fun i h6 h7 => ?_⟩
      by_cases e : i = n
      · subst e; exact hb
      · exact h5 i (by omega) h7
    · simp only [if_true]
      exact ⟨hb, h1, fun i h6 h7 => by omega⟩
def mkN (p : Int) (D : Nat) : Nat := mkF p D 64 0
theorem mk_list : mkB 2 2 3 = true ∧ mkB 3 2 1 = true ∧ mkB 2 3 3 = true ∧ mkB 5 2 2 = true ∧ mkB 2 4 3 = true ∧ mkB 3 3 7 = true ∧ mkB 2 5 5 = true ∧ mkB 7 2 1 = true ∧ mkB 2 6 3 = true := by decide +kernel
theorem mk_one_all : (List.range 63).all (fun n => mkB ((n : Int) + 2) 1 0) = true := by decide +kernel
theorem mk_split_all : (List.range 63).all (fun n => let s := splitOut ((n : Int) + 2); s.1 == 0 || (inB s.1 2 64 && inB s.2 1 6 && decide (s.1 ^ s.2.toNat = (n : Int) + 2) && (s.2 == 1 || [((2 : Int), (2 : Int)), (3, 2), (2, 3), (5, 2), (2, 4), (3, 3), (2, 5), (7, 2), (2, 6)].contains s))) = true := by decide +kernel
theorem mk_find {q : Int} (h : inB q 2 64 = true) (h0 : (splitOut q).1 ≠ 0) : ∃ (P : Int) (D M : Nat), splitOut q = (P, (D : Int)) ∧ 2 ≤ P ∧ P ≤ 64 ∧ 1 ≤ D ∧ D ≤ 6 ∧ P ^ D ≤ 64 ∧ M = mkN P D ∧ M ≤ 63 ∧ mkB P D M = true ∧ ∀ i, i < M → mkB P D i = false := by
  obtain ⟨q1, q2⟩ := inB_iff.1 h
  have hh := (List.all_eq_true.1 mk_split_all) (q - 2).toNat (by rw [List.mem_range]; omega)
  simp only [show (((q - 2).toNat : Nat) : Int) + 2 = q from by omega] at hh
  rw [Bool.or_eq_true, beq_iff_eq] at hh
  rcases hh with hh | hh
  · exact absurd hh h0
  · simp only [Bool.and_eq_true, decide_eq_true_eq] at hh
    obtain ⟨⟨⟨h1, h2⟩, h3⟩, h4⟩ := hh
    obtain ⟨a1, a2⟩ := inB_iff.1 h1
    obtain ⟨b1, b2⟩ := inB_iff.1 h2
    obtain ⟨P, hP⟩ : ∃ P, P = (splitOut q).1 := ⟨_, rfl⟩
    obtain ⟨D, hD⟩ : ∃ D : Nat, (D : Int) = (splitOut q).2 := ⟨(splitOut q).2.toNat, by omega⟩
    have hs : splitOut q = (P, (D : Int)) := by rw [hP, hD]
    rw [hs] at a1 a2 b1 b2 h3 h4
    simp only [Int.toNat_natCast] at a1 a2 b1 b2 h3 h4
    have key : ∃ k, k ≤ 63 ∧ mkB P D k = true := by
      rw [Bool.or_eq_true, beq_iff_eq, List.contains_iff_mem] at h4
      rcases h4 with h4 | h4
      · obtain rfl : D = 1 := by omega
        have h5 := (List.all_eq_true.1 mk_one_all) (P - 2).toNat (by rw [List.mem_range]; omega)
        rw [show (((P - 2).toNat : Nat) : Int) + 2 = P from by omega] at h5
        exact ⟨0, by omega, h5⟩
      · obtain ⟨m1, m2, m3, m4, m5, m6, m7, m8, m9⟩ := mk_list
        simp only [List.mem_cons, List.not_mem_nil, or_false, Prod.mk.injEq] at h4
        rcases h4 with ⟨rfl, h⟩ | ⟨rfl, h⟩ | ⟨rfl, h⟩ | ⟨rfl, h⟩ | ⟨rfl, h⟩ | ⟨rfl, h⟩ | ⟨rfl, h⟩ | ⟨rfl, h⟩ | ⟨rfl, h⟩
        · obtain rfl : D = 2 := by omega
          exact ⟨_, by omega, m1⟩
        · obtain rfl : D = 2 := by omega
          exact ⟨_, by omega, m2⟩
        · obtain rfl : D = 3 := by omega
          exact ⟨_, by omega, m3⟩
        · obtain rfl : D = 2 := by omega
          exact ⟨_, by omega, m4⟩
        · obtain rfl : D = 4 := by omega
          exact ⟨_, by omega, m5⟩
        · obtain rfl : D = 3 := by omega
          exact ⟨_, by omega, m6⟩
        · obtain rfl : D = 5 := by omega
          exact ⟨_, by omega, m7⟩
        · obtain rfl : D = 2 := by omega
          exact ⟨_, by omega, m8⟩
        · obtain rfl : D = 6 := by omega
          exact ⟨_, by omega, m9⟩
    obtain ⟨k, k1, k2⟩ := key
    obtain ⟨c1, c2, c3⟩ := mkF_spec P D k k2 64 0 (by omega) (by omega)
    exact ⟨P, D, mkN P D, hs, by omega, by omega, by omega, by omega, by omega, rfl, by unfold mkN; omega, c1, fun i hi => c3 i (by omega) hi⟩
theorem mk_zero_all : (List.range 63).all (fun n => !((splitOut ((n : Int) + 2)).1 == 0) || decide (splitOut ((n : Int) + 2) = (0, 0))) = true := by decide +kernel
theorem mk_zero {q : Int} (h : inB q 2 64 = true) (h0 : (splitOut q).1 = 0) : splitOut q = (0, 0) := by
  obtain ⟨q1, q2⟩ := inB_iff.1 h
  have hh := (List.all_eq_true.1 mk_zero_all) (q - 2).toNat (by rw [List.mem_range]; omega)
  rw [show (((q - 2).toNat : Nat) : Int) + 2 = q from by omega, h0] at hh
  simpa using hh
def mkP (q : Int) : Int := (splitOut q).1
def mkD (q : Int) : Int := (splitOut q).2
def mkL (q : Int) : List Int := if (splitOut q).1 = 0 then [] else digL (splitOut q).1 (splitOut q).2.toNat (mkN (splitOut q).1 (splitOut q).2.toNat : Nat) ++ [1]
def mkC (q : Int) : Int := if (splitOut q).1 = 0 then 2 else 0
theorem pp_small {q : Int} (h : q < 2) : ppOut q = (0, 0) := by
  have : facs q = [] := by
    by_cases h1 : 1 ≤ q
    · obtain rfl : q = 1 := by omega
      rw [facMid_end (facMid_start (n := 1) (by omega)) (by omega)]; rfl
    · unfold facs; rw [if_neg (by omega)]
  unfold ppOut; rw [this]; rfl
theorem split_off {q : Int} (h : inB q 2 64 = false) : splitOut q = (0, 0) := by rw [splitOut, h]; rfl
/-- The call hands back a field whose list is new, and a code. -/
def RetFldI (w : World) (P D : Int) (xs : List Int) (c : Int) (e : Ending) (w' : World) : Prop := ∃ v, e = .returned (.tuple #[.agg #[.int .i64 P, .int .i64 D, v], .int .i64 c]) ∧ Own w' w.heap.size v xs ∧ Ext w w'
theorem mk_ext {w w1 : World} (h : Ext w w1) (a b c : Value) : Ext w (((w1.setCell ⟨w.heap.size, 0, none⟩ a).setCell ⟨w.heap.size, 1, none⟩ b).setCell ⟨w.heap.size, 2, none⟩ c) :=
  ((h.setCell (by simp) _).setCell (by simp) _).setCell (by simp) _
theorem mk_own {w w1 : World} {lo : Nat} {v : Value} {xs : List Int} (h : Own w1 lo v xs) (hl : w.heap.size < lo) (a b c : Value) : Own (((w1.setCell ⟨w.heap.size, 0, none⟩ a).setCell ⟨w.heap.size, 1, none⟩ b).setCell ⟨w.heap.size, 2, none⟩ c) w.heap.size v xs :=
  OwnV.mono (ownsRow_setCell_below (ownsRow_setCell_below (ownsRow_setCell_below (by simpa [Own, OwnV] using h) (a := ⟨w.heap.size, 0, none⟩) (by simpa using hl) _) (a := ⟨w.heap.size, 1, none⟩) (by simpa using hl) _) (a := ⟨w.heap.size, 2, none⟩) (by simpa using hl) _) (by omega)
theorem slice_form {e : TypeId} {w : World} {lo : Nat} {v : Value} {ys : List Value} (h : OwnV e w lo v ys) : ∃ A n c, v = .slice A n c := by
  obtain ⟨A, c, h, _⟩ := h.form
  exact ⟨A, _, c, h⟩
theorem i_mkOff (q : Int) (w : World) (h : (ppOut q).1 = 0 ∨ 64 < q) : Calls Try.prog 22 #[.int .i64 q] w (RetFldI w 0 0 [] 2) := by
  obtain ⟨P, HP⟩ : ∃ P, Hid (P = (ppOut q).1) := ⟨_, Lib.hid rfl⟩
  rw [← HP.out] at h
  by_cases hP : P = 0
  · have hp : (P == 0) = true := by simp [hP]
    clear hP h
    go_enter Try.func22, Try.ntmps22
    go_wp2_with (go_at_call 60; refine (i_PrimePower _ _).mono ?_; rintro e w1 ⟨rfl, hext⟩; rw [← HP.out]; have c0 : w1.cell? ⟨w.heap.size, 0, none⟩ = some (.int .i64 0) := (hext.cell (by simp)).trans (by go_simp); have c1 : w1.cell? ⟨w.heap.size, 1, none⟩ = some (.int .i64 0) := (hext.cell (by simp)).trans (by go_simp); have c2 : w1.cell? ⟨w.heap.size, 2, none⟩ = some (.slice none 0 0) := (hext.cell (by simp)).trans (by go_simp); have f0 := hext.frozen (p := ⟨w.heap.size, 0, none⟩) (by simp); have f1 := hext.frozen (p := ⟨w.heap.size, 1, none⟩) (by simp); have f2 := hext.frozen (p := ⟨w.heap.size, 2, none⟩) (by simp); have HX := Lib.hid ((ext_alloc _ _).trans hext); clear hext)
    go_wp2
    refine bodyPost_ret (v := .tuple #[.agg #[.int .i64 0, .int .i64 0, .slice none 0 0], .int .i64 2]) (by simp [results, Try.results22, go_sem, c0, c1, c2]) rfl ⟨_, rfl, ?_, mk_ext HX.out _ _ _⟩

    exact OwnV.nil _ _ _
  · have hp : (P == 0) = false := by simp [hP]
    have hq : 64 < q := by omega
    clear hP h
    go_enter Try.func22, Try.ntmps22
    go_wp2_with (go_at_call 60; refine (i_PrimePower _ _).mono ?_; rintro e w1 ⟨rfl, hext⟩; rw [← HP.out]; have c0 : w1.cell? ⟨w.heap.size, 0, none⟩ = some (.int .i64 0) := (hext.cell (by simp)).trans (by go_simp); have c1 : w1.cell? ⟨w.heap.size, 1, none⟩ = some (.int .i64 0) := (hext.cell (by simp)).trans (by go_simp); have c2 : w1.cell? ⟨w.heap.size, 2, none⟩ = some (.slice none 0 0) := (hext.cell (by simp)).trans (by go_simp); have f0 := hext.frozen (p := ⟨w.heap.size, 0, none⟩) (by simp); have f1 := hext.frozen (p := ⟨w.heap.size, 1, none⟩) (by simp); have f2 := hext.frozen (p := ⟨w.heap.size, 2, none⟩) (by simp); have HX := Lib.hid ((ext_alloc _ _).trans hext); clear hext)
    go_wp2
    refine bodyPost_ret (v := .tuple #[.agg #[.int .i64 0, .int .i64 0, .slice none 0 0], .int .i64 2]) (by simp [results, Try.results22, go_sem, c0, c1, c2]) rfl ⟨_, rfl, ?_, mk_ext HX.out _ _ _⟩

    exact OwnV.nil _ _ _
set_option maxRecDepth 100000 in
theorem i_mkIn (q P : Int) (D M : Nat) (w : World) (hs : ppOut q = (P, (D : Int))) (h2 : 2 ≤ P) (h64 : P ≤ 64) (d1 : 1 ≤ D) (d6 : D ≤ 6) (hpow : P ^ D ≤ 64) (hq : q ≤ 64) (hM : M ≤ 63) (hm : mkB P D M = true) (hlow : ∀ i, i < M → mkB P D i = false) :
    Calls Try.prog 22 #[.int .i64 q] w (RetFldI w P D (digL P D M ++ [1]) 0) := by
  have HP : Hid (P = (ppOut q).1) := Lib.hid (by rw [hs])
  have HD : Hid ((D : Int) = (ppOut q).2) := Lib.hid (by rw [hs])
  have hp : (P == 0) = false := by simp; omega
  have HM := Lib.hid hm
  have HL := Lib.hid hlow
  have HPW := Lib.hid hpow
  clear hs hm hlow hpow
  go_enter Try.func22, Try.ntmps22
  go_wp2_with (go_at_call 60; refine (i_PrimePower _ _).mono ?_; rintro e w1 ⟨rfl, hext⟩; rw [← HP.out, ← HD.out]; have c0 : w1.cell? ⟨w.heap.size, 0, none⟩ = some (.int .i64 0) := (hext.cell (by simp)).trans (by go_simp); have c1 : w1.cell? ⟨w.heap.size, 1, none⟩ = some (.int .i64 0) := (hext.cell (by simp)).trans (by go_simp); have c2 : w1.cell? ⟨w.heap.size, 2, none⟩ = some (.slice none 0 0) := (hext.cell (by simp)).trans (by go_simp); have f0 := hext.frozen (p := ⟨w.heap.size, 0, none⟩) (by simp); have f1 := hext.frozen (p := ⟨w.heap.size, 1, none⟩) (by simp); have f2 := hext.frozen (p := ⟨w.heap.size, 2, none⟩) (by simp); have HX := Lib.hid ((ext_alloc _ _).trans hext); have HSZ : Hid (w.heap.size < w1.heap.size) := Lib.hid (Nat.lt_of_lt_of_le (by simp) hext.size); clear hext)
  go_loopw [6] (fun n wr => ∃ k : Nat, k ≤ M ∧ n = .int .i64 k ∧ Hid (Ext w1 wr)) (fun n _ => M - (intOf n).toNat)
  case atStart => exact ⟨0, by omega, rfl, Lib.hid (Ext.refl _)⟩
  case round =>
    obtain ⟨k, hk, rfl, hext⟩ := hrel
    have hkk : (k : Int) ≤ 63 := by omega
    have hirr : irrB P (digL P D (k : Int) ++ [1]) = mkB P D k := rfl
    go_wp2_with fail
    refine (i_digits (k : Int) P D _ h2 h64 (by omega) (by omega) (by omega)).mono ?_
    rintro e w2 ⟨v1, rfl, hown1, hext1⟩
    have hz1 := hext1.size
    have hlen1 : (digL P D (k : Int)).length ≤ 20 := by rw [digL_len]; omega
    go_wp2_with (at_builtin; refine wp_app1 _ rfl _ _ rfl _ _ (digL P D (k : Int)) rfl hown1 1 rfl (by omega) hz1 ?_; intro v2 w3 hown2 hgr2)
    have HE2 : Hid (Ext w1 w3) := Lib.hid (hext.out.trans (ext_app (e := 2) hext1 hown1 hgr2))
    have HO2 : Hid (Own w3 w1.heap.size v2 (digL P D (k : Int) ++ [1])) := Lib.hid (hown2.mono hext.out.size)
    clear hown1 hext1 hown2 hgr2 hz1 hlen1 hext
    refine (i_irr _ (digL P D (k : Int) ++ [1]) P _ HO2.out.rd h2 h64 (digL_snoc_mod h2 _ _) (by rw [List.length_append, digL_len]; simp; omega) (by rw [List.length_append, digL_len]; simp; omega) (by rw [List.length_append, digL_len]; simpa using HPW.out)).mono ?_
    rintro e w4 ⟨rfl, hext4⟩
    rw [hirr]
    have HE4 : Hid (Ext w1 w4) := Lib.hid (HE2.out.trans hext4)
    cases hb : mkB P D k
    · have hkM : k < M := by
        by_cases e : k = M
        · subst e; rw [HM.out] at hb; cases hb
        · omega
      clear hext4 hirr
      go_wp2
      exact ⟨⟨k + 1, by omega, by go_num, HE4⟩, by simp only [intOf]; omega⟩
    · obtain rfl : k = M := by
        by_cases e : k = M
        · exact e
        · have := HL.out k (by omega); rw [this] at hb; cases hb
      have HO4 : Hid (Own w4 w1.heap.size v2 (digL P D (k : Int) ++ [1])) := Lib.hid (HO2.out.ext hext4)
      clear hext4 hirr
      go_wp2_with fail
      refine (i_digits (k : Int) P D _ h2 h64 (by omega) (by omega) (by omega)).mono ?_
      rintro e w5 ⟨v1, rfl, hown1, hext1⟩
      have hz1 := hext1.size
      have hlen1 : (digL P D (k : Int)).length ≤ 20 := by rw [digL_len]; omega
      go_wp2_with (at_builtin; refine wp_app1 _ rfl _ _ rfl _ _ (digL P D (k : Int)) rfl hown1 1 rfl (by omega) hz1 ?_; intro v3 w6 hown2 hgr2; have HE6 : Hid (Ext w1 w6) := Lib.hid (HE4.out.trans (ext_app (e := 2) hext1 hown1 hgr2)); have HO6 : Hid (Own w6 w1.heap.size v3 (digL P D (k : Int) ++ [1])) := Lib.hid (hown2.mono HE4.out.size); have d0 := (HE6.out.cell (p := ⟨w.heap.size, 0, none⟩) HSZ.out).trans c0; have d1 := (HE6.out.cell (p := ⟨w.heap.size, 1, none⟩) HSZ.out).trans c1; have d2 := (HE6.out.cell (p := ⟨w.heap.size, 2, none⟩) HSZ.out).trans c2; have e0 := (HE6.out.frozen (p := ⟨w.heap.size, 0, none⟩) HSZ.out).trans f0; have e1 := (HE6.out.frozen (p := ⟨w.heap.size, 1, none⟩) HSZ.out).trans f1; have e2 := (HE6.out.frozen (p := ⟨w.heap.size, 2, none⟩) HSZ.out).trans f2; clear c0 c1 c2 f0 f1 f2; clear hown1 hext1 hown2 hgr2 hz1 hlen1; obtain ⟨A3, n3, c3, hv3⟩ := slice_form HO6.out; subst hv3)
      go_wp2
      refine bodyPost_ret (v := .tuple #[.agg #[.int .i64 P, .int .i64 D, .slice A3 n3 c3], .int .i64 0]) (by simp [results, Try.results22, go_sem, d0, d1, d2]) rfl ⟨_, rfl, mk_own HO6.out HSZ.out _ _ _, mk_ext (HX.out.trans HE6.out) _ _ _⟩
theorem mk_pp {q : Int} (h : inB q 2 64 = true) : ppOut q = splitOut q := by
  obtain ⟨h1, h2⟩ := inB_iff.1 h
  exact (split_pp h1 h2).symm
theorem i_MakeField (q : Int) (w : World) : Calls Try.prog 22 #[.int .i64 q] w (RetFldI w (mkP q) (mkD q) (mkL q) (mkC q)) := by
  have hoff : (ppOut q).1 = 0 ∨ 64 < q → splitOut q = (0, 0) → Calls Try.prog 22 #[.int .i64 q] w (RetFldI w (mkP q) (mkD q) (mkL q) (mkC q)) := by
    intro h1 h2
    have := i_mkOff q w h1
    unfold mkP mkD mkL mkC
    rw [h2]
    exact this
  cases hb : inB q 2 64
  · refine hoff ?_ (split_off hb)
    by_cases h : 64 < q
    · exact .inr h
    · left
      by_cases h2 : q < 2
      · rw [pp_small h2]
      · have := inB_t (n := q) (lo := 2) (hi := 64) ⟨by omega, by omega⟩
        rw [hb] at this; cases this
  · by_cases h0 : (splitOut q).1 = 0
    · refine hoff (.inl (by rw [mk_pp hb]; exact h0)) ?_
      have h1 := mk_zero hb h0
      exact h1
    · obtain ⟨P, D, M, h1, h2, h3, h4, h5, h6, h7, h8, h9, h10⟩ := mk_find hb h0
      have key := i_mkIn q P D M w (by rw [mk_pp hb, h1]) h2 h3 h4 h5 h6 (inB_iff.1 hb).2 h8 h9 h10
      unfold mkP mkD mkL mkC
      rw [if_neg h0, if_neg h0, h1]
      simp only [Int.toNat_natCast]
      rw [← h7]
      exact key
theorem s_splitE (n : Int) (w : World) : Calls Try.prog 58 #[.int .i64 n] w fun e w' => e = .returned (.tuple #[.int .i64 (splitOut n).1, .int .i64 (splitOut n).2]) ∧ Ext w w' :=
  (s_l03Split n w).mono fun _ _ ⟨he, hw⟩ => ⟨he, by rw [hw]; exact Ext.refl _⟩
set_option maxRecDepth 100000 in
theorem s_mkIn (q P : Int) (D M : Nat) (w : World) (hs : splitOut q = (P, (D : Int))) (h2 : 2 ≤ P) (h64 : P ≤ 64) (d1 : 1 ≤ D) (d6 : D ≤ 6) (hpow : P ^ D ≤ 64) (hM : M ≤ 63) (hm : mkB P D M = true) (hlow : ∀ i, i < M → mkB P D i = false) :
    Calls Try.prog 59 #[.int .i64 q] w (RetFld w P D (digL P D M ++ [1])) := by
  have HP : Hid (P = (splitOut q).1) := Lib.hid (by rw [hs])
  have HD : Hid ((D : Int) = (splitOut q).2) := Lib.hid (by rw [hs])
  have HM := Lib.hid hm
  have HL := Lib.hid hlow
  have HPW := Lib.hid hpow
  clear hs hm hlow hpow
  go_enter Try.func59, Try.ntmps59
  go_wp2_with (go_at_call 58; refine (s_splitE _ _).mono ?_; rintro e w1 ⟨rfl, hext⟩; rw [← HP.out, ← HD.out]; have c0 : w1.cell? ⟨w.heap.size, 0, none⟩ = some (.int .i64 0) := (hext.cell (by simp)).trans (by go_simp); have c1 : w1.cell? ⟨w.heap.size, 1, none⟩ = some (.int .i64 0) := (hext.cell (by simp)).trans (by go_simp); have c2 : w1.cell? ⟨w.heap.size, 2, none⟩ = some (.slice none 0 0) := (hext.cell (by simp)).trans (by go_simp); have f0 := hext.frozen (p := ⟨w.heap.size, 0, none⟩) (by simp); have f1 := hext.frozen (p := ⟨w.heap.size, 1, none⟩) (by simp); have f2 := hext.frozen (p := ⟨w.heap.size, 2, none⟩) (by simp); have HX := Lib.hid ((ext_alloc _ _).trans hext); have HSZ : Hid (w.heap.size < w1.heap.size) := Lib.hid (Nat.lt_of_lt_of_le (by simp) hext.size); clear hext)
  go_loopw [5] (fun n wr => ∃ k : Nat, k ≤ M ∧ n = .int .i64 k ∧ Hid (Ext w1 wr)) (fun n _ => M - (intOf n).toNat)
  case atStart => exact ⟨0, by omega, rfl, Lib.hid (Ext.refl _)⟩
  case round =>
    obtain ⟨k, hk, rfl, hext⟩ := hrel
    have hkk : (k : Int) ≤ 63 := by omega
    have hirr : irrB P (digL P D (k : Int) ++ [1]) = mkB P D k := rfl
    go_wp2_with fail
    refine (s_digits (k : Int) P D _ h2 h64 (by omega) (by omega) (by omega)).mono ?_
    rintro e w2 ⟨v1, rfl, hown1, hext1⟩
    have hz1 := hext1.size
    have hlen1 : (digL P D (k : Int)).length ≤ 20 := by rw [digL_len]; omega
    go_wp2_with (at_builtin; refine wp_app1 _ rfl _ _ rfl _ _ (digL P D (k : Int)) rfl hown1 1 rfl (by omega) hz1 ?_; intro v2 w3 hown2 hgr2)
    have HE2 : Hid (Ext w1 w3) := Lib.hid (hext.out.trans (ext_app (e := 2) hext1 hown1 hgr2))
    have HO2 : Hid (Own w3 w1.heap.size v2 (digL P D (k : Int) ++ [1])) := Lib.hid (hown2.mono hext.out.size)
    clear hown1 hext1 hown2 hgr2 hz1 hlen1 hext
    refine (s_irr _ (digL P D (k : Int) ++ [1]) P _ HO2.out.rd HO2.out.sane h2 h64 (digL_snoc_mod h2 _ _) (by rw [List.length_append, digL_len]; simp; omega) (by rw [List.length_append, digL_len]; simp; omega) (by rw [List.length_append, digL_len]; simpa using HPW.out)).mono ?_
    rintro e w4 ⟨rfl, hext4⟩
    rw [hirr]
    have HE4 : Hid (Ext w1 w4) := Lib.hid (HE2.out.trans hext4)
    cases hb : mkB P D k
    · have hkM : k < M := by
        by_cases e : k = M
        · subst e; rw [HM.out] at hb; cases hb
        · omega
      clear hext4 hirr
      go_wp2
      exact ⟨⟨k + 1, by omega, by go_num, HE4⟩, by simp only [intOf]; omega⟩
    · obtain rfl : k = M := by
        by_cases e : k = M
        · exact e
        · have := HL.out k (by omega); rw [this] at hb; cases hb
      have HO4 : Hid (Own w4 w1.heap.size v2 (digL P D (k : Int) ++ [1])) := Lib.hid (HO2.out.ext hext4)
      clear hext4 hirr
      obtain ⟨A3, n3, c3, hv3⟩ := slice_form HO4.out
      subst hv3
      have HE6 := HE4
      have d0 := (HE6.out.cell (p := ⟨w.heap.size, 0, none⟩) HSZ.out).trans c0
      have d1 := (HE6.out.cell (p := ⟨w.heap.size, 1, none⟩) HSZ.out).trans c1
      have d2 := (HE6.out.cell (p := ⟨w.heap.size, 2, none⟩) HSZ.out).trans c2
      have e0 := (HE6.out.frozen (p := ⟨w.heap.size, 0, none⟩) HSZ.out).trans f0
      have e1 := (HE6.out.frozen (p := ⟨w.heap.size, 1, none⟩) HSZ.out).trans f1
      have e2 := (HE6.out.frozen (p := ⟨w.heap.size, 2, none⟩) HSZ.out).trans f2
      clear c0 c1 c2 f0 f1 f2
      go_wp2
      refine bodyPost_ret (v := .agg #[.int .i64 P, .int .i64 D, .slice A3 n3 c3]) (by simp [results, Try.results59, go_sem, d0, d1, d2]) rfl ⟨_, rfl, mk_own HO4.out HSZ.out _ _ _, mk_ext (HX.out.trans HE6.out) _ _ _⟩
set_option maxRecDepth 100000 in
theorem s_MakeField (q : Int) (w : World) : Calls Try.prog 21 #[.int .i64 q] w (RetFldI w (mkP q) (mkD q) (mkL q) (mkC q)) := by
  obtain ⟨P, HP⟩ : ∃ P, Hid (P = (splitOut q).1) := ⟨_, Lib.hid rfl⟩
  by_cases h0 : P = 0
  · have hz : splitOut q = (0, 0) := by
      cases hb : inB q 2 64
      · exact split_off hb
      · exact mk_zero hb (by rw [← HP.out]; exact h0)
    have key : Calls Try.prog 21 #[.int .i64 q] w (RetFldI w 0 0 [] 2) := by
      have hp : (P == 0) = true := by simp [h0]
      clear h0 hz
      go_enter Try.func21, Try.ntmps21
      go_wp2_with (go_at_call 58; refine (s_splitE _ _).mono ?_; rintro e w1 ⟨rfl, hext⟩; rw [← HP.out]; have c0 : w1.cell? ⟨w.heap.size, 0, none⟩ = some (.int .i64 0) := (hext.cell (by simp)).trans (by go_simp); have c1 : w1.cell? ⟨w.heap.size, 1, none⟩ = some (.int .i64 0) := (hext.cell (by simp)).trans (by go_simp); have c2 : w1.cell? ⟨w.heap.size, 2, none⟩ = some (.slice none 0 0) := (hext.cell (by simp)).trans (by go_simp); have f0 := hext.frozen (p := ⟨w.heap.size, 0, none⟩) (by simp); have f1 := hext.frozen (p := ⟨w.heap.size, 1, none⟩) (by simp); have f2 := hext.frozen (p := ⟨w.heap.size, 2, none⟩) (by simp); have HX := Lib.hid ((ext_alloc _ _).trans hext); have HSZ : Hid (w.heap.size < w1.heap.size) := Lib.hid (Nat.lt_of_lt_of_le (by simp) hext.size); clear hext)
      go_wp2
      refine bodyPost_ret (v := .tuple #[.agg #[.int .i64 0, .int .i64 0, .slice none 0 0], .int .i64 2]) (by simp [results, Try.results21, go_sem, c0, c1, c2]) rfl ⟨_, rfl, OwnV.nil _ _ _, mk_ext HX.out _ _ _⟩
    unfold mkP mkD mkL mkC
    rw [hz]
    exact key
  · have hb : inB q 2 64 = true := by
      cases hb : inB q 2 64
      · exfalso; apply h0; rw [HP.out, split_off hb]
      · rfl
    obtain ⟨P', D, M, h1, h2, h3, h4, h5, h6, h7, h8, h9, h10⟩ := mk_find hb (by rw [← HP.out]; exact h0)
    obtain rfl : P = P' := by rw [HP.out, h1]
    have HK := Lib.hid (fun w => s_mkIn q P D M w h1 h2 h3 h4 h5 h6 h8 h9 h10)
    have key : Calls Try.prog 21 #[.int .i64 q] w (RetFldI w P D (digL P D M ++ [1]) 0) := by
      have hp : (P == 0) = false := by simp [h0]
      clear h0 h1 h2 h3 h4 h5 h6 h7 h8 h9 h10
      go_enter Try.func21, Try.ntmps21
      go_wp2_with (first | (go_at_call 58; refine (s_splitE _ _).mono ?_; rintro e w1 ⟨rfl, hext⟩; rw [← HP.out]; have c0 : w1.cell? ⟨w.heap.size, 0, none⟩ = some (.int .i64 0) := (hext.cell (by simp)).trans (by go_simp); have c1 : w1.cell? ⟨w.heap.size, 1, none⟩ = some (.int .i64 0) := (hext.cell (by simp)).trans (by go_simp); have c2 : w1.cell? ⟨w.heap.size, 2, none⟩ = some (.slice none 0 0) := (hext.cell (by simp)).trans (by go_simp); have f0 := hext.frozen (p := ⟨w.heap.size, 0, none⟩) (by simp); have f1 := hext.frozen (p := ⟨w.heap.size, 1, none⟩) (by simp); have f2 := hext.frozen (p := ⟨w.heap.size, 2, none⟩) (by simp); have HX := Lib.hid ((ext_alloc _ _).trans hext); have HSZ : Hid (w.heap.size < w1.heap.size) := Lib.hid (Nat.lt_of_lt_of_le (by simp) hext.size); clear hext) | (go_at_call 59; refine (HK.out _).mono ?_; rintro e w6 ⟨v3, rfl, hown3, hext3⟩; have HE6 := Lib.hid hext3; have HO6 := Lib.hid hown3; clear hown3 hext3; have d0 := (HE6.out.cell (p := ⟨w.heap.size, 0, none⟩) HSZ.out).trans c0; have d1 := (HE6.out.cell (p := ⟨w.heap.size, 1, none⟩) HSZ.out).trans c1; have d2 := (HE6.out.cell (p := ⟨w.heap.size, 2, none⟩) HSZ.out).trans c2; have e0 := (HE6.out.frozen (p := ⟨w.heap.size, 0, none⟩) HSZ.out).trans f0; have e1 := (HE6.out.frozen (p := ⟨w.heap.size, 1, none⟩) HSZ.out).trans f1; have e2 := (HE6.out.frozen (p := ⟨w.heap.size, 2, none⟩) HSZ.out).trans f2; clear c0 c1 c2 f0 f1 f2; obtain ⟨A3, n3, c3, hv3⟩ := slice_form HO6.out; subst hv3))
      go_wp2
      refine bodyPost_ret (v := .tuple #[.agg #[.int .i64 P, .int .i64 D, .slice A3 n3 c3], .int .i64 0]) (by simp [results, Try.results21, go_sem, d0, d1, d2]) rfl ⟨_, rfl, mk_own HO6.out HSZ.out _ _ _, mk_ext (HX.out.trans HE6.out) _ _ _⟩
    unfold mkP mkD mkL mkC
    rw [← HP.out, if_neg h0, if_neg h0, h1]
    simp only [Int.toNat_natCast]
    rw [← h7]
    exact key
end Go.Proofs.Ytafaecpmffmfgaa
