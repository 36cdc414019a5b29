/- The law of MakeField. No condition. -/
import Derived.Test.YtafaecpmffmfgaaFldMk
import Derived.Test.YtafaecpmffmfgaaLFldM
namespace Go.Proofs.Ytafaecpmffmfgaa
open Go.RowKit

theorem mkL_len (q : Int) : (mkL q).length ≤ 3000000 := by
  unfold mkL
  split
  · simp
  · rename_i h0
    have hb : inB q 2 64 = true := by
      cases hb : inB q 2 64
      · exfalso; apply h0; rw [split_off hb]
      · rfl
    obtain ⟨P', D, M, h1, h2, h3, h4, h5, h6, h7, h8, h9, h10⟩ := mk_find hb h0
    rw [h1, List.length_append, digL_len]
    simp
    omega
theorem FldAt.kept {w w' : World} {b : Nat} {P D : Int} {v : Value} {row : Option Nat} (h : FldAt w b P D v) (hg : w.grownBy w' row) (hne : row ≠ some b) : FldAt w' b P D v := by
  obtain ⟨h0, h1, h2, h3⟩ := h
  have hb := hg.block b h0 (fun e => hne e.symm)
  refine ⟨Nat.lt_of_lt_of_le h0 hg.size, ?_, ?_, ?_⟩
  · rw [← h1]; unfold World.cell?; simp only [hb]
  · rw [← h2]; unfold World.cell?; simp only [hb]
  · rw [← h3]; unfold World.cell?; simp only [hb]
set_option maxRecDepth 100000 in
set_option maxHeartbeats 1000000 in
theorem l_MakeField (q : Int) (w : World) : Calls Try.prog 4 #[.int .i64 q] w fun e w' => e = .returned (.bool true) ∧ Ext w w' := by
  obtain ⟨P, HP⟩ : ∃ P, Hid (P = mkP q) := ⟨_, Lib.hid rfl⟩
  obtain ⟨D, HD⟩ : ∃ D, Hid (D = mkD q) := ⟨_, Lib.hid rfl⟩
  obtain ⟨C, HC⟩ : ∃ C, Hid (C = mkC q) := ⟨_, Lib.hid rfl⟩
  obtain ⟨L, HL⟩ : ∃ L, Hid (L = mkL q) := ⟨_, Lib.hid rfl⟩
  have HLL : Hid (L.length ≤ 3000000) := Lib.hid (by rw [HL.out]; exact mkL_len q)
  have HI := Lib.hid (fun w => i_MakeField q w)
  have HS := Lib.hid (fun w => s_MakeField q w)
  rw [← HP.out, ← HD.out, ← HC.out, ← HL.out] at HI HS
  have hCC : (C != C) = false := by simp
  go_enter Try.func4, Try.ntmps4
  go_wp2_with (go_at_call 21; refine (HS.out _).mono ?_; rintro e w1 ⟨v1, rfl, o1, x1⟩; obtain ⟨A1, n1, c1, hv1⟩ := slice_form o1; subst hv1; have HO1 := Lib.hid o1; have HX1 := Lib.hid x1; clear o1 x1)
  have HF1 := Lib.hid (FldAt.new w1 P D (.slice A1 n1 c1) 27)
  have HO1a := Lib.hid (OwnV.ext HO1.out (ext_alloc w1 (.cells #[.int .i64 P, .int .i64 D, .slice A1 n1 c1] 27)))
  have HX1a := Lib.hid (HX1.out.trans (ext_alloc w1 (.cells #[.int .i64 P, .int .i64 D, .slice A1 n1 c1] 27)))
  refine (HI.out _).mono ?_
  rintro e w2 ⟨v2, rfl, o2, x2⟩
  obtain ⟨A2, n2, c2, hv2⟩ := slice_form o2
  subst hv2
  have HF2 := Lib.hid (HF1.out.ext x2)
  have HO1b := Lib.hid (HO1a.out.ext x2)
  have HX2 := Lib.hid (HX1a.out.trans x2)
  have HO2 := Lib.hid (o2.mono (show w1.heap.size ≤ _ by simp))
  have h12 : w1.heap.size < w2.heap.size := HF2.out.1
  obtain ⟨_, d0, d1, d2⟩ := HF2.out
  have HG2 := Lib.hid (FldAt.new w2 P D (.slice A2 n2 c2) 27)
  have HE2 := Lib.hid (ext_alloc w2 (.cells #[.int .i64 P, .int .i64 D, .slice A2 n2 c2] 27))
  have HAP := Lib.hid (HO1.out.apart HO2.out (Nat.le_refl _))
  have HX1w := Lib.hid HX1.out.size
  have HLT : Hid ((∀ j, Value.ownBlock (.slice A2 n2 c2) = some j → j ≠ w1.heap.size) ∧ (∀ j, Value.ownBlock (.slice A2 n2 c2) = some j → j ≠ w2.heap.size)) := Lib.hid ⟨fun j hj => by have := (o2.lt j hj).1; simp at this; omega, fun j hj => by have := (o2.lt j hj).2; omega⟩
  clear HF1 HO1 HO1a HX1 HX1a x2 o2
  go_wp2_with fail
  refine (l_eqField_t P D _ _ L _ (HO2.out.rd.ext HE2.out) (HO1b.out.rd.ext HE2.out)).mono ?_
  rintro e w3 ⟨rfl, x3⟩
  have HF3 := Lib.hid ((HF2.out.ext HE2.out).ext x3)
  have HG3 := Lib.hid (HG2.out.ext x3)
  have HO1c := Lib.hid ((HO1b.out.ext HE2.out).ext x3)
  have HO3 := Lib.hid ((HO2.out.ext HE2.out).ext x3)
  have HX3 := Lib.hid ((HX2.out.trans HE2.out).trans x3)
  clear HF2 HG2 HO1b HO2 HX2 x3 d0 d1 d2
  obtain ⟨_, d0, d1, d2⟩ := HF3.out
  obtain ⟨_, f0, f1, f2⟩ := HG3.out
  obtain ⟨T, HT⟩ : ∃ T, Hid (T = ((1 + L.length : Nat) : Int)) := ⟨_, Lib.hid rfl⟩
  have hT0 : 0 ≤ T := by rw [HT.out]; omega
  have hTT : (T != T) = false := by simp
  go_wp2_with fail
  refine (l_markField P D _ 1 L _ _ (by have := HLL.out; omega) HO3.out).mono ?_
  rintro e w4 ⟨rfl, o4, g4⟩
  rw [← HT.out]
  have HF4 := Lib.hid (HF3.out.kept g4 (fun e => HLT.out.1 _ e rfl))
  have HG4 := Lib.hid (HG3.out.kept g4 (fun e => HLT.out.2 _ e rfl))
  have HO1d := Lib.hid (HO1c.out.kept g4 HAP.out)
  have HX4 : Hid (Ext w w4) := Lib.hid (Below.grown HX3.out g4 HX3.out.size (fun j hj => Nat.le_trans HX1w.out (HO3.out.lt j hj).1))
  have HO4 := Lib.hid o4
  clear HF3 HG3 HO1c HX3 HO3 d0 d1 d2 f0 f1 f2 g4 o4
  obtain ⟨_, d0, d1, d2⟩ := HF4.out
  obtain ⟨_, f0, f1, f2⟩ := HG4.out
  go_wp2_with fail
  refine (l_heldField P D _ 1 L.length _ (by have := HLL.out; omega) HO4.out.rd).mono ?_
  rintro e w5 ⟨rfl, x5⟩
  rw [← HT.out]
  have HF5 := Lib.hid (HF4.out.ext x5)
  have HG5 := Lib.hid (HG4.out.ext x5)
  have HO1e := Lib.hid (HO1d.out.ext x5)
  have HO5 := Lib.hid (HO4.out.ext x5)
  have HX5 := Lib.hid (HX4.out.trans x5)
  clear HF4 HG4 HO1d HX4 HO4 d0 d1 d2 f0 f1 f2 x5
  obtain ⟨_, d0, d1, d2⟩ := HF5.out
  obtain ⟨_, f0, f1, f2⟩ := HG5.out
  go_wp2_with fail
  refine (HI.out _).mono ?_
  rintro e w6 ⟨v3, rfl, o6, x6⟩
  obtain ⟨A3, n3, c3, hv3⟩ := slice_form o6
  subst hv3
  have HE6 := Lib.hid (ext_alloc w6 (.cells #[.int .i64 P, .int .i64 D, .slice A3 n3 c3] 27))
  have HF6 := Lib.hid (HF5.out.ext x6)
  have HG6 := Lib.hid (HG5.out.ext x6)
  have HO1f := Lib.hid (HO1e.out.ext x6)
  have HO6 := Lib.hid (HO5.out.ext x6)
  have HX6 := Lib.hid (HX5.out.trans x6)
  have HON := Lib.hid o6
  have h16 : w1.heap.size < w6.heap.size := HF6.out.1
  have h26 : w2.heap.size < w6.heap.size := HG6.out.1
  clear HF5 HG5 HO1e HX5 HO5 d0 d1 d2 f0 f1 f2 x6 o6
  obtain ⟨_, d0, d1, d2⟩ := HF6.out
  obtain ⟨_, f0, f1, f2⟩ := HG6.out
  go_wp2_with fail
  refine (l_eqField_t P D _ _ L _ (HON.out.rd.ext HE6.out) (HO1f.out.rd.ext HE6.out)).mono ?_
  rintro e w7 ⟨rfl, x7⟩
  have HG7 := Lib.hid ((HG6.out.ext HE6.out).ext x7)
  have HO7 := Lib.hid ((HO6.out.ext HE6.out).ext x7)
  have HX7 := Lib.hid ((HX6.out.trans HE6.out).trans x7)
  clear HF6 HG6 HO1f HX6 HO6 d0 d1 d2 f0 f1 f2 x7
  obtain ⟨_, f0, f1, f2⟩ := HG7.out
  go_wp2_with fail
  refine (l_heldField P D _ 1 L.length _ (by have := HLL.out; omega) HO7.out.rd).mono ?_
  rintro e w8 ⟨rfl, x8⟩
  rw [← HT.out]
  have HX8 := Lib.hid (HX7.out.trans x8)
  clear x8
  go_wp2
  go_ret
  exact ⟨rfl, HX8.out⟩
end Go.Proofs.Ytafaecpmffmfgaa
