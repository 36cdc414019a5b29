/- The identity permutation: the program's 'identity', the reference's 'l04One', IdentityPermutation. No condition. -/
import Derived.Test.YtnibjljamogbeaaInts
import Derived.Test.YtnibjljamogbeaaApp
import Derived.Test.YtnibjljamogbeaaSlices
namespace Go.Proofs.Ytnibjljamogbeaa
open Go.RowKit

theorem i_identity (n : Nat) (w : World) (hn : n ≤ 1000) : Calls Try.prog 53 #[.int .i64 n] w (RetInts w (iota 0 n)) := by
  go_enter Try.func53, Try.ntmps53
  go_wp2_with (at_make; refine wp_make _ rfl _ _ rfl w.heap.size .i64 .i64 _ _ n rfl rfl rfl rfl (by omega) (Nat.le_refl _) ?_; intro w1 hown hext)
  go_loopw [9] (fun i wr => ∃ (j : Nat) (ys : List Int), j ≤ n ∧ i = .int .i64 j ∧ Hid (ys.length = n) ∧ Hid (∀ t (ht : t < ys.length), t < j → ys[t] = 0 + (t : Int)) ∧ Hid (Own wr w.heap.size (.slice (some ⟨w.heap.size, 0, none⟩) n n) ys) ∧ Hid (Ext w wr)) (fun i _ => n - (intOf i).toNat)
  case atStart => exact ⟨0, List.replicate n 0, by omega, rfl, Lib.hid (by simp), Lib.hid (fun t ht h => by omega), Lib.hid hown, Lib.hid hext⟩
  case round =>
    clear hown hext
    obtain ⟨j, ys, hj, rfl, hl, hm2, hown, hext⟩ := hrel
    by_cases hlt : j < n
    · have hc1 := hown.out.cell j (by rw [List.length_map]; have := hl.out; omega)
      have hf1 := hown.out.frozen j
      obtain ⟨hs1, hs2⟩ := hown.out.stored j (.int .i64 j)
      have HS : Hid (Own (wr.setCell ⟨w.heap.size, j, none⟩ (.int .i64 j)) w.heap.size (.slice (some ⟨w.heap.size, 0, none⟩) n n) (ys.set j j)) := Lib.hid (by
        unfold Own; rw [List.map_set]; exact hs1)
      have HE : Hid (Ext w (wr.setCell ⟨w.heap.size, j, none⟩ (.int .i64 j))) := Lib.hid (ext_app (e := 2) (v := .slice (some ⟨w.heap.size, 0, none⟩) n n) hext.out hown.out hs2)
      have HN2 : Hid (∀ t (ht : t < (ys.set j (j : Int)).length), t < j + 1 → (ys.set j (j : Int))[t] = 0 + (t : Int)) := Lib.hid (by
        intro t ht h1
        rw [List.getElem_set]
        by_cases he : j = t
        · subst he; rw [if_pos rfl]; omega
        · rw [if_neg he]; exact hm2.out t (by simpa using ht) (by omega))
      have HL : Hid ((ys.set j (j : Int)).length = n) := Lib.hid (by rw [List.length_set]; exact hl.out)
      generalize (ys.map (Value.int .i64))[j]'(by rw [List.length_map]; have := hl.out; omega) = old at hc1
      clear hs1 hs2 hown hext hm2 hl
      go_wp2
      exact ⟨⟨j + 1, ys.set j j, by omega, by go_num, HL, HN2, HS, HE⟩, by simp only [intOf]; omega⟩
    · obtain rfl : j = n := by omega
      have HF : Hid (ys = iota 0 j) := Lib.hid (by
        have h1 := hl.out
        have h2 := iota_of (k := 0) (ys := ys) (fun i hi => hm2.out i hi (by omega))
        rw [h1] at h2; exact h2)
      clear hl hm2
      go_wp2
      go_ret
      exact ⟨_, rfl, by rw [← HF.out]; exact hown.out, hext.out⟩
theorem iota_succ (k : Int) (n : Nat) : iota k (n + 1) = iota k n ++ [k + (n : Int)] := by
  simp [iota, List.range_succ]
theorem s_l04One (n : Int) (w : World) (hn : n ≤ 1000) : Calls Try.prog 51 #[.int .i64 n] w (RetInts w (iota 0 n.toNat)) := by
  go_enter Try.func51, Try.ntmps51
  go_wp2
  go_loopw [3, 4] (fun v i wr => ∃ j : Nat, (j : Int) ≤ n + (if n < 0 then -n else 0) ∧ i = .int .i64 j ∧ Hid (Own wr w.heap.size v (iota 0 j)) ∧ Hid (Ext w wr)) (fun _ i _ => (n - intOf i).toNat)
  case atStart => exact ⟨0, by split <;> omega, rfl, Lib.hid (OwnV.empty _ _), Lib.hid (ext_alloc _ _)⟩
  case round =>
    obtain ⟨j, hj, rfl, hown, hext⟩ := hrel
    by_cases hlt : (j : Int) < n
    · have hown' := hown.out
      have hz := hext.out.size
      have hj2 : j ≤ 1000 := by omega
      clear hj
      go_wp2_with (at_builtin; refine wp_app1 _ rfl _ _ rfl _ _ (iota 0 j) rfl hown' j rfl (by rw [iota_len]; omega) hz ?_; intro v' w' hown2 hgr)
      have HO : Hid (Own w' w.heap.size v' (iota 0 (j + 1))) := Lib.hid (by rw [iota_succ, Int.zero_add]; exact hown2)
      have HE := Lib.hid (ext_app hext.out hown.out hgr)
      clear hown2 hgr hown'
      go_wp2
      exact ⟨⟨j + 1, by split <;> omega, by go_num, HO, HE⟩, by simp only [intOf]; omega⟩
    · have HJ : Hid (j = n.toNat) := Lib.hid (by split at hj <;> omega)
      clear hj
      go_wp2
      go_ret
      exact ⟨_, rfl, by rw [← HJ.out]; exact hown.out, hext.out⟩
def idOut (n : Int) : List Int := if inB n 0 32 then iota 0 n.toNat else []
def idCode (n : Int) : Int := if inB n 0 32 then 0 else 2
theorem i_IdentityPermutation (n : Int) (w : World) : Calls Try.prog 20 #[.int .i64 n] w (RetIntsI w (idOut n) (idCode n)) := by
  cases hb : inB n 0 32
  · have G : Hid (idOut n = []) := Lib.hid (by simp [idOut, hb])
    have G2 : Hid (idCode n = 2) := Lib.hid (by simp [idCode, hb])
    go_enter Try.func20, Try.ntmps20
    go_wp2_with (go_at_call 52; refine (i_in _ _ _ _).mono ?_; rintro e w' ⟨rfl, rfl⟩)
    go_ret2
    exact ⟨_, by rw [G2.out]; rfl, by rw [G.out]; exact OwnV.nil _ _ _, Ext.refl _⟩
  · obtain ⟨h1, h2⟩ := inB_iff.1 hb
    obtain ⟨m, rfl⟩ := Int.eq_ofNat_of_zero_le h1
    have G : Hid (idOut m = iota 0 m) := Lib.hid (by simp [idOut, hb])
    have G2 : Hid (idCode m = 0) := Lib.hid (by simp [idCode, hb])
    go_enter Try.func20, Try.ntmps20
    go_wp2_with (first | (go_at_call 52; refine (i_in _ _ _ _).mono ?_; rintro e w' ⟨rfl, rfl⟩) | (go_at_call 53; refine (i_identity m _ (by omega)).mono ?_; rintro e w1 ⟨v, rfl, hown, hext⟩))
    go_ret2
    exact ⟨_, by rw [G2.out]; rfl, by rw [G.out]; exact hown, hext⟩
theorem s_IdentityPermutation (n : Int) (w : World) : Calls Try.prog 19 #[.int .i64 n] w (RetIntsI w (idOut n) (idCode n)) := by
  cases hb : inB n 0 32
  · have G : Hid (idOut n = []) := Lib.hid (by simp [idOut, hb])
    have G2 : Hid (idCode n = 2) := Lib.hid (by simp [idCode, hb])
    go_enter Try.func19, Try.ntmps19
    go_wp2_with (go_at_call 50; refine (s_in _ _ _ _).mono ?_; rintro e w' ⟨rfl, rfl⟩)
    go_ret2
    exact ⟨_, by rw [G2.out]; rfl, by rw [G.out]; exact OwnV.nil _ _ _, Ext.refl _⟩
  · obtain ⟨h1, h2⟩ := inB_iff.1 hb
    have G : Hid (idOut n = iota 0 n.toNat) := Lib.hid (by simp [idOut, hb])
    have G2 : Hid (idCode n = 0) := Lib.hid (by simp [idCode, hb])
    go_enter Try.func19, Try.ntmps19
    go_wp2_with (first | (go_at_call 50; refine (s_in _ _ _ _).mono ?_; rintro e w' ⟨rfl, rfl⟩) | (go_at_call 51; refine (s_l04One n _ (by omega)).mono ?_; rintro e w1 ⟨v, rfl, hown, hext⟩))
    go_ret2
    exact ⟨_, by rw [G2.out]; rfl, by rw [G.out]; exact hown, hext⟩
theorem idOut_len (n : Int) : (idOut n).length ≤ 3000000 := by
  unfold idOut; split
  · rename_i h; have := inB_iff.1 h; rw [iota_len]; omega
  · simp
theorem l_IdentityPermutation (a0 : Int) (w : World) :
    Calls Try.prog 5 #[.int .i64 a0] w fun e w' => e = .returned (.bool true) ∧ Ext w w' := by
  have hbd := Lib.hid (show (idOut a0).length ≤ 3000000 from idOut_len a0)
  obtain ⟨R, HR⟩ : ∃ R : List Int, Hid (R = idOut a0) := ⟨_, Lib.hid rfl⟩
  have hb : R.length ≤ 3000000 := by rw [HR.out]; exact hbd.out
  clear hbd
  have X0 : Ext w w := Ext.refl w
  go_enter Try.func5, Try.ntmps5
  go_wp2_with fail
  refine (s_IdentityPermutation a0 _  ).mono ?_
  rintro e w1 ⟨u_wt, rfl, wt_1, x1⟩
  rw [← HR.out] at wt_1
  have z1 := x1.size
  have X1 : Ext w w1 := X0.trans x1
  go_wp2_with fail
  refine (i_IdentityPermutation a0 _  ).mono ?_
  rintro e w2 ⟨u_gt, rfl, gt_2, x2⟩
  rw [← HR.out] at gt_2
  have z2 := x2.size
  have X2 : Ext w w2 := X1.trans x2
  have wt_2 := wt_1.ext x2
  go_wp2_with fail
  refine (l_eqInt64S_t _ _ R _ gt_2.rd wt_2.rd).mono ?_
  rintro e w3 ⟨rfl, d3⟩
  have x3 := d3.ext
  have z3 := x3.size
  have X3 : Ext w w3 := X2.trans x3
  have wt_3 := wt_2.ext x3
  have gt_3 := gt_2.ext x3
  go_wp2_with fail
  refine (l_markInt64S _ (1) R _ _ (by omega) gt_3).mono ?_
  rintro e w4 ⟨rfl, gt_4, g4⟩
  have z4 := g4.size
  have X4 : Ext w w4 := Below.grown X3 g4 X3.size (fun j hj => Nat.le_trans (X1.size) (gt_3.lt j hj).1)
  have wt_4 := wt_3.kept g4 (wt_1.apart gt_3 (by omega))
  go_wp2_with fail
  refine (l_heldInt64S _ 1 R.length _ (by omega) gt_4.rd).mono ?_
  rintro e _ ⟨rfl, rfl⟩
  go_wp2_with fail
  refine (i_IdentityPermutation a0 _  ).mono ?_
  rintro e w5 ⟨u_ht, rfl, ht_5, x5⟩
  rw [← HR.out] at ht_5
  have z5 := x5.size
  have X5 : Ext w w5 := X4.trans x5
  have wt_5 := wt_4.ext x5
  have gt_5 := gt_4.ext x5
  go_wp2_with fail
  refine (l_eqInt64S_t _ _ R _ ht_5.rd wt_5.rd).mono ?_
  rintro e w6 ⟨rfl, d6⟩
  have x6 := d6.ext
  have z6 := x6.size
  have X6 : Ext w w6 := X5.trans x6
  have wt_6 := wt_5.ext x6
  have gt_6 := gt_5.ext x6
  have ht_6 := ht_5.ext x6
  go_wp2_with fail
  refine (l_heldInt64S _ 1 R.length _ (by omega) gt_6.rd).mono ?_
  rintro e _ ⟨rfl, rfl⟩
  go_wp2
  go_ret
  exact ⟨rfl, X6⟩

end Go.Proofs.Ytnibjljamogbeaa
