/- The laws' own helpers on slices of slices: eqInt64SS, markInt64SS, heldInt64SS. No condition. -/
import Derived.Test.YtloacmfafccofaaLists
import Derived.Test.YtloacmfafccofaaSlices
namespace Go.Proofs.Ytloacmfafccofaa
open Go.RowKit

/-- v reads as slices that read as xss. -/
def RdL (w : World) (v : Value) (xss : List (List Int)) : Prop :=
  ∃ a cap, v = .slice a xss.length cap ∧ xss.length ≤ cap ∧ cap ≤ 9223372036854775807 ∧
    (0 < xss.length → ∃ g o, a = some ⟨g, o, none⟩ ∧ g < w.heap.size ∧ ∀ i (h : i < xss.length), ∃ b n c, w.cell? ⟨g, o + i, none⟩ = some (.slice b n c) ∧ Rd w (.slice b n c) xss[i])
theorem RdL.ext {w w' : World} {v : Value} {xss : List (List Int)} (h : RdL w v xss) (he : Ext w w') : RdL w' v xss := by
  obtain ⟨a, cap, h1, h2, h3, h4⟩ := h
  refine ⟨a, cap, h1, h2, h3, fun hn => ?_⟩
  obtain ⟨g, o, h5, h6, h7⟩ := h4 hn
  refine ⟨g, o, h5, Nat.lt_of_lt_of_le h6 he.size, fun i hi => ?_⟩
  obtain ⟨b, n, c, h8, h9⟩ := h7 i hi
  exact ⟨b, n, c, by rw [he.cell (p := ⟨g, o + i, none⟩) h6]; exact h8, h9.ext he⟩
theorem OwnL.rd {w : World} {lo hi : Nat} {v : Value} {xss : List (List Int)} (h : OwnL w lo hi v xss) : RdL w v xss := by
  obtain ⟨a, cap, h1, h2, h3, h4⟩ := h.form
  refine ⟨a, cap, h1, h2, h3, fun hn => ?_⟩
  obtain ⟨g, h5, _, h6, h7⟩ := h4 hn
  refine ⟨g, 0, h5, h6, fun i hi => ?_⟩
  obtain ⟨b, n, c, h8, h9, _⟩ := h7 i hi
  exact ⟨b, n, c, by rw [Nat.zero_add]; exact h8, h9.rd⟩
/-- A row from before all this has turned. -/
theorem OwnL.keptOld {w w' : World} {lo hi : Nat} {v : Value} {xss : List (List Int)} {row : Option Nat} (h : OwnL w lo hi v xss) (hg : w.grownBy w' row) (hr : ∀ k, row = some k → k < lo) : OwnL w' lo hi v xss := by
  have ap : ∀ {e : TypeId} {u : Value} {ys : List Value}, OwnV e w lo u ys → u.ownBlock = none ∨ u.ownBlock ≠ row := by
    intro e u ys hu
    cases hv : u.ownBlock with
    | none => exact .inl rfl
    | some k =>
      refine .inr fun he => ?_
      have h1 := (hu.lt k hv).1
      have h2 := hr k he.symm
      omega
  obtain ⟨vs, a1, a2, a3, a4⟩ := h
  exact ⟨vs, a1.kept hg (ap a1), a2, fun i p q => ⟨(a3 i p q).1.kept hg (ap (a3 i p q).1), (a3 i p q).2⟩, a4⟩
/-- One of the rows has turned. -/
theorem OwnL.turned {w : World} {lo hi : Nat} {v : Value} {xss : List (List Int)} (h : OwnL w lo hi v xss) {a : Option Addr} {n cap : Nat} (hv : v = .slice a n cap) (j : Nat) (hj : j < xss.length) :
    ∃ g b m c, a = some ⟨g, 0, none⟩ ∧ g < w.heap.size ∧ w.cell? ⟨g, j, none⟩ = some (.slice b m c) ∧ Own w lo (.slice b m c) xss[j] ∧
      ∀ w' ys, Own w' lo (.slice b m c) ys → w.grownBy w' (Value.ownBlock (.slice b m c)) → OwnL w' lo hi v (xss.set j ys) := by
  obtain ⟨vs, a1, a2, a3, a4⟩ := h
  obtain ⟨a', cap', h1, h2, h3, h4, h5⟩ := a1.form
  obtain ⟨g, rfl, hg, hl⟩ := h4 (by omega)
  rw [h1] at hv
  cases hv
  rw [h1] at a1
  have hc := a1.cell j (by omega)
  have ho := (a3 j (by omega) hj).1
  obtain ⟨b, c, e1, _⟩ := ho.form
  refine ⟨g, b, _, c, rfl, hl, by rw [hc, e1], by rw [← e1]; exact ho, fun w' ys hy hg2 => ?_⟩
  rw [← e1] at hy hg2
  rw [h1]
  refine ⟨vs, a1.keptT ho (by decide) hg2, by rw [List.length_set]; exact a2, fun i p q => ?_, a4⟩
  have q' : i < xss.length := by rw [List.length_set] at q; exact q
  by_cases hij : i = j
  · subst hij
    rw [List.getElem_set_self]
    exact ⟨hy, (a3 i p q').2⟩
  · rw [List.getElem_set_ne (fun h => hij h.symm)]
    refine ⟨(a3 i p q').1.kept hg2 ?_, (a3 i p q').2⟩
    rcases Nat.lt_or_gt_of_ne hij with hlt | hlt
    · have := List.pairwise_iff_getElem.1 a4 i j p (by omega) hlt
      rcases this with h6 | h6
      · rw [h6]; cases vs[i].ownBlock <;> simp
      · exact .inr fun h => h6 h.symm
    · exact List.pairwise_iff_getElem.1 a4 j i (by omega) p hlt
def sumLen : List (List Int) → Nat
  | [] => 0
  | c :: r => c.length + sumLen r
def markL : Nat → List (List Int) → List (List Int)
  | _, [] => []
  | k, c :: r => iota (k : Int) c.length :: markL (k + c.length) r
theorem markL_len : ∀ k l, (markL k l).length = l.length
  | _, [] => rfl
  | k, c :: r => by rw [markL, List.length_cons, List.length_cons, markL_len]
theorem markL_sum : ∀ k l, sumLen (markL k l) = sumLen l
  | _, [] => rfl
  | k, c :: r => by rw [markL, sumLen, sumLen, iota_len, markL_sum]
theorem markL_get : ∀ (k : Nat) (l : List (List Int)) (j : Nat) (h : j < l.length), (markL k l)[j]'(by rw [markL_len]; exact h) = iota ((k + sumLen (l.take j) : Nat) : Int) l[j].length
  | k, [], j, h => by simp at h
  | k, c :: r, 0, h => by simp [markL, sumLen]
  | k, c :: r, j + 1, h => by
    have := markL_get (k + c.length) r j (by simpa using h)
    simp only [markL, List.getElem_cons_succ, List.take_succ_cons, sumLen]
    rw [this]
    congr 2; omega
theorem sumLen_take {l : List (List Int)} {j : Nat} (h : j < l.length) : sumLen (l.take (j + 1)) = sumLen (l.take j) + l[j].length := by
  induction l generalizing j with
  | nil => simp at h
  | cons c r ih =>
    cases j with
    | zero => simp [sumLen]
    | succ j =>
      simp only [List.take_succ_cons, sumLen, List.getElem_cons_succ]
      have := ih (j := j) (by simpa using h)
      omega
theorem sumLen_take_le (l : List (List Int)) (j : Nat) : sumLen (l.take j) ≤ sumLen l := by
  induction l generalizing j with
  | nil => simp
  | cons c r ih =>
    cases j with
    | zero => simp [sumLen]
    | succ j => simp only [List.take_succ_cons, sumLen]; have := ih j; omega
theorem half_set {α : Type} {A B : List α} {j : Nat} (hj : j < A.length) (hl : A.length = B.length) : (A.take j ++ B.drop j).set j A[j] = A.take (j + 1) ++ B.drop (j + 1) := by
  have h1 : (A.take j).length = j := by rw [List.length_take]; omega
  rw [List.set_append_right _ _ (by omega), h1, Nat.sub_self, List.drop_eq_getElem_cons (show j < B.length by omega), List.set_cons_zero, List.take_succ_eq_append_getElem hj, List.append_assoc]
  rfl
set_option maxHeartbeats 400000 in
theorem l_eqInt64SS_t (v v' : Value) (xss : List (List Int)) (w : World) (h : RdL w v xss) (h' : RdL w v' xss) :
    Calls Try.prog 23 #[v, v'] w fun e w' => e = .returned (.bool true) ∧ Drawn w w' := by
  obtain ⟨a, cap, rfl, hc, hm, hr⟩ := h
  obtain ⟨a', cap', rfl, hc', hm', hr'⟩ := h'
  obtain ⟨N, HN⟩ : ∃ N, Hid (N = xss.length) := ⟨_, Lib.hid rfl⟩
  have HR := Lib.hid hr
  have HR' := Lib.hid hr'
  clear hr hr'
  rw [← HN.out] at hc hc' ⊢
  have hNN : ((N : Int) != (N : Int)) = false := by simp
  go_enter Try.func23, Try.ntmps23
  go_wp2
  go_loopw [5] (fun i wr => ∃ k : Nat, k ≤ N ∧ i = .int .i64 k ∧ Hid (Drawn w wr)) (fun i _ => N - (intOf i).toNat)
  case atStart => exact ⟨0, by omega, rfl, Lib.hid (Drawn.refl _)⟩
  case round =>
    obtain ⟨k, hk, rfl, hd⟩ := hrel
    by_cases hlt : k < N
    · have hlt' : k < xss.length := by rw [← HN.out]; exact hlt
      obtain ⟨g, o, rfl, hg, hall⟩ := HR.out (by omega)
      obtain ⟨g', o', rfl, hg', hall'⟩ := HR'.out (by omega)
      obtain ⟨b, n, c, e1, e2⟩ := hall k hlt'
      obtain ⟨b', n', c', e1', e2'⟩ := hall' k hlt'
      have hx := (hd.out.ext.cell (p := ⟨g, o + k, none⟩) hg).trans e1
      have hy := (hd.out.ext.cell (p := ⟨g', o' + k, none⟩) hg').trans e1'
      have H2 := Lib.hid (e2.drawn hd.out)
      have H2' := Lib.hid (e2'.drawn hd.out)
      clear hall hall' e1 e1' e2 e2'
      go_wp2
      go_quiet ((go_at_call 16; exact Calls.quiet_of (l_eqInt64S_t _ _ xss[k] _ (H2.out.drawn ⟨_, rfl⟩) (H2'.out.drawn ⟨_, rfl⟩))))
      go_wp2
      exact ⟨⟨k + 1, by omega, by go_num, Lib.hid (hd.out.drewN _)⟩, by simp only [intOf]; omega⟩
    · go_wp2
      go_ret
      exact ⟨rfl, hd.out⟩
set_option maxHeartbeats 400000 in
theorem l_markInt64SS (v : Value) (k : Nat) (xss : List (List Int)) (lo hi : Nat) (w : World) (hk : k + sumLen xss ≤ 4000000) (hlo : lo ≤ w.heap.size) (h : OwnL w lo hi v xss) :
    Calls Try.prog 25 #[v, .int .i64 k] w fun e w' => e = .returned (.int .i64 ((k + sumLen xss : Nat) : Int)) ∧ OwnL w' lo hi v (markL k xss) ∧ Below lo w w' := by
  obtain ⟨a, cap, hv, hc, hm, _⟩ := h.form
  have H := Lib.hid h
  clear h
  subst hv
  obtain ⟨N, HN⟩ : ∃ N, Hid (N = xss.length) := ⟨_, Lib.hid rfl⟩
  obtain ⟨T, HT⟩ : ∃ T, Hid (T = k + sumLen xss) := ⟨_, Lib.hid rfl⟩
  rw [← HN.out] at hc H ⊢
  rw [← HT.out] at hk ⊢
  obtain ⟨ML, HML⟩ : ∃ ML, Hid (ML = markL k xss) := ⟨_, Lib.hid rfl⟩
  have HMN : Hid (ML.length = N) := Lib.hid (by rw [HML.out, markL_len, HN.out])
  rw [← HML.out]
  go_enter Try.func25, Try.ntmps25
  go_wp2
  go_loopw [1, 5] (fun q i wr => ∃ (j z : Nat), j ≤ N ∧ i = .int .i64 j ∧ q = .int .i64 z ∧ z ≤ T ∧ Hid (z = k + sumLen (xss.take j)) ∧ Hid (OwnL wr lo hi (.slice a N cap) (ML.take j ++ xss.drop j)) ∧ Hid (Below lo w wr)) (fun _ i _ => N - (intOf i).toNat)
  case atStart => exact ⟨0, k, by omega, rfl, rfl, by have := HT.out; omega, Lib.hid (by simp [sumLen]), Lib.hid (by simpa using H.out), Lib.hid (Below.refl _ _)⟩
  case round =>
    obtain ⟨j, z, hj, rfl, rfl, hzT, hz, hown, hbel⟩ := hrel
    by_cases hlt : j < N
    · have hjx : j < xss.length := by rw [← HN.out]; exact hlt
      have hjm : j < ML.length := by rw [HMN.out]; exact hlt
      have hcur : j < (ML.take j ++ xss.drop j).length := by rw [List.length_append, List.length_take, List.length_drop]; omega
      obtain ⟨g, b, m, c, rfl, hg, hcell, ho, hturn⟩ := hown.out.turned rfl j hcur
      have hge : (ML.take j ++ xss.drop j)[j] = xss[j] := by
        rw [List.getElem_append_right (by rw [List.length_take]; omega), List.getElem_drop]
        congr 1; rw [List.length_take]; omega
      rw [hge] at ho
      have HO := Lib.hid ho
      have HTU := Lib.hid hturn
      have hst := sumLen_take hjx
      have hzk : z + xss[j].length ≤ T := by
        have h1 := sumLen_take_le xss (j + 1)
        have h2 := HT.out
        have h3 := hz.out
        omega
      have HNZ : Hid (z + xss[j].length = k + sumLen (xss.take (j + 1))) := Lib.hid (by rw [hst, hz.out]; omega)
      have HLZ := Lib.hid (show lo ≤ wr.heap.size from Nat.le_trans hlo hbel.out.size)
      have HMJ : Hid (ML[j] = iota (z : Int) xss[j].length) := Lib.hid (by
        simp only [HML.out]
        rw [markL_get k xss j hjx, hz.out])
      clear ho hturn hge hst hcur hown
      go_wp2_with fail
      refine (l_markInt64S _ z xss[j] lo _ (by omega) HO.out).mono ?_
      rintro e w2 ⟨rfl, ho2, hg2⟩
      have HO2 : Hid (OwnL w2 lo hi (.slice (some ⟨g, 0, none⟩) N cap) (ML.take (j + 1) ++ xss.drop (j + 1))) := Lib.hid (by
        have h1 := HTU.out w2 _ ho2 hg2
        rw [← HMJ.out, half_set hjm (by rw [HMN.out, HN.out])] at h1
        exact h1)
      have HB2 : Hid (Below lo w w2) := Lib.hid (Ext.grown hbel.out w2 hg2 HLZ.out (fun q hq => (HO.out.lt q hq).1))
      obtain ⟨z2, HZ2⟩ : ∃ z2, Hid (z2 = z + xss[j].length) := ⟨_, Lib.hid rfl⟩
      rw [← HZ2.out] at HNZ hzk ⊢
      clear ho2 hg2 hz
      go_wp2
      exact ⟨⟨j + 1, z2, by omega, by go_num, rfl, hzk, HNZ, HO2, HB2⟩, by simp only [intOf]; omega⟩
    · obtain rfl : j = N := by omega
      have HZ : Hid (z = T) := Lib.hid (by rw [hz.out, HT.out, List.take_of_length_le (by rw [← HN.out]; omega)])
      have HF : Hid (ML.take j ++ xss.drop j = ML) := Lib.hid (by rw [List.take_of_length_le (by rw [HMN.out]; omega), List.drop_of_length_le (by rw [← HN.out]; omega), List.append_nil])
      clear hz
      go_wp2
      go_ret
      exact ⟨ret_i64 (by rw [HZ.out]), by rw [← HF.out]; exact hown.out, hbel.out⟩
set_option maxHeartbeats 400000 in
theorem l_heldInt64SS (v : Value) (k : Nat) (xss : List (List Int)) (w : World) (hk : k + sumLen xss ≤ 4000000) (h : RdL w v (markL k xss)) :
    Calls Try.prog 26 #[v, .int .i64 k] w fun e w' => e = .returned (.int .i64 ((k + sumLen xss : Nat) : Int)) ∧ w = w' := by
  obtain ⟨a, cap, hv, hc, hm, hr⟩ := h
  rw [markL_len] at hv hc
  subst hv
  obtain ⟨N, HN⟩ : ∃ N, Hid (N = xss.length) := ⟨_, Lib.hid rfl⟩
  obtain ⟨T, HT⟩ : ∃ T, Hid (T = k + sumLen xss) := ⟨_, Lib.hid rfl⟩
  have HR := Lib.hid hr
  clear hr
  rw [← HN.out] at hc ⊢
  rw [← HT.out] at hk ⊢
  go_enter Try.func26, Try.ntmps26
  go_wp2
  go_loop [1, 5] (fun q i => ∃ (j z : Nat), j ≤ N ∧ i = .int .i64 j ∧ q = .int .i64 z ∧ z ≤ T ∧ Hid (z = k + sumLen (xss.take j))) (fun _ i => N - (intOf i).toNat)
  case atStart => exact ⟨0, k, by omega, rfl, rfl, by have := HT.out; omega, Lib.hid (by simp [sumLen])⟩
  case round =>
    obtain ⟨j, z, hj, rfl, rfl, hzT, hz⟩ := hrel
    by_cases hlt : j < N
    · have hjx : j < xss.length := by rw [← HN.out]; exact hlt
      obtain ⟨g, o, rfl, hg, hall⟩ := HR.out (by rw [markL_len, ← HN.out]; omega)
      obtain ⟨b, n, c, hcell, hrd⟩ := hall j (by rw [markL_len]; exact hjx)
      rw [markL_get k xss j hjx, ← hz.out] at hrd
      have HRD := Lib.hid hrd
      have hst := sumLen_take hjx
      have hzk : z + xss[j].length ≤ T := by
        have h1 := sumLen_take_le xss (j + 1)
        have h2 := HT.out
        have h3 := hz.out
        omega
      have HNZ : Hid (z + xss[j].length = k + sumLen (xss.take (j + 1))) := Lib.hid (by rw [hst, hz.out]; omega)
      clear hall hrd hst
      go_wp2_with fail
      refine (l_heldInt64S _ z xss[j].length _ (by omega) HRD.out).mono ?_
      rintro e w2 ⟨rfl, rfl⟩
      obtain ⟨z2, HZ2⟩ : ∃ z2, Hid (z2 = z + xss[j].length) := ⟨_, Lib.hid rfl⟩
      rw [← HZ2.out] at HNZ hzk ⊢
      clear hz
      go_wp2
      exact ⟨⟨j + 1, z2, by omega, by go_num, rfl, hzk, HNZ⟩, by simp only [intOf]; omega⟩
    · obtain rfl : j = N := by omega
      have HZ : Hid (z = T) := Lib.hid (by rw [hz.out, HT.out, List.take_of_length_le (by rw [← HN.out]; omega)])
      clear hz
      go_wp2
      go_ret
      exact ⟨ret_i64 (by rw [HZ.out]), rfl⟩
end Go.Proofs.Ytloacmfafccofaa
