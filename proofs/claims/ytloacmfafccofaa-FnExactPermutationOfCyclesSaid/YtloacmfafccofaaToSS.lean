/- The laws' own helper toInt64SS: a copy of a slice of slices. No condition. -/
import Derived.Test.YtloacmfafccofaaLawSS
namespace Go.Proofs.Ytloacmfafccofaa
open Go.RowKit

theorem wp_makeL {ops : Array Oper} {rest : List Oper} {o : Oper} {a : Act} {Q : Exit → Act → World → Prop} (w : World) (hgd : o.guard = none) (l c : Operand) (ho : o.op = Op.makeSlice 29 l c)
    (lo : Nat) (kl kc : IntKind) (L C : Int) (n : Nat) (hl : a.eval l = .int kl L) (hc : a.eval c = .int kc C) (hL : L = (n : Int)) (hC : C = (n : Int)) (hn : n ≤ 1000000000000) (hlo : lo ≤ w.heap.size)
    (h : ∀ w', OwnV 22 w' lo (.slice (some ⟨w.heap.size, 0, none⟩) n n) (List.replicate n (.slice none 0 0)) → Ext w w' → wpList Try.prog ops Q rest (a.put o.dst (.slice (some ⟨w.heap.size, 0, none⟩) n n)) w') : wpList Try.prog ops Q (o :: rest) a w := by
  obtain ⟨i, hi, hz, h1, h8⟩ := info_sl
  refine wpList_make_full w hgd l c 29 ho lo 22 i (.slice none 0 0) 1 Try.underlying29 hi hz h1 kl kc L C n hl hc hL hC (by rw [h8]; omega) (by unfold maxLen; omega) hlo (fun w' ho' hg => h w' ?_ (grownBy_none hg))
  unfold OwnV
  simpa [Value.cells, toList_madeCells_one] using ho'
theorem OwnL.fresh {w : World} {lo : Nat} {v : Value} {n : Nat} (h : OwnV 22 w lo v (List.replicate n (.slice none 0 0))) (hi : Nat) : OwnL w lo hi v (List.replicate n []) := by
  refine ⟨_, h, by simp, fun i p q => ?_, ?_⟩
  · simp only [List.getElem_replicate]
    exact ⟨OwnV.nil _ _ _, fun k hk => by cases hk⟩
  · rw [List.pairwise_iff_getElem]
    intro i j p q _
    left
    simp only [List.getElem_replicate]
    rfl
/-- One of the rows is put in anew: a slice that is younger than all of them. -/
theorem OwnL.put {w w2 : World} {lo hi : Nat} {a : Option Addr} {n cap : Nat} {xss : List (List Int)} (h : OwnL w lo hi (.slice a n cap) xss) (he : Ext w w2) (j : Nat) (hj : j < xss.length) (hhi : hi ≤ w.heap.size) (hlo : lo ≤ w.heap.size)
    {u : Value} {ys : List Int} (hu : Own w2 w.heap.size u ys) :
    ∃ g, a = some ⟨g, 0, none⟩ ∧ g < w.heap.size ∧ (∃ old, w2.cell? ⟨g, j, none⟩ = some old) ∧ w2.frozen? ⟨g, j, none⟩ = false ∧ OwnL (w2.setCell ⟨g, j, none⟩ u) lo w2.heap.size (.slice a n cap) (xss.set j ys) ∧ w2.grownBy (w2.setCell ⟨g, j, none⟩ u) (some g) ∧ lo ≤ g := by
  obtain ⟨vs, a1, a2, a3, a4⟩ := h
  obtain ⟨a', cap', h1, h2, h3, h4, h5⟩ := a1.form
  obtain ⟨g, rfl, hg, hl⟩ := h4 (by omega)
  cases h1
  have b1 := a1.ext he
  have hc := b1.cell j (by omega)
  obtain ⟨s1, s2⟩ := b1.stored j u
  refine ⟨g, rfl, hl, ⟨_, hc⟩, b1.frozen j, ⟨vs.set j u, s1, by simp [a2], fun i p q => ?_, ?_⟩, s2, hg⟩
  · rw [List.length_set] at p q
    by_cases e : j = i
    · subst e
      simp only [List.getElem_set_self]
      have hu2 : Own (w2.setCell ⟨g, j, none⟩ u) w.heap.size u ys := hu.kept s2 (by
        cases hv : u.ownBlock with
        | none => exact .inl rfl
        | some k => right; intro e; injection e with e; have := (hu.lt k hv).1; omega)
      exact ⟨hu2.mono hlo, fun k hk => (hu.lt k hk).2⟩
    · simp only [List.getElem_set_ne e]
      have h6 := a3 i p q
      refine ⟨((h6.1.ext he).keptT b1 (by decide) s2), fun k hk => Nat.lt_of_lt_of_le (h6.2 k hk) (Nat.le_trans hhi he.size)⟩
  · rw [List.pairwise_iff_getElem] at a4 ⊢
    intro i k p q hik
    rw [List.length_set] at p q
    have old : ∀ t (ht : t < vs.length) b, vs[t].ownBlock = some b → b < w.heap.size := fun t ht b hb => Nat.lt_of_lt_of_le ((a3 t ht (by omega)).2 b hb) hhi
    by_cases e1 : j = i
    · subst e1
      simp only [List.getElem_set_self, List.getElem_set_ne (show j ≠ k by omega)]
      cases hv : vs[k].ownBlock with
      | none => exact .inl rfl
      | some b => right; intro e; have := (hu.lt b e.symm).1; have := old k q b hv; omega
    · by_cases e2 : j = k
      · subst e2
        simp only [List.getElem_set_self, List.getElem_set_ne e1]
        cases hv : u.ownBlock with
        | none => exact .inl rfl
        | some b => right; intro e; have := (hu.lt b hv).1; have := old i p b e.symm; omega
      · simp only [List.getElem_set_ne e1, List.getElem_set_ne e2]
        exact a4 i k p q hik
theorem sumLen_mem2 {l : List (List Int)} {j : Nat} (h : j < l.length) : l[j].length ≤ sumLen l := by
  have h1 := sumLen_take h
  have h2 := sumLen_take_le l (j + 1)
  omega
theorem slice_form2 {e : TypeId} {w : World} {lo : Nat} {v : Value} {ys : List Value} (h : OwnV e w lo v ys) : ∃ A n c, v = .slice A n c := by
  obtain ⟨A, c, h, _⟩ := h.form
  exact ⟨A, _, c, h⟩
set_option maxHeartbeats 400000 in
theorem l_toInt64SS (v : Value) (xss : List (List Int)) (w : World) (hn : xss.length + sumLen xss ≤ 1048576) (h : RdL w v xss) : Calls Try.prog 38 #[v] w (RetL w xss) := by
  obtain ⟨a, cap, rfl, hc, hm, hr⟩ := h
  obtain ⟨N, HN⟩ : ∃ N, Hid (N = xss.length) := ⟨_, Lib.hid rfl⟩
  have HR := Lib.hid hr
  have hN : N ≤ 1048576 := by rw [HN.out]; omega
  have HSM : Hid (sumLen xss ≤ 1048576) := Lib.hid (by omega)
  clear hr hn
  rw [← HN.out] at hc ⊢
  go_enter Try.func38, Try.ntmps38
  go_wp2_with (at_make; refine wp_makeL _ rfl _ _ rfl w.heap.size .i64 .i64 _ _ N rfl rfl rfl rfl (by omega) (Nat.le_refl _) ?_; intro w1 hown hext)
  have HO0 := Lib.hid (OwnL.fresh hown w1.heap.size)
  have HE0 := Lib.hid hext
  clear hown hext
  go_loopw [4] (fun i wr => ∃ j : Nat, j ≤ N ∧ i = .int .i64 j ∧ Hid (OwnL wr w.heap.size wr.heap.size (.slice (some ⟨w.heap.size, 0, none⟩) N N) (xss.take j ++ List.replicate (N - j) [])) ∧ Hid (Ext w wr)) (fun i _ => N - (intOf i).toNat)
  case atStart => exact ⟨0, by omega, rfl, Lib.hid (by simpa using HO0.out), HE0⟩
  case round =>
    obtain ⟨j, hj, rfl, hown, hext⟩ := hrel
    by_cases hlt : j < N
    · have hjx : j < xss.length := by rw [← HN.out]; exact hlt
      obtain ⟨g, o, rfl, hg, hall⟩ := HR.out (by omega)
      obtain ⟨b, n, c, hcell0, hrd⟩ := hall j hjx
      have hcell := (hext.out.cell (p := ⟨g, o + j, none⟩) hg).trans hcell0
      have HRD := Lib.hid (hrd.ext hext.out)
      have HSL : Hid (xss[j].length ≤ 1048576) := Lib.hid (Nat.le_trans (sumLen_mem2 hjx) HSM.out)
      have HCUR : Hid (j < (xss.take j ++ List.replicate (N - j) ([] : List Int)).length) := Lib.hid (by rw [List.length_append, List.length_take, List.length_replicate]; omega)
      have HHS : Hid ((xss.take j ++ List.replicate (N - j) ([] : List Int)).set j xss[j] = xss.take (j + 1) ++ List.replicate (N - (j + 1)) []) := Lib.hid (by
        have h1 : (xss.take j).length = j := by rw [List.length_take]; omega
        rw [List.set_append_right _ _ (by omega), h1, Nat.sub_self, show N - j = (N - (j + 1)) + 1 from by omega, List.replicate_succ, List.set_cons_zero, List.take_succ_eq_append_getElem hjx, List.append_assoc]
        rfl)
      clear hall hrd hcell0
      go_wp2_with (go_at_call 14; refine (l_toInt64S _ xss[j] _ HSL.out HRD.out).mono ?_; rintro e w2 ⟨u, rfl, o2, x2⟩; obtain ⟨g', hg', hgl, ⟨old, hc1⟩, hf1, hput, hgr, hlg⟩ := hown.out.put x2 j HCUR.out (Nat.le_refl _) hext.out.size o2; injection hg' with hg'; injection hg' with hg'; subst hg'; obtain ⟨A3, n3, c3, hu⟩ := slice_form2 o2; subst hu; have HP := Lib.hid hput; have HG := Lib.hid hgr; have HX := Lib.hid x2; clear hput hgr x2 o2)
      refine ⟨⟨j + 1, by omega, by go_num, Lib.hid ?_, Lib.hid ?_⟩, by simp only [intOf]; omega⟩
      · rw [← HHS.out]; exact HP.out.hi (by simp)
      · exact Below.grown (hext.out.trans HX.out) HG.out (hext.out.trans HX.out).size (fun k hk => by injection hk with hk; omega)
    · obtain rfl : j = N := by omega
      go_wp2
      go_ret
      refine ⟨_, rfl, ?_, hext.out⟩
      have h1 := hown.out
      rw [List.take_of_length_le (by rw [← HN.out]; omega), Nat.sub_self, List.replicate_zero, List.append_nil] at h1
      exact h1
end Go.Proofs.Ytloacmfafccofaa
