/- Slices of slices of integers that the call itself made. No condition. -/
import Derived.Test.YtloacmfafccofaaApp
import Derived.Test.YtloacmfafccofaaOwnCp
namespace Go.Proofs.Ytloacmfafccofaa
open Go.RowKit

theorem info_slice : (Try.prog.info? 22).map (fun i => (i.zero, i.size, i.bytes)) = some (some (.slice none 0 0), 1, 24) := by kernel_rfl
theorem info_sl : ∃ i, Try.prog.info? 22 = some i ∧ i.zero = some (.slice none 0 0) ∧ i.size = 1 ∧ i.bytes = 24 := by
  have h := info_slice
  cases hi : Try.prog.info? 22 with
  | none => rw [hi] at h; cases h
  | some i =>
    rw [hi] at h
    simp only [Option.map_some, Option.some.injEq, Prod.mk.injEq] at h
    exact ⟨i, rfl, h.1, h.2.1, h.2.2⟩
/-- Two rows of different kinds lie apart. -/
theorem OwnV.apartT {e e' : TypeId} {w : World} {lo lo' : Nat} {v v' : Value} {ys ys' : List Value} (h : OwnV e w lo v ys) (h' : OwnV e' w lo' v' ys') (hne : e ≠ e') : v.ownBlock = none ∨ v.ownBlock ≠ v'.ownBlock := by
  obtain ⟨_, h2⟩ := h
  obtain ⟨_, h2'⟩ := h'
  rcases h2 with ⟨h3, _⟩ | ⟨g, cap, cur, h3, h4, h5, _⟩
  · left; rw [h3]; rfl
  · rcases h2' with ⟨h3', _⟩ | ⟨g', cap', cur', h3', h4', h5', _⟩
    · right; rw [h3, h3']; simp [Value.ownBlock]
    · right
      rw [h3, h3']
      intro he
      simp only [Value.ownBlock, Option.some.injEq] at he
      have hg : g = g' := by simpa using he
      subst hg
      rw [h5] at h5'
      simp only [Option.some.injEq, Obj.cells.injEq] at h5'
      exact hne h5'.2.1
theorem OwnV.keptT {e e' : TypeId} {w w' : World} {lo lo' : Nat} {v v' : Value} {ys ys' : List Value} (h : OwnV e w lo v ys) (h' : OwnV e' w lo' v' ys') (hne : e ≠ e') (hg : w.grownBy w' v'.ownBlock) : OwnV e w' lo v ys :=
  h.kept hg (h.apartT h' hne)
/-- v lies in a block from lo on, and holds slices that read as xss; these lie in blocks from lo on, below hi, each in its own. -/
def OwnL (w : World) (lo hi : Nat) (v : Value) (xss : List (List Int)) : Prop := ∃ vs : List Value, OwnV 22 w lo v vs ∧ vs.length = xss.length ∧
  (∀ i (h : i < vs.length) (h2 : i < xss.length), Own w lo vs[i] xss[i] ∧ ∀ k, vs[i].ownBlock = some k → k < hi) ∧ vs.Pairwise (fun a b => b.ownBlock = none ∨ b.ownBlock ≠ a.ownBlock)
theorem OwnL.empty (w : World) (lo hi : Nat) (v : Value) (h : OwnV 22 w lo v []) : OwnL w lo hi v [] := ⟨[], h, rfl, fun i h => by simp at h, List.Pairwise.nil⟩
theorem OwnL.hi {w : World} {lo hi hi' : Nat} {v : Value} {xss : List (List Int)} (h : OwnL w lo hi v xss) (hh : hi ≤ hi') : OwnL w lo hi' v xss := by
  obtain ⟨vs, h1, h2, h3, h4⟩ := h
  exact ⟨vs, h1, h2, fun i p q => ⟨(h3 i p q).1, fun k hk => Nat.lt_of_lt_of_le ((h3 i p q).2 k hk) hh⟩, h4⟩
theorem OwnL.size {w : World} {lo hi : Nat} {v : Value} {xss : List (List Int)} (h : OwnL w lo hi v xss) : OwnL w lo w.heap.size v xss := by
  obtain ⟨vs, h1, h2, h3, h4⟩ := h
  exact ⟨vs, h1, h2, fun i p q => ⟨(h3 i p q).1, fun k hk => ((h3 i p q).1.lt k hk).2⟩, h4⟩
theorem OwnL.mono {w : World} {lo lo' hi : Nat} {v : Value} {xss : List (List Int)} (h : OwnL w lo hi v xss) (hl : lo' ≤ lo) : OwnL w lo' hi v xss := by
  obtain ⟨vs, h1, h2, h3, h4⟩ := h
  exact ⟨vs, h1.mono hl, h2, fun i p q => ⟨(h3 i p q).1.mono hl, (h3 i p q).2⟩, h4⟩
theorem OwnL.ext {w w' : World} {lo hi : Nat} {v : Value} {xss : List (List Int)} (h : OwnL w lo hi v xss) (he : Ext w w') : OwnL w' lo hi v xss := by
  obtain ⟨vs, h1, h2, h3, h4⟩ := h
  exact ⟨vs, h1.ext he, h2, fun i p q => ⟨(h3 i p q).1.ext he, (h3 i p q).2⟩, h4⟩
/-- Another row of integers, in a younger block, grows. -/
theorem OwnL.keptI {w w' : World} {lo hi lo' : Nat} {v cv : Value} {xss : List (List Int)} {acc : List Int} (h : OwnL w lo hi v xss) (hc : Own w lo' cv acc) (hlo : hi ≤ lo') (hg : w.grownBy w' cv.ownBlock) : OwnL w' lo hi v xss := by
  obtain ⟨vs, h1, h2, h3, h4⟩ := h
  refine ⟨vs, h1.keptT hc (by decide) hg, h2, fun i p q => ⟨(h3 i p q).1.kept hg ?_, (h3 i p q).2⟩, h4⟩
  cases hv : vs[i].ownBlock with
  | none => exact .inl rfl
  | some k =>
    refine .inr fun he => ?_
    have h5 := (h3 i p q).2 k hv
    have h6 := (hc.lt k he.symm).1
    omega
theorem OwnL.keptT {w w' : World} {lo hi lo' : Nat} {v bv : Value} {e : TypeId} {xss : List (List Int)} {bs : List Value} (h : OwnL w lo hi v xss) (hc : OwnV e w lo' bv bs) (h1 : 2 ≠ e) (h2 : 22 ≠ e) (hg : w.grownBy w' bv.ownBlock) : OwnL w' lo hi v xss := by
  obtain ⟨vs, a1, a2, a3, a4⟩ := h
  exact ⟨vs, a1.keptT hc h2 hg, a2, fun i p q => ⟨(a3 i p q).1.keptT hc h1 hg, (a3 i p q).2⟩, a4⟩
theorem wp_appL {ops : Array Oper} {rest : List Oper} {o : Oper} {a : Act} {Q : Exit → Act → World → Prop} (wr : World) (hgd : o.guard = none) (s x : Operand)
    (ho : o.op = .call { callee := .builtin .append, args := #[s, x], argTypes := #[29, 29] }) (lo hi lo' : Nat) (v : Value) (xss : List (List Int)) (hs : a.eval s = v) (hown : OwnL wr lo hi v xss)
    (A : Option Addr) (n c : Nat) (acc : List Int) (hc : Own wr lo' (.slice A n c) acc) (hhi : hi ≤ lo') (hlo2 : lo ≤ lo') (hx : a.eval x = .slice (some ⟨wr.heap.size, 0, none⟩) 1 1) (hlen : xss.length ≤ 1000000000000) (hlo : lo ≤ wr.heap.size)
    (h : ∀ v' w', OwnL w' lo w'.heap.size v' (xss ++ [acc]) → wr.grownBy w' v.ownBlock → wpList Try.prog ops Q rest (a.put o.dst v') w') : wpList Try.prog ops Q (o :: rest) a (wr.alloc (.cells #[.slice A n c] 22)) := by
  obtain ⟨i, hi0, hz, h1, h8⟩ := info_sl
  have hown0 := hown
  obtain ⟨vs, a1, a2, a3, a4⟩ := hown
  refine wpList_append_own _ hgd s x 29 ho lo 22 i (.slice none 0 0) 1 24 Try.underlying29 hi0 hz h1 h8 rfl (by decide) v vs.length vs hs (World.ownsRow.alloc (by simpa [OwnV] using a1) _) ⟨wr.heap.size, 0, none⟩ 1 1 [.slice A n c] hx rfl
    (cell_one_new wr (.slice A n c) 22) (by intro u hu; rw [List.mem_singleton.1 hu]; rfl) (by unfold maxLen; omega) (by omega) (Nat.le_trans hlo (by simp)) (fun v' w' ho' hg _ => h v' w' ?_ ?_)
  · have hg2 : wr.grownBy w' v.ownBlock := grownBy_trans (World.grownBy_alloc wr _ _) hg
    have a1' : OwnV 22 w' lo v' (vs ++ [.slice A n c]) := by
      unfold OwnV
      simpa using ho'
    have hc' : Own w' lo (.slice A n c) acc := OwnV.mono (hc.keptT a1 (by decide) hg2) hlo2
    refine ⟨vs ++ [.slice A n c], a1', by simp [a2], fun i p q => ?_, ?_⟩
    · by_cases hi' : i < vs.length
      · have e1 : (vs ++ [Value.slice A n c])[i] = vs[i] := List.getElem_append_left hi'
        have e2 : (xss ++ [acc])[i] = xss[i]'(by omega) := List.getElem_append_left (by omega)
        rw [e1, e2]
        have h5 : Own w' lo vs[i] (xss[i]'(by omega)) := (a3 i hi' (by omega)).1.keptT a1 (by decide) hg2
        exact ⟨h5, fun k hk => (h5.lt k hk).2⟩
      · have hi2 : i = vs.length := by simp at p; omega
        subst hi2
        have e1 : (vs ++ [Value.slice A n c])[vs.length] = .slice A n c := by simp
        have e2 : (xss ++ [acc])[vs.length]'q = acc := by
          rw [List.getElem_append_right (by omega)]; simp [a2]
        rw [e1, e2]
        exact ⟨hc', fun k hk => (hc'.lt k hk).2⟩
    · rw [List.pairwise_append]
      refine ⟨a4, List.pairwise_singleton _ _, fun a ha b hb => ?_⟩
      rw [List.mem_singleton] at hb
      subst hb
      obtain ⟨i, hi', rfl⟩ := List.mem_iff_getElem.1 ha
      cases hb : (Value.slice A n c).ownBlock with
      | none => exact .inl rfl
      | some k =>
        refine .inr fun he => ?_
        have h5 := (a3 i hi' (by omega)).2 k he.symm
        have h6 := (hc.lt k hb).1
        omega
  · exact grownBy_trans (World.grownBy_alloc wr _ _) hg
/-- The call hands back new slices of slices. -/
def RetL (w : World) (xss : List (List Int)) (e : Ending) (w' : World) : Prop := ∃ v, e = .returned v ∧ OwnL w' w.heap.size w'.heap.size v xss ∧ Ext w w'
theorem ext_appL {w wr w' : World} {hi : Nat} {v : Value} {xss : List (List Int)} (h : Ext w wr) (ho : OwnL wr w.heap.size hi v xss) (hg : wr.grownBy w' v.ownBlock) : Ext w w' := by
  obtain ⟨vs, a1, _⟩ := ho
  exact ext_app h a1 hg
/-- What the whole reads as: a slice whose cells hold slices that read as xss. -/
theorem OwnL.form {w : World} {lo hi : Nat} {v : Value} {xss : List (List Int)} (h : OwnL w lo hi v xss) : ∃ a cap, v = .slice a xss.length cap ∧ xss.length ≤ cap ∧ cap ≤ 9223372036854775807 ∧
    (0 < xss.length → ∃ g, a = some ⟨g, 0, none⟩ ∧ lo ≤ g ∧ g < w.heap.size ∧ ∀ i (h : i < xss.length), ∃ b n c, w.cell? ⟨g, i, none⟩ = some (.slice b n c) ∧ Own w lo (.slice b n c) xss[i] ∧ n = xss[i].length ∧ c ≤ 9223372036854775807) := by
  obtain ⟨vs, a1, a2, a3, a4⟩ := h
  obtain ⟨a, cap, h1, h2, h3, h4, h5⟩ := a1.form
  rw [a2] at h1 h2
  refine ⟨a, cap, h1, h2, by unfold maxLen at h3; omega, fun hn => ?_⟩
  obtain ⟨g, rfl, hg, hl⟩ := h4 (by omega)
  subst h1
  refine ⟨g, rfl, hg, hl, fun i hi => ?_⟩
  have hc := a1.cell i (by omega)
  have ho := (a3 i (by omega) hi).1
  obtain ⟨b, c, e1, e2, e3, _⟩ := ho.form
  rw [List.length_map] at e1 e2
  rw [e1] at hc ho
  exact ⟨b, _, c, hc, ho, rfl, by unfold maxLen at e3; omega⟩
end Go.Proofs.Ytloacmfafccofaa
