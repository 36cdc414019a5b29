/- slices.Compact at []int64: the shelf's contract, laid over this program, in this seat's words; of a sorted list. No condition. -/
import Derived.Test.YtafaecpmffmfgaaSortLay
import Derived.Test.YtafaecpmffmfgaaSetMath
import Derived.Shelf.SlicesG.CompactI
import Derived.Lib.OwnBridge
namespace Go.Proofs.Ytafaecpmffmfgaa
open Go.RowKit Go.Shelf Go.Sort

theorem compact_spec {zs : List Int} (hs : zs.Pairwise (· ≤ ·)) : ∀ m, m ≤ zs.length → Rises (Lib.compactUpTo zs.toArray m) ∧ ∀ x, x ∈ Lib.compactUpTo zs.toArray m ↔ ∃ j, ∃ h : j < zs.length, j < m ∧ zs[j] = x
  | 0, _ => ⟨by simp [Lib.compactUpTo, Rises], fun x => by simp [Lib.compactUpTo]⟩
  | m + 1, hm => by
    obtain ⟨h1, h2⟩ := compact_spec hs m (by omega)
    have hml : m < zs.length := by omega
    have hg : ∀ j (h : j < zs.length), zs.toArray[j]! = zs[j] := fun j h => by simp [getElem!_pos, h]
    have hle : ∀ j (h : j < zs.length), j < m → zs[j] ≤ zs[m] := fun j h hj => List.pairwise_iff_getElem.1 hs j m h hml hj
    rw [Lib.compactUpTo_succ]
    cases hk : Lib.keeps zs.toArray m
    · have hm0 : m ≠ 0 ∧ zs[m] = zs[m - 1]'(by omega) := by
        simp only [Lib.keeps, decide_eq_false_iff_not, not_or, Decidable.not_not] at hk
        rw [hg m hml, hg (m - 1) (by omega)] at hk
        exact hk
      simp only [Bool.false_eq_true, if_false, List.append_nil]
      refine ⟨h1, fun x => ?_⟩
      rw [h2]
      constructor
      · rintro ⟨j, hj, h3, h4⟩; exact ⟨j, hj, by omega, h4⟩
      · rintro ⟨j, hj, h3, h4⟩
        by_cases e : j = m
        · subst e
          exact ⟨j - 1, by omega, by omega, by rw [← hm0.2]; exact h4⟩
        · exact ⟨j, hj, by omega, h4⟩
    · simp only [if_true]
      have hlt : ∀ x ∈ Lib.compactUpTo zs.toArray m, x < zs[m] := by
        intro x hx
        obtain ⟨j, hj, h3, rfl⟩ := (h2 x).1 hx
        have h5 : m ≠ 0 := by omega
        simp only [Lib.keeps, decide_eq_true_eq] at hk
        rw [hg m hml, hg (m - 1) (by omega)] at hk
        have h6 : zs[m] ≠ zs[m - 1]'(by omega) := by
          rcases hk with h | h
          · exact absurd h h5
          · exact h
        have h7 : zs[j] ≤ zs[m - 1]'(by omega) := by
          by_cases e : j = m - 1
          · subst e; exact Int.le_refl _
          · exact List.pairwise_iff_getElem.1 hs j (m - 1) hj (by omega) (by omega)
        have h8 := hle (m - 1) (by omega) (by omega)
        omega
      refine ⟨?_, fun x => ?_⟩
      · unfold Rises
        rw [List.pairwise_append]
        exact ⟨h1, List.pairwise_singleton _ _, fun a ha b hb => by
          rw [List.mem_singleton] at hb
          rw [hb, hg m hml]
          exact hlt a ha⟩
      · rw [List.mem_append, h2, List.mem_singleton, hg m hml]
        constructor
        · rintro (⟨j, hj, h3, h4⟩ | h)
          · exact ⟨j, hj, by omega, h4⟩
          · exact ⟨m, hml, by omega, h.symm⟩
        · rintro ⟨j, hj, h3, h4⟩
          by_cases e : j = m
          · subst e; exact .inr h4.symm
          · exact .inl ⟨j, hj, by omega, h4⟩
theorem compact_srt (l : List Int) : Lib.compact (srt l) = putAll [] l := by
  have h1 : (srt l).Pairwise (· ≤ ·) := (List.pairwise_mergeSort (le := fun x y : Int => decide (x ≤ y)) (by intro a b c; simp; omega) (by intro a b; simp; omega) l).imp (by intro a b h; simpa using h)
  obtain ⟨h2, h3⟩ := compact_spec h1 (srt l).length (Nat.le_refl _)
  obtain ⟨h4, h5⟩ := putAll_spec (xs := []) (ys := l) List.Pairwise.nil
  refine rises_ext h2 h4 fun x => ?_
  rw [h5]
  refine (h3 x).trans ?_
  rw [← (srt_perm l).mem_iff]
  constructor
  · rintro ⟨j, hj, _, rfl⟩; exact .inr (List.getElem_mem hj)
  · rintro (h | h)
    · simp at h
    · obtain ⟨j, hj, e⟩ := List.mem_iff_getElem.1 h; exact ⟨j, hj, hj, e⟩
def laidCompact_ren : Go.Shelf.Ren := ⟨fun | 43 => 79 | n => n, fun | 22 => 22 | 23 => 2 | 3 => 3 | 4 => 4 | 0 => 0 | n => n, fun | n => n⟩
theorem laidCompact : Go.Proofs.SlLaysN.n43 Try.prog laidCompact_ren := {
  mixed := by kernel_rfl
  f43 := ⟨Try.f79.name, by decide, Try.func79.trans (congrArg some (by kernel_rfl))⟩
  t0 := Try.underlying0
  a0 := Try.isAgg0
  z0 := Try.sizeOf0
  v0 := Try.zeroValue0
  t3 := Try.underlying3
  a3 := Try.isAgg3
  z3 := Try.sizeOf3
  v3 := Try.zeroValue3
  t4 := Try.underlying4
  a4 := Try.isAgg4
  z4 := Try.sizeOf4
  v4 := Try.zeroValue4
  t22 := Try.underlying22
  a22 := Try.isAgg22
  z22 := Try.sizeOf22
  v22 := Try.zeroValue22
  t23 := Try.underlying2
  a23 := Try.isAgg2
  z23 := Try.sizeOf2
  v23 := Try.zeroValue2
  i23 := by kernel_rfl }
theorem grownBy_put {w : World} {g q : Nat} (d : Array Int) : w.grownBy (putRow (Value.int .i64) (Sort.ahead w q) g 0 d) (some g) := by
  refine ⟨rfl, rfl, rfl, by simp [putRow, mapBlock, Sort.ahead], fun k hk hne => ?_⟩
  have : g ≠ k := fun e => hne (by rw [e])
  simp [putRow, mapBlock, Sort.ahead, Array.getElem?_modify, this]
theorem compact_le (xs : List Int) : (Lib.compact xs).length ≤ xs.length := by
  unfold Lib.compact Lib.compactUpTo
  rw [List.length_map]
  have := List.length_filter_le (Lib.keeps xs.toArray) (List.range xs.length)
  rw [List.length_range] at this
  exact this
/-- The call hands back the slice cut to what is kept. -/
def RetCut (w : World) (lo : Nat) (v : Value) (ys : List Int) (e : Ending) (w' : World) : Prop := ∃ v', e = .returned v' ∧ Own w' lo v' ys ∧ w.grownBy w' v.ownBlock
theorem c_Compact (v : Value) (xs : List Int) (lo : Nat) (w : World) (hn : 0 < xs.length) (hn2 : xs.length ≤ 1000000000) (h : Own w lo v xs) :
    Calls Try.prog 79 #[v] w (RetCut w lo v (Lib.compact xs)) := by
  have hne : v ≠ .slice none 0 0 := by
    rintro rfl
    obtain ⟨a, cap, hv, _⟩ := h.form
    rw [List.length_map] at hv
    injection hv with _ h2 _
    omega
  have h' : w.ownsRow lo 2 1 v xs.length (xs.map (Value.int .i64)) := by simpa [Own, OwnV] using h
  obtain ⟨g, cap, rfl, hg, hlt, hc, hm, _, hH⟩ := Lib.holds_of_ownsRow h' hne
  refine (AnyG.slices_Compact_int laidCompact g 0 cap xs w hH (by omega) hc).mono ?_
  rintro e w' ⟨rfl, q, rfl⟩
  refine ⟨_, rfl, ?_, grownBy_put _⟩
  have hl := compact_le xs
  have := Lib.ownsRow_putRow (q := q) (k := (Lib.compact xs).length) (ys := Lib.compact xs ++ List.replicate (xs.length - (Lib.compact xs).length) 0) h' (by rw [List.length_append, List.length_replicate]; omega) hl
  rw [List.take_left] at this
  unfold Own OwnV
  rw [List.length_map]
  exact this
end Go.Proofs.Ytafaecpmffmfgaa
