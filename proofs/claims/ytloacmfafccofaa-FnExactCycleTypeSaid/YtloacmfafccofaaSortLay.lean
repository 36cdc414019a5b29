/- slices.Sort at []int64: the shelf's contract, laid over this program, in this seat's words. No condition. -/
import Derived.Test.YtloacmfafccofaaMem
import Derived.Shelf.SortG.Plain
import Derived.Shelf.SortG.SortNone
import Derived.Ground.SlgnProg
import Derived.Sort.OwnSortedInts
namespace Go.Proofs.Ytloacmfafccofaa
open Go.RowKit Go.Shelf Go.Sort
shelf_lay_g SlLaysN.n53 Slgn 53 at Try 76 as laidSort

def srt (xs : List Int) : List Int := xs.mergeSort fun x y => decide (x ≤ y)
theorem srt_perm (xs : List Int) : (srt xs).Perm xs := List.mergeSort_perm _ _
theorem srt_len (xs : List Int) : (srt xs).length = xs.length := (srt_perm xs).length_eq
theorem c_Sort (v : Value) (xs : List Int) (lo : Nat) (w : World) (hn : xs.length ≤ 1000000000) (h : Own w lo v xs) :
    Calls Try.prog 76 #[v] w fun e w' => e = .returned (.tuple #[]) ∧ Own w' lo v (srt xs) ∧ w.grownBy w' v.ownBlock := by
  by_cases h0 : xs.length = 0
  · have hx : xs = [] := List.eq_nil_of_length_eq_zero h0
    subst hx
    obtain ⟨a, cap, hv, _⟩ := h.form
    simp only [List.map_nil, List.length_nil] at hv
    subst hv
    refine (AnyG.slices_Sort_int_none laidSort a cap w).mono ?_
    rintro e w' ⟨rfl, rfl⟩
    exact ⟨rfl, by simpa [srt] using h, World.grownBy.refl _ _⟩
  · obtain ⟨h1, h2⟩ := h
    rcases h2 with ⟨h3, h4⟩ | ⟨g, cap, cur, h3, h4, h5, h6, h7, h8, h9⟩
    · simp at h4; exact absurd (by simp [h4]) h0
    · subst h3
      have hsz : g < w.heap.size := (Array.getElem?_eq_some_iff.1 h5).1
      have hH : Holds (Value.int .i64) w g 0 xs.toArray := holds_of_blockI h5 (by simpa using h9)
      have key := AnyG.slices_Sort_int laidSort g 0 cap xs w hH hsz (by omega)
      simp only [List.length_map]
      refine key.mono ?_
      rintro e w' ⟨rfl, n, os, rfl⟩
      refine ⟨rfl, ?_, ?_⟩
      · have := ownsRow_sortedI (n := n) (os := os) (ts := srt xs) (ss := xs) (srt_len xs) h4 h5 (by simpa using h6) h7 h8
        unfold Own OwnV
        rw [List.length_map, srt_len]
        exact this
      · exact grownBy_sortedI _
end Go.Proofs.Ytloacmfafccofaa
