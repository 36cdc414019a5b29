/- slices.Sort at []int64: the shelf's contract, laid over this program, in this seat's words. No condition. -/
import Derived.Test.YtloacmfafccofaaMem
import Derived.Shelf.SortG.Plain
import Derived.Shelf.SortG.SortNone
import Derived.Sort.OwnSortedInts
namespace Go.Proofs.Ytloacmfafccofaa
open Go.RowKit Go.Shelf Go.Sort
def laidSort_ren : Go.Shelf.Ren := ⟨fun | 53 => 76 | 64 => 80 | 63 => 81 | 78 => 90 | 79 => 91 | 70 => 92 | 71 => 93 | 72 => 94 | 73 => 95 | 74 => 96 | 75 => 97 | 59 => 98 | 76 => 99 | 77 => 100 | 88 => 106 | 89 => 102 | 90 => 103 | 91 => 107 | 92 => 108 | 68 => 109 | 96 => 111 | n => n, fun | 22 => 22 | 23 => 2 | 3 => 3 | 51 => 65 | 0 => 0 | 67 => 76 | 69 => 78 | 4 => 4 | 61 => 69 | 60 => 68 | 44 => 73 | 5 => 5 | 9 => 9 | 75 => 84 | 79 => 88 | 83 => 93 | 84 => 94 | n => n, fun | n => n⟩
theorem laidSort : Go.Proofs.SlLaysN.n53 Try.prog laidSort_ren := {
  mixed := by kernel_rfl
  f53 := ⟨Try.f76.name, by decide, Try.func76.trans (congrArg some (by kernel_rfl))⟩
  f59 := ⟨Try.f98.name, by decide, Try.func98.trans (congrArg some (by kernel_rfl))⟩
  f63 := ⟨Try.f81.name, by decide, Try.func81.trans (congrArg some (by kernel_rfl))⟩
  f64 := Try.func80.trans (congrArg some (by kernel_rfl))
  f68 := ⟨Try.f109.name, by decide, Try.func109.trans (congrArg some (by kernel_rfl))⟩
  f70 := ⟨Try.f92.name, by decide, Try.func92.trans (congrArg some (by kernel_rfl))⟩
  f71 := ⟨Try.f93.name, by decide, Try.func93.trans (congrArg some (by kernel_rfl))⟩
  f72 := ⟨Try.f94.name, by decide, Try.func94.trans (congrArg some (by kernel_rfl))⟩
  f73 := ⟨Try.f95.name, by decide, Try.func95.trans (congrArg some (by kernel_rfl))⟩
  f74 := ⟨Try.f96.name, by decide, Try.func96.trans (congrArg some (by kernel_rfl))⟩
  f75 := ⟨Try.f97.name, by decide, Try.func97.trans (congrArg some (by kernel_rfl))⟩
  f76 := ⟨Try.f99.name, by decide, Try.func99.trans (congrArg some (by kernel_rfl))⟩
  f77 := ⟨Try.f100.name, by decide, Try.func100.trans (congrArg some (by kernel_rfl))⟩
  f78 := Try.func90.trans (congrArg some (by kernel_rfl))
  f79 := Try.func91.trans (congrArg some (by kernel_rfl))
  f88 := ⟨Try.f106.name, by decide, Try.func106.trans (congrArg some (by kernel_rfl))⟩
  f89 := Try.func102.trans (congrArg some (by kernel_rfl))
  f90 := Try.func103.trans (congrArg some (by kernel_rfl))
  f91 := ⟨Try.f107.name, by decide, Try.func107.trans (congrArg some (by kernel_rfl))⟩
  f92 := ⟨Try.f108.name, by decide, Try.func108.trans (congrArg some (by kernel_rfl))⟩
  f96 := ⟨Try.f111.name, by decide, Try.func111.trans (congrArg some (by kernel_rfl))⟩
  t0 := Try.underlying0
  a0 := Try.isAgg0
  z0 := Try.sizeOf0
  v0 := Try.zeroValue0
  t3 := Try.underlying3
  a3 := Try.isAgg3
  z3 := Try.sizeOf3
  v3 := Try.zeroValue3
  t4 := Try.underlying4
  a4 := Try.isAgg4
  z4 := Try.sizeOf4
  v4 := Try.zeroValue4
  t5 := Try.underlying5
  a5 := Try.isAgg5
  z5 := Try.sizeOf5
  v5 := Try.zeroValue5
  t9 := Try.underlying9
  a9 := Try.isAgg9
  z9 := Try.sizeOf9
  v9 := Try.zeroValue9
  t22 := Try.underlying22
  a22 := Try.isAgg22
  z22 := Try.sizeOf22
  v22 := Try.zeroValue22
  t23 := Try.underlying2
  a23 := Try.isAgg2
  z23 := Try.sizeOf2
  v23 := Try.zeroValue2
  t44 := Try.underlying73
  a44 := Try.isAgg73
  z44 := Try.sizeOf73
  v44 := Try.zeroValue73
  t51 := Try.underlying65
  a51 := Try.isAgg65
  z51 := Try.sizeOf65
  v51 := Try.zeroValue65
  t60 := Try.underlying68
  a60 := Try.isAgg68
  z60 := Try.sizeOf68
  v60 := Try.zeroValue68
  t61 := Try.underlying69
  a61 := Try.isAgg69
  z61 := Try.sizeOf69
  v61 := Try.zeroValue69
  t67 := Try.underlying76
  a67 := Try.isAgg76
  z67 := Try.sizeOf76
  v67 := Try.zeroValue76
  t69 := Try.underlying78
  a69 := Try.isAgg78
  z69 := Try.sizeOf78
  v69 := Try.zeroValue78
  t75 := Try.underlying84
  a75 := Try.isAgg84
  z75 := Try.sizeOf84
  v75 := Try.zeroValue84
  t79 := Try.underlying88
  a79 := Try.isAgg88
  z79 := Try.sizeOf88
  v79 := Try.zeroValue88
  t83 := Try.underlying93
  a83 := Try.isAgg93
  z83 := Try.sizeOf93
  v83 := Try.zeroValue93
  t84 := Try.underlying94
  a84 := Try.isAgg94
  z84 := Try.sizeOf94
  v84 := Try.zeroValue94 }

def srt (xs : List Int) : List Int := xs.mergeSort fun x y => decide (x ≤ y)
theorem srt_perm (xs : List Int) : (srt xs).Perm xs := List.mergeSort_perm _ _
theorem srt_len (xs : List Int) : (srt xs).length = xs.length := (srt_perm xs).length_eq
theorem c_Sort (v : Value) (xs : List Int) (lo : Nat) (w : World) (hn : xs.length ≤ 1000000000) (h : Own w lo v xs) :
    Calls Try.prog 76 #[v] w fun e w' => e = .returned (.tuple #[]) ∧ Own w' lo v (srt xs) ∧ w.grownBy w' v.ownBlock := by
  by_cases h0 : xs.length = 0
  · have hx : xs = [] := List.eq_nil_of_length_eq_zero h0
    subst hx
    obtain ⟨a, cap, hv, _⟩ := h.form
    simp only [List.map_nil, List.length_nil] at hv
    subst hv
    refine (AnyG.slices_Sort_int_none laidSort a cap w).mono ?_
    rintro e w' ⟨rfl, rfl⟩
    exact ⟨rfl, by simpa [srt] using h, World.grownBy.refl _ _⟩
  · obtain ⟨h1, h2⟩ := h
    rcases h2 with ⟨h3, h4⟩ | ⟨g, cap, cur, h3, h4, h5, h6, h7, h8, h9⟩
    · simp at h4; exact absurd (by simp [h4]) h0
    · subst h3
      have hsz : g < w.heap.size := (Array.getElem?_eq_some_iff.1 h5).1
      have hH : Holds (Value.int .i64) w g 0 xs.toArray := holds_of_blockI h5 (by simpa using h9)
      have key := AnyG.slices_Sort_int laidSort g 0 cap xs w hH hsz (by omega)
      simp only [List.length_map]
      refine key.mono ?_
      rintro e w' ⟨rfl, n, os, rfl⟩
      refine ⟨rfl, ?_, ?_⟩
      · have := ownsRow_sortedI (n := n) (os := os) (ts := srt xs) (ss := xs) (srt_len xs) h4 h5 (by simpa using h6) h7 h8
        unfold Own OwnV
        rw [List.length_map, srt_len]
        exact this
      · exact grownBy_sortedI _
end Go.Proofs.Ytloacmfafccofaa
