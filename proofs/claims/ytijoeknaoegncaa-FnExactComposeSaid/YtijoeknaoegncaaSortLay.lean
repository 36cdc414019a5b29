/- slices.Sort at []int64: the shelf's contract, laid over this program, in this seat's words. No condition. -/
import Derived.Test.YtijoeknaoegncaaMem
import Derived.Shelf.SortG.Plain
import Derived.Shelf.SortG.SortNone
import Derived.Sort.OwnSortedInts
namespace Go.Proofs.Ytijoeknaoegncaa
open Go.RowKit Go.Shelf Go.Sort
def laidSort_ren : Go.Shelf.Ren := ⟨fun | 53 => 42 | 64 => 67 | 63 => 66 | 78 => 80 | 79 => 81 | 70 => 71 | 71 => 72 | 72 => 73 | 73 => 74 | 74 => 75 | 75 => 76 | 59 => 77 | 76 => 78 | 77 => 79 | 88 => 90 | 89 => 91 | 90 => 92 | 91 => 93 | 92 => 94 | 68 => 95 | 96 => 99 | n => n, fun | 22 => 22 | 23 => 2 | 3 => 3 | 51 => 49 | 0 => 0 | 67 => 64 | 69 => 66 | 4 => 4 | 61 => 56 | 60 => 55 | 44 => 61 | 5 => 5 | 9 => 9 | 75 => 72 | 79 => 76 | 83 => 81 | 84 => 82 | n => n, fun | n => n⟩
theorem laidSort : Go.Proofs.SlLaysN.n53 Try.prog laidSort_ren := {
  mixed := by kernel_rfl
  f53 := ⟨Try.f42.name, by decide, Try.func42.trans (congrArg some (by kernel_rfl))⟩
  f59 := ⟨Try.f77.name, by decide, Try.func77.trans (congrArg some (by kernel_rfl))⟩
  f63 := ⟨Try.f66.name, by decide, Try.func66.trans (congrArg some (by kernel_rfl))⟩
  f64 := Try.func67.trans (congrArg some (by kernel_rfl))
  f68 := ⟨Try.f95.name, by decide, Try.func95.trans (congrArg some (by kernel_rfl))⟩
  f70 := ⟨Try.f71.name, by decide, Try.func71.trans (congrArg some (by kernel_rfl))⟩
  f71 := ⟨Try.f72.name, by decide, Try.func72.trans (congrArg some (by kernel_rfl))⟩
  f72 := ⟨Try.f73.name, by decide, Try.func73.trans (congrArg some (by kernel_rfl))⟩
  f73 := ⟨Try.f74.name, by decide, Try.func74.trans (congrArg some (by kernel_rfl))⟩
  f74 := ⟨Try.f75.name, by decide, Try.func75.trans (congrArg some (by kernel_rfl))⟩
  f75 := ⟨Try.f76.name, by decide, Try.func76.trans (congrArg some (by kernel_rfl))⟩
  f76 := ⟨Try.f78.name, by decide, Try.func78.trans (congrArg some (by kernel_rfl))⟩
  f77 := ⟨Try.f79.name, by decide, Try.func79.trans (congrArg some (by kernel_rfl))⟩
  f78 := Try.func80.trans (congrArg some (by kernel_rfl))
  f79 := Try.func81.trans (congrArg some (by kernel_rfl))
  f88 := ⟨Try.f90.name, by decide, Try.func90.trans (congrArg some (by kernel_rfl))⟩
  f89 := Try.func91.trans (congrArg some (by kernel_rfl))
  f90 := Try.func92.trans (congrArg some (by kernel_rfl))
  f91 := ⟨Try.f93.name, by decide, Try.func93.trans (congrArg some (by kernel_rfl))⟩
  f92 := ⟨Try.f94.name, by decide, Try.func94.trans (congrArg some (by kernel_rfl))⟩
  f96 := ⟨Try.f99.name, by decide, Try.func99.trans (congrArg some (by kernel_rfl))⟩
  t0 := Try.underlying0
  a0 := Try.isAgg0
  z0 := Try.sizeOf0
  v0 := Try.zeroValue0
  t3 := Try.underlying3
  a3 := Try.isAgg3
  z3 := Try.sizeOf3
  v3 := Try.zeroValue3
  t4 := Try.underlying4
  a4 := Try.isAgg4
  z4 := Try.sizeOf4
  v4 := Try.zeroValue4
  t5 := Try.underlying5
  a5 := Try.isAgg5
  z5 := Try.sizeOf5
  v5 := Try.zeroValue5
  t9 := Try.underlying9
  a9 := Try.isAgg9
  z9 := Try.sizeOf9
  v9 := Try.zeroValue9
  t22 := Try.underlying22
  a22 := Try.isAgg22
  z22 := Try.sizeOf22
  v22 := Try.zeroValue22
  t23 := Try.underlying2
  a23 := Try.isAgg2
  z23 := Try.sizeOf2
  v23 := Try.zeroValue2
  t44 := Try.underlying61
  a44 := Try.isAgg61
  z44 := Try.sizeOf61
  v44 := Try.zeroValue61
  t51 := Try.underlying49
  a51 := Try.isAgg49
  z51 := Try.sizeOf49
  v51 := Try.zeroValue49
  t60 := Try.underlying55
  a60 := Try.isAgg55
  z60 := Try.sizeOf55
  v60 := Try.zeroValue55
  t61 := Try.underlying56
  a61 := Try.isAgg56
  z61 := Try.sizeOf56
  v61 := Try.zeroValue56
  t67 := Try.underlying64
  a67 := Try.isAgg64
  z67 := Try.sizeOf64
  v67 := Try.zeroValue64
  t69 := Try.underlying66
  a69 := Try.isAgg66
  z69 := Try.sizeOf66
  v69 := Try.zeroValue66
  t75 := Try.underlying72
  a75 := Try.isAgg72
  z75 := Try.sizeOf72
  v75 := Try.zeroValue72
  t79 := Try.underlying76
  a79 := Try.isAgg76
  z79 := Try.sizeOf76
  v79 := Try.zeroValue76
  t83 := Try.underlying81
  a83 := Try.isAgg81
  z83 := Try.sizeOf81
  v83 := Try.zeroValue81
  t84 := Try.underlying82
  a84 := Try.isAgg82
  z84 := Try.sizeOf82
  v84 := Try.zeroValue82 }

def srt (xs : List Int) : List Int := xs.mergeSort fun x y => decide (x ≤ y)
theorem srt_perm (xs : List Int) : (srt xs).Perm xs := List.mergeSort_perm _ _
theorem srt_len (xs : List Int) : (srt xs).length = xs.length := (srt_perm xs).length_eq
theorem c_Sort (v : Value) (xs : List Int) (lo : Nat) (w : World) (hn : xs.length ≤ 1000000000) (h : Own w lo v xs) :
    Calls Try.prog 42 #[v] w fun e w' => e = .returned (.tuple #[]) ∧ Own w' lo v (srt xs) ∧ w.grownBy w' v.ownBlock := by
  by_cases h0 : xs.length = 0
  · have hx : xs = [] := List.eq_nil_of_length_eq_zero h0
    subst hx
    obtain ⟨a, cap, hv, _⟩ := h.form
    simp only [List.map_nil, List.length_nil] at hv
    subst hv
    refine (AnyG.slices_Sort_int_none laidSort a cap w).mono ?_
    rintro e w' ⟨rfl, rfl⟩
    exact ⟨rfl, by simpa [srt] using h, World.grownBy.refl _ _⟩
  · obtain ⟨h1, h2⟩ := h
    rcases h2 with ⟨h3, h4⟩ | ⟨g, cap, cur, h3, h4, h5, h6, h7, h8, h9⟩
    · simp at h4; exact absurd (by simp [h4]) h0
    · subst h3
      have hsz : g < w.heap.size := (Array.getElem?_eq_some_iff.1 h5).1
      have hH : Holds (Value.int .i64) w g 0 xs.toArray := holds_of_blockI h5 (by simpa using h9)
      have key := AnyG.slices_Sort_int laidSort g 0 cap xs w hH hsz (by omega)
      simp only [List.length_map]
      refine key.mono ?_
      rintro e w' ⟨rfl, n, os, rfl⟩
      refine ⟨rfl, ?_, ?_⟩
      · have := ownsRow_sortedI (n := n) (os := os) (ts := srt xs) (ss := xs) (srt_len xs) h4 h5 (by simpa using h6) h7 h8
        unfold Own OwnV
        rw [List.length_map, srt_len]
        exact this
      · exact grownBy_sortedI _
end Go.Proofs.Ytijoeknaoegncaa
