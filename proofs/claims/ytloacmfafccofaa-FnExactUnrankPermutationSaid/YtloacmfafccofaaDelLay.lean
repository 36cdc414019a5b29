/- slices.Delete of one place at []int64: the shelf's contract, laid over this program, in this seat's words. No condition. -/
import Derived.Test.YtloacmfafccofaaMem
import Derived.Shelf.SlicesG.Delete
import Derived.Lib.OwnBridge
namespace Go.Proofs.Ytloacmfafccofaa
open Go.RowKit Go.Shelf Go.Sort
def laidDelete_ren : Go.Shelf.Ren := ⟨fun | 45 => 70 | n => n, fun | 22 => 22 | 23 => 2 | 3 => 3 | 4 => 4 | 0 => 0 | n => n, fun | n => n⟩
theorem laidDelete : Go.Proofs.SlLaysN.n45 Try.prog laidDelete_ren := {
  mixed := by kernel_rfl
  f45 := ⟨Try.f70.name, by decide, Try.func70.trans (congrArg some (by kernel_rfl))⟩
  t0 := Try.underlying0
  a0 := Try.isAgg0
  z0 := Try.sizeOf0
  v0 := Try.zeroValue0
  t3 := Try.underlying3
  a3 := Try.isAgg3
  z3 := Try.sizeOf3
  v3 := Try.zeroValue3
  t4 := Try.underlying4
  a4 := Try.isAgg4
  z4 := Try.sizeOf4
  v4 := Try.zeroValue4
  t22 := Try.underlying22
  a22 := Try.isAgg22
  z22 := Try.sizeOf22
  v22 := Try.zeroValue22
  t23 := Try.underlying2
  a23 := Try.isAgg2
  z23 := Try.sizeOf2
  v23 := Try.zeroValue2
  i23 := by kernel_rfl }
theorem grownBy_putD {w : World} {g q : Nat} (d : Array Int) : w.grownBy (putRow (Value.int .i64) (Sort.ahead w q) g 0 d) (some g) := by
  refine ⟨rfl, rfl, rfl, by simp [putRow, mapBlock, Sort.ahead], fun k hk hne => ?_⟩
  have : g ≠ k := fun e => hne (by rw [e])
  simp [putRow, mapBlock, Sort.ahead, Array.getElem?_modify, this]
theorem c_Delete (v : Value) (xs : List Int) (g cap i lo : Nat) (w : World) (hv : v = .slice (some ⟨g, 0, none⟩) xs.length cap) (hi : i < xs.length) (h : Own w lo v xs) :
    Calls Try.prog 70 #[v, .int .i64 i, .int .i64 ((i : Int) + 1)] w fun e w' => e = .returned (.slice (some ⟨g, 0, none⟩) (xs.length - 1) cap) ∧ Own w' lo (.slice (some ⟨g, 0, none⟩) (xs.length - 1) cap) (xs.take i ++ xs.drop (i + 1)) ∧ w.grownBy w' (some g) := by
  subst hv
  have h' : w.ownsRow lo 2 1 (.slice (some ⟨g, 0, none⟩) xs.length cap) xs.length (xs.map (Value.int .i64)) := by simpa [Own, OwnV] using h
  obtain ⟨g', cap', he, hg, hlt, hc, hm, _, hH⟩ := Lib.holds_of_ownsRow h' (by intro e; cases e)
  injection he with h1 _ h3
  injection h1 with h1
  injection h1 with h1
  subst h1; subst h3
  have hm' : cap ≤ 9223372036854775807 := by unfold maxLen at hm; omega
  have key := AnyG.slices_Delete_int laidDelete g 0 cap i (i + 1) xs w hH hc hm' (by omega) (by omega)
  push_cast at key
  refine key.mono ?_
  rintro e w' ⟨rfl, q, rfl⟩
  have hlen : (xs.take i ++ xs.drop (i + 1)).length = xs.length - 1 := by rw [List.length_append, List.length_take, List.length_drop]; omega
  have e1 : i + 1 - i = 1 := by omega
  rw [e1]
  refine ⟨rfl, ?_, grownBy_putD _⟩
  have := Lib.ownsRow_putRow (q := q) (k := xs.length - 1) (ys := xs.take i ++ xs.drop (i + 1) ++ List.replicate 1 0) h' (by rw [List.length_append, hlen, List.length_replicate]; omega) (by omega)
  have e2 : (xs.take i ++ xs.drop (i + 1) ++ List.replicate 1 (0 : Int)).take (xs.length - 1) = xs.take i ++ xs.drop (i + 1) := by rw [← hlen, List.take_left]
  rw [e2] at this
  unfold Own OwnV
  rw [List.length_map, hlen]
  exact this
end Go.Proofs.Ytloacmfafccofaa
