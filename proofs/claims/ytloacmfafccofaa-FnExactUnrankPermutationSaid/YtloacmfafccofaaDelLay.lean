/- slices.Delete of one place at []int64: the shelf's contract, laid over this program, in this seat's words. No condition. -/
import Derived.Test.YtloacmfafccofaaMem
import Derived.Shelf.SlicesG.Delete
import Derived.Ground.SlgnProg
import Derived.Lib.OwnBridge
namespace Go.Proofs.Ytloacmfafccofaa
open Go.RowKit Go.Shelf Go.Sort
shelf_lay_g SlLaysN.n45 Slgn 45 at Try 70 as laidDelete
theorem grownBy_putD {w : World} {g q : Nat} (d : Array Int) : w.grownBy (putRow (Value.int .i64) (Sort.ahead w q) g 0 d) (some g) := by
  refine ⟨rfl, rfl, rfl, by simp [putRow, mapBlock, Sort.ahead], fun k hk hne => ?_⟩
  have : g ≠ k := fun e => hne (by rw [e])
  simp [putRow, mapBlock, Sort.ahead, Array.getElem?_modify, this]
theorem c_Delete (v : Value) (xs : List Int) (g cap i lo : Nat) (w : World) (hv : v = .slice (some ⟨g, 0, none⟩) xs.length cap) (hi : i < xs.length) (h : Own w lo v xs) :
    Calls Try.prog 70 #[v, .int .i64 i, .int .i64 ((i : Int) + 1)] w fun e w' => e = .returned (.slice (some ⟨g, 0, none⟩) (xs.length - 1) cap) ∧ Own w' lo (.slice (some ⟨g, 0, none⟩) (xs.length - 1) cap) (xs.take i ++ xs.drop (i + 1)) ∧ w.grownBy w' (some g) := by
  subst hv
  have h' : w.ownsRow lo 2 1 (.slice (some ⟨g, 0, none⟩) xs.length cap) xs.length (xs.map (Value.int .i64)) := by simpa [Own, OwnV] using h
  obtain ⟨g', cap', he, hg, hlt, hc, hm, _, hH⟩ := Lib.holds_of_ownsRow h' (by intro e; cases e)
  injection he with h1 _ h3
  injection h1 with h1
  injection h1 with h1
  subst h1; subst h3
  have hm' : cap ≤ 9223372036854775807 := by unfold maxLen at hm; omega
  have key := AnyG.slices_Delete_int laidDelete g 0 cap i (i + 1) xs w hH hc hm' (by omega) (by omega)
  push_cast at key
  refine key.mono ?_
  rintro e w' ⟨rfl, q, rfl⟩
  have hlen : (xs.take i ++ xs.drop (i + 1)).length = xs.length - 1 := by rw [List.length_append, List.length_take, List.length_drop]; omega
  have e1 : i + 1 - i = 1 := by omega
  rw [e1]
  refine ⟨rfl, ?_, grownBy_putD _⟩
  have := Lib.ownsRow_putRow (q := q) (k := xs.length - 1) (ys := xs.take i ++ xs.drop (i + 1) ++ List.replicate 1 0) h' (by rw [List.length_append, hlen, List.length_replicate]; omega) (by omega)
  have e2 : (xs.take i ++ xs.drop (i + 1) ++ List.replicate 1 (0 : Int)).take (xs.length - 1) = xs.take i ++ xs.drop (i + 1) := by rw [← hlen, List.take_left]
  rw [e2] at this
  unfold Own OwnV
  rw [List.length_map, hlen]
  exact this
end Go.Proofs.Ytloacmfafccofaa
