/- How the arguments of the laws are opened: a slice of integers that came in reads as a list. No condition. -/
import Derived.Test.YthibddfcjnljfaaDoorMem
import Derived.ProofKit
import Derived.OpenShut
import Derived.ShutString
import Derived.ChangeOld
import Derived.Below
import Derived.Lib.SmallJoins
namespace Go.Proofs.YthibddfcjnljfaaDoor
open Go.ChangeShapes Go.WideShapes Go.ChangeAt Go.RowKit Go.Joins

theorem rd_of_cells {w : World} {x : Addr} {len cap : Nat} {zs : List Int} (hl : len ≤ cap) (hm : cap ≤ maxLen) (hz : zs.length = cap) (hcell : ∀ i, i < zs.length → w.cell? (x.add i) = some (.int .i64 (zs.getD i 0))) :
    Rd w (.slice (some x) len cap) (zs.take len) := by
  have hlen : (zs.take len).length = len := by rw [List.length_take]; omega
  refine ⟨some x, cap, by rw [hlen], by omega, by unfold maxLen at hm; omega, fun hn => ?_⟩
  have h0 := hcell 0 (by omega)
  have hsp : x.spot = none := by
    cases hs : x.spot with
    | none => rfl
    | some s =>
      exfalso
      simp only [Addr.add, if_pos, World.cell?] at h0
      split at h0
      · rw [hs] at h0; simp at h0
      · cases h0
  obtain ⟨b, o, sp⟩ := x
  simp only at hsp
  subst hsp
  have hb : b < w.heap.size := by
    have := World.block_lt_of_cell? w _ h0
    simpa [Addr.add] using this
  refine ⟨b, o, rfl, hb, fun i hi => ?_⟩
  have h1 := hcell i (by omega)
  have e : (⟨b, o, none⟩ : Addr).add i = ⟨b, o + i, none⟩ := by
    unfold Addr.add; split
    · rename_i h; subst h; rfl
    · rfl
  rw [e] at h1
  rw [h1, List.getElem_take]
  simp [List.getD, show i < zs.length from by omega]
section
variable {H : Type} {enc : TypeId × Value → H} {W : World} {base : Nat}
set_option maxRecDepth 100000 in
theorem open_list {v : Value} {d : DataW H} {p : List MemPlace} (hv : Value.okWide Tryd.prog W .any base 29 v) (h : DataW.Trod enc Tryd.prog W 0 (fun _ => true) true 29 v d p) (_lt : ∀ x ∈ p, x.block < W.heap.size) : ∃ xs, Rd W v xs := by
  obtain ⟨a, len, cap, rfl⟩ := okWide_slice Tryd.underlying29 hv
  obtain ⟨fuel, hf⟩ := h
  rcases open_ints Tryd.underlying29 Tryd.underlying2 (by kernel_rfl) hf with ⟨hcs, _⟩ | ⟨x, l, c, zs, hcs, _, hl, hm, hz, _, hcell, hwz⟩
  · simp [Value.cells] at hcs
    obtain ⟨rfl, rfl, rfl⟩ := hcs
    exact ⟨[], Rd.nil W⟩
  · simp [Value.cells] at hcs
    obtain ⟨rfl, rfl, rfl⟩ := hcs
    exact ⟨zs.take len, rd_of_cells hl hm (by simpa using hz) hcell⟩
end
end Go.Proofs.YthibddfcjnljfaaDoor
