/- Slices of strings of the call's own: append of one string. No condition. -/
import Derived.Test.YthibddfcjnljfaaDoorMem
import Derived.Lib.SliceRun
namespace Go.Proofs.YthibddfcjnljfaaDoor
open Go.RowKit

theorem info_str : (Tryd.prog.info? 9).map (fun i => (i.zero, i.size, i.bytes)) = some (some (.string ByteArray.empty), 1, 16) := by kernel_rfl
theorem info_st : ∃ i, Tryd.prog.info? 9 = some i ∧ i.zero = some (.string ByteArray.empty) ∧ i.size = 1 ∧ i.bytes = 16 := by
  have h := info_str
  cases hi : Tryd.prog.info? 9 with
  | none => rw [hi] at h; cases h
  | some i =>
    rw [hi] at h
    simp only [Option.map_some, Option.some.injEq, Prod.mk.injEq] at h
    exact ⟨i, rfl, h.1, h.2.1, h.2.2⟩
abbrev OwnS (w : World) (lo : Nat) (v : Value) (xs : List ByteArray) : Prop := OwnV 9 w lo v (xs.map Value.string)
theorem wp_appS {ops : Array Oper} {rest : List Oper} {o : Oper} {a : Act} {Q : Exit → Act → World → Prop} (wr : World) (hgd : o.guard = none) (s x : Operand)
    (ho : o.op = .call { callee := .builtin .append, args := #[s, x], argTypes := #[24, 24] }) (lo : Nat) (v : Value) (xs : List ByteArray) (hs : a.eval s = v) (hown : OwnS wr lo v xs)
    (y : ByteArray) (hx : a.eval x = .slice (some ⟨wr.heap.size, 0, none⟩) 1 1) (hlen : xs.length ≤ 1000000000) (hlo : lo ≤ wr.heap.size)
    (h : ∀ v' w', OwnS w' lo v' (xs ++ [y]) → wr.grownBy w' v.ownBlock → wpList Tryd.prog ops Q rest (a.put o.dst v') w') : wpList Tryd.prog ops Q (o :: rest) a (wr.alloc (.cells #[.string y] 9)) := by
  obtain ⟨i, hi, hz, h1, h8⟩ := info_st
  refine wpList_append_own _ hgd s x 24 ho lo 9 i (.string ByteArray.empty) 1 16 Tryd.underlying24 hi hz h1 h8 rfl (by decide) v xs.length (xs.map Value.string) hs (World.ownsRow.alloc (by simpa [OwnV] using hown) _) ⟨wr.heap.size, 0, none⟩ 1 1 [.string y] hx rfl
    (cell_one_new wr (.string y) 9) (by intro u hu; rw [List.mem_singleton.1 hu]; rfl) (by unfold maxLen; omega) (by omega) (Nat.le_trans hlo (by simp)) (fun v' w' ho' hg _ => h v' w' ?_ ?_)
  · unfold OwnS OwnV
    simpa using ho'
  · exact grownBy_trans (World.grownBy_alloc wr _ _) hg
end Go.Proofs.YthibddfcjnljfaaDoor
