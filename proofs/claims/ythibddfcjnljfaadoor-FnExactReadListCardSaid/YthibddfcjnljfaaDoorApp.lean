/- One operation's laws, in the seat's own words: append of one integer to a slice of the call's own; make of a row of zeros. No condition. -/
import Derived.Test.YthibddfcjnljfaaDoorMem
namespace Go.Proofs.YthibddfcjnljfaaDoor
open Go.RowKit

theorem ext_app {e : TypeId} {w wr w' : World} {v : Value} {ys : List Value} (h : Ext w wr) (ho : OwnV e wr w.heap.size v ys) (hg : wr.grownBy w' v.ownBlock) : Ext w w' :=
  Below.grown h hg h.size (fun k hk => (ho.lt k hk).1)

theorem wp_app1 {ops : Array Oper} {rest : List Oper} {o : Oper} {a : Act} {Q : Exit → Act → World → Prop} (wr : World) (hgd : o.guard = none) (s x : Operand)
    (ho : o.op = .call { callee := .builtin .append, args := #[s, x], argTypes := #[29, 29] }) (lo : Nat) (v : Value) (xs : List Int) (hs : a.eval s = v) (hown : Own wr lo v xs)
    (y : Int) (hx : a.eval x = .slice (some ⟨wr.heap.size, 0, none⟩) 1 1) (hlen : xs.length ≤ 1000000000000) (hlo : lo ≤ wr.heap.size)
    (h : ∀ v' w', Own w' lo v' (xs ++ [y]) → wr.grownBy w' v.ownBlock → wpList Tryd.prog ops Q rest (a.put o.dst v') w') : wpList Tryd.prog ops Q (o :: rest) a (wr.alloc (.cells #[.int .i64 y] 2)) := by
  obtain ⟨i, hi, hz, h1, h8⟩ := info_i64
  refine wpList_append_own _ hgd s x 29 ho lo 2 i (.int .i64 0) 1 8 Tryd.underlying29 hi hz h1 h8 rfl (by decide) v xs.length (xs.map (Value.int .i64)) hs (World.ownsRow.alloc (by simpa [OwnV] using hown) _) ⟨wr.heap.size, 0, none⟩ 1 1 [.int .i64 y] hx rfl
    (cell_one_new wr (.int .i64 y) 2) (by intro u hu; rw [List.mem_singleton.1 hu]; rfl) (by unfold maxLen; omega) (by omega) (Nat.le_trans hlo (by simp)) (fun v' w' ho' hg _ => h v' w' ?_ ?_)
  · unfold Own OwnV
    simpa using ho'
  · exact grownBy_trans (World.grownBy_alloc wr _ _) hg

theorem wp_make {ops : Array Oper} {rest : List Oper} {o : Oper} {a : Act} {Q : Exit → Act → World → Prop} (w : World) (hgd : o.guard = none) (l c : Operand) (ho : o.op = Op.makeSlice 29 l c)
    (lo : Nat) (kl kc : IntKind) (L C : Int) (n : Nat) (hl : a.eval l = .int kl L) (hc : a.eval c = .int kc C) (hL : L = (n : Int)) (hC : C = (n : Int)) (hn : n ≤ 1000000000000) (hlo : lo ≤ w.heap.size)
    (h : ∀ w', Own w' lo (.slice (some ⟨w.heap.size, 0, none⟩) n n) (List.replicate n 0) → Ext w w' → wpList Tryd.prog ops Q rest (a.put o.dst (.slice (some ⟨w.heap.size, 0, none⟩) n n)) w') : wpList Tryd.prog ops Q (o :: rest) a w := by
  obtain ⟨i, hi, hz, h1, h8⟩ := info_i64
  refine wpList_make_full w hgd l c 29 ho lo 2 i (.int .i64 0) 1 Tryd.underlying29 hi hz h1 kl kc L C n hl hc hL hC (by rw [h8]; omega) (by unfold maxLen; omega) hlo (fun w' ho' hg => h w' ?_ (grownBy_none hg))
  unfold Own OwnV
  simpa [Value.cells, toList_madeCells_one] using ho'
end Go.Proofs.YthibddfcjnljfaaDoor
