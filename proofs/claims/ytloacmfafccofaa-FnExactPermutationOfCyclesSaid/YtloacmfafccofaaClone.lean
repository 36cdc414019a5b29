/- Append of a whole row that reads as integers; slices.Clone. No condition. -/
import Derived.Test.YtloacmfafccofaaApp
import Derived.Lib.SliceRun
namespace Go.Proofs.Ytloacmfafccofaa
open Go.RowKit

theorem wp_appRd {ops : Array Oper} {rest : List Oper} {o : Oper} {a : Act} {Q : Exit → Act → World → Prop} (w : World) (hgd : o.guard = none) (s x : Operand)
    (ho : o.op = .call { callee := .builtin .append, args := #[s, x], argTypes := #[22, 22] }) (lo : Nat) (v : Value) (xs : List Int) (hs : a.eval s = v) (hown : Own w lo v xs)
    (v2 : Value) (ys : List Int) (hx : a.eval x = v2) (hne : ∀ n c, v2 ≠ .slice none n c) (hrd : Rd w v2 ys) (hlen : xs.length + ys.length ≤ 1000000000000) (hlo : lo ≤ w.heap.size)
    (h : ∀ v' w', Own w' lo v' (xs ++ ys) → w.grownBy w' v.ownBlock → wpList Try.prog ops Q rest (a.put o.dst v') w') : wpList Try.prog ops Q (o :: rest) a w := by
  obtain ⟨i, hi, hz, h1, h8⟩ := info_i64
  obtain ⟨ad, cap, rfl, hc, hm, hr⟩ := hrd
  cases ad with
  | none => exact absurd rfl (hne _ _)
  | some ad =>
  refine wpList_append_own _ hgd s x 22 ho lo 2 i (.int .i64 0) 1 8 Try.underlying22 hi hz h1 h8 rfl (by decide) v xs.length (xs.map (Value.int .i64)) hs (by simpa [OwnV] using hown) ad ys.length cap (ys.map (Value.int .i64)) hx (by simp)
    ?_ (by intro u hu; obtain ⟨y, _, rfl⟩ := List.mem_map.1 hu; rfl) (by unfold maxLen; omega) (by omega) hlo (fun v' w' ho' hg _ => h v' w' ?_ hg)
  · intro j u hj
    have hj' : j < ys.length := by
      have := (List.getElem?_eq_some_iff.1 hj).1
      simpa using this
    obtain ⟨b, p, h2, h3, h4⟩ := hr (by omega)
    cases h2
    have e : (⟨b, p, none⟩ : Addr).add j = ⟨b, p + j, none⟩ := by
      unfold Addr.add; split
      · rename_i h; subst h; rfl
      · rfl
    rw [e, h4 j hj']
    simp [hj'] at hj
    rw [hj]
  · unfold Own OwnV
    simpa using ho'

theorem c_Clone (v : Value) (xs : List Int) (w : World) (hn : xs.length ≤ 1000000000) (h : Rd w v xs) : Calls Try.prog 75 #[v] w (RetInts w xs) := by
  have HRD := Lib.hid h
  obtain ⟨a, cap, rfl, hc, hm, hr⟩ := h
  cases a with
  | none =>
    have hx : xs = [] := by
      cases xs with
      | nil => rfl
      | cons x r => obtain ⟨b, o, h1, _⟩ := hr (by simp); cases h1
    subst hx
    clear hr
    have qT : ∀ (w : World) (a : Option Addr) (n c n' c' : Nat), (binOp .eql 22 (.slice a n c) (.slice none n' c')).run Try.prog w = .ok (.bool a.isNone) w := fun w a n c n' c' => Lib.run_eql_slice_nil w _ _ a n c n' c' Try.underlying22
    go_enter Try.func75, Try.ntmps75
    go_wp2
    go_ret
    exact ⟨_, rfl, OwnV.nil _ _ _, Ext.refl _⟩
  | some ad =>
    clear hr
    have qT : ∀ (w : World) (a : Option Addr) (n c n' c' : Nat), (binOp .eql 22 (.slice a n c) (.slice none n' c')).run Try.prog w = .ok (.bool a.isNone) w := fun w a n c n' c' => Lib.run_eql_slice_nil w _ _ a n c n' c' Try.underlying22
    go_enter Try.func75, Try.ntmps75
    go_wp2_with (at_builtin; refine wp_appRd _ rfl _ _ rfl _ _ [] rfl (OwnV.empty _ _) _ xs rfl (by intro n c h; cases h) (HRD.out.ext (ext_alloc _ _)) (by simp; omega) (by simp) ?_; intro v' w' hown hgr)
    go_ret
    exact ⟨_, rfl, by simpa using hown, ext_app (e := 2) (ext_alloc _ _) (OwnV.empty _ _) hgr⟩
end Go.Proofs.Ytloacmfafccofaa
