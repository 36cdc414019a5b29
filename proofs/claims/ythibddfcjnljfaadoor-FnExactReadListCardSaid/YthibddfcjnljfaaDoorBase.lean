/- Plain helpers that the walks of this seat share: bounds as Bool functions, endings, a search loop. No condition. -/
import Derived.Test.YthibddfcjnljfaaDoorRows
import Derived.WalkKit
import Derived.WalkSpells
import Derived.WalkLawsBesides
import Derived.Deep.QuietTactic
import Derived.BigQuiet
import Derived.Lib.Hide
namespace Go.Proofs.YthibddfcjnljfaaDoor
open Go.RowKit

theorem ret_bool {a b : Bool} (h : a = b) : Ending.returned (.bool a) = .returned (.bool b) := by rw [h]
theorem ret_i64 {a b : Int} (h : a = b) : Ending.returned (.int .i64 a) = .returned (.int .i64 b) := by rw [h]
theorem ret_i64_2 {a b c d : Int} (h : a = b) (k : c = d) : Ending.returned (.tuple #[.int .i64 a, .int .i64 c]) = .returned (.tuple #[.int .i64 b, .int .i64 d]) := by rw [h, k]

theorem vint {a b : Int} (h : a = b) : Value.int .i64 a = .int .i64 b := by rw [h]

def inB (n lo hi : Int) : Bool := decide (lo ≤ n) && decide (n ≤ hi)
theorem inB_t {n lo hi : Int} (h : lo ≤ n ∧ n ≤ hi) : inB n lo hi = true := by simp [inB, h]
theorem inB_f {n lo hi : Int} (h : ¬ (lo ≤ n ∧ n ≤ hi)) : inB n lo hi = false := by
  simp only [inB, Bool.and_eq_false_iff, decide_eq_false_iff_not]; omega
theorem inB_iff {n lo hi : Int} : inB n lo hi = true ↔ (lo ≤ n ∧ n ≤ hi) := by simp [inB]

/-- w' is w after some draws. -/
def Drawn (w w' : World) : Prop := ∃ n, w' = w.drewN n
theorem Drawn.refl (w : World) : Drawn w w := ⟨0, rfl⟩
theorem Drawn.drewN {w w' : World} (h : Drawn w w') (n : Nat) : Drawn w (w'.drewN n) := by
  obtain ⟨k, rfl⟩ := h
  exact ⟨k + n, by simp⟩
theorem Drawn.of {w w' : World} (h : ∃ n, w' = w.drewN n) : Drawn w w' := h
theorem Drawn.trans {a b c : World} (h : Drawn a b) (k : Drawn b c) : Drawn a c := by
  obtain ⟨n, rfl⟩ := k
  exact h.drewN n
theorem Drawn.grown {w w' : World} (h : Drawn w w') : Grown w w' := by
  obtain ⟨n, rfl⟩ := h
  exact Grown.refl w

/-- The first number from x on, among the next n, at which p says yes. -/
def findUp (p : Int → Bool) : Nat → Int → Option Int
  | 0, _ => none
  | n + 1, x => if p x then some x else findUp p n (x + 1)
theorem findUp_succ (p : Int → Bool) (n : Nat) (x : Int) (h : 0 < n) : findUp p n x = if p x then some x else findUp p (n - 1) (x + 1) := by
  obtain ⟨k, rfl⟩ : ∃ k, n = k + 1 := ⟨n - 1, by omega⟩
  rfl

/-- Half way through a search over 0 .. N-1: nothing before x. -/
def upMid (p : Int → Bool) (N x : Int) : Prop := findUp p N.toNat 0 = findUp p (N - x).toNat x
theorem upMid_start (p : Int → Bool) (N : Int) : upMid p N 0 := by simp [upMid]
theorem upMid_next {p : Int → Bool} {N x : Int} (hx : x < N) (h : upMid p N x) (hf : p x = false) : upMid p N (x + 1) := by
  unfold upMid at *
  rw [h, findUp_succ _ _ _ (by omega), if_neg (by simp [hf])]
  congr 1; omega
theorem upMid_hit {p : Int → Bool} {N x : Int} (hx : x < N) (h : upMid p N x) (hf : p x = true) : findUp p N.toNat 0 = some x := by
  unfold upMid at h
  rw [h, findUp_succ _ _ _ (by omega), if_pos hf]
theorem upMid_end {p : Int → Bool} {N : Int} (h : upMid p N N) : findUp p N.toNat 0 = none := by
  unfold upMid at h
  rw [h]; simp [findUp]
end Go.Proofs.YthibddfcjnljfaaDoor
