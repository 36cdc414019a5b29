/- MeetSets, MinusSets, UnionSets: the walks of the program and of the reference, and the laws. No condition. -/
import Derived.Test.YtafaecpmffmfgaaSetMath
import Derived.Test.YtafaecpmffmfgaaClone
import Derived.Laws.AppendOwnNone
namespace Go.Proofs.Ytafaecpmffmfgaa
open Go.RowKit

def notIn (xs : List Int) (x : Int) (k : Nat) : Prop := ∀ i (h : i < xs.length), i < k → ¬ xs[i] = x
theorem notIn_end {xs : List Int} {x : Int} (h : notIn xs x xs.length) : hasB xs x = false := by
  rw [hasB, decide_eq_false_iff_not]
  intro hm
  obtain ⟨i, hi, he⟩ := List.getElem_of_mem hm
  exact h i hi hi he
theorem hasB_hit {xs : List Int} {x : Int} {k : Nat} (h : k < xs.length) (he : xs[k] = x) : hasB xs x = true := by
  rw [hasB, decide_eq_true_eq, ← he]; exact List.getElem_mem h
theorem notIn_next {xs : List Int} {x : Int} {k : Nat} (h : notIn xs x k) (hk : k < xs.length) (he : ¬ xs[k] = x) : notIn xs x (k + 1) := by
  intro i hi h1
  by_cases h2 : i = k
  · subst h2; exact he
  · exact h i hi (by omega)

end Go.Proofs.Ytafaecpmffmfgaa
