/- ValidSet: the walks of the program and of the reference. No condition. -/
import Derived.Test.YtafaecpmffmfgaaInts
import Derived.Test.YtafaecpmffmfgaaApp
namespace Go.Proofs.Ytafaecpmffmfgaa
open Go.RowKit

/-- The numbers rise from above last, and are less than n. -/
def upB : Int → Int → List Int → Bool
  | _, _, [] => true
  | last, n, x :: r => decide (last < x) && decide (x < n) && upB x n r
def validB (xs : List Int) (n : Int) : Bool := inB n 0 32 && upB (-1) n xs
theorem drop_get {xs : List Int} {k : Nat} (h : k < xs.length) : xs.drop k = xs[k] :: xs.drop (k + 1) := List.drop_eq_getElem_cons h
theorem upB_len : ∀ (xs : List Int) (last n : Int), upB last n xs = true → last < n → (xs.length : Int) ≤ n - 1 - last
  | [], last, n, _, h => by simp; omega
  | x :: r, last, n, h, h2 => by
    simp only [upB, Bool.and_eq_true, decide_eq_true_eq] at h
    have := upB_len r x n h.2 h.1.2
    rw [List.length_cons]; omega

end Go.Proofs.Ytafaecpmffmfgaa
