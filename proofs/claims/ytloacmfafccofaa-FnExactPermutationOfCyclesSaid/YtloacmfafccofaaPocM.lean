/- PermutationOfCycles: what it computes, in plain words. No condition. -/
import Derived.Test.YtloacmfafccofaaPermOk
import Derived.Test.YtloacmfafccofaaLawL
import Derived.Test.YtloacmfafccofaaIdent
namespace Go.Proofs.Ytloacmfafccofaa
open Go.RowKit

def rotTo (c : List Int) : Nat → List Int → List Int
  | 0, p => p
  | k + 1, p => (rotTo c k p).set (c.getD k 0).toNat (c.getD ((k + 1) % c.length) 0)
theorem rotTo_len (c p : List Int) : ∀ k, (rotTo c k p).length = p.length
  | 0 => rfl
  | k + 1 => by rw [rotTo, List.length_set, rotTo_len c p k]
def poc (n : Int) : List (List Int) → List Int → List Int → Option (List Int)
  | [], _, p => some p
  | c :: r, s, p => if c.length = 0 then none else if okP n s c then poc n r (s ++ c) (rotTo c c.length p) else none
def pocMid (n : Int) (N : Nat) (css : List (List Int)) (R : Option (List Int)) (k : Nat) (s p : List Int) : Prop :=
  R = poc n (css.drop k) s p ∧ p.length = N ∧ s.length = sumLen (css.take k)
theorem poc_len {n : Int} : ∀ {css : List (List Int)} {s p q : List Int}, poc n css s p = some q → q.length = p.length
  | [], _, p, q, h => by rw [poc] at h; cases h; rfl
  | c :: r, s, p, q, h => by
    rw [poc] at h
    split at h
    · cases h
    · split at h
      · rw [poc_len h, rotTo_len]
      · cases h
theorem pocMid_start {n : Int} {N : Nat} {css : List (List Int)} {p : List Int} (hp : p.length = N) : pocMid n N css (poc n css [] p) 0 [] p := ⟨by rw [List.drop_zero], hp, by simp [sumLen]⟩
theorem pocMid_empty {n : Int} {N : Nat} {css : List (List Int)} {R : Option (List Int)} {k : Nat} {s p : List Int} (h : pocMid n N css R k s p) (hk : k < css.length) (hc : css[k].length = 0) : R = none := by
  rw [h.1, List.drop_eq_getElem_cons hk, poc, if_pos hc]
theorem pocMid_bad {n : Int} {N : Nat} {css : List (List Int)} {R : Option (List Int)} {k : Nat} {s p : List Int} (h : pocMid n N css R k s p) (hk : k < css.length) (ho : okP n s css[k] = false) : R = none := by
  rw [h.1, List.drop_eq_getElem_cons hk, poc, ho]; simp
theorem pocMid_next {n : Int} {N : Nat} {css : List (List Int)} {R : Option (List Int)} {k : Nat} {s p : List Int} (h : pocMid n N css R k s p) (hk : k < css.length) (hc : ¬ css[k].length = 0) (ho : okP n s css[k] = true) :
    pocMid n N css R (k + 1) (s ++ css[k]) (rotTo css[k] css[k].length p) := by
  refine ⟨?_, by rw [rotTo_len]; exact h.2.1, by rw [List.length_append, h.2.2, sumLen_take hk]⟩
  rw [h.1, List.drop_eq_getElem_cons hk, poc, if_neg hc, ho, if_pos rfl]
theorem pocMid_end {n : Int} {N : Nat} {css : List (List Int)} {R : Option (List Int)} {s p : List Int} (h : pocMid n N css R css.length s p) : R = some p := by
  rw [h.1, List.drop_length, poc]
def scMid (n : Int) (s c : List Int) (j : Nat) : Prop := okP n s c = okP n (s ++ c.take j) (c.drop j)
theorem scMid_start (n : Int) (s c : List Int) : scMid n s c 0 := by simp [scMid]
theorem scMid_next {n : Int} {s c : List Int} {k : Nat} (h : scMid n s c k) (hk : k < c.length) (h1 : inB c[k] 0 (n - 1) = true) (h2 : hasB (s ++ c.take k) c[k] = false) : scMid n s c (k + 1) := by
  unfold scMid at *
  rw [h, List.drop_eq_getElem_cons hk, okP, h1, h2, List.take_succ_eq_append_getElem hk, List.append_assoc]
  rfl
theorem scMid_out {n : Int} {s c : List Int} {k : Nat} (h : scMid n s c k) (hk : k < c.length) (h1 : inB c[k] 0 (n - 1) = false) : okP n s c = false := by
  rw [h, List.drop_eq_getElem_cons hk, okP, h1]; rfl
theorem scMid_twice {n : Int} {s c : List Int} {k : Nat} (h : scMid n s c k) (hk : k < c.length) (h2 : hasB (s ++ c.take k) c[k] = true) : okP n s c = false := by
  rw [h, List.drop_eq_getElem_cons hk, okP, h2]; simp
theorem scMid_end {n : Int} {s c : List Int} (h : scMid n s c c.length) : okP n s c = true := by
  rw [h, List.drop_length]; rfl
theorem okP_in {n : Int} : ∀ {s c : List Int}, okP n s c = true → ∀ x ∈ c, inB x 0 (n - 1) = true
  | s, [], _, x, hx => by cases hx
  | s, y :: r, h, x, hx => by
    rw [okP] at h
    simp only [Bool.and_eq_true] at h
    rcases List.mem_cons.1 hx with e | hx
    · subst e; exact h.1.1
    · exact okP_in h.2 x hx
/-- The row of marks says what has been seen. -/
def seenB (N : Nat) (s : List Int) (b : List Bool) : Prop := b.length = N ∧ ∀ i (h : i < b.length), b[i] = hasB s (i : Int)
theorem seenB_start (N : Nat) : seenB N [] (List.replicate N false) := ⟨by simp, fun i h => by simp [hasB]⟩
theorem seenB_next {N : Nat} {s : List Int} {b : List Bool} {z : Nat} (h : seenB N s b) : seenB N (s ++ [(z : Int)]) (b.set z true) := by
  refine ⟨by rw [List.length_set]; exact h.1, fun i hi => ?_⟩
  rw [List.length_set] at hi
  by_cases e : z = i
  · subst e; simp [hasB]
  · rw [List.getElem_set_ne e, h.2 i hi]
    unfold hasB
    rw [decide_eq_decide, List.mem_append, List.mem_singleton]
    constructor
    · intro h; exact .inl h
    · rintro (h | h)
      · exact h
      · omega
def pocO (n : Int) (css : List (List Int)) : Option (List Int) := if inB n 0 32 then poc n css [] (iota 0 n.toNat) else none
def pocOut (n : Int) (css : List (List Int)) : List Int := (pocO n css).getD []
def pocCode (n : Int) (css : List (List Int)) : Int := if (pocO n css).isSome then 0 else 2
theorem pocOut_len (n : Int) (css : List (List Int)) : (pocOut n css).length ≤ 32 := by
  unfold pocOut
  cases h : pocO n css with
  | none => simp
  | some q =>
    unfold pocO at h
    split at h
    · rename_i hb
      have := inB_iff.1 hb
      have h2 := poc_len h
      rw [iota_len] at h2
      simp only [Option.getD_some]
      omega
    · cases h
theorem poc_none {n : Int} {css : List (List Int)} {R : Option (List Int)} (hR : R = pocO n css) (h : R = none) : pocOut n css = [] ∧ pocCode n css = 2 := by
  unfold pocOut pocCode; rw [← hR, h]; exact ⟨rfl, rfl⟩
theorem poc_some {n : Int} {css : List (List Int)} {R : Option (List Int)} {q : List Int} (hR : R = pocO n css) (h : R = some q) : pocOut n css = q ∧ pocCode n css = 0 := by
  unfold pocOut pocCode; rw [← hR, h]; exact ⟨rfl, rfl⟩
end Go.Proofs.Ytloacmfafccofaa
