/- Sets of numbers as rising lists: what is in both, in one alone, in either; the reference's own put. Plain Lean; no condition. -/
import Derived.Test.YtloacmfafccofaaVSet
import Derived.Test.YtloacmfafccofaaSlices
namespace Go.Proofs.Ytloacmfafccofaa

def hasB (xs : List Int) (x : Int) : Bool := decide (x ∈ xs)
def Rises (xs : List Int) : Prop := xs.Pairwise (· < ·)
theorem rises_ext : ∀ {xs ys : List Int}, Rises xs → Rises ys → (∀ x, x ∈ xs ↔ x ∈ ys) → xs = ys
  | [], [], _, _, _ => rfl
  | [], y :: r, _, _, h => by have := (h y).2 (by simp); simp at this
  | x :: r, [], _, _, h => by have := (h x).1 (by simp); simp at this
  | x :: r, y :: s, h1, h2, h => by
    obtain ⟨a1, a2⟩ := List.pairwise_cons.1 h1
    obtain ⟨b1, b2⟩ := List.pairwise_cons.1 h2
    have e : x = y := by
      have p := (h x).1 (by simp)
      have q := (h y).2 (by simp)
      rcases List.mem_cons.1 p with p | p
      · exact p
      · rcases List.mem_cons.1 q with q | q
        · exact q.symm
        · have := b1 x p; have := a1 y q; omega
    subst e
    congr 1
    refine rises_ext a2 b2 fun z => ?_
    constructor
    · intro hz
      have := (h z).1 (by simp [hz])
      rcases List.mem_cons.1 this with p | p
      · subst p; have := a1 z hz; omega
      · exact p
    · intro hz
      have := (h z).2 (by simp [hz])
      rcases List.mem_cons.1 this with p | p
      · subst p; have := b1 z hz; omega
      · exact p
theorem iota_mem {k : Int} {n : Nat} {x : Int} : x ∈ iota k n ↔ k ≤ x ∧ x < k + n := by
  unfold iota
  rw [List.mem_map]
  constructor
  · rintro ⟨i, hi, rfl⟩
    rw [List.mem_range] at hi
    omega
  · rintro ⟨h1, h2⟩
    exact ⟨(x - k).toNat, by rw [List.mem_range]; omega, by omega⟩
theorem iota_rises (k : Int) (n : Nat) : Rises (iota k n) := by
  unfold Rises iota
  rw [List.pairwise_map]
  exact List.pairwise_lt_range.imp (by intro a b h; omega)
theorem upB_rises : ∀ {xs : List Int} {lo n : Int}, upB lo n xs = true → Rises xs ∧ ∀ x ∈ xs, lo < x ∧ x < n
  | [], _, _, _ => ⟨List.Pairwise.nil, by simp⟩
  | x :: r, lo, n, h => by
    simp only [upB, Bool.and_eq_true, decide_eq_true_eq] at h
    obtain ⟨h1, h2⟩ := upB_rises h.2
    refine ⟨List.pairwise_cons.2 ⟨fun y hy => (h2 y hy).1, h1⟩, fun y hy => ?_⟩
    rcases List.mem_cons.1 hy with rfl | hy
    · exact ⟨h.1.1, h.1.2⟩
    · have := h2 y hy; omega
theorem valid_rises {xs : List Int} {n : Int} (h : validB xs n = true) : Rises xs ∧ ∀ x ∈ xs, 0 ≤ x ∧ x < n := by
  rw [validB, Bool.and_eq_true] at h
  obtain ⟨h1, h2⟩ := upB_rises h.2
  exact ⟨h1, fun x hx => by have := h2 x hx; omega⟩
theorem valid_len {xs : List Int} {n : Int} (h : validB xs n = true) : xs.length ≤ 32 := by
  have hv := h
  rw [validB, Bool.and_eq_true] at h
  have h1 := inB_iff.1 h.1
  have h2 := upB_len xs (-1) n h.2 (by omega)
  omega
def filtTo (p : Int → Bool) (k : Nat) : List Int := (iota 0 k).filter p
theorem iota_succ' (k : Int) (n : Nat) : iota k (n + 1) = iota k n ++ [k + (n : Int)] := by simp [iota, List.range_succ]
theorem filtTo_hit {p : Int → Bool} {k : Nat} (h : p k = true) : filtTo p (k + 1) = filtTo p k ++ [(k : Int)] := by
  rw [filtTo, iota_succ', List.filter_append, Int.zero_add, List.filter_cons_of_pos h]; rfl
theorem filtTo_miss {p : Int → Bool} {k : Nat} (h : p k = false) : filtTo p (k + 1) = filtTo p k := by
  rw [filtTo, iota_succ', List.filter_append, Int.zero_add, List.filter_cons_of_neg (by rw [h]; simp)]; simp [filtTo]
theorem filtTo_len (p : Int → Bool) (k : Nat) : (filtTo p k).length ≤ k := by
  have := List.length_filter_le p (iota 0 k)
  rw [iota_len] at this
  exact this
theorem filtTo_rises (p : Int → Bool) (k : Nat) : Rises (filtTo p k) := (iota_rises 0 k).filter p
/-- The set that the program hands back, by a test on 'in a' and 'in b'. -/
def setB (keep : Bool → Bool → Bool) (xs ys : List Int) : List Int := if validB xs 32 && validB ys 32 then filtTo (fun x => keep (hasB xs x) (hasB ys x)) 32 else []
theorem setB_len (keep : Bool → Bool → Bool) (xs ys : List Int) : (setB keep xs ys).length ≤ 3000000 := by
  unfold setB; split
  · have := filtTo_len (fun x => keep (hasB xs x) (hasB ys x)) 32; omega
  · simp
theorem setB_in {keep : Bool → Bool → Bool} {xs ys : List Int} (h : validB xs 32 = true) (h' : validB ys 32 = true) (q : Int → Bool) (hq : ∀ x, (hasB xs x && q x) = keep (hasB xs x) (hasB ys x)) : setB keep xs ys = xs.filter q := by
  rw [setB, h, h', if_pos (by rfl)]
  obtain ⟨h1, h2⟩ := valid_rises h
  refine rises_ext (filtTo_rises _ _) (h1.filter _) fun x => ?_
  rw [filtTo, List.mem_filter, iota_mem, List.mem_filter]
  show (_ ∧ keep (hasB xs x) (hasB ys x) = true) ↔ _
  rw [← hq x, Bool.and_eq_true, hasB, decide_eq_true_eq]
  constructor
  · exact fun h => ⟨h.2.1, h.2.2⟩
  · exact fun h => ⟨by have := h2 x h.1; omega, h.1, h.2⟩

/-! ### put -/
def putL (n : Int) : Bool → List Int → List Int
  | d, [] => if d then [] else [n]
  | true, x :: r => x :: putL n true r
  | false, x :: r => if n ≤ x then (if n < x then n :: x :: putL n true r else x :: putL n true r) else x :: putL n false r
theorem putL_true (n : Int) : ∀ xs, putL n true xs = xs
  | [] => rfl
  | x :: r => by rw [putL, putL_true n r]
theorem putL_mem {n : Int} : ∀ {xs : List Int} {y : Int}, Rises xs → (y ∈ putL n false xs ↔ y ∈ xs ∨ y = n)
  | [], y, _ => by simp [putL]
  | x :: r, y, h => by
    obtain ⟨h1, h2⟩ := List.pairwise_cons.1 h
    rw [putL]
    split
    · split
      · rw [putL_true]; simp only [List.mem_cons]; constructor
        · intro h; rcases h with h | h | h
          · exact .inr h
          · exact .inl (.inl h)
          · exact .inl (.inr h)
        · intro h; rcases h with (h | h) | h
          · exact .inr (.inl h)
          · exact .inr (.inr h)
          · exact .inl h
      · have : n = x := by omega
        subst this
        rw [putL_true]; simp only [List.mem_cons]; constructor
        · intro h; exact .inl h
        · intro h; rcases h with h | h
          · exact h
          · exact .inl h
    · simp only [List.mem_cons, putL_mem h2]
      constructor
      · intro h; rcases h with h | h | h
        · exact .inl (.inl h)
        · exact .inl (.inr h)
        · exact .inr h
      · intro h; rcases h with (h | h) | h
        · exact .inl h
        · exact .inr (.inl h)
        · exact .inr (.inr h)
theorem putL_rises {n : Int} : ∀ {xs : List Int}, Rises xs → Rises (putL n false xs)
  | [], _ => by simp [putL, Rises]
  | x :: r, h => by
    obtain ⟨h1, h2⟩ := List.pairwise_cons.1 h
    rw [putL]
    split
    · split
      · rw [putL_true]
        refine List.pairwise_cons.2 ⟨fun y hy => ?_, h⟩
        rcases List.mem_cons.1 hy with rfl | hy
        · omega
        · have := h1 y hy; omega
      · rw [putL_true]; exact h
    · refine List.pairwise_cons.2 ⟨fun y hy => ?_, putL_rises h2⟩
      rcases (putL_mem h2).1 hy with hy | hy
      · exact h1 y hy
      · omega
theorem putL_len (n : Int) : ∀ d xs, (putL n d xs).length ≤ xs.length + 1
  | true, xs => by rw [putL_true]; omega
  | false, [] => by simp [putL]
  | false, x :: r => by
    have := putL_len n false r
    rw [putL]
    split
    · split <;> rw [putL_true] <;> simp
    · simp; omega
/-- All of ys put to xs. -/
def putAll (xs : List Int) : List Int → List Int
  | [] => xs
  | y :: r => putAll (putL y false xs) r
theorem putAll_snoc (ys : List Int) (y : Int) : ∀ xs, putAll xs (ys ++ [y]) = putL y false (putAll xs ys) := by
  induction ys with
  | nil => intro xs; rfl
  | cons z r ih => intro xs; exact ih _
theorem putAll_len : ∀ (ys xs : List Int), (putAll xs ys).length ≤ xs.length + ys.length
  | [], xs => by simp [putAll]
  | y :: r, xs => by
    have := putAll_len r (putL y false xs)
    have := putL_len y false xs
    rw [putAll]; simp; omega
theorem putAll_spec : ∀ {ys xs : List Int}, Rises xs → Rises (putAll xs ys) ∧ ∀ x, x ∈ putAll xs ys ↔ x ∈ xs ∨ x ∈ ys
  | [], xs, h => ⟨h, by simp [putAll]⟩
  | y :: r, xs, h => by
    obtain ⟨h1, h2⟩ := putAll_spec (ys := r) (putL_rises (n := y) h)
    refine ⟨h1, fun x => ?_⟩
    rw [putAll, h2, putL_mem h, List.mem_cons]
    constructor
    · intro h; rcases h with (h | h) | h
      · exact .inl h
      · exact .inr (.inl h)
      · exact .inr (.inr h)
    · intro h; rcases h with h | h | h
      · exact .inl (.inl h)
      · exact .inl (.inr h)
      · exact .inr h
theorem setB_or {xs ys : List Int} (h : validB xs 32 = true) (h' : validB ys 32 = true) : setB (fun a b => a || b) xs ys = putAll xs ys := by
  rw [setB, h, h', if_pos (by rfl)]
  obtain ⟨h1, h2⟩ := valid_rises h
  obtain ⟨h1', h2'⟩ := valid_rises h'
  obtain ⟨h3, h4⟩ := putAll_spec (ys := ys) h1
  refine rises_ext (filtTo_rises _ _) h3 fun x => ?_
  rw [h4]
  simp only [filtTo, List.mem_filter, iota_mem, hasB, Bool.or_eq_true, decide_eq_true_eq]
  constructor
  · exact fun h => h.2
  · intro h
    refine ⟨?_, h⟩
    rcases h with h | h
    · have := h2 x h; omega
    · have := h2' x h; omega
end Go.Proofs.Ytloacmfafccofaa
