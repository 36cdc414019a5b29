/- The cycles of a permutation, as both programs find them. Plain Lean; no condition. -/
import Derived.Test.YtloacmfafccofaaBase
namespace Go.Proofs.Ytloacmfafccofaa

/-! cycles of a permutation, as both programs find them -/
section
variable (ns : List Nat)
def cyW : Nat → List Bool → Nat → List Nat × List Bool
  | 0, s, _ => ([], s)
  | f + 1, s, y => if s.getD y true then ([], s) else (y :: (cyW f (s.set y true) (ns.getD y 0)).1, (cyW f (s.set y true) (ns.getD y 0)).2)
def cyA : Nat → List (List Nat) × List Bool
  | 0 => ([], List.replicate ns.length false)
  | k + 1 => (if (cyW ns 33 (cyA k).2 k).1 = [] then (cyA k).1 else (cyA k).1 ++ [(cyW ns 33 (cyA k).2 k).1], (cyW ns 33 (cyA k).2 k).2)
def cycN : List (List Nat) := (cyA ns ns.length).1
variable {ns}
theorem cyW_len (f : Nat) : ∀ s y, (cyW ns f s y).2.length = s.length := by
  induction f with
  | zero => intro s y; rfl
  | succ f ih =>
    intro s y
    rw [cyW]
    split
    · rfl
    · rw [ih, List.length_set]
theorem cyA_len (k : Nat) : (cyA ns k).2.length = ns.length := by
  induction k with
  | zero => simp [cyA]
  | succ k ih => rw [cyA]; show (cyW ns 33 (cyA ns k).2 k).2.length = _; rw [cyW_len, ih]
theorem free_set {s : List Bool} {y : Nat} (h : y < s.length) (h2 : s[y] = false) : (s.set y true).count false + 1 = s.count false := by
  induction s generalizing y with
  | nil => simp at h
  | cons a s ih =>
    cases y with
    | zero =>
      simp only [List.getElem_cons_zero] at h2
      subst h2
      simp
    | succ y =>
      simp only [List.getElem_cons_succ] at h2
      have := ih (by simpa using h) h2
      simp only [List.set_cons_succ, List.count_cons]
      omega
theorem free_le (s : List Bool) : s.count false ≤ s.length := List.count_le_length
/-- Half way along a cycle. -/
def cyMid (ns : List Nat) (s0 : List Bool) (x : Nat) (acc : List Nat) (s : List Bool) (y : Nat) : Prop :=
  ∃ f, s.count false < f ∧ cyW ns 33 s0 x = (acc ++ (cyW ns f s y).1, (cyW ns f s y).2) ∧ acc.length + s.count false = s0.count false
theorem cyMid_start {s0 : List Bool} {x : Nat} (h : s0.length ≤ 32) : cyMid ns s0 x [] s0 x :=
  ⟨33, by have := free_le s0; omega, by simp, by simp⟩
theorem cyMid_next {s0 s : List Bool} {x y : Nat} {acc : List Nat} (h : cyMid ns s0 x acc s y) (hy : y < s.length) (hs : s[y] = false) : cyMid ns s0 x (acc ++ [y]) (s.set y true) (ns.getD y 0) := by
  obtain ⟨f, h1, h2, h3⟩ := h
  have h4 := free_set hy hs
  obtain ⟨g, rfl⟩ : ∃ g, f = g + 1 := ⟨f - 1, by omega⟩
  refine ⟨g, by omega, ?_, by simp; omega⟩
  have hg : s.getD y true = false := by simp [List.getD, hy, hs]
  rw [h2, cyW, hg]
  simp
theorem cyMid_end {s0 s : List Bool} {x y : Nat} {acc : List Nat} (h : cyMid ns s0 x acc s y) (hy : y < s.length) (hs : s[y] = true) : cyW ns 33 s0 x = (acc, s) := by
  obtain ⟨f, h1, h2, h3⟩ := h
  obtain ⟨g, rfl⟩ : ∃ g, f = g + 1 := ⟨f - 1, by omega⟩
  have hg : s.getD y true = true := by simp [List.getD, hy, hs]
  rw [h2, cyW, hg]
  simp
theorem cyMid_bd {s0 s : List Bool} {x y : Nat} {acc : List Nat} (h : cyMid ns s0 x acc s y) : acc.length ≤ s0.length := by
  obtain ⟨f, h1, h2, h3⟩ := h
  have := free_le s0
  omega
/-- What one walk gives. -/
def CyS (ns : List Nat) (s : List Bool) (y : Nat) (r : List Nat × List Bool) : Prop :=
    (∀ i, r.2.getD i true = true ↔ s.getD i true = true ∨ i ∈ r.1) ∧ r.1.Nodup ∧ (∀ i ∈ r.1, s.getD i true = false ∧ i < ns.length) ∧
    (r.1 ≠ [] → r.1.head? = some y) ∧ (∀ j (h : j + 1 < r.1.length), r.1[j + 1] = ns.getD r.1[j] 0) ∧
    (s.getD y true = false → ∃ z, r.1.getLast? = some z ∧ r.2.getD (ns.getD z 0) true = true) ∧ (s.getD y true = true → r.1 = []) ∧
    r.2.getD y true = true
theorem cyW_spec (hp : ∀ i (h : i < ns.length), ns[i] < ns.length) (f : Nat) : ∀ (s : List Bool) (y : Nat), s.count false < f → y < ns.length → s.length = ns.length → CyS ns s y (cyW ns f s y) := by
  induction f with
  | zero => intro s y h; omega
  | succ f ih =>
    intro s y h1 h2 h3
    cases hs : s.getD y true
    · have hs' : s[y]'(by omega) = false := by simpa [List.getD, show y < s.length from by omega] using hs
      have h4 := free_set (by omega) hs'
      have hny : ns.getD y 0 < ns.length := by rw [List.getD, List.getElem?_eq_getElem h2]; exact hp y h2
      have H := ih (s.set y true) (ns.getD y 0) (by omega) hny (by rw [List.length_set]; exact h3)
      have e : cyW ns (f + 1) s y = (y :: (cyW ns f (s.set y true) (ns.getD y 0)).1, (cyW ns f (s.set y true) (ns.getD y 0)).2) := by rw [cyW, hs]; rfl
      rw [e]
      clear e ih
      generalize cyW ns f (s.set y true) (ns.getD y 0) = r at H ⊢
      obtain ⟨c, d⟩ := r
      obtain ⟨a1, a2, a3, a4, a5, a6, a7, a8⟩ := H
      unfold CyS
      rw [hs]
      simp only at a1 a2 a3 a4 a5 a6 a7 a8
      have hset : ∀ i, (s.set y true).getD i true = true ↔ s.getD i true = true ∨ i = y := by
        intro i
        by_cases hi : i = y
        · subst hi; simp [List.getD, List.getElem?_set_self (show i < s.length by omega)]
        · simp [List.getD, List.getElem?_set_ne (show y ≠ i from fun h => hi h.symm), hi]
      have hset2 : ∀ i, (s.set y true).getD i true = false → s.getD i true = false ∧ i ≠ y := by
        intro i hi
        have := hset i
        rw [hi] at this
        simp only [Bool.false_eq_true, false_iff, not_or, Bool.not_eq_true] at this
        exact this
      refine ⟨fun i => ?_, ?_, fun i hi => ?_, fun _ => rfl, fun j hj => ?_, fun _ => ?_, fun h => by simp at h, (a1 y).2 (.inl ((hset y).2 (.inr rfl)))⟩
      · show d.getD i true = true ↔ _ ∨ i ∈ y :: c
        rw [a1 i, hset i, List.mem_cons, or_assoc]
      · refine List.nodup_cons.2 ⟨fun h => ?_, a2⟩
        exact (hset2 y (a3 y h).1).2 rfl
      · rcases List.mem_cons.1 hi with rfl | hi
        · exact ⟨hs, h2⟩
        · exact ⟨(hset2 i (a3 i hi).1).1, (a3 i hi).2⟩
      · cases j with
        | zero =>
          simp only [List.getElem_cons_succ, List.getElem_cons_zero]
          have hne : c ≠ [] := by intro h; subst h; simp at hj
          have := a4 hne
          cases c with
          | nil => simp at hne
          | cons b r => simpa using this
        | succ j =>
          simp only [List.getElem_cons_succ]
          exact a5 j (by simpa using hj)
      · show ∃ z, (y :: c).getLast? = some z ∧ _
        by_cases hcn : c = []
        · refine ⟨y, by simp [hcn], ?_⟩
          exact a8
        · cases hs2 : (s.set y true).getD (ns.getD y 0) true
          · obtain ⟨z, z1, z2⟩ := a6 hs2
            exact ⟨z, by rw [List.getLast?_cons, z1]; rfl, z2⟩
          · exact absurd (a7 hs2) hcn
    · have e : cyW ns (f + 1) s y = ([], s) := by rw [cyW, hs]; rfl
      rw [e]
      unfold CyS
      rw [hs]
      exact ⟨fun i => by simp, List.nodup_nil, by simp, by simp, by simp, by simp, by simp, rfl⟩
end
section
variable {ns : List Nat}
theorem nod_inj {l : List Nat} (h : l.Nodup) {i j : Nat} (hi : i < l.length) (hj : j < l.length) (e : l[i] = l[j]) : i = j := by
  rcases Nat.lt_trichotomy i j with h1 | h1 | h1
  · exact absurd e (List.pairwise_iff_getElem.1 h i j hi hj h1)
  · exact h1
  · exact absurd e.symm (List.pairwise_iff_getElem.1 h j i hj hi h1)
theorem p_inj (h : ns.Nodup) {i j : Nat} (hi : i < ns.length) (hj : j < ns.length) (e : ns.getD i 0 = ns.getD j 0) : i = j := by
  rw [List.getD, List.getD, List.getElem?_eq_getElem hi, List.getElem?_eq_getElem hj] at e
  exact nod_inj h hi hj e
theorem cyW_count (f : Nat) : ∀ (s : List Bool) (y : Nat), (∀ i (h : i < ns.length), ns[i] < ns.length) → y < ns.length → s.length = ns.length → (cyW ns f s y).1.length + (cyW ns f s y).2.count false = s.count false := by
  induction f with
  | zero => intro s y _ _ _; simp [cyW]
  | succ f ih =>
    intro s y hp h2 h3
    cases hs : s.getD y true
    · have hs' : s[y]'(by omega) = false := by simpa [List.getD, show y < s.length from by omega] using hs
      have h4 := free_set (by omega) hs'
      have hny : ns.getD y 0 < ns.length := by rw [List.getD, List.getElem?_eq_getElem h2]; exact hp y h2
      have := ih (s.set y true) (ns.getD y 0) hp hny (by rw [List.length_set]; exact h3)
      rw [cyW, hs]
      simp only [Bool.false_eq_true, if_false, List.length_cons]
      omega
    · rw [cyW, hs]; simp
theorem mem_get {l : List Nat} {a : Nat} (h : a ∈ l) : ∃ j, ∃ h : j < l.length, l[j] = a := List.mem_iff_getElem.1 h
/-- One cycle is closed. -/
theorem cyc_closed (hn : ns.Nodup) (s : List Bool) (y : Nat)
    (hB : ∀ i, i < ns.length → s.getD (ns.getD i 0) true = true → s.getD i true = true) (r : List Nat × List Bool) (H : CyS ns s y r) :
    (∀ j (h : j < r.1.length), ns.getD r.1[j] 0 = r.1[(j + 1) % r.1.length]'(Nat.mod_lt _ (by omega))) ∧
    (∀ i, i < ns.length → r.2.getD (ns.getD i 0) true = true → r.2.getD i true = true) := by
  obtain ⟨c, d⟩ := r
  obtain ⟨a1, a2, a3, a4, a5, a6, a7, a8⟩ := H
  simp only at a1 a2 a3 a4 a5 a6 a7 a8 ⊢
  cases hs : s.getD y true
  · obtain ⟨z, z1, z2⟩ := a6 hs
    have hcn : c ≠ [] := by intro h; subst h; simp at z1
    have hlen : 0 < c.length := List.length_pos_iff.2 hcn
    have hzl : c[c.length - 1] = z := by rw [List.getLast?_eq_getElem?, List.getElem?_eq_getElem (by omega)] at z1; simpa using z1
    have hz : z ∈ c := by rw [← hzl]; exact List.getElem_mem _
    have h0 : c[0] = y := by have := a4 hcn; rw [List.head?_eq_getElem?, List.getElem?_eq_getElem hlen] at this; simpa using this
    have hpz : ns.getD z 0 = y := by
      rcases (a1 _).1 z2 with h | h
      · have := hB z (a3 z hz).2 h
        rw [(a3 z hz).1] at this
        cases this
      · obtain ⟨j, hj, e⟩ := mem_get h
        cases j with
        | zero => rw [← e, h0]
        | succ j =>
          exfalso
          have h1 := a5 j hj
          rw [e] at h1
          have h2 := p_inj hn (a3 z hz).2 (a3 _ (List.getElem_mem (show j < c.length by omega))).2 h1
          rw [← hzl] at h2
          have := nod_inj a2 _ _ h2
          omega
    constructor
    · intro j hj
      by_cases hl2 : j + 1 < c.length
      · have e : (j + 1) % c.length = j + 1 := Nat.mod_eq_of_lt hl2
        simp only [e]
        exact (a5 j hl2).symm
      · have e : (j + 1) % c.length = 0 := by rw [show j + 1 = c.length by omega]; exact Nat.mod_self _
        have e2 : j = c.length - 1 := by omega
        subst e2
        simp only [e, h0, hzl]
        exact hpz
    · intro i hi h
      rcases (a1 _).1 h with h | h
      · exact (a1 i).2 (.inl (hB i hi h))
      · obtain ⟨j, hj, e⟩ := mem_get h
        cases j with
        | zero =>
          rw [h0, ← hpz] at e
          have := p_inj hn (a3 z hz).2 hi e
          rw [← this]
          exact (a1 z).2 (.inr hz)
        | succ j =>
          have h1 := a5 j hj
          rw [e] at h1
          have h2 := p_inj hn hi (a3 _ (List.getElem_mem (show j < c.length by omega))).2 h1
          rw [h2]
          exact (a1 _).2 (.inr (List.getElem_mem _))
  · have hc0 := a7 hs
    subst hc0
    refine ⟨fun j h => by simp at h, fun i hi h => ?_⟩
    rcases (a1 _).1 h with h | h
    · exact (a1 i).2 (.inl (hB i hi h))
    · simp at h
def cycSum : List (List Nat) → Nat
  | [] => 0
  | c :: r => c.length + cycSum r
theorem cycSum_append (a b : List (List Nat)) : cycSum (a ++ b) = cycSum a + cycSum b := by
  induction a with
  | nil => simp [cycSum]
  | cons c r ih => simp [cycSum, ih]; omega
def CyOk (ns : List Nat) (k : Nat) : Prop :=
  (∀ i, i < ns.length → (cyA ns k).2.getD (ns.getD i 0) true = true → (cyA ns k).2.getD i true = true) ∧
  (∀ c ∈ (cyA ns k).1, c ≠ [] ∧ (∀ i ∈ c, i < ns.length) ∧ ∀ j (h : j < c.length), ns.getD c[j] 0 = c[(j + 1) % c.length]'(Nat.mod_lt _ (by omega))) ∧
  (∀ i, i < ns.length → (cyA ns k).2.getD i true = true → ∃ c ∈ (cyA ns k).1, i ∈ c) ∧
  (∀ i, i < k → (cyA ns k).2.getD i true = true) ∧
  cycSum (cyA ns k).1 + (cyA ns k).2.count false = ns.length
theorem cyOk (hp : ∀ i (h : i < ns.length), ns[i] < ns.length) (hn : ns.Nodup) (h32 : ns.length ≤ 32) : ∀ k, k ≤ ns.length → CyOk ns k
  | 0, _ => by
    have h0 : ∀ i, i < ns.length → (List.replicate ns.length false).getD i true = false := by
      intro i hi; simp [List.getD, hi]
    refine ⟨fun i hi h => ?_, fun c h => ?_, fun i hi h => ?_, fun i h => by omega, ?_⟩
    · have hny : ns.getD i 0 < ns.length := by rw [List.getD, List.getElem?_eq_getElem hi]; exact hp i hi
      rw [cyA, h0 _ hny] at h; cases h
    · simp [cyA] at h
    · rw [cyA, h0 _ hi] at h; cases h
    · simp [cyA, cycSum]
  | k + 1, hk => by
    obtain ⟨b1, b2, b3, b4, b5⟩ := cyOk hp hn h32 k (by omega)
    have hl := cyA_len (ns := ns) k
    have H := cyW_spec hp 33 (cyA ns k).2 k (by have := free_le (cyA ns k).2; omega) (by omega) hl
    obtain ⟨c1, c2⟩ := cyc_closed hn (cyA ns k).2 k b1 _ H
    obtain ⟨a1, a2, a3, a4, a5, a6, a7, a8⟩ := H
    have hcount := cyW_count 33 (cyA ns k).2 k hp (by omega) hl
    have e2 : (cyA ns (k + 1)).2 = (cyW ns 33 (cyA ns k).2 k).2 := rfl
    have e1 : (cyA ns (k + 1)).1 = if (cyW ns 33 (cyA ns k).2 k).1 = [] then (cyA ns k).1 else (cyA ns k).1 ++ [(cyW ns 33 (cyA ns k).2 k).1] := rfl
    refine ⟨?_, ?_, ?_, ?_, ?_⟩
    · rw [e2]; exact c2
    · intro c h
      rw [e1] at h
      split at h
      · exact b2 c h
      · rcases List.mem_append.1 h with h | h
        · exact b2 c h
        · rw [List.mem_singleton] at h
          subst h
          exact ⟨by assumption, fun i hi => (a3 i hi).2, c1⟩
    · intro i hi h
      rw [e2] at h
      rw [e1]
      rcases (a1 i).1 h with h | h
      · obtain ⟨c, h1, h2⟩ := b3 i hi h
        refine ⟨c, ?_, h2⟩
        split
        · exact h1
        · exact List.mem_append_left _ h1
      · refine ⟨_, ?_, h⟩
        split
        · rename_i he; rw [he] at h; simp at h
        · exact List.mem_append_right _ (List.mem_singleton.2 rfl)
    · intro i hi
      rw [e2]
      by_cases h : i = k
      · subst h; exact a8
      · exact (a1 i).2 (.inl (b4 i (by omega)))
    · rw [e2, e1]
      split
      · rename_i he
        rw [he] at hcount
        simp only [List.length_nil] at hcount
        omega
      · rw [cycSum_append, cycSum, cycSum]
        omega
end

end Go.Proofs.Ytloacmfafccofaa
