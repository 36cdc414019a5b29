/- A number's text: plain laws: the reference's reading is the library's; a list's text is read back. No condition. -/
import Derived.Test.YthibddfcjnljfaaDoorSplitP
import Derived.Lib.ItoaNum
import Derived.Lib.ParseIntBTie
import Derived.Lib.Strings
import Derived.Lib.Join
namespace Go.Proofs.YthibddfcjnljfaaDoor

def digB (c : UInt8) : Bool := decide (48 ≤ c.toNat) && decide (c.toNat ≤ 57)
theorem digB_t {c : UInt8} (h : digB c = true) : 48 ≤ c.toNat ∧ c.toNat ≤ 57 := by simpa [digB] using h
def valF (acc : Nat) (l : List UInt8) : Nat := l.foldl (fun a c => 10 * a + (c.toNat - 48)) acc
theorem valF_snoc (acc : Nat) (l : List UInt8) (c : UInt8) : valF acc (l ++ [c]) = 10 * valF acc l + (c.toNat - 48) := by
  unfold valF
  rw [List.foldl_append]; rfl
theorem ofDig (m : Nat) (h : m < 10) : (UInt8.ofNat (48 + m)).toNat = 48 + m := by
  rw [UInt8.toNat_ofNat', Nat.mod_eq_of_lt (by omega)]
theorem dec_dig (u : Nat) : (Lib.decDigits u).all digB = true := by
  induction u using Nat.strongRecOn with
  | _ u ih =>
    rw [Lib.decDigits]
    split
    · rename_i h
      simp only [List.all_cons, List.all_nil, Bool.and_true, digB, ofDig u h]
      simp; omega
    · rename_i h
      rw [List.all_append, ih (u / 10) (by omega)]
      simp only [List.all_cons, List.all_nil, Bool.and_true, Bool.true_and, digB, ofDig (u % 10) (Nat.mod_lt _ (by omega))]
      simp; omega
theorem dec_val (u : Nat) : valF 0 (Lib.decDigits u) = u := by
  induction u using Nat.strongRecOn with
  | _ u ih =>
    rw [Lib.decDigits]
    split
    · rename_i h
      show 10 * 0 + ((UInt8.ofNat (48 + u)).toNat - 48) = u
      rw [ofDig u h]; omega
    · rename_i h
      rw [valF_snoc, ih (u / 10) (by omega), ofDig (u % 10) (Nat.mod_lt _ (by omega))]
      omega
theorem dec_cons (u : Nat) : ∃ c r, Lib.decDigits u = c :: r ∧ digB c = true := by
  have h := dec_dig u
  cases hd : Lib.decDigits u with
  | nil => rw [Lib.decDigits] at hd; split at hd <;> simp at hd
  | cons c r =>
    rw [hd] at h
    simp only [List.all_cons, Bool.and_eq_true] at h
    exact ⟨c, r, rfl, h.1⟩
theorem itoa_plus (v : Int) (r : List UInt8) : Lib.itoa v ≠ 43 :: r := by
  intro h
  unfold Lib.itoa at h
  split at h
  · simp at h
  · obtain ⟨c, r', hc, hd⟩ := dec_cons v.toNat
    rw [hc] at h
    injection h with h1 h2
    subst h1
    simp [digB] at hd
theorem itoa_no (v : Int) (c : UInt8) (hc : digB c = false) (hm : c ≠ 45) : ∀ x ∈ Lib.itoa v, x ≠ c := by
  intro x hx he
  subst he
  have all : ∀ u, x ∈ Lib.decDigits u → False := fun u hm => by
    have := List.all_eq_true.1 (dec_dig u) x hm
    rw [hc] at this; cases this
  unfold Lib.itoa at hx
  split at hx
  · rcases List.mem_cons.1 hx with h | h
    · exact hm h
    · exact all _ h
  · exact all _ hx

theorem val_lt : ∀ (t : List UInt8) (acc k : Nat), t.all digB = true → acc < 10 ^ k → valF acc t < 10 ^ (k + t.length)
  | [], acc, k, _, h => by simpa [valF] using h
  | c :: r, acc, k, hd, h => by
    simp only [List.all_cons, Bool.and_eq_true] at hd
    have hc := digB_t hd.1
    have ih := val_lt r (10 * acc + (c.toNat - 48)) (k + 1) hd.2 (by rw [Nat.pow_succ]; omega)
    have e : k + 1 + r.length = k + (c :: r).length := by simp; omega
    rw [e] at ih
    exact ih
theorem parse_ok : ∀ (t : List UInt8) (acc k : Nat), t.all digB = true → acc < 10 ^ k → k + t.length ≤ 18 → Lib.parseUintM 18446744073709551615 acc t = .ok (valF acc t)
  | [], _, _, _, _, _ => rfl
  | c :: r, acc, k, hd, h, hk => by
    simp only [List.all_cons, Bool.and_eq_true] at hd
    have hc := digB_t hd.1
    simp only [List.length_cons] at hk
    have hp : 10 ^ k ≤ 10 ^ 17 := Nat.pow_le_pow_right (by omega) (by omega)
    have h17 : (10 : Nat) ^ 17 = 100000000000000000 := by decide
    have ih := parse_ok r (acc * 10 + (c.toNat - 48)) (k + 1) hd.2 (by rw [Nat.pow_succ]; omega) (by omega)
    unfold Lib.parseUintM
    rw [if_pos hc, if_neg (by omega), if_neg (by omega), ih]
    show _ = Lib.NumEnd.ok (valF (10 * acc + (c.toNat - 48)) r)
    rw [Nat.mul_comm]
theorem parse_dig : ∀ (t : List UInt8) (M acc u : Nat), Lib.parseUintM M acc t = .ok u → t.all digB = true
  | [], _, _, _, _ => rfl
  | c :: r, M, acc, u, h => by
    unfold Lib.parseUintM at h
    split at h
    · rename_i hc
      split at h
      · cases h
      · split at h
        · cases h
        · have ih := parse_dig r M _ u h
          simp only [List.all_cons, ih, Bool.and_true]
          simp [digB, hc.1, hc.2]
    · cases h

/-- The text behind a minus. -/
def trimL (s : List UInt8) : List UInt8 := Lib.trimPrefix s [45]
theorem trimL_minus (r : List UInt8) : trimL (45 :: r) = r := rfl
theorem trimL_other (c : UInt8) (r : List UInt8) (h : c ≠ 45) : trimL (c :: r) = c :: r := by
  unfold trimL Lib.trimPrefix Lib.hasPrefix
  rw [if_neg]
  simp [List.isPrefixOf]
  exact fun e => h e.symm
/-- The number that a text is, as the library reads it. -/
def numOf (s : List UInt8) : Option Int :=
  if 1 ≤ (trimL s).length ∧ (trimL s).length ≤ 18 then
    match Lib.parseIntB 64 s with
    | .ok v => if Lib.itoa v = s then some v else none
    | _ => none
  else none
def numV (s : List UInt8) : Int := if (trimL s).length < s.length then -((valF 0 (trimL s) : Nat) : Int) else ((valF 0 (trimL s) : Nat) : Int)
theorem numV_minus (r : List UInt8) : numV (45 :: r) = -((valF 0 r : Nat) : Int) := by
  unfold numV
  rw [trimL_minus, if_pos (by simp)]
theorem numV_other (c : UInt8) (r : List UInt8) (h : c ≠ 45) : numV (c :: r) = ((valF 0 (c :: r) : Nat) : Int) := by
  unfold numV
  rw [trimL_other c r h, if_neg (by omega)]
/-- .. as the reference reads it. -/
def numS (s : List UInt8) : Option Int :=
  if 1 ≤ (trimL s).length ∧ (trimL s).length ≤ 18 then
    if (trimL s).all digB = true then (if Lib.itoa (numV s) = s then some (numV s) else none) else none
  else none
theorem uintB_ok (t : List UInt8) (h1 : 1 ≤ t.length) (h2 : t.length ≤ 18) (hd : t.all digB = true) : Lib.parseUintB 64 t = .ok (valF 0 t) ∧ valF 0 t < 1000000000000000000 := by
  have e : (2 : Nat) ^ 64 - 1 = 18446744073709551615 := by decide
  have h18 : (10 : Nat) ^ 18 = 1000000000000000000 := by decide
  refine ⟨?_, ?_⟩
  · unfold Lib.parseUintB
    rw [if_neg (by intro h; rw [h] at h1; simp at h1), e]
    exact parse_ok t 0 0 hd (by decide) (by omega)
  · have h3 := val_lt t 0 0 hd (by decide)
    have h4 : 10 ^ (0 + t.length) ≤ 10 ^ 18 := Nat.pow_le_pow_right (by omega) (by omega)
    omega
theorem uintB_dig (t : List UInt8) (u : Nat) (h : Lib.parseUintB 64 t = .ok u) : t.all digB = true := by
  unfold Lib.parseUintB at h
  split at h
  · cases h
  · exact parse_dig _ _ _ _ h
theorem num_eq (s : List UInt8) : numS s = numOf s := by
  have e63 : (2 : Nat) ^ (64 - 1) = 9223372036854775808 := by decide
  unfold numS numOf
  by_cases hl : 1 ≤ (trimL s).length ∧ (trimL s).length ≤ 18
  · rw [if_pos hl, if_pos hl]
    cases s with
    | nil => simp [trimL, Lib.trimPrefix, Lib.hasPrefix] at hl
    | cons c r =>
      by_cases h45 : c = 45
      · subst h45
        rw [numV_minus]
        rw [trimL_minus] at hl ⊢
        rw [Lib.parseIntB_minus, e63]
        cases hd : r.all digB
        · rw [if_neg (by simp)]
          cases hp : Lib.parseUintB 64 r with
          | ok u => rw [uintB_dig r u hp] at hd; cases hd
          | _ => rfl
        · obtain ⟨h1, h2⟩ := uintB_ok r hl.1 hl.2 hd
          rw [if_pos rfl, h1]
          have h3 : ¬ 9223372036854775808 < valF 0 r := by omega
          simp only [Lib.signedC]
          rw [if_neg h3]
      · rw [numV_other c r h45]
        rw [trimL_other c r h45] at hl ⊢
        by_cases h43 : c = 43
        · subst h43
          have hd : ((43 : UInt8) :: r).all digB = false := by simp [digB]
          rw [hd, if_neg (by simp)]
          cases hp : Lib.parseIntB 64 (43 :: r) with
          | ok v => exact (if_neg (itoa_plus v r)).symm
          | _ => rfl
        · rw [Lib.parseIntB_plain 64 c r (fun e => h43 (UInt8.toNat_inj.1 e)) (fun e => h45 (UInt8.toNat_inj.1 e)), e63]
          cases hd : (c :: r).all digB
          · rw [if_neg (by simp)]
            cases hp : Lib.parseUintB 64 (c :: r) with
            | ok u => rw [uintB_dig _ u hp] at hd; cases hd
            | _ => rfl
          · obtain ⟨h1, h2⟩ := uintB_ok (c :: r) hl.1 hl.2 hd
            rw [if_pos rfl, h1]
            have h3 : ¬ 9223372036854775808 ≤ valF 0 (c :: r) := by omega
            simp only [Lib.signlessC]
            rw [if_neg h3]
  · rw [if_neg hl, if_neg hl]
theorem numOf_itoa {s : List UInt8} {n : Int} (h : numOf s = some n) : Lib.itoa n = s := by
  unfold numOf at h
  split at h
  · split at h
    · split at h
      · rename_i he
        cases h
        exact he
      · cases h
    · cases h
  · cases h
theorem itoa_zero : Lib.itoa 0 = [48] := by
  rw [Lib.itoa, if_neg (by omega)]
  show Lib.decDigits 0 = _
  rw [Lib.decDigits, dif_pos (by omega)]; rfl
theorem numOf_zero : numOf [48] = some 0 := by
  rw [← num_eq]
  have e : trimL [48] = [48] := rfl
  have e0 : numV [48] = 0 := by rw [numV_other 48 [] (by decide)]; rfl
  unfold numS
  rw [e, e0, if_pos (by decide), if_pos (by decide), if_pos itoa_zero]

/-! ### lists of parts -/
theorem split_join (c : UInt8) : ∀ (xs : List (List UInt8)), xs ≠ [] → (∀ x ∈ xs, ∀ y ∈ x, y ≠ c) → Lib.split (Lib.join xs [c]) [c] = xs
  | [], h, _ => absurd rfl h
  | [x], _, h => by rw [Lib.join_one, split_none c x (h x (by simp))]
  | x :: y :: r, _, h => by
    have e : Lib.join (x :: y :: r) [c] = x ++ c :: Lib.join (y :: r) [c] := by
      rw [Lib.join_cons, Lib.join_cons]
      simp [Lib.joinTail]
    rw [e, split_hit c _ _ (h x (by simp)), split_join c (y :: r) (by simp) (fun z hz => h z (by simp [hz]))]
theorem cut_at (c : UInt8) : ∀ (s : List UInt8), (∀ x ∈ s, x ≠ c) ∨ ∃ a b, s = a ++ c :: b ∧ (∀ x ∈ a, x ≠ c)
  | [] => .inl (by simp)
  | x :: r => by
    by_cases h : x = c
    · exact .inr ⟨[], r, by simp [h], by simp⟩
    · rcases cut_at c r with h1 | ⟨a, b, h1, h2⟩
      · refine .inl (fun y hy => ?_)
        rcases List.mem_cons.1 hy with e | e
        · rw [e]; exact h
        · exact h1 y e
      · refine .inr ⟨x :: a, b, by rw [h1]; rfl, fun y hy => ?_⟩
        rcases List.mem_cons.1 hy with e | e
        · rw [e]; exact h
        · exact h2 y e
theorem split_ne (c : UInt8) (s : List UInt8) : Lib.split s [c] ≠ [] := by
  rcases cut_at c s with h | ⟨a, b, rfl, h⟩
  · rw [split_none c s h]; simp
  · rw [split_hit c a b h]; simp
theorem join_split (c : UInt8) : ∀ (k : Nat) (s : List UInt8), s.length ≤ k → Lib.join (Lib.split s [c]) [c] = s
  | 0, s, h => by
    obtain rfl : s = [] := List.eq_nil_of_length_eq_zero (by omega)
    rw [split_none c [] (by simp), Lib.join_one]
  | k + 1, s, h => by
    rcases cut_at c s with h1 | ⟨a, b, rfl, h1⟩
    · rw [split_none c s h1, Lib.join_one]
    · rw [List.length_append, List.length_cons] at h
      have ih := join_split c k b (by omega)
      rw [split_hit c a b h1, Lib.join_cons]
      cases hs : Lib.split b [c] with
      | nil => exact absurd hs (split_ne c b)
      | cons y r =>
        rw [hs, Lib.join_cons] at ih
        congr 1
        rw [← ih]
        simp [Lib.joinTail]
end Go.Proofs.YthibddfcjnljfaaDoor
