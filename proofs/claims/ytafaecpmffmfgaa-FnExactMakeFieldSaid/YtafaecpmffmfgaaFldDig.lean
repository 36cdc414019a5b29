/- Digits of a number, the number of digits, powers: the walks of the program and of the reference. No condition. -/
import Derived.Test.YtafaecpmffmfgaaFldMath
import Derived.Test.YtafaecpmffmfgaaSlices
namespace Go.Proofs.Ytafaecpmffmfgaa
open Go.RowKit

theorem edivSmall {A p : Int} (h0 : 0 ≤ A) (h1 : A ≤ 1000000) (hp : 2 ≤ p) : 0 ≤ A / p ∧ A / p ≤ 1000000 := by
  refine ⟨Int.ediv_nonneg h0 (by omega), ?_⟩
  have := Int.ediv_le_self p h0
  omega
theorem s_digits (a p : Int) (N : Nat) (w : World) (hp : 2 ≤ p) (hp2 : p ≤ 64) (h0 : 0 ≤ a) (h1 : a ≤ 1000000) (hN : N ≤ 20) : Calls Try.prog 86 #[.int .i64 a, .int .i64 p, .int .i64 (N : Int)] w (RetInts w (digL p N a)) := by
  obtain ⟨R, HR⟩ : ∃ R, Hid (R = digL p N a) := ⟨_, Lib.hid rfl⟩
  rw [← HR.out]
  go_enter Try.func86, Try.ntmps86
  go_wp2
  go_loopw [0, 2, 7] (fun a n v wr => ∃ (m : Nat) (A : Int) (acc : List Int), a = .int .i64 A ∧ n = .int .i64 m ∧ 0 ≤ A ∧ A ≤ 1000000 ∧ m ≤ N ∧ Hid (acc.length ≤ 20 - m) ∧ Hid (R = acc ++ digL p m A) ∧ Hid (Own wr w.heap.size v acc) ∧ Hid (Ext w wr)) (fun _ n _ _ => (intOf n).toNat)
  case atStart => exact ⟨N, a, [], rfl, rfl, h0, h1, by omega, Lib.hid (by simp), Lib.hid (by simpa using HR.out), Lib.hid (OwnV.empty _ _), Lib.hid (ext_alloc _ _)⟩
  case round =>
    obtain ⟨m, A, acc, rfl, rfl, a0, a1, hm, hl, hmid, hown, hext⟩ := hrel
    by_cases hlt : 0 < m
    · obtain ⟨t, rfl⟩ : ∃ t, m = t + 1 := ⟨m - 1, by omega⟩
      have hown1 := hown.out
      have hz := hext.out.size
      have hl1 := hl.out
      have hti : ((t + 1 : Nat) : Int) - 1 = (t : Int) := by omega
      have HM : Hid (R = acc ++ [A % p] ++ digL p t (A / p)) := Lib.hid (by rw [hmid.out, digL]; simp)
      obtain ⟨b1, b2⟩ := edivSmall a0 a1 hp
      clear hmid hl
      go_wp2_with (at_builtin; refine wp_app1 _ rfl _ _ rfl _ _ acc rfl hown1 (A % p) rfl (by omega) hz ?_; intro v' w' hown3 hgr)
      have HO := Lib.hid hown3
      have HE : Hid (Ext w w') := Lib.hid (ext_app (e := 2) hext.out hown1 hgr)
      clear hown3 hgr hown1
      go_wp2
      exact ⟨⟨t, A / p, acc ++ [A % p], rfl, rfl, b1, b2, by omega, Lib.hid (by simp; omega), HM, HO, HE⟩, by simp only [intOf]; omega⟩
    · obtain rfl : m = 0 := by omega
      have HM : Hid (R = acc) := Lib.hid (by rw [hmid.out, digL]; simp)
      clear hmid
      go_wp2
      go_ret
      exact ⟨_, rfl, by rw [HM.out]; exact hown.out, hext.out⟩
/-- Half way: the first k digits are laid; zeros behind. -/
def digMid (p : Int) (N : Nat) (R : List Int) (k : Nat) (A : Int) (ys : List Int) : Prop := k ≤ N ∧ ys.length = N ∧ R = ys.take k ++ digL p (N - k) A
theorem digMid_next {p : Int} {N : Nat} {R : List Int} {k : Nat} {A : Int} {ys : List Int} (h : digMid p N R k A ys) (hk : k < N) : digMid p N R (k + 1) (A / p) (ys.set k (A % p)) := by
  obtain ⟨h1, h2, h3⟩ := h
  refine ⟨by omega, by rw [List.length_set, h2], ?_⟩
  rw [h3, show N - k = (N - (k + 1)) + 1 from by omega, digL, List.take_succ_eq_append_getElem (by rw [List.length_set]; omega), List.getElem_set_self, List.append_assoc]
  congr 1
  rw [List.take_set_of_le (by omega)]
theorem digMid_end {p : Int} {N : Nat} {R : List Int} {A : Int} {ys : List Int} (h : digMid p N R N A ys) : R = ys := by
  obtain ⟨h1, h2, h3⟩ := h
  rw [h3, Nat.sub_self, digL, List.append_nil, List.take_of_length_le (by omega)]
theorem i_digits (a p : Int) (N : Nat) (w : World) (hp : 2 ≤ p) (hp2 : p ≤ 64) (h0 : 0 ≤ a) (h1 : a ≤ 1000000) (hN : N ≤ 20) : Calls Try.prog 61 #[.int .i64 a, .int .i64 p, .int .i64 (N : Int)] w (RetInts w (digL p N a)) := by
  obtain ⟨R, HR⟩ : ∃ R, Hid (R = digL p N a) := ⟨_, Lib.hid rfl⟩
  rw [← HR.out]
  go_enter Try.func61, Try.ntmps61
  go_wp2_with (at_make; refine wp_make _ rfl _ _ rfl w.heap.size .i64 .i64 _ _ N rfl rfl rfl rfl (by omega) (Nat.le_refl _) ?_; intro w1 hown hext)
  go_loopw [0, 13] (fun a i wr => ∃ (k : Nat) (A : Int) (ys : List Int), a = .int .i64 A ∧ i = .int .i64 k ∧ 0 ≤ A ∧ A ≤ 1000000 ∧ k ≤ N ∧ Hid (digMid p N R k A ys) ∧ Hid (Own wr w.heap.size (.slice (some ⟨w.heap.size, 0, none⟩) N N) ys) ∧ Hid (Ext w wr)) (fun _ i _ => N - (intOf i).toNat)
  case atStart => exact ⟨0, a, List.replicate N 0, rfl, rfl, h0, h1, by omega, Lib.hid ⟨by omega, by simp, by simpa using HR.out⟩, Lib.hid hown, Lib.hid hext⟩
  case round =>
    clear hown hext
    obtain ⟨k, A, ys, rfl, rfl, a0, a1, hk, hmid, hown, hext⟩ := hrel
    by_cases hlt : k < N
    · have hc1 := hown.out.cell k (by rw [List.length_map, hmid.out.2.1]; exact hlt)
      have hf1 := hown.out.frozen k
      obtain ⟨hs1, hs2⟩ := hown.out.stored k (.int .i64 (A % p))
      have HS : Hid (Own (wr.setCell ⟨w.heap.size, k, none⟩ (.int .i64 (A % p))) w.heap.size (.slice (some ⟨w.heap.size, 0, none⟩) N N) (ys.set k (A % p))) := Lib.hid (by
        unfold Own; rw [List.map_set]; exact hs1)
      have HE : Hid (Ext w (wr.setCell ⟨w.heap.size, k, none⟩ (.int .i64 (A % p)))) := Lib.hid (ext_app (e := 2) (v := .slice (some ⟨w.heap.size, 0, none⟩) N N) hext.out hown.out hs2)
      have HM := Lib.hid (digMid_next hmid.out hlt)
      obtain ⟨b1, b2⟩ := edivSmall a0 a1 hp
      generalize (ys.map (Value.int .i64))[k]'(by rw [List.length_map, hmid.out.2.1]; exact hlt) = old at hc1
      clear hs1 hs2 hown hext hmid
      go_wp2
      exact ⟨⟨k + 1, A / p, _, rfl, by go_num, b1, b2, by omega, HM, HS, HE⟩, by simp only [intOf]; omega⟩
    · obtain rfl : k = N := by omega
      have HF := Lib.hid (digMid_end hmid.out)
      clear hmid
      go_wp2
      go_ret
      exact ⟨_, rfl, by rw [HF.out]; exact hown.out, hext.out⟩
theorem numL_drop {p : Int} {xs : List Int} {t : Nat} (h : t < xs.length) : numL p (xs.drop t) = numL p (xs.drop (t + 1)) * p + xs[t] := by
  rw [List.drop_eq_getElem_cons h, numL]
theorem pow_le_6 {p : Int} (hp : 2 ≤ p) (hp2 : p ≤ 64) : ∀ k : Nat, k ≤ 6 → 1 ≤ p ^ k ∧ p ^ k ≤ 68719476736 := by
  have h1 : p ^ 0 ≤ 1 := by simp
  have e : ∀ k, p ^ (k + 1) = p ^ k * p := fun k => Int.pow_succ p k
  have st : ∀ (k : Nat) (B : Int), 0 ≤ B → p ^ k ≤ B → p ^ (k + 1) ≤ B * 64 := by
    intro k B hB h
    rw [e]
    exact Int.mul_le_mul h hp2 (by omega) hB
  have h2 := st 0 1 (by omega) h1
  have h3 := st 1 (1 * 64) (by omega) h2
  have h4 := st 2 (1 * 64 * 64) (by omega) h3
  have h5 := st 3 (1 * 64 * 64 * 64) (by omega) h4
  have h6 := st 4 (1 * 64 * 64 * 64 * 64) (by omega) h5
  have h7 := st 5 (1 * 64 * 64 * 64 * 64 * 64) (by omega) h6
  simp only [Nat.zero_add, Nat.reduceAdd] at h2 h3 h4 h5 h6 h7
  intro k hk
  refine ⟨by have := pow_pos' (p := p) (by omega) k; omega, ?_⟩
  rcases (show k = 0 ∨ k = 1 ∨ k = 2 ∨ k = 3 ∨ k = 4 ∨ k = 5 ∨ k = 6 by omega) with rfl | rfl | rfl | rfl | rfl | rfl | rfl <;> omega
theorem numL_bd {p : Int} (hp : 2 ≤ p) (hp2 : p ≤ 64) {xs : List Int} (h : InMod p xs) (hl : xs.length ≤ 6) : 0 ≤ numL p xs ∧ numL p xs ≤ 68719476736 := by
  have h1 := numL_nonneg (show 0 < p by omega) xs h
  have h2 := pow_le_6 hp hp2 xs.length hl
  omega
theorem i_number (v : Value) (xs : List Int) (p : Int) (w : World) (h : Rd w v xs) (hp : 2 ≤ p) (hp2 : p ≤ 64) (hx : InMod p xs) (hl : xs.length ≤ 6) : Calls Try.prog 90 #[v, .int .i64 p] w fun e w' => e = .returned (.int .i64 (numL p xs)) ∧ w = w' := by
  obtain ⟨a, cap, rfl, hc, hm, hr⟩ := h
  obtain ⟨N, HN⟩ : ∃ N, Hid (N = xs.length) := ⟨_, Lib.hid rfl⟩
  have HC : Hid (0 < N → ∃ b o, a = some ⟨b, o, none⟩ ∧ b < w.heap.size ∧ ∀ i (h : i < xs.length), w.cell? ⟨b, o + i, none⟩ = some (.int .i64 xs[i])) := Lib.hid (fun hk => hr (by rw [← HN.out]; exact hk))
  have HX := Lib.hid hx
  obtain ⟨R, HR⟩ : ∃ R, Hid (R = numL p xs) := ⟨_, Lib.hid rfl⟩
  clear hr hx
  rw [← HR.out]
  rw [← HN.out] at hc hl ⊢
  go_enter Try.func90, Try.ntmps90
  go_wp2
  go_loop [5, 6] (fun n i => ∃ (t : Nat) (A : Int), n = .int .i64 A ∧ i = .int .i64 ((t : Int) - 1) ∧ t ≤ N ∧ Hid (A = numL p (xs.drop t))) (fun _ i => (intOf i + 1).toNat)
  case atStart => exact ⟨N, 0, rfl, rfl, by omega, Lib.hid (by rw [List.drop_of_length_le (by rw [← HN.out]; omega)]; rfl)⟩
  case round =>
    obtain ⟨t1, A, rfl, rfl, ht, hA⟩ := hrel
    by_cases hlt : 0 < t1
    · obtain ⟨t, rfl⟩ : ∃ t, t1 = t + 1 := ⟨t1 - 1, by omega⟩
      have ht' : t < xs.length := by rw [← HN.out]; omega
      obtain ⟨b, o, rfl, hb, hall⟩ := HC.out (by omega)
      have hcell := hall t ht'
      have b0 := numL_bd hp hp2 (xs := xs.drop (t + 1)) (fun x hx => HX.out x (List.mem_of_mem_drop hx)) (by rw [List.length_drop, ← HN.out]; omega)
      have b1 := numL_bd hp hp2 (xs := xs.drop t) (fun x hx => HX.out x (List.mem_of_mem_drop hx)) (by rw [List.length_drop, ← HN.out]; omega)
      have b2 := HX.out xs[t] (List.getElem_mem ht')
      rw [numL_drop ht', ← hA.out] at b1
      rw [← hA.out] at b0
      have HA : Hid (A * p + xs[t] = numL p (xs.drop t)) := Lib.hid (by rw [numL_drop ht', hA.out])
      have hti : ((t + 1 : Nat) : Int) - 1 = (t : Int) := by omega
      rw [hti]
      generalize xs[t] = z at *
      have b3 : 0 ≤ A * p := Int.mul_nonneg b0.1 (by omega)
      clear hall hA hti
      go_wp2
      exact ⟨⟨t, A * p + z, rfl, rfl, by omega, HA⟩, by simp only [intOf]; omega⟩
    · obtain rfl : t1 = 0 := by omega
      have HA : Hid (A = R) := Lib.hid (by rw [hA.out, List.drop_zero, HR.out])
      clear hA
      go_wp2
      go_ret
      exact ⟨ret_i64 HA.out, rfl⟩
theorem s_number (v : Value) (xs : List Int) (p : Int) (w : World) (h : Rd w v xs) (hp : 2 ≤ p) (hp2 : p ≤ 64) (hx : InMod p xs) (hl : xs.length ≤ 6) : Calls Try.prog 87 #[v, .int .i64 p] w fun e w' => e = .returned (.int .i64 (numL p xs)) ∧ w = w' := by
  obtain ⟨a, cap, rfl, hc, hm, hr⟩ := h
  obtain ⟨N, HN⟩ : ∃ N, Hid (N = xs.length) := ⟨_, Lib.hid rfl⟩
  have HC : Hid (0 < N → ∃ b o, a = some ⟨b, o, none⟩ ∧ b < w.heap.size ∧ ∀ i (h : i < xs.length), w.cell? ⟨b, o + i, none⟩ = some (.int .i64 xs[i])) := Lib.hid (fun hk => hr (by rw [← HN.out]; exact hk))
  have HX := Lib.hid hx
  obtain ⟨R, HR⟩ : ∃ R, Hid (R = numL p xs) := ⟨_, Lib.hid rfl⟩
  clear hr hx
  rw [← HR.out]
  rw [← HN.out] at hc hl ⊢
  go_enter Try.func87, Try.ntmps87
  go_wp2
  go_loop [5, 6] (fun n i => ∃ (t : Nat) (A : Int), n = .int .i64 A ∧ i = .int .i64 ((t : Int) - 1) ∧ t ≤ N ∧ Hid (A = numL p (xs.drop t))) (fun _ i => (intOf i + 1).toNat)
  case atStart => exact ⟨N, 0, rfl, rfl, by omega, Lib.hid (by rw [List.drop_of_length_le (by rw [← HN.out]; omega)]; rfl)⟩
  case round =>
    obtain ⟨t1, A, rfl, rfl, ht, hA⟩ := hrel
    by_cases hlt : 0 < t1
    · obtain ⟨t, rfl⟩ : ∃ t, t1 = t + 1 := ⟨t1 - 1, by omega⟩
      have ht' : t < xs.length := by rw [← HN.out]; omega
      obtain ⟨b, o, rfl, hb, hall⟩ := HC.out (by omega)
      have hcell := hall t ht'
      have b0 := numL_bd hp hp2 (xs := xs.drop (t + 1)) (fun x hx => HX.out x (List.mem_of_mem_drop hx)) (by rw [List.length_drop, ← HN.out]; omega)
      have b1 := numL_bd hp hp2 (xs := xs.drop t) (fun x hx => HX.out x (List.mem_of_mem_drop hx)) (by rw [List.length_drop, ← HN.out]; omega)
      have b2 := HX.out xs[t] (List.getElem_mem ht')
      rw [numL_drop ht', ← hA.out] at b1
      rw [← hA.out] at b0
      have HA : Hid (A * p + xs[t] = numL p (xs.drop t)) := Lib.hid (by rw [numL_drop ht', hA.out])
      have hti : ((t + 1 : Nat) : Int) - 1 = (t : Int) := by omega
      rw [hti]
      generalize xs[t] = z at *
      have b3 : 0 ≤ A * p := Int.mul_nonneg b0.1 (by omega)
      clear hall hA hti
      go_wp2
      exact ⟨⟨t, A * p + z, rfl, rfl, by omega, HA⟩, by simp only [intOf]; omega⟩
    · obtain rfl : t1 = 0 := by omega
      have HA : Hid (A = R) := Lib.hid (by rw [hA.out, List.drop_zero, HR.out])
      clear hA
      go_wp2
      go_ret
      exact ⟨ret_i64 HA.out, rfl⟩
theorem s_power (p : Int) (N : Nat) (w : World) (hp : 2 ≤ p) (hp2 : p ≤ 64) (hN : N ≤ 6) : Calls Try.prog 81 #[.int .i64 p, .int .i64 (N : Int)] w fun e w' => e = .returned (.int .i64 (p ^ N)) ∧ w = w' := by
  obtain ⟨R, HR⟩ : ∃ R, Hid (R = p ^ N) := ⟨_, Lib.hid rfl⟩
  rw [← HR.out]
  go_enter Try.func81, Try.ntmps81
  go_wp2
  go_loop [1, 5] (fun n q => ∃ (m : Nat) (A : Int), n = .int .i64 m ∧ q = .int .i64 A ∧ m ≤ N ∧ Hid (A = p ^ (N - m))) (fun n _ => (intOf n).toNat)
  case atStart => exact ⟨N, 1, rfl, rfl, by omega, Lib.hid (by simp)⟩
  case round =>
    obtain ⟨m, A, rfl, rfl, hm, hA⟩ := hrel
    by_cases hlt : 0 < m
    · obtain ⟨t, rfl⟩ : ∃ t, m = t + 1 := ⟨m - 1, by omega⟩
      have b1 := pow_le_6 hp hp2 (N - t) (by omega)
      have HA : Hid (A * p = p ^ (N - t)) := Lib.hid (by rw [hA.out, ← Int.pow_succ]; congr 1; omega)
      rw [← HA.out] at b1
      have hti : ((t + 1 : Nat) : Int) - 1 = (t : Int) := by omega
      clear hA
      go_wp2
      exact ⟨⟨t, A * p, rfl, rfl, by omega, HA⟩, by simp only [intOf]; omega⟩
    · obtain rfl : m = 0 := by omega
      have HA : Hid (A = R) := Lib.hid (by rw [hA.out, HR.out]; rfl)
      clear hA
      go_wp2
      go_ret
      exact ⟨ret_i64 HA.out, rfl⟩
/-- The power, or the first one beyond 64, times A. -/
def upW (p : Int) : Nat → Int → Int
  | 0, A => A
  | n + 1, A => if A ≤ 64 then upW p n (A * p) else A
theorem upW_big (p : Int) : ∀ n A, 64 < A → upW p n A = A
  | 0, _, _ => rfl
  | n + 1, A, h => by rw [upW, if_neg (by omega)]
theorem upW_pow {p : Int} (hp : 2 ≤ p) : ∀ (n : Nat) (A : Int), 1 ≤ A → (A * p ^ n ≤ 64 → upW p n A = A * p ^ n) ∧ (64 < A * p ^ n → 64 < upW p n A)
  | 0, A, _ => by simp [upW]
  | n + 1, A, h => by
    have ha : 1 ≤ A * p := by have : 1 * 1 ≤ A * p := Int.mul_le_mul h (by omega) (by omega) (by omega); omega
    have ih := upW_pow hp n (A * p) ha
    have e : A * p ^ (n + 1) = A * p * p ^ n := by rw [Int.pow_succ, Int.mul_comm (p ^ n), Int.mul_assoc]
    rw [e, upW]
    by_cases hA : A ≤ 64
    · rw [if_pos hA]; exact ih
    · rw [if_neg hA]
      refine ⟨fun h2 => ?_, fun _ => by omega⟩
      exfalso
      have h3 : 1 ≤ p ^ n := by have := pow_pos' (p := p) (by omega) n; omega
      have h4 : A * p * 1 ≤ A * p * p ^ n := Int.mul_le_mul_of_nonneg_left h3 (by omega)
      have h5 : A * 1 ≤ A * p := Int.mul_le_mul_of_nonneg_left (by omega) (by omega)
      omega
/-- Any exponent: the base is a prime up to a million. -/
theorem i_powerUpTo (p n : Int) (w : World) (hp : 2 ≤ p) (hp2 : p ≤ 1000000) (hn : 0 ≤ n) (hn2 : n ≤ 9223372036854775807) : Calls Try.prog 54 #[.int .i64 p, .int .i64 n, .int .i64 64] w fun e w' => e = .returned (.int .i64 (upW p n.toNat 1)) ∧ w = w' := by
  obtain ⟨R, HR⟩ : ∃ R, Hid (R = upW p n.toNat 1) := ⟨_, Lib.hid rfl⟩
  rw [← HR.out]
  go_enter Try.func54, Try.ntmps54
  go_wp2
  go_loop [1, 7] (fun e q => ∃ (m A : Int), e = .int .i64 m ∧ q = .int .i64 A ∧ 0 ≤ m ∧ m ≤ 9223372036854775807 ∧ 1 ≤ A ∧ A ≤ 64000000 ∧ Hid (R = upW p m.toNat A)) (fun e _ => (intOf e).toNat)
  case atStart => exact ⟨n, 1, rfl, rfl, hn, hn2, by omega, by omega, HR⟩
  case round =>
    obtain ⟨m, A, rfl, rfl, m0, m1, a0, a1, hA⟩ := hrel
    by_cases hlt : 0 < m
    · by_cases h64 : A ≤ 64
      · have HA : Hid (R = upW p (m - 1).toNat (A * p)) := Lib.hid (by
          rw [hA.out, show m.toNat = (m - 1).toNat + 1 from by omega, upW, if_pos h64])
        have b1 : A * p ≤ 64 * 1000000 := Int.mul_le_mul h64 hp2 (by omega) (by omega)
        have b2 : 1 * 1 ≤ A * p := Int.mul_le_mul a0 (by omega) (by omega) (by omega)
        have b1' : A * p ≤ 64000000 := by omega
        have b2' : 1 ≤ A * p := by omega
        clear hA b1 b2
        go_wp2
        exact ⟨⟨m - 1, A * p, rfl, rfl, by omega, by omega, b2', b1', HA⟩, by simp only [intOf]; omega⟩
      · have HA : Hid (A = R) := Lib.hid (by rw [hA.out, upW_big _ _ _ (by omega)])
        clear hA
        go_wp2
        go_ret
        exact ⟨ret_i64 HA.out, rfl⟩
    · obtain rfl : m = 0 := by omega
      have HA : Hid (A = R) := Lib.hid (by rw [hA.out]; rfl)
      clear hA
      go_wp2
      go_ret
      exact ⟨ret_i64 HA.out, rfl⟩
end Go.Proofs.Ytafaecpmffmfgaa
