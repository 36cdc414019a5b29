/- ValidSet: the walks of the program and of the reference. No condition. -/
import Derived.Test.YtloacmfafccofaaInts
import Derived.Test.YtloacmfafccofaaApp
namespace Go.Proofs.Ytloacmfafccofaa
open Go.RowKit

/-- The numbers rise from above last, and are less than n. -/
def upB : Int → Int → List Int → Bool
  | _, _, [] => true
  | last, n, x :: r => decide (last < x) && decide (x < n) && upB x n r
def validB (xs : List Int) (n : Int) : Bool := inB n 0 32 && upB (-1) n xs
theorem drop_get {xs : List Int} {k : Nat} (h : k < xs.length) : xs.drop k = xs[k] :: xs.drop (k + 1) := List.drop_eq_getElem_cons h
theorem upB_len : ∀ (xs : List Int) (last n : Int), upB last n xs = true → last < n → (xs.length : Int) ≤ n - 1 - last
  | [], last, n, _, h => by simp; omega
  | x :: r, last, n, h, h2 => by
    simp only [upB, Bool.and_eq_true, decide_eq_true_eq] at h
    have := upB_len r x n h.2 h.1.2
    rw [List.length_cons]; omega
theorem s_in' (n lo hi : Int) (w : World) :
    Calls Try.prog 58 #[.int .i64 n, .int .i64 lo, .int .i64 hi] w fun e w' => e = .returned (.bool (inB n lo hi)) ∧ w' = w :=
  (s_in n lo hi w).mono fun _ _ ⟨h1, h2⟩ => ⟨h1, h2.symm⟩

set_option maxHeartbeats 400000 in
theorem i_ValidSet (v : Value) (xs : List Int) (n : Int) (w : World) (h : Rd w v xs) :
    Calls Try.prog 56 #[v, .int .i64 n] w fun e w' => e = .returned (.bool (validB xs n)) ∧ w = w' := by
  obtain ⟨a, cap, rfl, hc, hm, hr⟩ := h
  have HR := Lib.hid hr
  clear hr
  obtain ⟨N, HN⟩ : ∃ N, Hid (N = xs.length) := ⟨_, Lib.hid rfl⟩
  rw [← HN.out] at hc ⊢
  go_enter Try.func56, Try.ntmps56
  go_wp2
  go_loop [5, 10] (fun l i => ∃ (k : Nat) (q : Int), k ≤ N ∧ i = .int .i64 k ∧ l = .int .i64 q ∧ Hid (upB (-1) n xs = upB q n (xs.drop k))) (fun _ i => N - (intOf i).toNat)
  case atStart => exact ⟨0, -1, by omega, rfl, rfl, Lib.hid rfl⟩
  case round =>
    obtain ⟨k, q, hk, rfl, rfl, hm2⟩ := hrel
    by_cases hlt : k < N
    · have hlt' : k < xs.length := by rw [← HN.out]; exact hlt
      obtain ⟨b, o, rfl, _, hall⟩ := HR.out (by omega)
      have hx := hall k hlt'
      have HD : Hid (xs.drop k = xs[k] :: xs.drop (k + 1)) := Lib.hid (drop_get hlt')
      generalize xs[k] = x at *
      clear hall hlt'
      by_cases h1 : q < x
      · by_cases h2 : x < n
        · have G : Hid (upB (-1) n xs = upB x n (xs.drop (k + 1))) := Lib.hid (by rw [hm2.out, HD.out, upB]; simp [h1, h2])
          clear hm2 HD
          go_wp2
          go_round
          case rel => exact ⟨k + 1, x, by omega, by go_num, rfl, G⟩
          case measure => simp only [intOf]; omega
        · have G : Hid (validB xs n = false) := Lib.hid (by rw [validB, hm2.out, HD.out, upB]; simp [h2])
          have h3 : n ≤ x := by omega
          clear hm2 HD
          go_wp2
          go_ret
          exact ⟨ret_bool G.out.symm, rfl⟩
      · have G : Hid (validB xs n = false) := Lib.hid (by rw [validB, hm2.out, HD.out, upB]; simp [h1])
        have h3 : x ≤ q := by omega
        clear hm2 HD
        go_wp2
        go_ret
        exact ⟨ret_bool G.out.symm, rfl⟩
    · have G : Hid (validB xs n = inB n 0 32) := Lib.hid (by rw [validB, hm2.out, List.drop_of_length_le (by have := HN.out; omega), upB, Bool.and_true])
      clear hm2
      go_wp2_with (go_at_call 63; refine (i_in _ _ _ _).mono ?_; rintro e w' ⟨rfl, rfl⟩)
      go_ret
      exact ⟨ret_bool G.out.symm, rfl⟩
set_option maxHeartbeats 400000 in
theorem s_l00Rises (v : Value) (xs : List Int) (lo hi : Int) (w : World) (h : Rd w v xs) :
    Calls Try.prog 77 #[v, .int .i64 lo, .int .i64 hi] w fun e w' => e = .returned (.bool (upB (lo - 1) (hi + 1) xs)) ∧ Drawn w w' := by
  obtain ⟨a, cap, rfl, hc, hm, hr⟩ := h
  have HR := Lib.hid hr
  clear hr
  obtain ⟨N, HN⟩ : ∃ N, Hid (N = xs.length) := ⟨_, Lib.hid rfl⟩
  rw [← HN.out] at hc ⊢
  go_enter Try.func77, Try.ntmps77
  go_wp2
  go_loopw [7] (fun i wr => ∃ (k : Nat) (q : Int), k ≤ N ∧ i = .int .i64 k ∧ Hid (lo - 1 ≤ q) ∧ Hid (0 < k → ∃ h : k - 1 < xs.length, xs[k - 1] = q) ∧ Hid (k = 0 → q = lo - 1) ∧ Hid (upB (lo - 1) (hi + 1) xs = upB q (hi + 1) (xs.drop k)) ∧ Hid (Drawn w wr)) (fun i _ => N - (intOf i).toNat)
  case atStart => exact ⟨0, lo - 1, by omega, rfl, Lib.hid (by omega), Lib.hid (by omega), Lib.hid (fun _ => rfl), Lib.hid rfl, Lib.hid (Drawn.refl _)⟩
  case round =>
    obtain ⟨k, q, hk, rfl, hq, hp, hz, hm2, hd⟩ := hrel
    by_cases hlt : k < N
    · have hlt' : k < xs.length := by rw [← HN.out]; exact hlt
      obtain ⟨b, o, rfl, hb, hall⟩ := HR.out (by omega)
      have hx := (hd.out.ext.cell (p := ⟨b, o + k, none⟩) hb).trans (hall k hlt')
      have HD : Hid (xs.drop k = xs[k] :: xs.drop (k + 1)) := Lib.hid (drop_get hlt')
      have hprev : 0 < k → wr.cell? ⟨b, o + (k - 1), none⟩ = some (.int .i64 q) := by
        intro h0
        obtain ⟨h1, h2⟩ := hp.out h0
        rw [hd.out.ext.cell (p := ⟨b, o + (k - 1), none⟩) hb, hall _ h1, h2]
      obtain ⟨x, HXK⟩ : ∃ x, Hid (x = xs[k]) := ⟨_, Lib.hid rfl⟩
      rw [← HXK.out] at hx HD
      have HX : Hid (∃ h : k < xs.length, xs[k] = x) := Lib.hid ⟨hlt', HXK.out.symm⟩
      clear hall HXK
      clear hlt'
      cases hin : inB x lo hi
      · have G : Hid (upB (lo - 1) (hi + 1) xs = false) := Lib.hid (by
          have h9 : ¬ (lo ≤ x ∧ x ≤ hi) := fun h => by rw [inB_t h] at hin; cases hin
          have := hq.out
          rw [hm2.out, HD.out, upB]
          by_cases h8 : q < x
          · have h7 : ¬ x < hi + 1 := by omega
            simp [h7]
          · simp [h8])
        clear hprev
        go_wp2
        go_quiet ((go_at_call 58; exact Calls.quiet_of_same (s_in' _ _ _ _)))
        go_wp2
        go_ret
        exact ⟨ret_bool G.out.symm, hd.out.drewN _⟩
      · obtain ⟨i1, i2⟩ := inB_iff.1 hin
        by_cases h0 : k = 0
        · have G : Hid (upB (lo - 1) (hi + 1) xs = upB x (hi + 1) (xs.drop (k + 1))) := Lib.hid (by
            have := hz.out h0
            rw [hm2.out, HD.out, upB]
            have h8 : q < x := by omega
            have h7 : x < hi + 1 := by omega
            simp [h8, h7])
          clear hprev
          subst h0
          rw [Nat.add_zero] at hx
          go_wp2
          go_quiet ((go_at_call 58; exact Calls.quiet_of_same (s_in' _ _ _ _)))
          go_wp2
          exact ⟨⟨0 + 1, x, by omega, by go_num, Lib.hid (by omega), Lib.hid (fun _ => HX.out), Lib.hid (by omega), G, Lib.hid (hd.out.drewN _)⟩, by simp only [intOf]; omega⟩
        · have hpr := hprev (by omega)
          have hg : decide (0 < k) = true := by simp; omega
          have hk1 : (1 : Int) ≤ (k : Int) := by omega
          clear hprev
          by_cases h8 : q < x
          · have G : Hid (upB (lo - 1) (hi + 1) xs = upB x (hi + 1) (xs.drop (k + 1))) := Lib.hid (by
              rw [hm2.out, HD.out, upB]
              have h7 : x < hi + 1 := by omega
              simp [h8, h7])
            have h8' : decide (x ≤ q) = false := by simp; omega
            go_wp2
            go_quiet ((go_at_call 58; exact Calls.quiet_of_same (s_in' _ _ _ _)))
            go_wp2
            exact ⟨⟨k + 1, x, by omega, by go_num, Lib.hid (by omega), Lib.hid (fun _ => HX.out), Lib.hid (by omega), G, Lib.hid (hd.out.drewN _)⟩, by simp only [intOf]; omega⟩
          · have G : Hid (upB (lo - 1) (hi + 1) xs = false) := Lib.hid (by
              rw [hm2.out, HD.out, upB]
              simp [h8])
            have h8' : decide (x ≤ q) = true := by simp; omega
            clear h8
            go_wp2
            go_quiet ((go_at_call 58; exact Calls.quiet_of_same (s_in' _ _ _ _)))
            go_wp2
            go_ret
            exact ⟨ret_bool G.out.symm, hd.out.drewN _⟩
    · have G : Hid (upB (lo - 1) (hi + 1) xs = true) := Lib.hid (by rw [hm2.out, List.drop_of_length_le (by have := HN.out; omega), upB])
      go_wp2
      go_ret
      exact ⟨ret_bool G.out.symm, hd.out⟩
theorem s_ValidSet (v : Value) (xs : List Int) (n : Int) (w : World) (h : Rd w v xs) :
    Calls Try.prog 54 #[v, .int .i64 n] w fun e w' => e = .returned (.bool (validB xs n)) ∧ Drawn w w' := by
  have HR := Lib.hid h
  clear h
  cases hb : inB n 0 32
  · have G : Hid (validB xs n = false) := Lib.hid (by simp [validB, hb])
    go_enter Try.func54, Try.ntmps54
    go_wp2_with (go_at_call 58; refine (s_in _ _ _ _).mono ?_; rintro e w' ⟨rfl, rfl⟩)
    go_ret
    exact ⟨ret_bool G.out.symm, Drawn.refl _⟩
  · have G : Hid (validB xs n = upB (-1) n xs) := Lib.hid (by rw [validB, hb, Bool.true_and])
    obtain ⟨h1, h2⟩ := inB_iff.1 hb
    go_enter Try.func54, Try.ntmps54
    go_wp2_with fail
    refine (s_in _ _ _ _).mono ?_
    rintro e w' ⟨rfl, rfl⟩
    go_wp2_with fail
    refine (s_l00Rises _ xs _ _ _ HR.out).mono ?_
    rintro e w1 ⟨rfl, hd⟩
    go_wp2
    go_ret
    exact ⟨ret_bool G.out.symm, hd⟩
end Go.Proofs.Ytloacmfafccofaa
