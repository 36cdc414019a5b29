/- What a permutation is, as the reference tests it. No condition. -/
import Derived.Test.YtloacmfafccofaaSets
import Derived.Test.YtloacmfafccofaaSize
namespace Go.Proofs.Ytloacmfafccofaa
open Go.RowKit

def okP (n : Int) : List Int → List Int → Bool
  | _, [] => true
  | seen, x :: r => inB x 0 (n - 1) && !hasB seen x && okP n (seen ++ [x]) r
def validP (xs : List Int) : Bool := decide (xs.length ≤ 32) && okP xs.length [] xs
theorem Rd.take {w : World} {a : Option Addr} {n cap : Nat} {xs : List Int} (h : Rd w (.slice a n cap) xs) (k : Nat) (hk : k ≤ xs.length) : Rd w (.slice a k cap) (xs.take k) := by
  obtain ⟨a', cap', he, hc, hm, hr⟩ := h
  cases he
  have hl : (xs.take k).length = k := by rw [List.length_take]; omega
  refine ⟨_, cap, by rw [hl], by omega, hm, fun h => ?_⟩
  obtain ⟨b, o, h1, h2, h3⟩ := hr (by omega)
  refine ⟨b, o, h1, h2, fun i hi => ?_⟩
  rw [h3 i (by omega), List.getElem_take]
def okMid (n : Int) (xs : List Int) (k : Nat) : Prop := okP n [] xs = okP n (xs.take k) (xs.drop k)
theorem okMid_next {n : Int} {xs : List Int} {k : Nat} (h : okMid n xs k) (hk : k < xs.length) (h1 : inB xs[k] 0 (n - 1) = true) (h2 : hasB (xs.take k) xs[k] = false) : okMid n xs (k + 1) := by
  unfold okMid at *
  rw [h, List.drop_eq_getElem_cons hk, okP, h1, h2, List.take_succ_eq_append_getElem hk]
  rfl
theorem okMid_out {n : Int} {xs : List Int} {k : Nat} (h : okMid n xs k) (hk : k < xs.length) (h1 : inB xs[k] 0 (n - 1) = false) : okP n [] xs = false := by
  rw [h, List.drop_eq_getElem_cons hk, okP, h1]; rfl
theorem okMid_twice {n : Int} {xs : List Int} {k : Nat} (h : okMid n xs k) (hk : k < xs.length) (h2 : hasB (xs.take k) xs[k] = true) : okP n [] xs = false := by
  rw [h, List.drop_eq_getElem_cons hk, okP, h2]; simp
theorem okMid_end {n : Int} {xs : List Int} (h : okMid n xs xs.length) : okP n [] xs = true := by
  rw [h, List.drop_length]; rfl
theorem s_l00Has' (v : Value) (xs : List Int) (x : Int) (w : World) (h : Rd w v xs) : Calls Try.prog 72 #[v, .int .i64 x] w fun e w' => e = .returned (.bool (hasB xs x)) ∧ w' = w :=
  (s_l00Has v xs x w h).mono fun _ _ ⟨h1, h2⟩ => ⟨h1, h2.symm⟩
set_option maxHeartbeats 400000 in
theorem s_l04Ok (v : Value) (xs : List Int) (w : World) (h : Rd w v xs) : Calls Try.prog 45 #[v] w fun e w' => e = .returned (.bool (validP xs)) ∧ Drawn w w' := by
  have HRD := Lib.hid h
  obtain ⟨a, cap, rfl, hc, hm, hr⟩ := h
  obtain ⟨N, HN⟩ : ∃ N, Hid (N = xs.length) := ⟨_, Lib.hid rfl⟩
  have HC : Hid (0 < N → ∃ b o, a = some ⟨b, o, none⟩ ∧ b < w.heap.size ∧ ∀ i (h : i < xs.length), w.cell? ⟨b, o + i, none⟩ = some (.int .i64 xs[i])) := Lib.hid (fun hk => hr (by rw [← HN.out]; exact hk))
  clear hr
  rw [← HN.out] at hc HRD ⊢
  by_cases h32 : N ≤ 32
  · have G : Hid (validP xs = okP N [] xs) := Lib.hid (by rw [validP, ← HN.out]; simp [h32])
    go_enter Try.func45, Try.ntmps45
    go_wp2
    go_loopw [3] (fun i wr => ∃ k : Nat, k ≤ N ∧ i = .int .i64 k ∧ Hid (okMid N xs k) ∧ Hid (Drawn w wr)) (fun i _ => N - (intOf i).toNat)
    case atStart => exact ⟨0, by omega, rfl, Lib.hid (by simp [okMid]), Lib.hid (Drawn.refl _)⟩
    case round =>
      obtain ⟨k, hk, rfl, hmid, hd⟩ := hrel
      by_cases hlt : k < N
      · have hlt' : k < xs.length := by rw [← HN.out]; exact hlt
        obtain ⟨b, o, rfl, hb, hall⟩ := HC.out (by omega)
        have hx := (hd.out.ext.cell (p := ⟨b, o + k, none⟩) hb).trans (hall k hlt')
        have HT := Lib.hid ((HRD.out.drawn hd.out).take k (by omega))
        obtain ⟨z, HZ⟩ : ∃ z, Hid (z = xs[k]) := ⟨_, Lib.hid rfl⟩
        rw [← HZ.out] at hx
        clear hall
        cases h1 : inB z 0 ((N : Int) - 1)
        · have G2 : Hid (validP xs = false) := Lib.hid (by rw [G.out]; exact okMid_out hmid.out hlt' (by rw [← HZ.out]; exact h1))
          clear hmid
          go_wp2
          go_quiet ((first | (go_at_call 58; exact Calls.quiet_of_same (s_in' _ _ _ _)) | (go_at_call 72; exact Calls.quiet_of_same (s_l00Has' _ (xs.take k) _ _ HT.out))))
          go_wp2
          go_ret
          exact ⟨ret_bool G2.out.symm, hd.out.drewN _⟩
        · cases h2 : hasB (xs.take k) z
          · have G2 := Lib.hid (okMid_next hmid.out hlt' (by rw [← HZ.out]; exact h1) (by rw [← HZ.out]; exact h2))
            clear hmid
            go_wp2
            go_quiet ((first | (go_at_call 58; exact Calls.quiet_of_same (s_in' _ _ _ _)) | (go_at_call 72; exact Calls.quiet_of_same (s_l00Has' _ (xs.take k) _ _ HT.out))))
            go_wp2
            exact ⟨⟨k + 1, by omega, by go_num, G2, Lib.hid (hd.out.drewN _)⟩, by simp only [intOf]; omega⟩
          · have G2 : Hid (validP xs = false) := Lib.hid (by rw [G.out]; exact okMid_twice hmid.out hlt' (by rw [← HZ.out]; exact h2))
            clear hmid
            go_wp2
            go_quiet ((first | (go_at_call 58; exact Calls.quiet_of_same (s_in' _ _ _ _)) | (go_at_call 72; exact Calls.quiet_of_same (s_l00Has' _ (xs.take k) _ _ HT.out))))
            go_wp2
            go_ret
            exact ⟨ret_bool G2.out.symm, hd.out.drewN _⟩
      · have G2 : Hid (validP xs = true) := Lib.hid (by rw [G.out]; exact okMid_end (by have := hmid.out; rw [show k = xs.length from by rw [← HN.out]; omega] at this; exact this))
        clear hmid
        go_wp2
        go_ret
        exact ⟨ret_bool G2.out.symm, hd.out⟩
  · have G : Hid (validP xs = false) := Lib.hid (by rw [validP, ← HN.out]; simp [h32])
    go_enter Try.func45, Try.ntmps45
    go_wp2
    go_ret
    exact ⟨ret_bool G.out.symm, Drawn.refl _⟩
end Go.Proofs.Ytloacmfafccofaa
