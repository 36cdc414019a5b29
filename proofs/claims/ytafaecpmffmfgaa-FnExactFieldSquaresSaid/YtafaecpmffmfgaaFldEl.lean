/- The size of a field; whether numbers are its elements: the walks of the program and of the reference. No condition. -/
import Derived.Test.YtafaecpmffmfgaaFldVal
namespace Go.Proofs.Ytafaecpmffmfgaa
open Go.RowKit

/-- A valid field, and numbers that are its elements. -/
def elB (P D : Int) (xs es : List Int) : Bool := fieldB P D xs && es.all (fun a => inB a 0 (P ^ D.toNat - 1))
theorem fieldB_ok {P D : Int} {xs : List Int} (h : fieldB P D xs = true) : okPD P D = true ∧ (xs.length : Int) = D + 1 ∧ xs.getD D.toNat 0 = 1 ∧ xs.all (fun c => inB c 0 (P - 1)) = true ∧ irrB P xs = true := by
  simp only [fieldB, Bool.and_eq_true, decide_eq_true_eq, beq_iff_eq] at h
  exact ⟨h.1, h.2.1, h.2.2.1, h.2.2.2.1, h.2.2.2.2⟩
theorem fieldB_q {P D : Int} {xs : List Int} (h : fieldB P D xs = true) : 2 ≤ P ∧ P ≤ 64 ∧ 1 ≤ D ∧ D ≤ 6 ∧ P ^ D.toNat ≤ 64 ∧ 2 ≤ P ^ D.toNat ∧ upW P D.toNat 1 = P ^ D.toNat := by
  obtain ⟨h1, _⟩ := fieldB_ok h
  obtain ⟨a1, a2, a3, a4, _⟩ := okPD_bd h1
  have hp := (okPD_pow h1).1
  have h2 := pow_mono' a1 (show 1 ≤ D.toNat by omega)
  rw [Int.pow_succ, Int.pow_zero, Int.one_mul] at h2
  have hu := (upW_pow a1 D.toNat 1 (by omega)).1 (by rw [Int.one_mul]; exact hp)
  rw [Int.one_mul] at hu
  exact ⟨a1, a2, a3, a4, hp, by omega, hu⟩
/-- The size of a valid field, or -1. -/
def fsize (P D : Int) (xs : List Int) : Int := if fieldB P D xs then P ^ D.toNat else -1
theorem i_fieldSize (P D : Int) (v : Value) (w : World) (hp : 2 ≤ P) (hp2 : P ≤ 1000000) (hD : 0 ≤ D) (hD2 : D ≤ 9223372036854775807) :
    Calls Try.prog 63 #[.agg #[.int .i64 P, .int .i64 D, v]] w fun e w' => e = .returned (.int .i64 (upW P D.toNat 1)) ∧ Ext w w' := by
  have HE0 := Lib.hid (ext_alloc w (.cells #[.int .i64 P, .int .i64 D, v] 27))
  go_enter Try.func63, Try.ntmps63
  go_wp2_with fail
  refine (i_powerUpTo _ _ _ hp hp2 hD hD2).mono ?_
  rintro e _ ⟨rfl, rfl⟩
  go_wp2
  go_ret
  exact ⟨rfl, HE0.out⟩
theorem s_size3 (b : Nat) (P : Int) (d : Nat) (v : Value) (w : World) (hf : FldAt w b P d v) (hp : 2 ≤ P) (hp2 : P ≤ 64) (hd : d ≤ 6) :
    Calls Try.prog 62 #[.pointer (some ⟨b, 0, none⟩)] w fun e w' => e = .returned (.int .i64 (P ^ d)) ∧ Drawn w w' := by
  obtain ⟨_, c0, c1, c2⟩ := hf
  go_enter Try.func62, Try.ntmps62
  go_wp2
  go_quiet ((go_at_call 81; exact Calls.quiet_of_same (s_power' _ d _ hp hp2 hd)))
  go_wp2
  go_ret
  exact ⟨rfl, (Drawn.refl _).drewN _⟩
theorem i_outside (z Q : Int) (c : Nat) (w : World) (hc : w.cell? ⟨c, 0, none⟩ = some (.int .i64 Q)) (hQ : 2 ≤ Q) (hQ2 : Q ≤ 64) : Calls Try.prog 89 #[.int .i64 z, .pointer (some ⟨c, 0, none⟩)] w fun e w' => e = .returned (.bool (!inB z 0 (Q - 1))) ∧ w = w' := by
  go_enter Try.func89, Try.ntmps89
  go_wp2_with fail
  refine (i_in _ _ _ _).mono ?_
  rintro e _ ⟨rfl, rfl⟩
  go_wp2
  go_ret
  exact ⟨rfl, rfl⟩
theorem i_IndexE (v : Value) (xs : List Int) (c : Nat) (Q : Int) (w : World) (h : Rd w v xs) (hc : w.cell? ⟨c, 0, none⟩ = some (.int .i64 Q)) (hQ : 2 ≤ Q) (hQ2 : Q ≤ 64) : Calls Try.prog 97 #[v, .func (.func 89) #[] #[.pointer (some ⟨c, 0, none⟩)]] w (IdxPost (fun a => !inB a 0 (Q - 1)) xs w) := by
  obtain ⟨a, cap, rfl, hcc, hm, hr⟩ := h
  obtain ⟨N, HN⟩ : ∃ N, Hid (N = xs.length) := ⟨_, Lib.hid rfl⟩
  have HC : Hid (0 < N → ∃ b o, a = some ⟨b, o, none⟩ ∧ b < w.heap.size ∧ ∀ i (h : i < xs.length), w.cell? ⟨b, o + i, none⟩ = some (.int .i64 xs[i])) := Lib.hid (fun hk => hr (by rw [← HN.out]; exact hk))
  clear hr
  rw [← HN.out] at hcc ⊢
  go_enter Try.func97, Try.ntmps97
  go_wp2
  go_loop [8] (fun i => ∃ k : Nat, k ≤ N ∧ i = .int .i64 k ∧ Hid (noneTo (fun a => !inB a 0 (Q - 1)) xs k)) (fun i => N - (intOf i).toNat)
  case atStart => exact ⟨0, by omega, rfl, Lib.hid (fun i hi h => by omega)⟩
  case round =>
    obtain ⟨k, hk, rfl, hmid⟩ := hrel
    by_cases hlt : k < N
    · have hlt' : k < xs.length := by rw [← HN.out]; exact hlt
      obtain ⟨b, o, rfl, hb, hall⟩ := HC.out (by omega)
      have hx := hall k hlt'
      obtain ⟨z, HZ⟩ : ∃ z, Hid (z = xs[k]) := ⟨_, Lib.hid rfl⟩
      rw [← HZ.out] at hx
      clear hall
      go_wp2_with fail
      refine (i_outside z Q c _ hc hQ hQ2).mono ?_
      rintro e _ ⟨rfl, rfl⟩
      cases hz : inB z 0 (Q - 1)
      · have HM : Hid (xs.any (fun a => !inB a 0 (Q - 1)) = true) := Lib.hid (any_hit hlt' (by rw [← HZ.out, hz]; rfl))
        clear hmid
        go_wp2
        go_ret
        exact ⟨_, rfl, by rw [HM.out, decide_eq_true_eq]; omega, rfl⟩
      · have HM := Lib.hid (noneTo_next hmid.out hlt' (by rw [← HZ.out, hz]; rfl))
        clear hmid
        go_wp2
        exact ⟨⟨k + 1, by omega, by go_num, HM⟩, by simp only [intOf]; omega⟩
    · obtain rfl : k = N := by omega
      have HM : Hid (xs.any (fun a => !inB a 0 (Q - 1)) = false) := Lib.hid (noneTo_end (by have := hmid.out; rw [HN.out] at this; exact this))
      clear hmid
      go_wp2
      go_ret
      exact ⟨_, rfl, by rw [HM.out]; rfl, rfl⟩
theorem i_ContainsE (v : Value) (xs : List Int) (c : Nat) (Q : Int) (w : World) (h : Rd w v xs) (hc : w.cell? ⟨c, 0, none⟩ = some (.int .i64 Q)) (hQ : 2 ≤ Q) (hQ2 : Q ≤ 64) : Calls Try.prog 88 #[v, .func (.func 89) #[] #[.pointer (some ⟨c, 0, none⟩)]] w fun e w' => e = .returned (.bool (xs.any (fun a => !inB a 0 (Q - 1)))) ∧ w = w' := by
  go_enter Try.func88, Try.ntmps88
  go_wp2_with fail
  refine (i_IndexE _ xs c Q _ h hc hQ hQ2).mono ?_
  rintro e w1 ⟨k, rfl, hk, rfl⟩
  go_wp2
  go_ret
  exact ⟨rfl, rfl⟩
theorem i_are (P D : Int) (v lv : Value) (xs es : List Int) (w : World) (h : Rd w v xs) (hl : Rd w lv es) (hn : xs.length ≤ 100000000) (hD63 : D ≤ 9223372036854775807) :
    Calls Try.prog 66 #[.agg #[.int .i64 P, .int .i64 D, v], lv] w fun e w' => e = .returned (.bool (elB P D xs es)) ∧ Ext w w' := by
  have HRD := Lib.hid h
  have HRL := Lib.hid hl
  have HF := Lib.hid (FldAt.new w P D v 27)
  have HE0 := Lib.hid (ext_alloc w (.cells #[.int .i64 P, .int .i64 D, v] 27))
  clear h hl
  cases hb : fieldB P D xs
  · have G : Hid (elB P D xs es = false) := Lib.hid (by rw [elB, hb]; rfl)
    go_enter Try.func66, Try.ntmps66
    go_wp2_with fail
    refine (i_ValidField P D _ xs _ (HRD.out.ext HE0.out) hn hD63).mono ?_
    rintro e w1 ⟨rfl, x1⟩
    rw [hb]
    go_wp2
    go_ret
    exact ⟨ret_bool G.out.symm, HE0.out.trans x1⟩
  · have HB := Lib.hid hb
    obtain ⟨a1, a2, a3, a4, a5, a6, a7⟩ := fieldB_q hb
    obtain ⟨Q, HQ⟩ : ∃ Q, Hid (Q = P ^ D.toNat) := ⟨_, Lib.hid rfl⟩
    rw [← HQ.out] at a5 a6 a7
    have G : Hid (elB P D xs es = !(es.any (fun a => !inB a 0 (Q - 1)))) := Lib.hid (by
      rw [elB, hb, Bool.true_and, List.all_eq_not_any_not, HQ.out])
    have HU := Lib.hid a7
    clear hb a7
    go_enter Try.func66, Try.ntmps66
    go_wp2_with fail
    refine (i_ValidField P D _ xs _ (HRD.out.ext HE0.out) hn hD63).mono ?_
    rintro e w1 ⟨rfl, x1⟩
    rw [HB.out]
    have HE1 := Lib.hid (HE0.out.trans x1)
    obtain ⟨_, c0, c1, c2⟩ := HF.out.ext x1
    clear x1
    go_wp2_with fail
    refine (i_fieldSize P D _ _ a1 (by omega) (by omega) hD63).mono ?_
    rintro e w2 ⟨rfl, x2⟩
    rw [HU.out]
    have HE2 := Lib.hid (HE1.out.trans x2)
    have HE3 := Lib.hid (HE2.out.trans (ext_alloc w2 (.cells #[.int .i64 Q] 2)))
    clear x2 c0 c1 c2
    go_wp2_with fail
    refine (i_ContainsE _ es _ Q _ (HRL.out.ext ?hx) ?hc a6 a5).mono ?_
    case hx => exact HE3.out
    case hc => go_simp
    rintro e _ ⟨rfl, rfl⟩
    go_wp2
    go_ret
    exact ⟨ret_bool G.out.symm, HE3.out⟩
theorem s_has (b : Nat) (P D : Int) (v : Value) (xs : List Int) (x y : Int) (w : World) (hf : FldAt w b P D v) (h : Rd w v xs) (hsn : Sane v) :
    Calls Try.prog 64 #[.pointer (some ⟨b, 0, none⟩), .int .i64 x, .int .i64 y] w fun e w' => e = .returned (.bool (elB P D xs [x, y])) ∧ Ext w w' := by
  have HF := Lib.hid hf
  have HRD := Lib.hid h
  clear hf h
  cases hb : fieldB P D xs
  · have G : Hid (elB P D xs [x, y] = false) := Lib.hid (by rw [elB, hb]; rfl)
    go_enter Try.func64, Try.ntmps64
    go_wp2_with fail
    refine (s_ok b P D v xs _ HF.out HRD.out hsn).mono ?_
    rintro e w1 ⟨rfl, x1⟩
    rw [hb]
    go_wp2
    go_ret
    exact ⟨ret_bool G.out.symm, x1⟩
  · have HB := Lib.hid hb
    obtain ⟨a1, a2, a3, a4, a5, a6, _⟩ := fieldB_q hb
    obtain ⟨d, rfl⟩ : ∃ d : Nat, D = (d : Int) := ⟨D.toNat, by omega⟩
    rw [Int.toNat_natCast] at a5 a6
    obtain ⟨Q, HQ⟩ : ∃ Q, Hid (Q = P ^ d) := ⟨_, Lib.hid rfl⟩
    rw [← HQ.out] at a5 a6
    have G : Hid (elB P (d : Int) xs [x, y] = (inB x 0 (Q - 1) && inB y 0 (Q - 1))) := Lib.hid (by
      rw [elB, hb, Bool.true_and, Int.toNat_natCast, ← HQ.out]; simp)
    clear hb
    go_enter Try.func64, Try.ntmps64
    go_wp2_with fail
    refine (s_ok b P d v xs _ HF.out HRD.out hsn).mono ?_
    rintro e w1 ⟨rfl, x1⟩
    rw [HB.out]
    have HE1 := Lib.hid x1
    clear x1
    go_wp2_with fail
    refine (s_size3 b P d v _ (HF.out.ext HE1.out) a1 a2 (by omega)).mono ?_
    rintro e w2 ⟨rfl, x2⟩
    rw [← HQ.out]
    have HE2 := Lib.hid (HE1.out.drawn x2)
    clear x2
    go_wp2_with fail
    refine (s_in _ _ _ _).mono ?_
    rintro e _ ⟨rfl, rfl⟩
    cases hx : inB x 0 (Q - 1)
    · have G2 : Hid (elB P (d : Int) xs [x, y] = false) := Lib.hid (by rw [G.out, hx]; rfl)
      go_wp2
      go_ret
      exact ⟨ret_bool G2.out.symm, HE2.out⟩
    · have G2 : Hid (elB P (d : Int) xs [x, y] = inB y 0 (Q - 1)) := Lib.hid (by rw [G.out, hx]; rfl)
      go_wp2_with fail
      refine (s_size3 b P d v _ (HF.out.ext HE2.out) a1 a2 (by omega)).mono ?_
      rintro e w3 ⟨rfl, x3⟩
      rw [← HQ.out]
      have HE3 := Lib.hid (HE2.out.drawn x3)
      clear x3
      go_wp2_with fail
      refine (s_in _ _ _ _).mono ?_
      rintro e _ ⟨rfl, rfl⟩
      go_wp2
      go_ret
      exact ⟨ret_bool G2.out.symm, HE3.out⟩
end Go.Proofs.Ytafaecpmffmfgaa
