/- Valid fields: the walks of the program and of the reference. No condition. -/
import Derived.Test.YtafaecpmffmfgaaFldIrr
import Derived.Test.YtafaecpmffmfgaaFldCert
import Derived.Test.YtafaecpmffmfgaaFactors
namespace Go.Proofs.Ytafaecpmffmfgaa
open Go.RowKit

/-- Field's three cells, in block b. -/
def FldAt (w : World) (b : Nat) (P D : Int) (v : Value) : Prop := b < w.heap.size ∧ w.cell? ⟨b, 0, none⟩ = some (.int .i64 P) ∧ w.cell? ⟨b, 1, none⟩ = some (.int .i64 D) ∧ w.cell? ⟨b, 2, none⟩ = some v
theorem FldAt.ext {w w' : World} {b : Nat} {P D : Int} {v : Value} (h : FldAt w b P D v) (he : Ext w w') : FldAt w' b P D v := by
  obtain ⟨h0, h1, h2, h3⟩ := h
  exact ⟨Nat.lt_of_lt_of_le h0 he.size, by rw [he.cell (p := ⟨b, 0, none⟩) h0]; exact h1, by rw [he.cell (p := ⟨b, 1, none⟩) h0]; exact h2, by rw [he.cell (p := ⟨b, 2, none⟩) h0]; exact h3⟩
theorem FldAt.new (w : World) (P D : Int) (v : Value) (t : TypeId) : FldAt (w.alloc (.cells #[.int .i64 P, .int .i64 D, v] t)) w.heap.size P D v := by
  refine ⟨by simp, ?_, ?_, ?_⟩ <;> · simp only [World.cell?, heap_alloc_new]; rfl
def fieldB (P D : Int) (xs : List Int) : Bool := okPD P D && (decide ((xs.length : Int) = D + 1) && ((xs.getD D.toNat 0 == 1) && (xs.all (fun c => inB c 0 (P - 1)) && irrB P xs)))
theorem okPD_pr_all : (List.range 63).all (fun n => (List.range 6).all fun d => okPD ((n : Int) + 2) ((d : Int) + 1) == (isPr ((n : Int) + 2) && decide (((n : Int) + 2) ^ (d + 1) ≤ 64))) = true := by decide +kernel
theorem okPD_pr {P : Int} {d : Nat} (h1 : 2 ≤ P) (h2 : P ≤ 64) (hd1 : 1 ≤ d) (hd : d ≤ 6) : okPD P (d : Int) = (isPr P && decide (P ^ d ≤ 64)) := by
  have h := (List.all_eq_true.1 ((List.all_eq_true.1 okPD_pr_all) (P - 2).toNat (by rw [List.mem_range]; omega))) (d - 1) (by rw [List.mem_range]; omega)
  rw [show (((P - 2).toNat : Nat) : Int) + 2 = P from by omega, show (((d - 1 : Nat) : Nat) : Int) + 1 = (d : Int) from by omega, show d - 1 + 1 = d from by omega] at h
  exact eq_of_beq h
theorem isPr_bd {n : Int} (h : isPr n = true) : 2 ≤ n ∧ n ≤ 1000000 := by
  unfold isPr at h
  by_cases h1 : 2 ≤ n
  · by_cases h2 : n ≤ 1000000
    · exact ⟨h1, h2⟩
    · simp [h2] at h
  · simp [h1] at h
theorem pow_ge {p : Int} (hp : 2 ≤ p) (k : Nat) : (k : Int) + 1 ≤ p ^ k := by
  induction k with
  | zero => simp
  | succ k ih =>
    rw [Int.pow_succ]
    have : p ^ k * 2 ≤ p ^ k * p := Int.mul_le_mul_of_nonneg_left hp (by omega)
    omega
theorem pow_mono' {p : Int} (hp : 2 ≤ p) {j k : Nat} (h : j ≤ k) : p ^ j ≤ p ^ k := by
  have h3 : p ^ k = p ^ j * p ^ (k - j) := by rw [← Int.pow_add]; congr 1; omega
  have h1 := pow_pos' (p := p) (by omega) j
  have h2 := pow_pos' (p := p) (by omega) (k - j)
  have h4 : p ^ j * 1 ≤ p ^ j * p ^ (k - j) := Int.mul_le_mul_of_nonneg_left (by omega) (by omega)
  omega
/-- As the program tests it. -/
theorem okPD_iff {P D : Int} (h : isPr P = true) (hD : 1 ≤ D) : okPD P D = decide (upW P D.toNat 1 ≤ 64) := by
  obtain ⟨h1, h2⟩ := isPr_bd h
  obtain ⟨u1, u2⟩ := upW_pow h1 D.toNat 1 (by omega)
  rw [Int.one_mul] at u1 u2
  by_cases hq : P ^ D.toNat ≤ 64
  · have hP : P ≤ 64 := by
      have := pow_mono' h1 (show 1 ≤ D.toNat by omega)
      rw [Int.pow_succ, Int.pow_zero, Int.one_mul] at this
      omega
    have hD6 : D.toNat ≤ 6 := by
      by_cases h6 : D.toNat ≤ 6
      · exact h6
      · have h7 := pow_mono' h1 (show 7 ≤ D.toNat by omega)
        have h8 : (2 : Int) ^ 7 ≤ P ^ 7 := by
          have e : ∀ k : Nat, (2 : Int) ^ k ≤ P ^ k := by
            intro k
            induction k with
            | zero => simp
            | succ k ih =>
              rw [Int.pow_succ, Int.pow_succ]
              exact Int.mul_le_mul ih h1 (by omega) (by have := pow_pos' (p := P) (by omega) k; omega)
          exact e 7
        have : (2 : Int) ^ 7 = 128 := by rfl
        omega
    have := okPD_pr (d := D.toNat) h1 hP (by omega) hD6
    rw [show ((D.toNat : Nat) : Int) = D from by omega] at this
    rw [this, h, u1 hq]; simp
  · have : 64 < upW P D.toNat 1 := u2 (by omega)
    rw [show decide (upW P D.toNat 1 ≤ 64) = false from by simp; omega]
    cases ho : okPD P D
    · rfl
    · exfalso
      obtain ⟨a1, a2, a3, a4, a5⟩ := okPD_bd ho
      have := okPD_pr (d := D.toNat) a1 a2 (by omega) (by omega)
      rw [show ((D.toNat : Nat) : Int) = D from by omega, ho] at this
      have := this.symm
      simp only [Bool.and_eq_true, decide_eq_true_eq] at this
      exact hq this.2
theorem okPD_pow {P D : Int} (h : okPD P D = true) : P ^ D.toNat ≤ 64 ∧ isPr P = true := by
  obtain ⟨a1, a2, a3, a4, a5⟩ := okPD_bd h
  have := okPD_pr (d := D.toNat) a1 a2 (by omega) (by omega)
  rw [show ((D.toNat : Nat) : Int) = D from by omega, h] at this
  have := this.symm
  simp only [Bool.and_eq_true, decide_eq_true_eq] at this
  exact ⟨this.2, this.1⟩
theorem fieldB_f1 {P D : Int} {xs : List Int} (h : okPD P D = false) : fieldB P D xs = false := by simp [fieldB, h]
theorem fieldB_f2 {P D : Int} {xs : List Int} (h : ¬ (xs.length : Int) = D + 1) : fieldB P D xs = false := by simp [fieldB, h]
theorem fieldB_f3 {P D : Int} {xs : List Int} (h : ¬ xs.getD D.toNat 0 = 1) : fieldB P D xs = false := by simp only [fieldB]; rw [beq_eq_false_iff_ne.2 h]; simp
theorem fieldB_f4 {P D : Int} {xs : List Int} {k : Nat} (hk : k < xs.length) (h : inB xs[k] 0 (P - 1) = false) : fieldB P D xs = false := by
  have : xs.all (fun c => inB c 0 (P - 1)) = false := by
    rw [List.all_eq_false]
    exact ⟨_, List.getElem_mem hk, by rw [h]; simp⟩
  simp [fieldB, this]
theorem fieldB_t {P D : Int} {xs : List Int} (h1 : okPD P D = true) (h2 : (xs.length : Int) = D + 1) (h3 : xs.getD D.toNat 0 = 1) (h4 : xs.all (fun c => inB c 0 (P - 1)) = true) : fieldB P D xs = irrB P xs := by
  rw [fieldB, h1, h4, h3]; simp [h2]
theorem allIn_mod {P : Int} {xs : List Int} (h : xs.all (fun c => inB c 0 (P - 1)) = true) : InMod P xs := by
  intro x hx
  have := inB_iff.1 (List.all_eq_true.1 h x hx)
  omega
def allTo (P : Int) (xs : List Int) (k : Nat) : Prop := ∀ i (h : i < xs.length), i < k → inB xs[i] 0 (P - 1) = true
theorem allTo_next {P : Int} {xs : List Int} {k : Nat} (h : allTo P xs k) (hk : k < xs.length) (hp : inB xs[k] 0 (P - 1) = true) : allTo P xs (k + 1) := by
  intro i hi h1
  by_cases e : i = k
  · subst e; exact hp
  · exact h i hi (by omega)
theorem allTo_end {P : Int} {xs : List Int} (h : allTo P xs xs.length) : xs.all (fun c => inB c 0 (P - 1)) = true := by
  rw [List.all_eq_true]
  intro x hx
  obtain ⟨i, hi, rfl⟩ := List.mem_iff_getElem.1 hx
  exact h i hi hi
set_option maxHeartbeats 1000000 in
theorem i_ValidField (P D : Int) (v : Value) (xs : List Int) (w : World) (h : Rd w v xs) (hn : xs.length ≤ 100000000) (hD63 : D ≤ 9223372036854775807) :
    Calls Try.prog 19 #[.agg #[.int .i64 P, .int .i64 D, v]] w fun e w' => e = .returned (.bool (fieldB P D xs)) ∧ Ext w w' := by
  have HRD := Lib.hid h
  obtain ⟨a, cap, rfl, hc, hm, hr⟩ := h
  obtain ⟨N, HN⟩ : ∃ N, Hid (N = xs.length) := ⟨_, Lib.hid rfl⟩
  have HC : Hid (0 < N → ∃ b o, a = some ⟨b, o, none⟩ ∧ b < w.heap.size ∧ ∀ i (h : i < xs.length), w.cell? ⟨b, o + i, none⟩ = some (.int .i64 xs[i])) := Lib.hid (fun hk => hr (by rw [← HN.out]; exact hk))
  clear hr
  rw [← HN.out] at hc hn HRD ⊢
  have HF0 := Lib.hid (FldAt.new w P D (.slice a N cap) 27)
  have HE0 := Lib.hid (ext_alloc w (.cells #[.int .i64 P, .int .i64 D, .slice a N cap] 27))
  cases hpr : isPr P
  · have G : Hid (fieldB P D xs = false) := Lib.hid (fieldB_f1 (by
      cases ho : okPD P D
      · rfl
      · have := (okPD_pow ho).2; rw [hpr] at this; cases this))
    go_enter Try.func19, Try.ntmps19
    go_wp2_with fail
    refine (i_IsPrime _ _).mono ?_
    rintro e w1 ⟨rfl, hd⟩
    rw [hpr]
    have HE1 := Lib.hid (HE0.out.trans hd)
    clear hd
    go_wp2
    go_ret
    exact ⟨ret_bool G.out.symm, HE1.out⟩
  · have HPR := Lib.hid hpr
    obtain ⟨p1, p2⟩ := isPr_bd hpr
    by_cases hD : 1 ≤ D
    · obtain ⟨U, HU⟩ : ∃ U, Hid (U = upW P D.toNat 1) := ⟨_, Lib.hid rfl⟩
      have HOK : Hid (okPD P D = decide (U ≤ 64)) := Lib.hid (by rw [HU.out]; exact okPD_iff hpr hD)
      clear hpr
      by_cases hU : U ≤ 64
      · have HOK1 : Hid (okPD P D = true) := Lib.hid (by rw [HOK.out]; simpa using hU)
        obtain ⟨q1, q2, q3, q4, _⟩ := okPD_bd HOK1.out
        by_cases hlen : (N : Int) = D + 1
        · obtain ⟨d, rfl⟩ : ∃ d : Nat, D = (d : Int) := ⟨D.toNat, by omega⟩
          have hne : ((N : Int) != (d : Int) + 1) = false := by simp [hlen]
          have HND : Hid (N = d + 1) := Lib.hid (by omega)
          obtain ⟨b, o, rfl, hb, hall⟩ := HC.out (by have := HND.out; omega)
          have hdx : d < xs.length := by rw [← HN.out]; have := HND.out; omega
          have hdN : d < N := by have := HND.out; omega
          obtain ⟨z, HZ⟩ : ∃ z, Hid (z = xs[d]) := ⟨_, Lib.hid rfl⟩
          have htop := hall d hdx
          rw [← HZ.out] at htop
          have HTOP := Lib.hid htop
          have HALL := Lib.hid hall
          have HGD : Hid (xs.getD (d : Int).toNat 0 = z) := Lib.hid (by rw [Int.toNat_natCast, getD_get _ _ hdx, HZ.out])
          have HLEN : Hid ((xs.length : Int) = (d : Int) + 1) := Lib.hid (by rw [← HN.out]; exact hlen)
          clear htop hall hlen
          by_cases hz : z = 1
          · have hzb : (z != 1) = false := by simp [hz]
            have HZ1 := Lib.hid hz
            clear hz
            go_enter Try.func19, Try.ntmps19
            go_wp2_with fail
            refine (i_IsPrime _ _).mono ?_
            rintro e w1 ⟨rfl, hd⟩
            rw [HPR.out]
            have HE1 := Lib.hid (HE0.out.trans hd)
            obtain ⟨_, c0, c1, c2⟩ := HF0.out.ext hd
            have hx := (HE1.out.cell (p := ⟨b, o + d, none⟩) hb).trans HTOP.out
            clear hd
            go_wp2_with fail
            refine (i_powerUpTo _ _ _ p1 p2 (by omega) hD63).mono ?_
            rintro e _ ⟨rfl, rfl⟩
            rw [← HU.out]
            go_wp2
            go_quiet ((go_at_call 55; exact Calls.quiet_of_same (i_size _ _ _ _ (by omega))))
            go_wp2
            go_loop [41] (fun i => ∃ k : Nat, k ≤ N ∧ i = .int .i64 k ∧ Hid (allTo P xs k)) (fun i => N - (intOf i).toNat)
            case atStart => exact ⟨0, by omega, rfl, Lib.hid (fun i hi h => by omega)⟩
            case round =>
              clear hx
              obtain ⟨k, hk, rfl, hmid⟩ := hrel
              by_cases hlt : k < N
              · have hlt' : k < xs.length := by rw [← HN.out]; exact hlt
                have hx := (HE1.out.cell (p := ⟨b, o + k, none⟩) hb).trans (HALL.out k hlt')
                obtain ⟨y, HY⟩ : ∃ y, Hid (y = xs[k]) := ⟨_, Lib.hid rfl⟩
                rw [← HY.out] at hx
                go_wp2_with fail
                refine (i_in _ _ _ _).mono ?_
                rintro e _ ⟨rfl, rfl⟩
                cases hy : inB y 0 (P - 1)
                · have G : Hid (fieldB P (d : Int) xs = false) := Lib.hid (fieldB_f4 hlt' (by rw [← HY.out]; exact hy))
                  clear hmid
                  go_wp2
                  go_ret
                  exact ⟨ret_bool G.out.symm, HE1.out.drewN _⟩
                · have HM := Lib.hid (allTo_next hmid.out hlt' (by rw [← HY.out]; exact hy))
                  clear hmid hy
                  go_wp2
                  exact ⟨⟨k + 1, by omega, by go_num, HM⟩, by simp only [intOf]; omega⟩
              · obtain rfl : k = N := by omega
                have HA := Lib.hid (allTo_end (by have := hmid.out; rw [HN.out] at this; exact this))
                have G : Hid (fieldB P (d : Int) xs = irrB P xs) := Lib.hid (fieldB_t HOK1.out HLEN.out (by rw [HGD.out, HZ1.out]) HA.out)
                have HPW := (okPD_pow HOK1.out).1
                have HPW2 : Hid (P ^ (xs.length - 1) ≤ 64) := Lib.hid (by rw [show xs.length - 1 = (d : Int).toNat from by have := HLEN.out; omega]; exact HPW)
                clear hmid HPW
                go_wp2_with fail
                refine (i_irr _ xs P _ (HRD.out.ext (HE1.out.drewN _)) q1 q2 (allIn_mod HA.out) (by rw [← HN.out]; have := HND.out; omega) (by rw [← HN.out]; have := HND.out; omega) HPW2.out).mono ?_
                rintro e w3 ⟨rfl, hext3⟩
                go_wp2
                go_ret
                exact ⟨ret_bool G.out.symm, (HE1.out.drewN _).trans hext3⟩
          · have hzb : (z != 1) = true := by simpa using hz
            have G : Hid (fieldB P (d : Int) xs = false) := Lib.hid (fieldB_f3 (by rw [HGD.out]; exact hz))
            clear hz
            go_enter Try.func19, Try.ntmps19
            go_wp2_with fail
            refine (i_IsPrime _ _).mono ?_
            rintro e w1 ⟨rfl, hd⟩
            rw [HPR.out]
            have HE1 := Lib.hid (HE0.out.trans hd)
            obtain ⟨_, c0, c1, c2⟩ := HF0.out.ext hd
            have hx := (HE1.out.cell (p := ⟨b, o + d, none⟩) hb).trans HTOP.out
            clear hd
            go_wp2_with fail
            refine (i_powerUpTo _ _ _ p1 p2 (by omega) hD63).mono ?_
            rintro e _ ⟨rfl, rfl⟩
            rw [← HU.out]
            go_wp2
            go_quiet ((go_at_call 55; exact Calls.quiet_of_same (i_size _ _ _ _ (by omega))))
            go_wp2
            go_ret
            exact ⟨ret_bool G.out.symm, HE1.out.drewN _⟩
        · have hne : ((N : Int) != D + 1) = true := by simpa using hlen
          have G : Hid (fieldB P D xs = false) := Lib.hid (fieldB_f2 (by rw [← HN.out]; exact hlen))
          clear hlen
          go_enter Try.func19, Try.ntmps19
          go_wp2_with fail
          refine (i_IsPrime _ _).mono ?_
          rintro e w1 ⟨rfl, hd⟩
          rw [HPR.out]
          have HE1 := Lib.hid (HE0.out.trans hd)
          obtain ⟨_, c0, c1, c2⟩ := HF0.out.ext hd
          clear hd
          go_wp2_with fail
          refine (i_powerUpTo _ _ _ p1 p2 (by omega) hD63).mono ?_
          rintro e _ ⟨rfl, rfl⟩
          rw [← HU.out]
          go_wp2
          go_quiet ((go_at_call 55; exact Calls.quiet_of_same (i_size _ _ _ _ (by omega))))
          go_wp2
          go_ret
          exact ⟨ret_bool G.out.symm, HE1.out.drewN _⟩
      · have G : Hid (fieldB P D xs = false) := Lib.hid (fieldB_f1 (by rw [HOK.out]; simpa using hU))
        go_enter Try.func19, Try.ntmps19
        go_wp2_with fail
        refine (i_IsPrime _ _).mono ?_
        rintro e w1 ⟨rfl, hd⟩
        rw [HPR.out]
        have HE1 := Lib.hid (HE0.out.trans hd)
        obtain ⟨_, c0, c1, c2⟩ := HF0.out.ext hd
        clear hd
        go_wp2_with fail
        refine (i_powerUpTo _ _ _ p1 p2 (by omega) hD63).mono ?_
        rintro e _ ⟨rfl, rfl⟩
        rw [← HU.out]
        go_wp2
        go_ret
        exact ⟨ret_bool G.out.symm, HE1.out⟩
    · have G : Hid (fieldB P D xs = false) := Lib.hid (fieldB_f1 (by
        cases ho : okPD P D
        · rfl
        · obtain ⟨a1, a2, a3, a4, a5⟩ := okPD_bd ho; omega))
      clear hpr
      go_enter Try.func19, Try.ntmps19
      go_wp2_with fail
      refine (i_IsPrime _ _).mono ?_
      rintro e w1 ⟨rfl, hd⟩
      rw [HPR.out]
      have HE1 := Lib.hid (HE0.out.trans hd)
      obtain ⟨_, c0, c1, c2⟩ := HF0.out.ext hd
      clear hd
      go_wp2
      go_ret
      exact ⟨ret_bool G.out.symm, HE1.out⟩
theorem s_in' (n lo hi : Int) (w : World) : Calls Try.prog 80 #[.int .i64 n, .int .i64 lo, .int .i64 hi] w fun e w' => e = .returned (.bool (inB n lo hi)) ∧ w' = w :=
  (s_in n lo hi w).mono fun _ _ ⟨h1, h2⟩ => ⟨h1, h2.symm⟩
theorem s_power' (p : Int) (N : Nat) (w : World) (hp : 2 ≤ p) (hp2 : p ≤ 64) (hN : N ≤ 6) : Calls Try.prog 81 #[.int .i64 p, .int .i64 (N : Int)] w fun e w' => e = .returned (.int .i64 (p ^ N)) ∧ w' = w :=
  (s_power p N w hp hp2 hN).mono fun _ _ ⟨h1, h2⟩ => ⟨h1, h2.symm⟩
set_option maxHeartbeats 1000000 in
set_option maxRecDepth 100000 in
theorem s_ok (b : Nat) (P D : Int) (v : Value) (xs : List Int) (w : World) (hf : FldAt w b P D v) (h : Rd w v xs) (hsn : Sane v) :
    Calls Try.prog 51 #[.pointer (some ⟨b, 0, none⟩)] w fun e w' => e = .returned (.bool (fieldB P D xs)) ∧ Ext w w' := by
  have HRD := Lib.hid h
  have HF := Lib.hid hf
  obtain ⟨a, cap, rfl, hc, hm, hr⟩ := h
  obtain ⟨N, HN⟩ : ∃ N, Hid (N = xs.length) := ⟨_, Lib.hid rfl⟩
  have HC : Hid (0 < N → ∃ b o, a = some ⟨b, o, none⟩ ∧ b < w.heap.size ∧ ∀ i (h : i < xs.length), w.cell? ⟨b, o + i, none⟩ = some (.int .i64 xs[i])) := Lib.hid (fun hk => hr (by rw [← HN.out]; exact hk))
  clear hr
  rw [← HN.out] at hc HRD HF hsn hf
  obtain ⟨_, c0, c1, c2⟩ := hf
  cases hP : inB P 2 64
  · have G : Hid (fieldB P D xs = false) := Lib.hid (fieldB_f1 (by rw [okPD, hP]; rfl))
    go_enter Try.func51, Try.ntmps51
    go_wp2
    go_quiet ((go_at_call 80; exact Calls.quiet_of_same (s_in' _ _ _ _)))
    go_wp2
    go_ret
    exact ⟨ret_bool G.out.symm, (Ext.refl _).drewN _⟩
  · cases hD : inB D 1 6
    · have G : Hid (fieldB P D xs = false) := Lib.hid (fieldB_f1 (by rw [okPD, hP, hD]; rfl))
      go_enter Try.func51, Try.ntmps51
      go_wp2
      go_quiet ((go_at_call 80; exact Calls.quiet_of_same (s_in' _ _ _ _)))
      go_wp2
      go_ret
      exact ⟨ret_bool G.out.symm, (Ext.refl _).drewN _⟩
    · obtain ⟨p1, p2⟩ := inB_iff.1 hP
      obtain ⟨d1, d2⟩ := inB_iff.1 hD
      obtain ⟨d, rfl⟩ : ∃ d : Nat, D = (d : Int) := ⟨D.toNat, by omega⟩
      by_cases hlen : (N : Int) = (d : Int) + 1
      · have hne : ((N : Int) != (d : Int) + 1) = false := by simp [hlen]
        have HND : Hid (N = d + 1) := Lib.hid (by omega)
        obtain ⟨b2, o, rfl, hb, hall⟩ := HC.out (by have := HND.out; omega)
        have hdx : d < xs.length := by rw [← HN.out]; have := HND.out; omega
        have hdN : d < N := by have := HND.out; omega
        obtain ⟨z, HZ⟩ : ∃ z, Hid (z = xs[d]) := ⟨_, Lib.hid rfl⟩
        have htop := hall d hdx
        rw [← HZ.out] at htop
        have HALL := Lib.hid hall
        have HGD : Hid (xs.getD (d : Int).toNat 0 = z) := Lib.hid (by rw [Int.toNat_natCast, getD_get _ _ hdx, HZ.out])
        have HLEN : Hid ((xs.length : Int) = (d : Int) + 1) := Lib.hid (by rw [← HN.out]; exact hlen)
        clear hall hlen
        by_cases hz : z = 1
        · have hzb : (z != 1) = false := by simp [hz]
          have HZ1 := Lib.hid hz
          obtain ⟨Q, HQ⟩ : ∃ Q, Hid (Q = P ^ d) := ⟨_, Lib.hid rfl⟩
          have hQ := pow_le_6 p1 p2 d (by omega)
          rw [← HQ.out] at hQ
          have HOK : Hid (okPD P (d : Int) = ((splitOut Q).1 == P)) := Lib.hid (by rw [okPD, hP, hD, HQ.out, Int.toNat_natCast]; rfl)
          obtain ⟨S1, HS1⟩ : ∃ S1, Hid (S1 = (splitOut Q).1) := ⟨_, Lib.hid rfl⟩
          obtain ⟨S2, HS2⟩ : ∃ S2, Hid (S2 = (splitOut Q).2) := ⟨_, Lib.hid rfl⟩
          clear hz
          go_enter Try.func51, Try.ntmps51
          go_wp2
          go_quiet ((go_at_call 80; exact Calls.quiet_of_same (s_in' _ _ _ _)))
          go_wp2
          generalize hw2 : w.drewN _ = w2
          have HX2 : Hid (Ext w w2) := Lib.hid (by rw [← hw2]; exact (Ext.refl _).drewN _)
          clear hw2 c0 c1 c2 htop
          obtain ⟨_, c0, c1, c2⟩ := HF.out.ext HX2.out
          have hq : P ^ d = Q := HQ.out.symm
          go_quiet ((go_at_call 81; exact Calls.quiet_of_same (s_power' _ d _ p1 p2 (by omega))))
          go_wp2_with fail
          refine (s_l03Split _ _).mono ?_
          rintro e _ ⟨rfl, rfl⟩
          rw [← HS1.out, ← HS2.out]
          clear hq
          by_cases hs : S1 = P
          · have hs' := hs.symm
            subst hs'
            have HOK1 : Hid (okPD P (d : Int) = true) := Lib.hid (by rw [HOK.out, ← HS1.out]; simp)
            have hsb : (P != P) = false := by simp
            clear hs
            go_wp2
            generalize hw3 : w2.drewN _ = w3
            have HX3 : Hid (Ext w w3) := Lib.hid (by rw [← hw3]; exact HX2.out.drewN _)
            clear hw3 c0 c1 c2
            obtain ⟨_, c0, c1, c2⟩ := HF.out.ext HX3.out
            go_loop [6] (fun i => ∃ k : Nat, k ≤ N ∧ i = .int .i64 k ∧ Hid (allTo P xs k)) (fun i => N - (intOf i).toNat)
            case atStart => exact ⟨0, by omega, rfl, Lib.hid (fun i hi h => by omega)⟩
            case round =>
              obtain ⟨k, hk, rfl, hmid⟩ := hrel
              by_cases hlt : k < N
              · have hlt' : k < xs.length := by rw [← HN.out]; exact hlt
                have hx := (HX3.out.cell (p := ⟨b2, o + k, none⟩) hb).trans (HALL.out k hlt')
                obtain ⟨y, HY⟩ : ∃ y, Hid (y = xs[k]) := ⟨_, Lib.hid rfl⟩
                rw [← HY.out] at hx
                go_wp2_with fail
                refine (s_in _ _ _ _).mono ?_
                rintro e _ ⟨rfl, rfl⟩
                cases hy : inB y 0 (P - 1)
                · have G : Hid (fieldB P (d : Int) xs = false) := Lib.hid (fieldB_f4 hlt' (by rw [← HY.out]; exact hy))
                  clear hmid
                  go_wp2
                  go_ret
                  exact ⟨ret_bool G.out.symm, HX3.out⟩
                · have HM := Lib.hid (allTo_next hmid.out hlt' (by rw [← HY.out]; exact hy))
                  clear hmid hy
                  go_wp2
                  exact ⟨⟨k + 1, by omega, by go_num, HM⟩, by simp only [intOf]; omega⟩
              · obtain rfl : k = N := by omega
                have HA := Lib.hid (allTo_end (by have := hmid.out; rw [HN.out] at this; exact this))
                have G : Hid (fieldB P (d : Int) xs = irrB P xs) := Lib.hid (fieldB_t HOK1.out HLEN.out (by rw [HGD.out, HZ1.out]) HA.out)
                have HPW := (okPD_pow HOK1.out).1
                have HPW2 : Hid (P ^ (xs.length - 1) ≤ 64) := Lib.hid (by rw [show xs.length - 1 = (d : Int).toNat from by have := HLEN.out; omega]; exact HPW)
                clear hmid HPW
                go_wp2_with fail
                refine (s_irr _ xs P _ (HRD.out.ext HX3.out) hsn p1 p2 (allIn_mod HA.out) (by rw [← HN.out]; have := HND.out; omega) (by rw [← HN.out]; have := HND.out; omega) HPW2.out).mono ?_
                rintro e w4 ⟨rfl, hext4⟩
                go_wp2
                go_ret
                exact ⟨ret_bool G.out.symm, HX3.out.trans hext4⟩
          · have hsb : (S1 != P) = true := by simpa using hs
            have G : Hid (fieldB P (d : Int) xs = false) := Lib.hid (fieldB_f1 (by rw [HOK.out, ← HS1.out]; simpa using hs))
            clear hs
            go_wp2
            go_ret
            exact ⟨ret_bool G.out.symm, HX2.out.drewN _⟩
        · have hzb : (z != 1) = true := by simpa using hz
          have G : Hid (fieldB P (d : Int) xs = false) := Lib.hid (fieldB_f3 (by rw [HGD.out]; exact hz))
          clear hz
          go_enter Try.func51, Try.ntmps51
          go_wp2
          go_quiet ((go_at_call 80; exact Calls.quiet_of_same (s_in' _ _ _ _)))
          go_wp2
          go_ret
          exact ⟨ret_bool G.out.symm, (Ext.refl _).drewN _⟩
      · have hne : ((N : Int) != (d : Int) + 1) = true := by simpa using hlen
        have G : Hid (fieldB P (d : Int) xs = false) := Lib.hid (fieldB_f2 (by rw [← HN.out]; exact hlen))
        clear hlen
        go_enter Try.func51, Try.ntmps51
        go_wp2
        go_quiet ((go_at_call 80; exact Calls.quiet_of_same (s_in' _ _ _ _)))
        go_wp2
        go_ret
        exact ⟨ret_bool G.out.symm, (Ext.refl _).drewN _⟩
end Go.Proofs.Ytafaecpmffmfgaa
