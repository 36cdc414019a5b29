/- Powers, orders, inverses and the least primitive element in a field: the walks of the program and of the reference. No condition. -/
import Derived.Test.YtafaecpmffmfgaaFldMul
import Derived.Test.YtafaecpmffmfgaaFldEl
namespace Go.Proofs.Ytafaecpmffmfgaa
open Go.RowKit

theorem findUp_first {p : Int → Bool} : ∀ (n k : Nat) (x : Int), (∀ i : Nat, i < k → p (x + i) = false) → p (x + k) = true → k < n → findUp p n x = some (x + k)
  | 0, k, x, _, _, h => by omega
  | n + 1, 0, x, _, hp, _ => by
    rw [findUp, if_pos (by simpa using hp)]; simp
  | n + 1, k + 1, x, hf, hp, h => by
    have h0 := hf 0 (by omega)
    rw [findUp, if_neg (by simpa using h0)]
    have := findUp_first n k (x + 1) (fun i hi => by
      have := hf (i + 1) (by omega)
      rw [show x + 1 + (i : Int) = x + ((i + 1 : Nat) : Int) from by omega]; exact this) (by
      rw [show x + 1 + (k : Int) = x + ((k + 1 : Nat) : Int) from by omega]; exact hp) (by omega)
    rw [this]
    congr 1; omega
def powT (P : Int) (cs : List Int) (a : Int) : Int → Bool := fun j => pwN P cs a (j.toNat + 1) == 1
/-- The least exponent from 1 on at which the power is 1. -/
def ordV (P : Int) (cs : List Int) (a : Int) : Int := match findUp (powT P cs a) (P ^ cs.length - 1).toNat 0 with
  | some j => j + 1
  | none => 0
def primT (P : Int) (cs : List Int) : Int → Bool := fun j => ordV P cs (j + 1) == P ^ cs.length - 1
def primV (P : Int) (cs : List Int) : Int := match findUp (primT P cs) (P ^ cs.length - 1).toNat 0 with
  | some j => j + 1
  | none => 0
/-- A field that has a generator. -/
def FldG (P : Int) (cs : List Int) : Prop := ∃ g : Int, 1 ≤ g ∧ g < P ^ cs.length ∧ Gen P cs (P ^ cs.length).toNat g
theorem primT_gen {P : Int} {cs : List Int} (hp : 2 ≤ P) (hD : 1 ≤ cs.length) {g : Int} (g1 : 1 ≤ g) (h : Gen P cs (P ^ cs.length).toNat g) : primT P cs (g - 1) = true := by
  have hq := q_ge hp hD
  have h1 := findUp_first (p := powT P cs g) (P ^ cs.length - 1).toNat ((P ^ cs.length).toNat - 2) 0 (fun i hi => by
    simp only [powT, Int.zero_add]
    rw [beq_eq_false_iff_ne]
    exact h.2.1 (((i : Nat) : Int).toNat + 1) (by omega) (by omega)) (by
    simp only [powT, Int.zero_add]
    rw [beq_iff_eq, ← h.1]
    congr 1; omega) (by omega)
  simp only [primT, ordV]
  rw [show g - 1 + 1 = g from by omega, h1, beq_iff_eq]
  show 0 + (((P ^ cs.length).toNat - 2 : Nat) : Int) + 1 = _
  omega
set_option maxHeartbeats 1000000 in
theorem s_pow (b : Nat) (P : Int) (d : Nat) (v : Value) (cs : List Int) (a n : Int) (w0 : World) (hF : FldOk P d cs) (hf : FldAt w0 b P d v) (h : Rd w0 v (cs ++ [1])) (ha : 0 ≤ a) (ha2 : a < P ^ cs.length) (hq64 : P ^ cs.length ≤ 64) (hn : 0 ≤ n) (hn2 : n ≤ 9223372036854775807) :
    Calls Try.prog 76 #[.pointer (some ⟨b, 0, none⟩), .int .i64 a, .int .i64 n] w0 fun e w' => e = .returned (.int .i64 (pwN P cs a n.toNat)) ∧ Ext w0 w' := by
  have HFK := Lib.hid hF
  obtain ⟨p1, p2, d1, d2, hcs, hcm⟩ := hF
  have HCS := Lib.hid hcs
  obtain ⟨q, HQ⟩ : ∃ q, Hid (q = P ^ cs.length) := ⟨_, Lib.hid rfl⟩
  have hq2 : 2 ≤ q := by rw [HQ.out]; exact q_ge p1 (by omega)
  clear hcs hcm
  have HQ64 : Hid (P ^ cs.length ≤ 64) := Lib.hid hq64
  have HST := Lib.hid (rzMid_start p1 (by rw [HCS.out]; exact d1) ha ha2 n.toNat)
  clear hq64 ha2
  have HF := Lib.hid hf
  have HRD := Lib.hid h
  have HE0 := Lib.hid (Ext.refl w0)
  clear h
  go_enter Try.func76, Try.ntmps76
  go_wp2
  go_loopw [1, 2, 7] (fun a' n' r wr => ∃ (A N R : Int), a' = .int .i64 A ∧ n' = .int .i64 N ∧ r = .int .i64 R ∧ 0 ≤ N ∧ N ≤ 9223372036854775807 ∧ Hid (rzMid P cs a n.toNat R A N.toNat) ∧ Hid (Ext w0 wr)) (fun _ n' _ _ => (intOf n').toNat)
  case atStart => exact ⟨a, n, 1, rfl, rfl, rfl, hn, hn2, HST, Lib.hid (Ext.refl _)⟩
  case round =>
    obtain ⟨A, N, R, rfl, rfl, rfl, hN, hN2, hmid, hext⟩ := hrel
    by_cases hlt : 0 < N
    · have hb := hmid.out.2
      have hb1 : 0 ≤ R ∧ R ≤ 63 ∧ 0 ≤ A ∧ A ≤ 63 := by have := HQ64.out; omega
      obtain ⟨r1, r2, a1, a2⟩ := hb1
      clear hb
      by_cases hod : N % 2 = 1
      · have HM := Lib.hid (rzMid_odd p1 (by rw [HCS.out]; exact d1) hmid.out (show N.toNat % 2 = 1 by omega))
        rw [show N.toNat / 2 = (N / 2).toNat from by omega] at HM
        have hb : (N % 2 == 1) = true := by rw [beq_iff_eq]; exact hod
        clear hmid hod
        go_wp2_with fail
        refine (s_mul b P d v cs R A _ HFK.out (HF.out.ext hext.out) (HRD.out.ext hext.out) (by omega) (by omega) (by omega) (by omega)).mono ?_
        rintro e w2 ⟨rfl, x2⟩
        have HE2 := Lib.hid (hext.out.trans x2)
        obtain ⟨R2, HR2⟩ : ∃ R2, Hid (mulN P cs R A = R2) := ⟨_, Lib.hid rfl⟩
        rw [HR2.out]
        clear x2
        go_wp2_with fail
        refine (s_mul b P d v cs A A _ HFK.out (HF.out.ext HE2.out) (HRD.out.ext HE2.out) (by omega) (by omega) (by omega) (by omega)).mono ?_
        rintro e w3 ⟨rfl, x3⟩
        have HE3 := Lib.hid (HE2.out.trans x3)
        clear x3
        go_wp2
        exact ⟨⟨mulN P cs A A, N / 2, R2, rfl, rfl, rfl, by omega, by omega, by rw [← HR2.out]; exact HM, HE3⟩, by simp only [intOf]; omega⟩
      · have HM := Lib.hid (rzMid_even p1 (by rw [HCS.out]; exact d1) hmid.out (show N.toNat % 2 = 0 by omega))
        rw [show N.toNat / 2 = (N / 2).toNat from by omega] at HM
        have hb : (N % 2 == 1) = false := by rw [beq_eq_false_iff_ne]; exact hod
        clear hmid hod
        go_wp2_with fail
        refine (s_mul b P d v cs A A _ HFK.out (HF.out.ext hext.out) (HRD.out.ext hext.out) (by omega) (by omega) (by omega) (by omega)).mono ?_
        rintro e w3 ⟨rfl, x3⟩
        have HE3 := Lib.hid (hext.out.trans x3)
        clear x3
        go_wp2
        exact ⟨⟨mulN P cs A A, N / 2, R, rfl, rfl, rfl, by omega, by omega, HM, HE3⟩, by simp only [intOf]; omega⟩
    · obtain rfl : N = 0 := by omega
      have HR := Lib.hid (rzMid_end p1 (by rw [HCS.out]; exact d1) hmid.out)
      have HEF := Lib.hid (HE0.out.trans hext.out)
      clear hmid
      go_wp2
      go_ret
      exact ⟨ret_i64 HR.out, HEF.out⟩
set_option maxHeartbeats 1000000 in
theorem i_pow (P : Int) (d : Nat) (v : Value) (cs : List Int) (a n : Int) (w : World) (hF : FldOk P d cs) (h : Rd w v (cs ++ [1])) (ha : 0 ≤ a) (ha2 : a < P ^ cs.length) (hq64 : P ^ cs.length ≤ 64) (hn : 0 ≤ n) (hn2 : n ≤ 9223372036854775807) :
    Calls Try.prog 73 #[.agg #[.int .i64 P, .int .i64 d, v], .int .i64 a, .int .i64 n] w fun e w' => e = .returned (.int .i64 (pwN P cs a n.toNat)) ∧ Ext w w' := by
  have HFK := Lib.hid hF
  obtain ⟨p1, p2, d1, d2, hcs, hcm⟩ := hF
  have HCS := Lib.hid hcs
  obtain ⟨q, HQ⟩ : ∃ q, Hid (q = P ^ cs.length) := ⟨_, Lib.hid rfl⟩
  have hq2 : 2 ≤ q := by rw [HQ.out]; exact q_ge p1 (by omega)
  clear hcs hcm
  have HQ64 : Hid (P ^ cs.length ≤ 64) := Lib.hid hq64
  have HST := Lib.hid (rzMid_start p1 (by rw [HCS.out]; exact d1) ha ha2 n.toNat)
  clear hq64 ha2
  have HF := Lib.hid (FldAt.new w P d v 27)
  have HE0 := Lib.hid (ext_alloc w (.cells #[.int .i64 P, .int .i64 d, v] 27))
  have HRD := Lib.hid (h.ext HE0.out)
  clear h
  go_enter Try.func73, Try.ntmps73
  go_wp2
  generalize hw0 : w.alloc (.cells #[.int .i64 P, .int .i64 d, v] 27) = w0 at HF HE0 HRD ⊢
  clear hw0
  go_loopw [1, 2, 7] (fun a' n' r wr => ∃ (A N R : Int), a' = .int .i64 A ∧ n' = .int .i64 N ∧ r = .int .i64 R ∧ 0 ≤ N ∧ N ≤ 9223372036854775807 ∧ Hid (rzMid P cs a n.toNat R A N.toNat) ∧ Hid (Ext w0 wr)) (fun _ n' _ _ => (intOf n').toNat)
  case atStart => exact ⟨a, n, 1, rfl, rfl, rfl, hn, hn2, HST, Lib.hid (Ext.refl _)⟩
  case round =>
    obtain ⟨A, N, R, rfl, rfl, rfl, hN, hN2, hmid, hext⟩ := hrel
    by_cases hlt : 0 < N
    · have hb := hmid.out.2
      have hb1 : 0 ≤ R ∧ R ≤ 63 ∧ 0 ≤ A ∧ A ≤ 63 := by have := HQ64.out; omega
      obtain ⟨r1, r2, a1, a2⟩ := hb1
      clear hb
      by_cases hod : N % 2 = 1
      · have HM := Lib.hid (rzMid_odd p1 (by rw [HCS.out]; exact d1) hmid.out (show N.toNat % 2 = 1 by omega))
        rw [show N.toNat / 2 = (N / 2).toNat from by omega] at HM
        have hb : (N % 2 == 1) = true := by rw [beq_iff_eq]; exact hod
        clear hmid hod
        obtain ⟨_, c0, c1, c2⟩ := HF.out.ext hext.out
        go_wp2_with fail
        refine (i_mul P d v cs R A _ HFK.out (HRD.out.ext hext.out) (by omega) (by omega) (by omega) (by omega)).mono ?_
        rintro e w2 ⟨rfl, x2⟩
        clear c0 c1 c2
        have HE2 := Lib.hid (hext.out.trans x2)
        obtain ⟨R2, HR2⟩ : ∃ R2, Hid (mulN P cs R A = R2) := ⟨_, Lib.hid rfl⟩
        rw [HR2.out]
        clear x2
        obtain ⟨_, c0, c1, c2⟩ := HF.out.ext HE2.out
        go_wp2_with fail
        refine (i_mul P d v cs A A _ HFK.out (HRD.out.ext HE2.out) (by omega) (by omega) (by omega) (by omega)).mono ?_
        rintro e w3 ⟨rfl, x3⟩
        clear c0 c1 c2
        have HE3 := Lib.hid (HE2.out.trans x3)
        clear x3
        go_wp2
        exact ⟨⟨mulN P cs A A, N / 2, R2, rfl, rfl, rfl, by omega, by omega, by rw [← HR2.out]; exact HM, HE3⟩, by simp only [intOf]; omega⟩
      · have HM := Lib.hid (rzMid_even p1 (by rw [HCS.out]; exact d1) hmid.out (show N.toNat % 2 = 0 by omega))
        rw [show N.toNat / 2 = (N / 2).toNat from by omega] at HM
        have hb : (N % 2 == 1) = false := by rw [beq_eq_false_iff_ne]; exact hod
        clear hmid hod
        obtain ⟨_, c0, c1, c2⟩ := HF.out.ext hext.out
        go_wp2_with fail
        refine (i_mul P d v cs A A _ HFK.out (HRD.out.ext hext.out) (by omega) (by omega) (by omega) (by omega)).mono ?_
        rintro e w3 ⟨rfl, x3⟩
        clear c0 c1 c2
        have HE3 := Lib.hid (hext.out.trans x3)
        clear x3
        go_wp2
        exact ⟨⟨mulN P cs A A, N / 2, R, rfl, rfl, rfl, by omega, by omega, HM, HE3⟩, by simp only [intOf]; omega⟩
    · obtain rfl : N = 0 := by omega
      have HR := Lib.hid (rzMid_end p1 (by rw [HCS.out]; exact d1) hmid.out)
      have HEF := Lib.hid (HE0.out.trans hext.out)
      clear hmid
      go_wp2
      go_ret
      exact ⟨ret_i64 HR.out, HEF.out⟩
set_option maxHeartbeats 1000000 in
theorem s_ord (b : Nat) (P : Int) (d : Nat) (v : Value) (cs : List Int) (a : Int) (w0 : World) (hF : FldOk P d cs) (hf : FldAt w0 b P d v) (h : Rd w0 v (cs ++ [1])) (ha : 1 ≤ a) (ha2 : a < P ^ cs.length) (hq64 : P ^ cs.length ≤ 64) (hG : FldG P cs) :
    Calls Try.prog 70 #[.pointer (some ⟨b, 0, none⟩), .int .i64 a] w0 fun e w' => e = .returned (.int .i64 (ordV P cs a)) ∧ Ext w0 w' := by
  have HFK := Lib.hid hF
  obtain ⟨p1, p2, d1, d2, hcs, hcm⟩ := hF
  have HCS := Lib.hid hcs
  obtain ⟨q, HQ⟩ : ∃ q, Hid (q = P ^ cs.length) := ⟨_, Lib.hid rfl⟩
  have hq2 : 2 ≤ q := by rw [HQ.out]; exact q_ge p1 (by omega)
  clear hcs hcm
  have hq64' : q ≤ 64 := by rw [HQ.out]; exact hq64
  obtain ⟨g, g1, g2, g3⟩ := hG
  have HFER := Lib.hid (gen_fermat p1 (by rw [HCS.out]; exact d1) g3 ha ha2)
  have HP1 := Lib.hid (pwN_1 (cs := cs) p1 (by rw [HCS.out]; exact d1) (show 0 ≤ a by omega) ha2)
  have ha63 : a ≤ 63 := by omega
  clear g1 g2 g3 hq64 ha2
  have HF := Lib.hid hf
  have HRD := Lib.hid h
  have HE0 := Lib.hid (Ext.refl w0)
  clear h
  go_enter Try.func70, Try.ntmps70
  go_wp2
  go_loopw [5, 6] (fun n' x' wr => ∃ (j : Nat) (X : Int), n' = .int .i64 ((j : Int) + 1) ∧ x' = .int .i64 X ∧ (j : Int) + 1 ≤ q - 1 ∧ 0 ≤ X ∧ X ≤ 63 ∧ Hid (X = pwN P cs a (j + 1)) ∧ Hid (upMid (powT P cs a) (q - 1) j) ∧ Hid (Ext w0 wr)) (fun n' _ _ => (100 - intOf n').toNat)
  case atStart => exact ⟨0, a, rfl, rfl, by omega, by omega, ha63, Lib.hid HP1.out.symm, Lib.hid (upMid_start _ _), Lib.hid (Ext.refl _)⟩
  case round =>
    obtain ⟨j, X, rfl, rfl, hj, x0, x1, hX, hmid, hext⟩ := hrel
    by_cases h1 : X = 1
    · have hb : (X != 1) = false := by simp [h1]
      have HR : Hid (ordV P cs a = (j : Int) + 1) := Lib.hid (by
        have h2 := upMid_hit (show (j : Int) < q - 1 by omega) hmid.out (by rw [powT, Int.toNat_natCast, ← hX.out, h1]; rfl)
        rw [ordV, ← HQ.out, h2])
      have HEF := Lib.hid (HE0.out.trans hext.out)
      clear hmid h1
      go_wp2
      go_ret
      exact ⟨ret_i64 HR.out.symm, HEF.out⟩
    · have hb : (X != 1) = true := by simpa using h1
      have hj2 : (j : Int) + 1 + 1 ≤ q - 1 := by
        by_cases e : (j : Int) + 1 = q - 1
        · exfalso
          apply h1
          rw [hX.out, ← HFER.out, ← HQ.out]
          congr 1; omega
        · omega
      have HM : Hid (upMid (powT P cs a) (q - 1) ((j : Int) + 1)) := Lib.hid (upMid_next (by omega) hmid.out (by rw [powT, Int.toNat_natCast, ← hX.out, beq_eq_false_iff_ne]; exact h1))
      have HX2 : Hid (mulN P cs X a = pwN P cs a (j + 1 + 1)) := Lib.hid (by rw [hX.out]; rfl)
      have hbd := pwN_bd (cs := cs) p1 (by rw [HCS.out]; exact d1) a (j + 1 + 1)
      rw [← HX2.out, ← HQ.out] at hbd
      clear hmid h1
      go_wp2_with fail
      refine (s_mul b P d v cs X a _ HFK.out (HF.out.ext hext.out) (HRD.out.ext hext.out) (by omega) (by omega) (by omega) (by omega)).mono ?_
      rintro e w2 ⟨rfl, x2⟩
      have HE2 := Lib.hid (hext.out.trans x2)
      obtain ⟨Y, HY⟩ : ∃ Y, Hid (mulN P cs X a = Y) := ⟨_, Lib.hid rfl⟩
      rw [HY.out] at HX2 hbd ⊢
      clear x2
      go_wp2
      exact ⟨⟨j + 1, Y, by go_num, rfl, by omega, by omega, by omega, HX2, by rw [show ((j + 1 : Nat) : Int) = (j : Int) + 1 from by omega]; exact HM, HE2⟩, by simp only [intOf]; omega⟩
set_option maxHeartbeats 1000000 in
theorem i_ord (P : Int) (d : Nat) (v : Value) (cs : List Int) (a : Int) (w : World) (hF : FldOk P d cs) (h : Rd w v (cs ++ [1])) (ha : 1 ≤ a) (ha2 : a < P ^ cs.length) (hq64 : P ^ cs.length ≤ 64) (hG : FldG P cs) :
    Calls Try.prog 71 #[.agg #[.int .i64 P, .int .i64 d, v], .int .i64 a] w fun e w' => e = .returned (.int .i64 (ordV P cs a)) ∧ Ext w w' := by
  have HFK := Lib.hid hF
  obtain ⟨p1, p2, d1, d2, hcs, hcm⟩ := hF
  have HCS := Lib.hid hcs
  obtain ⟨q, HQ⟩ : ∃ q, Hid (q = P ^ cs.length) := ⟨_, Lib.hid rfl⟩
  have hq2 : 2 ≤ q := by rw [HQ.out]; exact q_ge p1 (by omega)
  clear hcs hcm
  have hq64' : q ≤ 64 := by rw [HQ.out]; exact hq64
  obtain ⟨g, g1, g2, g3⟩ := hG
  have HFER := Lib.hid (gen_fermat p1 (by rw [HCS.out]; exact d1) g3 ha ha2)
  have HP1 := Lib.hid (pwN_1 (cs := cs) p1 (by rw [HCS.out]; exact d1) (show 0 ≤ a by omega) ha2)
  have ha63 : a ≤ 63 := by omega
  clear g1 g2 g3 hq64 ha2
  have HF := Lib.hid (FldAt.new w P d v 27)
  have HE0 := Lib.hid (ext_alloc w (.cells #[.int .i64 P, .int .i64 d, v] 27))
  have HRD := Lib.hid (h.ext HE0.out)
  clear h
  go_enter Try.func71, Try.ntmps71
  go_wp2
  generalize hw0 : w.alloc (.cells #[.int .i64 P, .int .i64 d, v] 27) = w0 at HF HE0 HRD ⊢
  clear hw0
  go_loopw [5, 6] (fun n' x' wr => ∃ (j : Nat) (X : Int), n' = .int .i64 ((j : Int) + 1) ∧ x' = .int .i64 X ∧ (j : Int) + 1 ≤ q - 1 ∧ 0 ≤ X ∧ X ≤ 63 ∧ Hid (X = pwN P cs a (j + 1)) ∧ Hid (upMid (powT P cs a) (q - 1) j) ∧ Hid (Ext w0 wr)) (fun n' _ _ => (100 - intOf n').toNat)
  case atStart => exact ⟨0, a, rfl, rfl, by omega, by omega, ha63, Lib.hid HP1.out.symm, Lib.hid (upMid_start _ _), Lib.hid (Ext.refl _)⟩
  case round =>
    obtain ⟨j, X, rfl, rfl, hj, x0, x1, hX, hmid, hext⟩ := hrel
    by_cases h1 : X = 1
    · have hb : (X != 1) = false := by simp [h1]
      have HR : Hid (ordV P cs a = (j : Int) + 1) := Lib.hid (by
        have h2 := upMid_hit (show (j : Int) < q - 1 by omega) hmid.out (by rw [powT, Int.toNat_natCast, ← hX.out, h1]; rfl)
        rw [ordV, ← HQ.out, h2])
      have HEF := Lib.hid (HE0.out.trans hext.out)
      clear hmid h1
      go_wp2
      go_ret
      exact ⟨ret_i64 HR.out.symm, HEF.out⟩
    · have hb : (X != 1) = true := by simpa using h1
      have hj2 : (j : Int) + 1 + 1 ≤ q - 1 := by
        by_cases e : (j : Int) + 1 = q - 1
        · exfalso
          apply h1
          rw [hX.out, ← HFER.out, ← HQ.out]
          congr 1; omega
        · omega
      have HM : Hid (upMid (powT P cs a) (q - 1) ((j : Int) + 1)) := Lib.hid (upMid_next (by omega) hmid.out (by rw [powT, Int.toNat_natCast, ← hX.out, beq_eq_false_iff_ne]; exact h1))
      have HX2 : Hid (mulN P cs X a = pwN P cs a (j + 1 + 1)) := Lib.hid (by rw [hX.out]; rfl)
      have hbd := pwN_bd (cs := cs) p1 (by rw [HCS.out]; exact d1) a (j + 1 + 1)
      rw [← HX2.out, ← HQ.out] at hbd
      clear hmid h1
      obtain ⟨_, c0, c1, c2⟩ := HF.out.ext hext.out
      go_wp2_with fail
      refine (i_mul P d v cs X a _ HFK.out (HRD.out.ext hext.out) (by omega) (by omega) (by omega) (by omega)).mono ?_
      rintro e w2 ⟨rfl, x2⟩
      clear c0 c1 c2
      have HE2 := Lib.hid (hext.out.trans x2)
      obtain ⟨Y, HY⟩ : ∃ Y, Hid (mulN P cs X a = Y) := ⟨_, Lib.hid rfl⟩
      rw [HY.out] at HX2 hbd ⊢
      clear x2
      go_wp2
      exact ⟨⟨j + 1, Y, by go_num, rfl, by omega, by omega, by omega, HX2, by rw [show ((j + 1 : Nat) : Int) = (j : Int) + 1 from by omega]; exact HM, HE2⟩, by simp only [intOf]; omega⟩
set_option maxHeartbeats 1000000 in
theorem s_inv (b : Nat) (P : Int) (d : Nat) (v : Value) (cs : List Int) (a : Int) (w0 : World) (hF : FldOk P d cs) (hf : FldAt w0 b P d v) (h : Rd w0 v (cs ++ [1])) (ha : 1 ≤ a) (ha2 : a < P ^ cs.length) (hq64 : P ^ cs.length ≤ 64) (hG : FldG P cs) :
    Calls Try.prog 72 #[.pointer (some ⟨b, 0, none⟩), .int .i64 a] w0 fun e w' => e = .returned (.int .i64 (pwN P cs a ((P ^ cs.length).toNat - 2))) ∧ Ext w0 w' := by
  have HFK := Lib.hid hF
  obtain ⟨p1, p2, d1, d2, hcs, hcm⟩ := hF
  have HCS := Lib.hid hcs
  obtain ⟨q, HQ⟩ : ∃ q, Hid (q = P ^ cs.length) := ⟨_, Lib.hid rfl⟩
  have hq2 : 2 ≤ q := by rw [HQ.out]; exact q_ge p1 (by omega)
  clear hcs hcm
  have hq64' : q ≤ 64 := by rw [HQ.out]; exact hq64
  obtain ⟨g, g1, g2, g3⟩ := hG
  obtain ⟨i1, i2, i3⟩ := inv_is p1 (by rw [HCS.out]; exact d1) g3 ha ha2
  have hbd := pwN_bd (cs := cs) p1 (by rw [HCS.out]; exact d1) a ((P ^ cs.length).toNat - 2)
  obtain ⟨c, HC⟩ : ∃ c, Hid (pwN P cs a ((P ^ cs.length).toNat - 2) = c) := ⟨_, Lib.hid rfl⟩
  rw [HC.out] at i1 i2 i3 hbd ⊢
  have HI1 := Lib.hid i1
  have HI3 := Lib.hid i3
  have ha63 : a ≤ 63 := by omega
  have hc63 : c ≤ 63 := by omega
  clear g1 g2 g3 hq64 ha2 i1 i3 hbd
  have HF := Lib.hid hf
  have HRD := Lib.hid h
  have HE0 := Lib.hid (Ext.refl w0)
  clear h
  go_enter Try.func72, Try.ntmps72
  go_wp2
  go_loopw [5] (fun b' wr => ∃ (B : Int), b' = .int .i64 B ∧ 1 ≤ B ∧ B ≤ c ∧ Hid (Ext w0 wr)) (fun b' _ => (100 - intOf b').toNat)
  case atStart => exact ⟨1, rfl, by omega, i2, Lib.hid (Ext.refl _)⟩
  case round =>
    obtain ⟨B, rfl, b1, b2, hext⟩ := hrel
    go_wp2_with fail
    refine (s_mul b P d v cs a B _ HFK.out (HF.out.ext hext.out) (HRD.out.ext hext.out) (by omega) (by omega) (by omega) (by omega)).mono ?_
    rintro e w2 ⟨rfl, x2⟩
    have HE2 := Lib.hid (hext.out.trans x2)
    obtain ⟨M, HM⟩ : ∃ M, Hid (mulN P cs a B = M) := ⟨_, Lib.hid rfl⟩
    rw [HM.out]
    clear x2
    by_cases h1 : M = 1
    · have hb : (M != 1) = false := by simp [h1]
      have HR : Hid (B = c) := Lib.hid (HI3.out B (by omega) (by rw [← HQ.out]; have := HC.out; have h5 := pwN_bd (cs := cs) p1 (by rw [HCS.out]; exact d1) a ((P ^ cs.length).toNat - 2); rw [this, ← HQ.out] at h5; omega) (by rw [HM.out, h1]))
      clear h1
      go_wp2
      go_ret
      exact ⟨ret_i64 HR.out, HE2.out⟩
    · have hb : (M != 1) = true := by simpa using h1
      have hlt : B + 1 ≤ c := by
        by_cases e : B = c
        · exfalso; apply h1; rw [← HM.out, e, HI1.out]
        · omega
      clear h1
      go_wp2
      exact ⟨⟨B + 1, rfl, by omega, hlt, HE2⟩, by simp only [intOf]; omega⟩
set_option maxHeartbeats 1000000 in
theorem s_prim (b : Nat) (P : Int) (d : Nat) (v : Value) (cs : List Int) (w0 : World) (hF : FldOk P d cs) (hf : FldAt w0 b P d v) (h : Rd w0 v (cs ++ [1])) (hq64 : P ^ cs.length ≤ 64) (hG : FldG P cs) :
    Calls Try.prog 74 #[.pointer (some ⟨b, 0, none⟩)] w0 fun e w' => e = .returned (.int .i64 (primV P cs)) ∧ Ext w0 w' := by
  have HFK := Lib.hid hF
  obtain ⟨p1, p2, d1, d2, hcs, hcm⟩ := hF
  have HCS := Lib.hid hcs
  obtain ⟨q, HQ⟩ : ∃ q, Hid (q = P ^ cs.length) := ⟨_, Lib.hid rfl⟩
  have hq2 : 2 ≤ q := by rw [HQ.out]; exact q_ge p1 (by omega)
  clear hcs hcm
  have hq64' : q ≤ 64 := by rw [HQ.out]; exact hq64
  have HQ64 : Hid (P ^ cs.length ≤ 64) := Lib.hid hq64
  have HG := Lib.hid hG
  have HQD : Hid (P ^ d = q) := Lib.hid (by rw [HQ.out, HCS.out])
  have HUP : Hid (upW P (d : Int).toNat 1 = q) := Lib.hid (by
    have := (upW_pow p1 d 1 (by omega)).1 (by rw [Int.one_mul, HQD.out]; exact hq64')
    rw [Int.toNat_natCast, this, Int.one_mul, HQD.out])
  obtain ⟨g, g1, g2, g3⟩ := hG
  have HPG := Lib.hid (primT_gen p1 (by rw [HCS.out]; exact d1) g1 g3)
  rw [← HQ.out] at g2
  clear g3 hq64
  have HF := Lib.hid hf
  have HRD := Lib.hid h
  have HE0 := Lib.hid (Ext.refl w0)
  clear h
  go_enter Try.func74, Try.ntmps74
  go_wp2
  go_loopw [3] (fun a' wr => ∃ (j : Nat), a' = .int .i64 ((j : Int) + 1) ∧ (j : Int) ≤ g - 1 ∧ Hid (upMid (primT P cs) (q - 1) j) ∧ Hid (Ext w0 wr)) (fun a' _ => (100 - intOf a').toNat)
  case atStart => exact ⟨0, rfl, by omega, Lib.hid (upMid_start _ _), Lib.hid (Ext.refl _)⟩
  case round =>
    obtain ⟨j, rfl, hj, hmid, hext⟩ := hrel
    go_wp2_with fail
    refine (s_ord b P d v cs ((j : Int) + 1) _ HFK.out (HF.out.ext hext.out) (HRD.out.ext hext.out) (by omega) (by rw [← HQ.out]; omega) HQ64.out HG.out).mono ?_
    rintro e w2 ⟨rfl, x2⟩
    have HE2 := Lib.hid (hext.out.trans x2)
    obtain ⟨O, HO⟩ : ∃ O, Hid (ordV P cs ((j : Int) + 1) = O) := ⟨_, Lib.hid rfl⟩
    rw [HO.out]
    clear x2
    go_wp2_with fail
    refine (s_size3 b P d v _ (HF.out.ext HE2.out) p1 p2 d2).mono ?_
    rintro e w3 ⟨rfl, x3⟩
    have HE3 := Lib.hid (HE2.out.drawn x3)
    rw [HQD.out]
    clear x3
    by_cases h1 : O = q - 1
    · have hb : (O != q - 1) = false := by simp [h1]
      have HR : Hid (primV P cs = (j : Int) + 1) := Lib.hid (by
        have h2 := upMid_hit (show (j : Int) < q - 1 by omega) hmid.out (by rw [primT, HO.out, ← HQ.out, h1]; simp)
        rw [primV, ← HQ.out, h2])
      have HEF := Lib.hid (HE0.out.trans HE3.out)
      clear hmid h1
      go_wp2
      go_ret
      exact ⟨ret_i64 HR.out.symm, HEF.out⟩
    · have hb : (O != q - 1) = true := by simpa using h1
      have HM : Hid (upMid (primT P cs) (q - 1) ((j : Int) + 1)) := Lib.hid (upMid_next (by omega) hmid.out (by rw [primT, HO.out, ← HQ.out, beq_eq_false_iff_ne]; exact h1))
      have hj2 : (j : Int) + 1 ≤ g - 1 := by
        by_cases e : (j : Int) = g - 1
        · exfalso
          have h3 := HPG.out
          rw [← e, primT, HO.out, ← HQ.out, beq_iff_eq] at h3
          exact h1 h3
        · omega
      clear hmid h1
      go_wp2
      exact ⟨⟨j + 1, by go_num, by omega, by rw [show ((j + 1 : Nat) : Int) = (j : Int) + 1 from by omega]; exact HM, HE3⟩, by simp only [intOf]; omega⟩
set_option maxHeartbeats 1000000 in
theorem i_prim (P : Int) (d : Nat) (v : Value) (cs : List Int) (w : World) (hF : FldOk P d cs) (h : Rd w v (cs ++ [1])) (hq64 : P ^ cs.length ≤ 64) (hG : FldG P cs) :
    Calls Try.prog 75 #[.agg #[.int .i64 P, .int .i64 d, v]] w fun e w' => e = .returned (.int .i64 (primV P cs)) ∧ Ext w w' := by
  have HFK := Lib.hid hF
  obtain ⟨p1, p2, d1, d2, hcs, hcm⟩ := hF
  have HCS := Lib.hid hcs
  obtain ⟨q, HQ⟩ : ∃ q, Hid (q = P ^ cs.length) := ⟨_, Lib.hid rfl⟩
  have hq2 : 2 ≤ q := by rw [HQ.out]; exact q_ge p1 (by omega)
  clear hcs hcm
  have hq64' : q ≤ 64 := by rw [HQ.out]; exact hq64
  have HQ64 : Hid (P ^ cs.length ≤ 64) := Lib.hid hq64
  have HG := Lib.hid hG
  have HQD : Hid (P ^ d = q) := Lib.hid (by rw [HQ.out, HCS.out])
  have HUP : Hid (upW P (d : Int).toNat 1 = q) := Lib.hid (by
    have := (upW_pow p1 d 1 (by omega)).1 (by rw [Int.one_mul, HQD.out]; exact hq64')
    rw [Int.toNat_natCast, this, Int.one_mul, HQD.out])
  obtain ⟨g, g1, g2, g3⟩ := hG
  have HPG := Lib.hid (primT_gen p1 (by rw [HCS.out]; exact d1) g1 g3)
  rw [← HQ.out] at g2
  clear g3 hq64
  have HF1 := Lib.hid (FldAt.new w P d v 27)
  have HE1 := Lib.hid (ext_alloc w (.cells #[.int .i64 P, .int .i64 d, v] 27))
  have HRD1 := Lib.hid (h.ext HE1.out)
  clear h
  go_enter Try.func75, Try.ntmps75
  go_wp2_with fail
  refine (i_fieldSize P d v _ p1 (by omega) (by omega) (by omega)).mono ?_
  rintro e w0 ⟨rfl, x1⟩
  rw [HUP.out]
  have HF := Lib.hid (HF1.out.ext x1)
  have HE0 := Lib.hid (HE1.out.trans x1)
  have HRD := Lib.hid (HRD1.out.ext x1)
  clear x1
  go_wp2
  go_loopw [3] (fun a' wr => ∃ (j : Nat), a' = .int .i64 ((j : Int) + 1) ∧ (j : Int) ≤ g - 1 ∧ Hid (upMid (primT P cs) (q - 1) j) ∧ Hid (Ext w0 wr)) (fun a' _ => (100 - intOf a').toNat)
  case atStart => exact ⟨0, rfl, by omega, Lib.hid (upMid_start _ _), Lib.hid (Ext.refl _)⟩
  case round =>
    obtain ⟨j, rfl, hj, hmid, hext⟩ := hrel
    obtain ⟨_, c0, c1, c2⟩ := HF.out.ext hext.out
    go_wp2_with fail
    refine (i_ord P d v cs ((j : Int) + 1) _ HFK.out (HRD.out.ext hext.out) (by omega) (by rw [← HQ.out]; omega) HQ64.out HG.out).mono ?_
    rintro e w3 ⟨rfl, x2⟩
    have HE3 := Lib.hid (hext.out.trans x2)
    obtain ⟨O, HO⟩ : ∃ O, Hid (ordV P cs ((j : Int) + 1) = O) := ⟨_, Lib.hid rfl⟩
    rw [HO.out]
    clear x2 c0 c1 c2
    by_cases h1 : O = q - 1
    · have hb : (O != q - 1) = false := by simp [h1]
      have HR : Hid (primV P cs = (j : Int) + 1) := Lib.hid (by
        have h2 := upMid_hit (show (j : Int) < q - 1 by omega) hmid.out (by rw [primT, HO.out, ← HQ.out, h1]; simp)
        rw [primV, ← HQ.out, h2])
      have HEF := Lib.hid (HE0.out.trans HE3.out)
      clear hmid h1
      go_wp2
      go_ret
      exact ⟨ret_i64 HR.out.symm, HEF.out⟩
    · have hb : (O != q - 1) = true := by simpa using h1
      have HM : Hid (upMid (primT P cs) (q - 1) ((j : Int) + 1)) := Lib.hid (upMid_next (by omega) hmid.out (by rw [primT, HO.out, ← HQ.out, beq_eq_false_iff_ne]; exact h1))
      have hj2 : (j : Int) + 1 ≤ g - 1 := by
        by_cases e : (j : Int) = g - 1
        · exfalso
          have h3 := HPG.out
          rw [← e, primT, HO.out, ← HQ.out, beq_iff_eq] at h3
          exact h1 h3
        · omega
      clear hmid h1
      go_wp2
      exact ⟨⟨j + 1, by go_num, by omega, by rw [show ((j + 1 : Nat) : Int) = (j : Int) + 1 from by omega]; exact HM, HE3⟩, by simp only [intOf]; omega⟩
end Go.Proofs.Ytafaecpmffmfgaa
