/- FieldOrder, FieldInverse, FieldPower, PrimitiveElement, FieldTrace: the walks of the program and of the reference. No condition. -/
import Derived.Test.YtafaecpmffmfgaaFldTop
import Derived.Test.YtafaecpmffmfgaaFldPow
import Derived.IntWalk
namespace Go.Proofs.Ytafaecpmffmfgaa
open Go.RowKit

theorem fld_facts {P D : Int} {xs : List Int} (h : fieldB P D xs = true) : ∃ d : Nat, D = (d : Int) ∧ FldOk P d (xs.take d) ∧ xs = xs.take d ++ [1] ∧ P ^ (xs.take d).length ≤ 64 ∧ FldG P (xs.take d) ∧ (xs.take d).length = d := by
  obtain ⟨a1, a2, a3, a4, a5, _, _⟩ := fieldB_q h
  obtain ⟨h1, h2, h3⟩ := fieldB_cs h
  obtain ⟨k1, _, _, _, k5⟩ := fieldB_ok h
  obtain ⟨d, rfl⟩ : ∃ d : Nat, D = (d : Int) := ⟨D.toNat, by omega⟩
  rw [Int.toNat_natCast] at h1 h2 h3 a5
  refine ⟨d, rfl, ⟨a1, a2, by omega, by omega, h2, h3⟩, h1, by rw [h2]; exact a5, ?_, h2⟩
  rw [h1] at k5
  exact okPD_gen k1 (by rw [h2]) h3 k5
def outOrder (P D : Int) (xs : List Int) (a : Int) : Int := if elB P D xs [a] && !(a == 0) then ordV P (xs.take D.toNat) a else -1
def outInverse (P D : Int) (xs : List Int) (a : Int) : Int := if elB P D xs [a] && !(a == 0) then pwN P (xs.take D.toNat) a ((P ^ (xs.take D.toNat).length).toNat - 2) else -1
def outPower (P D : Int) (xs : List Int) (a n : Int) : Int := if elB P D xs [a] && decide (0 ≤ n) then pwN P (xs.take D.toNat) a n.toNat else -1
def outPrimitive (P D : Int) (xs : List Int) : Int := if fieldB P D xs then primV P (xs.take D.toNat) else -1
/-- The sum and the last power, behind k rounds. -/
def trL (P : Int) (d : Nat) (cs : List Int) (a : Int) : Nat → Int × Int
  | 0 => (0, a)
  | k + 1 => (sumN P 1 d (trL P d cs a k).1 (trL P d cs a k).2, pwN P cs (trL P d cs a k).2 P.toNat)
theorem trL_bd {P : Int} {d : Nat} {cs : List Int} {a : Int} (hF : FldOk P d cs) (ha : 0 ≤ a) (ha2 : a < P ^ d) (hq : P ^ d ≤ 64) : ∀ k, 0 ≤ (trL P d cs a k).1 ∧ (trL P d cs a k).1 ≤ 63 ∧ 0 ≤ (trL P d cs a k).2 ∧ (trL P d cs a k).2 < P ^ cs.length
  | 0 => by rw [hF.2.2.2.2.1]; exact ⟨by simp [trL], by simp [trL], ha, ha2⟩
  | k + 1 => by
    have h1 := sumN_bd (P := P) (by have := hF.1; omega) 1 d (trL P d cs a k).1 (trL P d cs a k).2
    have h2 := pwN_bd (cs := cs) hF.1 (by rw [hF.2.2.2.2.1]; exact hF.2.2.1) (trL P d cs a k).2 P.toNat
    exact ⟨h1.1, by show sumN _ _ _ _ _ ≤ 63; omega, h2.1, h2.2⟩
def outTrace (P D : Int) (xs : List Int) (a : Int) : Int := if elB P D xs [a] then (trL P D.toNat (xs.take D.toNat) a D.toNat).1 else -1
set_option maxHeartbeats 1000000 in
theorem s_FieldOrder (P D : Int) (v : Value) (xs : List Int) (a : Int) (w : World) (h : Rd w v xs) (hsn : Sane v) (_hn : xs.length ≤ 100000000) (_hD : D ≤ 9223372036854775807) :
    Calls Try.prog 33 #[.agg #[.int .i64 P, .int .i64 D, v], .int .i64 a] w fun e w' => e = .returned (.int .i64 (outOrder P D xs a)) ∧ Ext w w' := by
  have HRD := Lib.hid h
  have HF := Lib.hid (FldAt.new w P D v 27)
  have HE0 := Lib.hid (ext_alloc w (.cells #[.int .i64 P, .int .i64 D, v] 27))
  clear h
  cases hb0 : elB P D xs [a]
  · have G : Hid (outOrder P D xs a = -1) := Lib.hid (by rw [outOrder, hb0]; rfl)
    go_enter Try.func33, Try.ntmps33
    go_wp2_with fail
    refine (s_has _ P D v xs a 0 _ HF.out (HRD.out.ext HE0.out) hsn).mono ?_
    rintro e w1 ⟨rfl, x1⟩
    rw [elB_zero, hb0]
    go_wp2
    go_ret
    exact ⟨ret_i64 G.out.symm, HE0.out.trans x1⟩
  · obtain ⟨hb, hel⟩ := elB_t hb0
    obtain ⟨d, rfl, hFK, hxs, hq64, hG, hlen⟩ := fld_facts hb
    have ha := hel a (by simp)
    rw [Int.toNat_natCast] at ha
    have HFK := Lib.hid hFK
    have HXS := Lib.hid hxs
    have HG := Lib.hid hG
    have HQ64 : Hid (P ^ (xs.take d).length ≤ 64) := Lib.hid hq64
    have HA2 : Hid (a < P ^ (xs.take d).length) := Lib.hid (by rw [hlen]; exact ha.2)
    have ha63 : a ≤ 63 := by rw [hlen] at hq64; omega
    have ha0 := ha.1
    have HLEN := Lib.hid hlen
    have HB0 := Lib.hid hb0
    obtain ⟨p1, p2, d1, d2, _, _⟩ := hFK
    clear hel hxs hG hq64 hlen ha hb hb0
    by_cases hc : a = 0
    · have hz : (a == 0) = true := by simp [hc]
      have G : Hid (outOrder P (d : Int) xs a = -1) := Lib.hid (by rw [outOrder, HB0.out]; simp [hc])
      clear hc
      go_enter Try.func33, Try.ntmps33
      go_wp2_with fail
      refine (s_has _ P d v xs a 0 _ HF.out (HRD.out.ext HE0.out) hsn).mono ?_
      rintro e w1 ⟨rfl, x1⟩
      rw [elB_zero, HB0.out]
      go_wp2
      go_ret
      exact ⟨ret_i64 G.out.symm, HE0.out.trans x1⟩
    · have hz : (a == 0) = false := by simpa using hc
      have ha1 : 1 ≤ a := by omega
      have G : Hid (outOrder P (d : Int) xs a = ordV P (xs.take d) a) := Lib.hid (by rw [outOrder, HB0.out]; simp [hc])
      clear hc
      go_enter Try.func33, Try.ntmps33
      go_wp2_with fail
      refine (s_has _ P d v xs a 0 _ HF.out (HRD.out.ext HE0.out) hsn).mono ?_
      rintro e w1 ⟨rfl, x1⟩
      rw [elB_zero, HB0.out]
      have HE1 := Lib.hid (HE0.out.trans x1)
      have HF1 := Lib.hid (HF.out.ext x1)
      clear x1
      go_wp2_with fail
      refine (s_ord _ P d v (xs.take d) a _ HFK.out HF1.out (by rw [← HXS.out]; exact HRD.out.ext HE1.out) ha1 HA2.out HQ64.out HG.out).mono ?_
      rintro e w2 ⟨rfl, x2⟩
      go_wp2
      go_ret
      exact ⟨ret_i64 G.out.symm, HE1.out.trans x2⟩
set_option maxHeartbeats 1000000 in
theorem i_FieldOrder (P D : Int) (v : Value) (xs : List Int) (a : Int) (w : World) (h : Rd w v xs) (hn : xs.length ≤ 100000000) (hD : D ≤ 9223372036854775807) :
    Calls Try.prog 34 #[.agg #[.int .i64 P, .int .i64 D, v], .int .i64 a] w fun e w' => e = .returned (.int .i64 (outOrder P D xs a)) ∧ Ext w w' := by
  have HRD := Lib.hid h
  have HF := Lib.hid (FldAt.new w P D v 27)
  have HE0 := Lib.hid ((ext_alloc w (.cells #[.int .i64 P, .int .i64 D, v] 27)).trans (ext_alloc _ (.cells #[.int .i64 a] 2)))
  clear h
  cases hb0 : elB P D xs [a]
  · have G : Hid (outOrder P D xs a = -1) := Lib.hid (by rw [outOrder, hb0]; rfl)
    go_enter Try.func34, Try.ntmps34
    go_wp2_with fail
    refine (i_are P D v _ xs [a] _ ?h1 ?h2 hn hD).mono ?_
    case h1 => exact HRD.out.ext HE0.out
    case h2 => exact rd_lit1o _ _ a _
    rintro e w1 ⟨rfl, x1⟩
    rw [hb0]
    go_wp2
    go_ret
    exact ⟨ret_i64 G.out.symm, HE0.out.trans x1⟩
  · obtain ⟨hb, hel⟩ := elB_t hb0
    obtain ⟨d, rfl, hFK, hxs, hq64, hG, hlen⟩ := fld_facts hb
    have ha := hel a (by simp)
    rw [Int.toNat_natCast] at ha
    have HFK := Lib.hid hFK
    have HXS := Lib.hid hxs
    have HG := Lib.hid hG
    have HQ64 : Hid (P ^ (xs.take d).length ≤ 64) := Lib.hid hq64
    have HA2 : Hid (a < P ^ (xs.take d).length) := Lib.hid (by rw [hlen]; exact ha.2)
    have ha63 : a ≤ 63 := by rw [hlen] at hq64; omega
    have ha0 := ha.1
    have HLEN := Lib.hid hlen
    have HB0 := Lib.hid hb0
    obtain ⟨p1, p2, d1, d2, _, _⟩ := hFK
    clear hel hxs hG hq64 hlen ha hb hb0
    by_cases hc : a = 0
    · have hz : (a == 0) = true := by simp [hc]
      have G : Hid (outOrder P (d : Int) xs a = -1) := Lib.hid (by rw [outOrder, HB0.out]; simp [hc])
      clear hc
      go_enter Try.func34, Try.ntmps34
      go_wp2_with fail
      refine (i_are P d v _ xs [a] _ ?h1 ?h2 hn hD).mono ?_
      case h1 => exact HRD.out.ext HE0.out
      case h2 => exact rd_lit1o _ _ a _
      rintro e w1 ⟨rfl, x1⟩
      rw [HB0.out]
      go_wp2
      go_ret
      exact ⟨ret_i64 G.out.symm, HE0.out.trans x1⟩
    · have hz : (a == 0) = false := by simpa using hc
      have ha1 : 1 ≤ a := by omega
      have G : Hid (outOrder P (d : Int) xs a = ordV P (xs.take d) a) := Lib.hid (by rw [outOrder, HB0.out]; simp [hc])
      clear hc
      go_enter Try.func34, Try.ntmps34
      go_wp2_with fail
      refine (i_are P d v _ xs [a] _ ?h1 ?h2 hn hD).mono ?_
      case h1 => exact HRD.out.ext HE0.out
      case h2 => exact rd_lit1o _ _ a _
      rintro e w1 ⟨rfl, x1⟩
      rw [HB0.out]
      have HE1 := Lib.hid (HE0.out.trans x1)
      have HF1 := Lib.hid (HF.out.ext ((ext_alloc _ (.cells #[.int .i64 a] 2)).trans x1))
      clear x1
      obtain ⟨_, c0, c1, c2⟩ := HF1.out
      go_wp2_with fail
      refine (i_ord P d v (xs.take d) a _ HFK.out (by rw [← HXS.out]; exact HRD.out.ext HE1.out) ha1 HA2.out HQ64.out HG.out).mono ?_
      rintro e w2 ⟨rfl, x2⟩
      go_wp2
      go_ret
      exact ⟨ret_i64 G.out.symm, HE1.out.trans x2⟩
set_option maxHeartbeats 1000000 in
theorem s_FieldPower (P D : Int) (v : Value) (xs : List Int) (a n : Int) (hn2 : n ≤ 9223372036854775807) (w : World) (h : Rd w v xs) (hsn : Sane v) (_hn : xs.length ≤ 100000000) (_hD : D ≤ 9223372036854775807) :
    Calls Try.prog 39 #[.agg #[.int .i64 P, .int .i64 D, v], .int .i64 a, .int .i64 n] w fun e w' => e = .returned (.int .i64 (outPower P D xs a n)) ∧ Ext w w' := by
  have HRD := Lib.hid h
  have HF := Lib.hid (FldAt.new w P D v 27)
  have HE0 := Lib.hid (ext_alloc w (.cells #[.int .i64 P, .int .i64 D, v] 27))
  clear h
  cases hb0 : elB P D xs [a]
  · have G : Hid (outPower P D xs a n = -1) := Lib.hid (by rw [outPower, hb0]; rfl)
    go_enter Try.func39, Try.ntmps39
    go_wp2_with fail
    refine (s_has _ P D v xs a 0 _ HF.out (HRD.out.ext HE0.out) hsn).mono ?_
    rintro e w1 ⟨rfl, x1⟩
    rw [elB_zero, hb0]
    go_wp2
    go_ret
    exact ⟨ret_i64 G.out.symm, HE0.out.trans x1⟩
  · obtain ⟨hb, hel⟩ := elB_t hb0
    obtain ⟨d, rfl, hFK, hxs, hq64, hG, hlen⟩ := fld_facts hb
    have ha := hel a (by simp)
    rw [Int.toNat_natCast] at ha
    have HFK := Lib.hid hFK
    have HXS := Lib.hid hxs
    have HG := Lib.hid hG
    have HQ64 : Hid (P ^ (xs.take d).length ≤ 64) := Lib.hid hq64
    have HA2 : Hid (a < P ^ (xs.take d).length) := Lib.hid (by rw [hlen]; exact ha.2)
    have ha63 : a ≤ 63 := by rw [hlen] at hq64; omega
    have ha0 := ha.1
    have HLEN := Lib.hid hlen
    have HB0 := Lib.hid hb0
    obtain ⟨p1, p2, d1, d2, _, _⟩ := hFK
    clear hel hxs hG hq64 hlen ha hb hb0
    by_cases hc : n < 0
    · have hn0 : ¬ 0 ≤ n := by omega
      have G : Hid (outPower P (d : Int) xs a n = -1) := Lib.hid (by rw [outPower, HB0.out]; simp [hn0])
      clear hn0
      go_enter Try.func39, Try.ntmps39
      go_wp2_with fail
      refine (s_has _ P d v xs a 0 _ HF.out (HRD.out.ext HE0.out) hsn).mono ?_
      rintro e w1 ⟨rfl, x1⟩
      rw [elB_zero, HB0.out]
      go_wp2
      go_ret
      exact ⟨ret_i64 G.out.symm, HE0.out.trans x1⟩
    · have hn0 : 0 ≤ n := by omega
      have G : Hid (outPower P (d : Int) xs a n = pwN P (xs.take d) a n.toNat) := Lib.hid (by rw [outPower, HB0.out]; simp [hn0])
      clear hc
      go_enter Try.func39, Try.ntmps39
      go_wp2_with fail
      refine (s_has _ P d v xs a 0 _ HF.out (HRD.out.ext HE0.out) hsn).mono ?_
      rintro e w1 ⟨rfl, x1⟩
      rw [elB_zero, HB0.out]
      have HE1 := Lib.hid (HE0.out.trans x1)
      have HF1 := Lib.hid (HF.out.ext x1)
      clear x1
      go_wp2_with fail
      refine (s_pow _ P d v (xs.take d) a n _ HFK.out HF1.out (by rw [← HXS.out]; exact HRD.out.ext HE1.out) ha0 HA2.out HQ64.out hn0 hn2).mono ?_
      rintro e w2 ⟨rfl, x2⟩
      go_wp2
      go_ret
      exact ⟨ret_i64 G.out.symm, HE1.out.trans x2⟩
set_option maxHeartbeats 1000000 in
theorem i_FieldPower (P D : Int) (v : Value) (xs : List Int) (a n : Int) (hn2 : n ≤ 9223372036854775807) (w : World) (h : Rd w v xs) (hn : xs.length ≤ 100000000) (hD : D ≤ 9223372036854775807) :
    Calls Try.prog 40 #[.agg #[.int .i64 P, .int .i64 D, v], .int .i64 a, .int .i64 n] w fun e w' => e = .returned (.int .i64 (outPower P D xs a n)) ∧ Ext w w' := by
  have HRD := Lib.hid h
  have HF := Lib.hid (FldAt.new w P D v 27)
  have HE0 := Lib.hid ((ext_alloc w (.cells #[.int .i64 P, .int .i64 D, v] 27)).trans (ext_alloc _ (.cells #[.int .i64 a] 2)))
  clear h
  cases hb0 : elB P D xs [a]
  · have G : Hid (outPower P D xs a n = -1) := Lib.hid (by rw [outPower, hb0]; rfl)
    go_enter Try.func40, Try.ntmps40
    go_wp2_with fail
    refine (i_are P D v _ xs [a] _ ?h1 ?h2 hn hD).mono ?_
    case h1 => exact HRD.out.ext HE0.out
    case h2 => exact rd_lit1o _ _ a _
    rintro e w1 ⟨rfl, x1⟩
    rw [hb0]
    go_wp2
    go_ret
    exact ⟨ret_i64 G.out.symm, HE0.out.trans x1⟩
  · obtain ⟨hb, hel⟩ := elB_t hb0
    obtain ⟨d, rfl, hFK, hxs, hq64, hG, hlen⟩ := fld_facts hb
    have ha := hel a (by simp)
    rw [Int.toNat_natCast] at ha
    have HFK := Lib.hid hFK
    have HXS := Lib.hid hxs
    have HG := Lib.hid hG
    have HQ64 : Hid (P ^ (xs.take d).length ≤ 64) := Lib.hid hq64
    have HA2 : Hid (a < P ^ (xs.take d).length) := Lib.hid (by rw [hlen]; exact ha.2)
    have ha63 : a ≤ 63 := by rw [hlen] at hq64; omega
    have ha0 := ha.1
    have HLEN := Lib.hid hlen
    have HB0 := Lib.hid hb0
    obtain ⟨p1, p2, d1, d2, _, _⟩ := hFK
    clear hel hxs hG hq64 hlen ha hb hb0
    by_cases hc : n < 0
    · have hn0 : ¬ 0 ≤ n := by omega
      have G : Hid (outPower P (d : Int) xs a n = -1) := Lib.hid (by rw [outPower, HB0.out]; simp [hn0])
      clear hn0
      go_enter Try.func40, Try.ntmps40
      go_wp2_with fail
      refine (i_are P d v _ xs [a] _ ?h1 ?h2 hn hD).mono ?_
      case h1 => exact HRD.out.ext HE0.out
      case h2 => exact rd_lit1o _ _ a _
      rintro e w1 ⟨rfl, x1⟩
      rw [HB0.out]
      go_wp2
      go_ret
      exact ⟨ret_i64 G.out.symm, HE0.out.trans x1⟩
    · have hn0 : 0 ≤ n := by omega
      have G : Hid (outPower P (d : Int) xs a n = pwN P (xs.take d) a n.toNat) := Lib.hid (by rw [outPower, HB0.out]; simp [hn0])
      clear hc
      go_enter Try.func40, Try.ntmps40
      go_wp2_with fail
      refine (i_are P d v _ xs [a] _ ?h1 ?h2 hn hD).mono ?_
      case h1 => exact HRD.out.ext HE0.out
      case h2 => exact rd_lit1o _ _ a _
      rintro e w1 ⟨rfl, x1⟩
      rw [HB0.out]
      have HE1 := Lib.hid (HE0.out.trans x1)
      have HF1 := Lib.hid (HF.out.ext ((ext_alloc _ (.cells #[.int .i64 a] 2)).trans x1))
      clear x1
      obtain ⟨_, c0, c1, c2⟩ := HF1.out
      go_wp2_with fail
      refine (i_pow P d v (xs.take d) a n _ HFK.out (by rw [← HXS.out]; exact HRD.out.ext HE1.out) ha0 HA2.out HQ64.out hn0 hn2).mono ?_
      rintro e w2 ⟨rfl, x2⟩
      go_wp2
      go_ret
      exact ⟨ret_i64 G.out.symm, HE1.out.trans x2⟩
set_option maxHeartbeats 1000000 in
theorem s_FieldInverse (P D : Int) (v : Value) (xs : List Int) (a : Int) (w : World) (h : Rd w v xs) (hsn : Sane v) (_hn : xs.length ≤ 100000000) (_hD : D ≤ 9223372036854775807) :
    Calls Try.prog 35 #[.agg #[.int .i64 P, .int .i64 D, v], .int .i64 a] w fun e w' => e = .returned (.int .i64 (outInverse P D xs a)) ∧ Ext w w' := by
  have HRD := Lib.hid h
  have HF := Lib.hid (FldAt.new w P D v 27)
  have HE0 := Lib.hid (ext_alloc w (.cells #[.int .i64 P, .int .i64 D, v] 27))
  clear h
  cases hb0 : elB P D xs [a]
  · have G : Hid (outInverse P D xs a = -1) := Lib.hid (by rw [outInverse, hb0]; rfl)
    go_enter Try.func35, Try.ntmps35
    go_wp2_with fail
    refine (s_has _ P D v xs a 0 _ HF.out (HRD.out.ext HE0.out) hsn).mono ?_
    rintro e w1 ⟨rfl, x1⟩
    rw [elB_zero, hb0]
    go_wp2
    go_ret
    exact ⟨ret_i64 G.out.symm, HE0.out.trans x1⟩
  · obtain ⟨hb, hel⟩ := elB_t hb0
    obtain ⟨d, rfl, hFK, hxs, hq64, hG, hlen⟩ := fld_facts hb
    have ha := hel a (by simp)
    rw [Int.toNat_natCast] at ha
    have HFK := Lib.hid hFK
    have HXS := Lib.hid hxs
    have HG := Lib.hid hG
    have HQ64 : Hid (P ^ (xs.take d).length ≤ 64) := Lib.hid hq64
    have HA2 : Hid (a < P ^ (xs.take d).length) := Lib.hid (by rw [hlen]; exact ha.2)
    have ha63 : a ≤ 63 := by rw [hlen] at hq64; omega
    have ha0 := ha.1
    have HLEN := Lib.hid hlen
    have HB0 := Lib.hid hb0
    obtain ⟨p1, p2, d1, d2, _, _⟩ := hFK
    clear hel hxs hG hq64 hlen ha hb hb0
    by_cases hc : a = 0
    · have hz : (a == 0) = true := by simp [hc]
      have G : Hid (outInverse P (d : Int) xs a = -1) := Lib.hid (by rw [outInverse, HB0.out]; simp [hc])
      clear hc
      go_enter Try.func35, Try.ntmps35
      go_wp2_with fail
      refine (s_has _ P d v xs a 0 _ HF.out (HRD.out.ext HE0.out) hsn).mono ?_
      rintro e w1 ⟨rfl, x1⟩
      rw [elB_zero, HB0.out]
      go_wp2
      go_ret
      exact ⟨ret_i64 G.out.symm, HE0.out.trans x1⟩
    · have hz : (a == 0) = false := by simpa using hc
      have ha1 : 1 ≤ a := by omega
      have G : Hid (outInverse P (d : Int) xs a = pwN P (xs.take d) a ((P ^ (xs.take d).length).toNat - 2)) := Lib.hid (by rw [outInverse, HB0.out]; simp [hc])
      clear hc
      go_enter Try.func35, Try.ntmps35
      go_wp2_with fail
      refine (s_has _ P d v xs a 0 _ HF.out (HRD.out.ext HE0.out) hsn).mono ?_
      rintro e w1 ⟨rfl, x1⟩
      rw [elB_zero, HB0.out]
      have HE1 := Lib.hid (HE0.out.trans x1)
      have HF1 := Lib.hid (HF.out.ext x1)
      clear x1
      go_wp2_with fail
      refine (s_inv _ P d v (xs.take d) a _ HFK.out HF1.out (by rw [← HXS.out]; exact HRD.out.ext HE1.out) ha1 HA2.out HQ64.out HG.out).mono ?_
      rintro e w2 ⟨rfl, x2⟩
      rw [← G.out]
      go_wp2
      go_ret
      exact ⟨rfl, HE1.out.trans x2⟩
set_option maxHeartbeats 1000000 in
theorem i_FieldInverse (P D : Int) (v : Value) (xs : List Int) (a : Int) (w : World) (h : Rd w v xs) (hn : xs.length ≤ 100000000) (hD : D ≤ 9223372036854775807) :
    Calls Try.prog 36 #[.agg #[.int .i64 P, .int .i64 D, v], .int .i64 a] w fun e w' => e = .returned (.int .i64 (outInverse P D xs a)) ∧ Ext w w' := by
  have HRD := Lib.hid h
  have HF := Lib.hid (FldAt.new w P D v 27)
  have HE0 := Lib.hid ((ext_alloc w (.cells #[.int .i64 P, .int .i64 D, v] 27)).trans (ext_alloc _ (.cells #[.int .i64 a] 2)))
  clear h
  cases hb0 : elB P D xs [a]
  · have G : Hid (outInverse P D xs a = -1) := Lib.hid (by rw [outInverse, hb0]; rfl)
    go_enter Try.func36, Try.ntmps36
    go_wp2_with fail
    refine (i_are P D v _ xs [a] _ ?h1 ?h2 hn hD).mono ?_
    case h1 => exact HRD.out.ext HE0.out
    case h2 => exact rd_lit1o _ _ a _
    rintro e w1 ⟨rfl, x1⟩
    rw [hb0]
    go_wp2
    go_ret
    exact ⟨ret_i64 G.out.symm, HE0.out.trans x1⟩
  · obtain ⟨hb, hel⟩ := elB_t hb0
    obtain ⟨d, rfl, hFK, hxs, hq64, hG, hlen⟩ := fld_facts hb
    have ha := hel a (by simp)
    rw [Int.toNat_natCast] at ha
    have HFK := Lib.hid hFK
    have HXS := Lib.hid hxs
    have HG := Lib.hid hG
    have HQ64 : Hid (P ^ (xs.take d).length ≤ 64) := Lib.hid hq64
    have HA2 : Hid (a < P ^ (xs.take d).length) := Lib.hid (by rw [hlen]; exact ha.2)
    have ha63 : a ≤ 63 := by rw [hlen] at hq64; omega
    have ha0 := ha.1
    have HLEN := Lib.hid hlen
    have HB0 := Lib.hid hb0
    obtain ⟨p1, p2, d1, d2, _, _⟩ := hFK
    clear hel hxs hG hq64 hlen ha hb hb0
    by_cases hc : a = 0
    · have hz : (a == 0) = true := by simp [hc]
      have G : Hid (outInverse P (d : Int) xs a = -1) := Lib.hid (by rw [outInverse, HB0.out]; simp [hc])
      clear hc
      go_enter Try.func36, Try.ntmps36
      go_wp2_with fail
      refine (i_are P d v _ xs [a] _ ?h1 ?h2 hn hD).mono ?_
      case h1 => exact HRD.out.ext HE0.out
      case h2 => exact rd_lit1o _ _ a _
      rintro e w1 ⟨rfl, x1⟩
      rw [HB0.out]
      go_wp2
      go_ret
      exact ⟨ret_i64 G.out.symm, HE0.out.trans x1⟩
    · have hz : (a == 0) = false := by simpa using hc
      have ha1 : 1 ≤ a := by omega
      have G : Hid (outInverse P (d : Int) xs a = pwN P (xs.take d) a ((P ^ (xs.take d).length).toNat - 2)) := Lib.hid (by rw [outInverse, HB0.out]; simp [hc])
      clear hc
      go_enter Try.func36, Try.ntmps36
      go_wp2_with fail
      refine (i_are P d v _ xs [a] _ ?h1 ?h2 hn hD).mono ?_
      case h1 => exact HRD.out.ext HE0.out
      case h2 => exact rd_lit1o _ _ a _
      rintro e w1 ⟨rfl, x1⟩
      rw [HB0.out]
      have HE1 := Lib.hid (HE0.out.trans x1)
      have HF1 := Lib.hid (HF.out.ext ((ext_alloc _ (.cells #[.int .i64 a] 2)).trans x1))
      clear x1
      obtain ⟨q, HQ⟩ : ∃ q, Hid (q = P ^ (xs.take d).length) := ⟨_, Lib.hid rfl⟩
      have hq2 : 2 ≤ q ∧ q ≤ 64 := by rw [HQ.out]; exact ⟨q_ge p1 (by rw [HLEN.out]; exact d1), HQ64.out⟩
      obtain ⟨q2, q3⟩ := hq2
      have HUP : Hid (upW P (d : Int).toNat 1 = q) := Lib.hid (by
        have := (upW_pow p1 d 1 (by omega)).1 (by rw [Int.one_mul, ← HLEN.out]; exact HQ64.out)
        rw [Int.toNat_natCast, this, Int.one_mul, HQ.out, HLEN.out])
      have HV : Hid (pwN P (xs.take d) a (q - 2).toNat = outInverse P (d : Int) xs a) := Lib.hid (by rw [G.out, ← HQ.out]; congr 1; omega)
      have hwr : IntKind.i64.wrap (q - 2) = q - 2 := IntWalk.i64_in _ (by omega)
      obtain ⟨_, c0, c1, c2⟩ := HF1.out
      go_wp2
      go_region_held3 (fun w' => Ext w1 w' ∧ w'.cell? ⟨w.heap.size, 0, none⟩ = some (.int .i64 P) ∧ w'.cell? ⟨w.heap.size, 1, none⟩ = some (.int .i64 d) ∧ w'.cell? ⟨w.heap.size, 2, none⟩ = some v) (first | exact ⟨Ext.drewN (Ext.refl _) 1, c0, c1, c2⟩ | exact ⟨x3, (HF1.out.ext x3).2.1, (HF1.out.ext x3).2.2.1, (HF1.out.ext x3).2.2.2⟩ | exact ⟨x2, (HF1.out.ext x2).2.1, (HF1.out.ext x2).2.2.1, (HF1.out.ext x2).2.2.2⟩)
        (first | (go_at_call 63; refine (i_fieldSize P d v _ p1 (by omega) (by omega) hD).mono ?_; rintro e w2 ⟨rfl, y2⟩; rw [HUP.out]; have x2 := Ext.trans (Ext.drewN (Ext.refl w1) 1) y2) | (go_at_call 73; refine (i_pow P d v (xs.take d) a (q - 2) _ HFK.out (by rw [← HXS.out]; exact HRD.out.ext (HE1.out.trans x2)) ha0 HA2.out HQ64.out (by omega) (by omega)).mono ?_; rintro e w3 ⟨rfl, y3⟩; rw [HV.out]; have x3 := Ext.trans x2 y3))
      go_wp2
      go_ret
      exact ⟨rfl, HE1.out.trans x3⟩
set_option maxHeartbeats 1000000 in
theorem s_FieldTrace (P D : Int) (v : Value) (xs : List Int) (a : Int) (w : World) (h : Rd w v xs) (hsn : Sane v) (_hn : xs.length ≤ 100000000) (_hD : D ≤ 9223372036854775807) :
    Calls Try.prog 41 #[.agg #[.int .i64 P, .int .i64 D, v], .int .i64 a] w fun e w' => e = .returned (.int .i64 (outTrace P D xs a)) ∧ Ext w w' := by
  have HRD := Lib.hid h
  have HF := Lib.hid (FldAt.new w P D v 27)
  have HE0 := Lib.hid (ext_alloc w (.cells #[.int .i64 P, .int .i64 D, v] 27))
  clear h
  cases hb0 : elB P D xs [a]
  · have G : Hid (outTrace P D xs a = -1) := Lib.hid (by rw [outTrace, hb0]; rfl)
    go_enter Try.func41, Try.ntmps41
    go_wp2_with fail
    refine (s_has _ P D v xs a 0 _ HF.out (HRD.out.ext HE0.out) hsn).mono ?_
    rintro e w1 ⟨rfl, x1⟩
    rw [elB_zero, hb0]
    go_wp2
    go_ret
    exact ⟨ret_i64 G.out.symm, HE0.out.trans x1⟩
  · obtain ⟨hb, hel⟩ := elB_t hb0
    obtain ⟨d, rfl, hFK, hxs, hq64, hG, hlen⟩ := fld_facts hb
    have ha := hel a (by simp)
    rw [Int.toNat_natCast] at ha
    have HFK := Lib.hid hFK
    have HXS := Lib.hid hxs
    have HG := Lib.hid hG
    have HQ64 : Hid (P ^ (xs.take d).length ≤ 64) := Lib.hid hq64
    have HA2 : Hid (a < P ^ (xs.take d).length) := Lib.hid (by rw [hlen]; exact ha.2)
    have ha63 : a ≤ 63 := by rw [hlen] at hq64; omega
    have ha0 := ha.1
    have HLEN := Lib.hid hlen
    have HB0 := Lib.hid hb0
    obtain ⟨p1, p2, d1, d2, _, _⟩ := hFK
    clear hel hxs hG hq64 hlen ha hb hb0
    have G : Hid (outTrace P (d : Int) xs a = (trL P d (xs.take d) a d).1) := Lib.hid (by rw [outTrace, HB0.out]; simp)
    go_enter Try.func41, Try.ntmps41
    go_wp2_with fail
    refine (s_has _ P d v xs a 0 _ HF.out (HRD.out.ext HE0.out) hsn).mono ?_
    rintro e w1 ⟨rfl, x1⟩
    rw [elB_zero, HB0.out]
    have HE1 := Lib.hid (HE0.out.trans x1)
    have HF1 := Lib.hid (HF.out.ext x1)
    clear x1
    have HBD := Lib.hid (trL_bd HFK.out ha0 (by rw [← HLEN.out]; exact HA2.out) (by rw [← HLEN.out]; exact HQ64.out))
    have HPT : Hid ((P : Int).toNat = P.toNat) := Lib.hid rfl
    go_wp2
    go_loopw [1, 5, 6] (fun a' s' k' wr => ∃ (k : Nat) (A S : Int), k ≤ d ∧ k' = .int .i64 k ∧ a' = .int .i64 A ∧ s' = .int .i64 S ∧ Hid (S = (trL P d (xs.take d) a k).1) ∧ Hid (A = (trL P d (xs.take d) a k).2) ∧ Hid (Ext w1 wr)) (fun _ _ k' _ => d - (intOf k').toNat)
    case atStart => exact ⟨0, a, 0, by omega, rfl, rfl, rfl, Lib.hid rfl, Lib.hid rfl, Lib.hid (Ext.refl _)⟩
    case round =>
      obtain ⟨k, A, S, hk, rfl, rfl, rfl, hS, hA, hext⟩ := hrel
      obtain ⟨_, c0, c1, c2⟩ := HF1.out.ext hext.out
      have HE2 := Lib.hid (HE1.out.trans hext.out)
      obtain ⟨b1, b2, b3, b4⟩ := HBD.out k
      rw [← hS.out] at b1 b2
      rw [← hA.out] at b3 b4
      have b5 : A ≤ 63 := by have := HQ64.out; omega
      have HA4 : Hid (A < P ^ (xs.take d).length) := Lib.hid b4
      clear b4
      by_cases hlt : k < d
      · go_wp2_with fail
        refine (s_sum _ P d v S A 1 _ p1 p2 d1 d2 (HF1.out.ext hext.out) b1 (by omega) b3 (by omega) (by omega) (by omega)).mono ?_
        rintro e w3 ⟨rfl, x3⟩
        have HE3 := Lib.hid (hext.out.trans x3)
        have HE3W := Lib.hid (HE1.out.trans HE3.out)
        clear x3 c0 c1 c2
        obtain ⟨_, c0, c1, c2⟩ := HF1.out.ext HE3.out
        go_wp2_with fail
        refine (s_pow _ P d v (xs.take d) A P _ HFK.out (HF1.out.ext HE3.out) (by rw [← HXS.out]; exact HRD.out.ext HE3W.out) b3 HA4.out HQ64.out (by omega) (by omega)).mono ?_
        rintro e w4 ⟨rfl, x4⟩
        have HE4 := Lib.hid (HE3.out.trans x4)
        have HS5 : Hid (sumN P 1 d S A = (trL P d (xs.take d) a (k + 1)).1) := Lib.hid (by rw [trL, ← hS.out, ← hA.out])
        have HA5 : Hid (pwN P (xs.take d) A P.toNat = (trL P d (xs.take d) a (k + 1)).2) := Lib.hid (by rw [trL, ← hA.out])
        clear x4 c0 c1 c2 hS hA
        go_wp2
        exact ⟨⟨k + 1, _, _, by omega, by go_num, rfl, rfl, HS5, HA5, HE4⟩, by simp only [intOf]; omega⟩
      · obtain rfl : k = d := by omega
        have HR : Hid (S = outTrace P (k : Int) xs a) := Lib.hid (by rw [G.out, hS.out])
        clear hS hA
        go_wp2
        go_ret
        exact ⟨ret_i64 HR.out, HE2.out⟩
set_option maxHeartbeats 1000000 in
theorem i_FieldTrace (P D : Int) (v : Value) (xs : List Int) (a : Int) (w : World) (h : Rd w v xs) (hn : xs.length ≤ 100000000) (hD : D ≤ 9223372036854775807) :
    Calls Try.prog 42 #[.agg #[.int .i64 P, .int .i64 D, v], .int .i64 a] w fun e w' => e = .returned (.int .i64 (outTrace P D xs a)) ∧ Ext w w' := by
  have HRD := Lib.hid h
  have HF := Lib.hid (FldAt.new w P D v 27)
  have HE0 := Lib.hid ((ext_alloc w (.cells #[.int .i64 P, .int .i64 D, v] 27)).trans (ext_alloc _ (.cells #[.int .i64 a] 2)))
  clear h
  cases hb0 : elB P D xs [a]
  · have G : Hid (outTrace P D xs a = -1) := Lib.hid (by rw [outTrace, hb0]; rfl)
    go_enter Try.func42, Try.ntmps42
    go_wp2_with fail
    refine (i_are P D v _ xs [a] _ ?h1 ?h2 hn hD).mono ?_
    case h1 => exact HRD.out.ext HE0.out
    case h2 => exact rd_lit1o _ _ a _
    rintro e w1 ⟨rfl, x1⟩
    rw [hb0]
    go_wp2
    go_ret
    exact ⟨ret_i64 G.out.symm, HE0.out.trans x1⟩
  · obtain ⟨hb, hel⟩ := elB_t hb0
    obtain ⟨d, rfl, hFK, hxs, hq64, hG, hlen⟩ := fld_facts hb
    have ha := hel a (by simp)
    rw [Int.toNat_natCast] at ha
    have HFK := Lib.hid hFK
    have HXS := Lib.hid hxs
    have HG := Lib.hid hG
    have HQ64 : Hid (P ^ (xs.take d).length ≤ 64) := Lib.hid hq64
    have HA2 : Hid (a < P ^ (xs.take d).length) := Lib.hid (by rw [hlen]; exact ha.2)
    have ha63 : a ≤ 63 := by rw [hlen] at hq64; omega
    have ha0 := ha.1
    have HLEN := Lib.hid hlen
    have HB0 := Lib.hid hb0
    obtain ⟨p1, p2, d1, d2, _, _⟩ := hFK
    clear hel hxs hG hq64 hlen ha hb hb0
    have G : Hid (outTrace P (d : Int) xs a = (trL P d (xs.take d) a d).1) := Lib.hid (by rw [outTrace, HB0.out]; simp)
    go_enter Try.func42, Try.ntmps42
    go_wp2_with fail
    refine (i_are P d v _ xs [a] _ ?h1 ?h2 hn hD).mono ?_
    case h1 => exact HRD.out.ext HE0.out
    case h2 => exact rd_lit1o _ _ a _
    rintro e w1 ⟨rfl, x1⟩
    rw [HB0.out]
    have HE1 := Lib.hid (HE0.out.trans x1)
    have HF1 := Lib.hid (HF.out.ext ((ext_alloc _ (.cells #[.int .i64 a] 2)).trans x1))
    clear x1
    have HBD := Lib.hid (trL_bd HFK.out ha0 (by rw [← HLEN.out]; exact HA2.out) (by rw [← HLEN.out]; exact HQ64.out))
    have HPT : Hid ((P : Int).toNat = P.toNat) := Lib.hid rfl
    go_wp2
    go_loopw [1, 5, 6] (fun a' s' k' wr => ∃ (k : Nat) (A S : Int), k ≤ d ∧ k' = .int .i64 k ∧ a' = .int .i64 A ∧ s' = .int .i64 S ∧ Hid (S = (trL P d (xs.take d) a k).1) ∧ Hid (A = (trL P d (xs.take d) a k).2) ∧ Hid (Ext w1 wr)) (fun _ _ k' _ => d - (intOf k').toNat)
    case atStart => exact ⟨0, a, 0, by omega, rfl, rfl, rfl, Lib.hid rfl, Lib.hid rfl, Lib.hid (Ext.refl _)⟩
    case round =>
      obtain ⟨k, A, S, hk, rfl, rfl, rfl, hS, hA, hext⟩ := hrel
      obtain ⟨_, c0, c1, c2⟩ := HF1.out.ext hext.out
      have HE2 := Lib.hid (HE1.out.trans hext.out)
      obtain ⟨b1, b2, b3, b4⟩ := HBD.out k
      rw [← hS.out] at b1 b2
      rw [← hA.out] at b3 b4
      have b5 : A ≤ 63 := by have := HQ64.out; omega
      have HA4 : Hid (A < P ^ (xs.take d).length) := Lib.hid b4
      clear b4
      by_cases hlt : k < d
      · go_wp2_with fail
        refine (i_sum P d v xs S A 1 1 _ p1 p2 d1 d2 (HRD.out.ext HE2.out) b1 (by omega) b3 (by omega) (.inl ⟨rfl, rfl⟩)).mono ?_
        rintro e w3 ⟨rfl, x3⟩
        have HE3 := Lib.hid (hext.out.trans x3)
        have HE3W := Lib.hid (HE1.out.trans HE3.out)
        clear x3 c0 c1 c2
        obtain ⟨_, c0, c1, c2⟩ := HF1.out.ext HE3.out
        go_wp2_with fail
        refine (i_pow P d v (xs.take d) A P _ HFK.out (by rw [← HXS.out]; exact HRD.out.ext HE3W.out) b3 HA4.out HQ64.out (by omega) (by omega)).mono ?_
        rintro e w4 ⟨rfl, x4⟩
        have HE4 := Lib.hid (HE3.out.trans x4)
        have HS5 : Hid (sumN P 1 d S A = (trL P d (xs.take d) a (k + 1)).1) := Lib.hid (by rw [trL, ← hS.out, ← hA.out])
        have HA5 : Hid (pwN P (xs.take d) A P.toNat = (trL P d (xs.take d) a (k + 1)).2) := Lib.hid (by rw [trL, ← hA.out])
        clear x4 c0 c1 c2 hS hA
        go_wp2
        exact ⟨⟨k + 1, _, _, by omega, by go_num, rfl, rfl, HS5, HA5, HE4⟩, by simp only [intOf]; omega⟩
      · obtain rfl : k = d := by omega
        have HR : Hid (S = outTrace P (k : Int) xs a) := Lib.hid (by rw [G.out, hS.out])
        clear hS hA
        go_wp2
        go_ret
        exact ⟨ret_i64 HR.out, HE2.out⟩
theorem s_PrimitiveElement (P D : Int) (v : Value) (xs : List Int) (w : World) (h : Rd w v xs) (hsn : Sane v) (_hn : xs.length ≤ 100000000) (_hD : D ≤ 9223372036854775807) :
    Calls Try.prog 37 #[.agg #[.int .i64 P, .int .i64 D, v]] w fun e w' => e = .returned (.int .i64 (outPrimitive P D xs)) ∧ Ext w w' := by
  have HRD := Lib.hid h
  have HF := Lib.hid (FldAt.new w P D v 27)
  have HE0 := Lib.hid (ext_alloc w (.cells #[.int .i64 P, .int .i64 D, v] 27))
  clear h
  cases hb : fieldB P D xs
  · have G : Hid (outPrimitive P D xs = -1) := Lib.hid (by rw [outPrimitive, hb]; rfl)
    go_enter Try.func37, Try.ntmps37
    go_wp2_with fail
    refine (s_ok _ P D v xs _ HF.out (HRD.out.ext HE0.out) hsn).mono ?_
    rintro e w1 ⟨rfl, x1⟩
    rw [hb]
    go_wp2
    go_ret
    exact ⟨ret_i64 G.out.symm, HE0.out.trans x1⟩
  · obtain ⟨d, rfl, hFK, hxs, hq64, hG, hlen⟩ := fld_facts hb
    have G : Hid (outPrimitive P d xs = primV P (xs.take d)) := Lib.hid (by rw [outPrimitive, hb]; simp)
    have HFK := Lib.hid hFK
    have HXS := Lib.hid hxs
    have HG := Lib.hid hG
    have HQ64 : Hid (P ^ (xs.take d).length ≤ 64) := Lib.hid hq64
    have HB := Lib.hid hb
    clear hFK hxs hG hq64 hlen hb
    go_enter Try.func37, Try.ntmps37
    go_wp2_with fail
    refine (s_ok _ P d v xs _ HF.out (HRD.out.ext HE0.out) hsn).mono ?_
    rintro e w1 ⟨rfl, x1⟩
    rw [HB.out]
    have HE1 := Lib.hid (HE0.out.trans x1)
    obtain ⟨_, c0, c1, c2⟩ := HF.out.ext x1
    go_wp2_with fail
    refine (s_prim _ P d v (xs.take d) _ HFK.out (HF.out.ext x1) (by rw [← HXS.out]; exact HRD.out.ext HE1.out) HQ64.out HG.out).mono ?_
    rintro e w2 ⟨rfl, x2⟩
    go_wp2
    go_ret
    exact ⟨ret_i64 G.out.symm, HE1.out.trans x2⟩
theorem i_PrimitiveElement (P D : Int) (v : Value) (xs : List Int) (w : World) (h : Rd w v xs) (hn : xs.length ≤ 100000000) (hD : D ≤ 9223372036854775807) :
    Calls Try.prog 38 #[.agg #[.int .i64 P, .int .i64 D, v]] w fun e w' => e = .returned (.int .i64 (outPrimitive P D xs)) ∧ Ext w w' := by
  have HRD := Lib.hid h
  have HF := Lib.hid (FldAt.new w P D v 27)
  have HE0 := Lib.hid (ext_alloc w (.cells #[.int .i64 P, .int .i64 D, v] 27))
  clear h
  cases hb : fieldB P D xs
  · have G : Hid (outPrimitive P D xs = -1) := Lib.hid (by rw [outPrimitive, hb]; rfl)
    go_enter Try.func38, Try.ntmps38
    go_wp2_with fail
    refine (i_ValidField P D v xs _ (HRD.out.ext HE0.out) hn hD).mono ?_
    rintro e w1 ⟨rfl, x1⟩
    rw [hb]
    go_wp2
    go_ret
    exact ⟨ret_i64 G.out.symm, HE0.out.trans x1⟩
  · obtain ⟨d, rfl, hFK, hxs, hq64, hG, hlen⟩ := fld_facts hb
    have G : Hid (outPrimitive P d xs = primV P (xs.take d)) := Lib.hid (by rw [outPrimitive, hb]; simp)
    have HFK := Lib.hid hFK
    have HXS := Lib.hid hxs
    have HG := Lib.hid hG
    have HQ64 : Hid (P ^ (xs.take d).length ≤ 64) := Lib.hid hq64
    have HB := Lib.hid hb
    clear hFK hxs hG hq64 hlen hb
    go_enter Try.func38, Try.ntmps38
    go_wp2_with fail
    refine (i_ValidField P d v xs _ (HRD.out.ext HE0.out) hn hD).mono ?_
    rintro e w1 ⟨rfl, x1⟩
    rw [HB.out]
    have HE1 := Lib.hid (HE0.out.trans x1)
    obtain ⟨_, c0, c1, c2⟩ := HF.out.ext x1
    go_wp2_with fail
    refine (i_prim P d v (xs.take d) _ HFK.out (by rw [← HXS.out]; exact HRD.out.ext HE1.out) HQ64.out HG.out).mono ?_
    rintro e w2 ⟨rfl, x2⟩
    go_wp2
    go_ret
    exact ⟨ret_i64 G.out.symm, HE1.out.trans x2⟩
end Go.Proofs.Ytafaecpmffmfgaa
