/- Crc16: the walks of the program and of the reference, and the law. No condition. -/
import Derived.Test.YtfdlhiohbhpocaaInts
import Derived.Test.YtfdlhiohbhpocaaMem
namespace Go.Proofs.Ytfdlhiohbhpocaa
open Go.RowKit

def crcStep (x : Nat) : Nat := if 32768 ≤ x then (x * 2 % 65536) ^^^ 4129 else x * 2
def crcIt : Nat → Nat → Nat
  | 0, x => x
  | n + 1, x => crcStep (crcIt n x)
def crcByte (x : Nat) (c : UInt8) : Nat := crcIt 8 (x ^^^ (c.toNat * 256))
def crcTo (l : List UInt8) (x : Nat) : Nat := l.foldl crcByte x
theorem crcStep_lt {x : Nat} (h : x < 65536) : crcStep x < 65536 := by
  unfold crcStep; split
  · exact Nat.xor_lt_two_pow (n := 16) (by omega) (by omega)
  · omega
theorem crcIt_lt {x : Nat} (h : x < 65536) : ∀ n, crcIt n x < 65536
  | 0 => h
  | n + 1 => crcStep_lt (crcIt_lt h n)
theorem crcIn_lt {x : Nat} (h : x < 65536) (c : UInt8) : x ^^^ (c.toNat * 256) < 65536 :=
  Nat.xor_lt_two_pow (n := 16) (by omega) (by have := c.toNat_lt; omega)
theorem crcByte_lt {x : Nat} (h : x < 65536) (c : UInt8) : crcByte x c < 65536 := by
  unfold crcByte
  generalize 8 = n
  exact crcIt_lt (crcIn_lt h c) n
theorem take_snoc (s : ByteArray) (k : Nat) (h : k < s.size) : s.data.toList.take (k + 1) = s.data.toList.take k ++ [s[k]] := by
  rw [List.take_succ_eq_append_getElem (by simpa using h)]; rfl
theorem crcTo_lt {x : Nat} (h : x < 65536) (l : List UInt8) : crcTo l x < 65536 := by
  induction l generalizing x with
  | nil => exact h
  | cons c l ih => have h1 := ih (crcByte_lt h c); simpa only [crcTo, List.foldl_cons] using h1
theorem crcTo_snoc (l : List UInt8) (c : UInt8) (x : Nat) : crcTo (l ++ [c]) x = crcByte (crcTo l x) c := by simp [crcTo]

theorem i64_xor_nat (a b : Nat) (ha : a < 4611686018427387904) (hb : b < 4611686018427387904) : bits .xor .i64 (a : Int) (b : Int) = ((a ^^^ b : Nat) : Int) := by
  have hx : a ^^^ b < 2 ^ 62 := Nat.xor_lt_two_pow (by omega) (by omega)
  show IntKind.i64.wrap ((BitVec.ofInt 64 (a : Int) ^^^ BitVec.ofInt 64 (b : Int)).toNat : Int) = _
  rw [BitVec.toNat_xor, ofInt_u64 a (by omega), ofInt_u64 b (by omega), IntKind.wrap_i64]
  omega
theorem i64_and_nat (a b : Nat) (ha : a < 4611686018427387904) : bits .and .i64 (a : Int) (b : Int) = ((a &&& b : Nat) : Int) ∨ 4611686018427387904 ≤ b := by
  rcases Nat.lt_or_ge b 4611686018427387904 with hb | hb
  · left
    have hx : a &&& b < 2 ^ 62 := Nat.and_lt_two_pow _ (by omega)
    show IntKind.i64.wrap ((BitVec.ofInt 64 (a : Int) &&& BitVec.ofInt 64 (b : Int)).toNat : Int) = _
    rw [BitVec.toNat_and, ofInt_u64 a (by omega), ofInt_u64 b (by omega), IntKind.wrap_i64]
    omega
  · exact .inr hb
theorem and_mask16 (a : Nat) (ha : a < 4611686018427387904) : bits .and .i64 (a : Int) 65535 = ((a % 65536 : Nat) : Int) := by
  rcases i64_and_nat a 65535 ha with h | h
  · rw [← nat_mask16]; exact h
  · omega
theorem xor_poly (a : Nat) (ha : a < 4611686018427387904) : bits .xor .i64 (a : Int) 4129 = ((a ^^^ 4129 : Nat) : Int) := i64_xor_nat a 4129 ha (by omega)
theorem dbl (y : Nat) : (y : Int) * 2 = ((y * 2 : Nat) : Int) := by omega
theorem crc_hi_i (y : Nat) (h : 32768 ≤ y) (hl : y < 65536) : bits .and .i64 (bits .xor .i64 ((y : Int) * 2) 4129) 65535 = ((crcStep y : Nat) : Int) := by
  have hx : y * 2 ^^^ 4129 < 2 ^ 17 := Nat.xor_lt_two_pow (by omega) (by omega)
  rw [dbl, xor_poly _ (by omega), and_mask16 _ (by omega), crcStep, if_pos h]
  have := Nat.xor_mod_two_pow (a := y * 2) (b := 4129) (n := 16)
  simp only [Nat.reducePow] at this
  rw [this]
theorem crc_hi_s (y : Nat) (h : 32768 ≤ y) (hl : y < 65536) : bits .xor .i64 (bits .and .i64 ((y : Int) * 2) 65535) 4129 = ((crcStep y : Nat) : Int) := by
  rw [dbl, and_mask16 _ (by omega), xor_poly _ (by omega), crcStep, if_pos h]
theorem crc_lo_s (y : Nat) (h : ¬ 32768 ≤ y) (_hl : y < 65536) : bits .and .i64 ((y : Int) * 2) 65535 = ((crcStep y : Nat) : Int) := by
  rw [dbl, and_mask16 _ (by omega), crcStep, if_neg h, Nat.mod_eq_of_lt (by omega)]
theorem crc_lo_i (y : Nat) (h : ¬ 32768 ≤ y) : (y : Int) * 2 = ((crcStep y : Nat) : Int) := by rw [dbl, crcStep, if_neg h]
theorem crc_w (v : Nat) (hv : v < 65536) : wrap64 ((v : Int) * 2) = (v : Int) * 2 := IntWalk.wrap64_in _ (by omega)
theorem crc_i1 (v : Nat) (hv : v < 65536) (h : 65536 ≤ wrap64 ((v : Int) * 2)) : bits .and .i64 (bits .xor .i64 (wrap64 ((v : Int) * 2)) 4129) 65535 = ((crcStep v : Nat) : Int) := by
  rw [crc_w v hv] at *; exact crc_hi_i v (by omega) hv
theorem crc_i0 (v : Nat) (hv : v < 65536) (h : wrap64 ((v : Int) * 2) < 65536) : wrap64 ((v : Int) * 2) = ((crcStep v : Nat) : Int) := by
  rw [crc_w v hv] at *; exact crc_lo_i v (by omega)
theorem crc_s1 (v : Nat) (hv : v < 65536) (h : 32768 ≤ (v : Int)) : bits .xor .i64 (bits .and .i64 (wrap64 ((v : Int) * 2)) 65535) 4129 = ((crcStep v : Nat) : Int) := by
  rw [crc_w v hv] at *; exact crc_hi_s v (by omega) hv
theorem crc_s0 (v : Nat) (hv : v < 65536) (h : (v : Int) < 32768) : bits .and .i64 (wrap64 ((v : Int) * 2)) 65535 = ((crcStep v : Nat) : Int) := by
  rw [crc_w v hv] at *; exact crc_lo_s v (by omega) hv
theorem crc_in (y : Nat) (c : UInt8) (hl : y < 65536) : bits .xor .i64 (y : Int) (wrap64 (wrap64 (c.toNat : Int) * 256)) = ((y ^^^ (c.toNat * 256) : Nat) : Int) := by
  have hc := c.toNat_lt
  have e : wrap64 (c.toNat : Int) = (c.toNat : Int) := IntWalk.wrap64_in _ (by omega)
  rw [e, IntWalk.wrap64_in _ (by omega)]
  exact i64_xor_nat y (c.toNat * 256) (by omega) (by omega)

set_option maxHeartbeats 400000 in
theorem s_l01Crc (s : ByteArray) (x : Nat) (hx : x < 65536) (hs : s.size ≤ maxLen) (w : World) :
    Calls Try.prog 47 #[.string s, .int .i64 x] w fun e w' => e = .returned (.int .i64 (crcTo s.data.toList x : Nat)) ∧ w = w' := by
  unfold maxLen at hs
  have HX := Lib.hid hx
  clear hx
  go_enter Try.func47, Try.ntmps47
  go_wp2
  go_loop [1, 5] (fun u i => ∃ k y : Nat, k ≤ s.size ∧ i = .int .i64 k ∧ u = .int .i64 y ∧ y < 65536 ∧ Hid (crcTo (s.data.toList.take k) x = y)) (fun _ i => s.size - (intOf i).toNat)
  case atStart => exact ⟨0, x, Nat.zero_le _, rfl, rfl, HX.out, Lib.hid rfl⟩
  case round =>
    obtain ⟨k, y, hk, rfl, rfl, hy, hm⟩ := hrel
    by_cases hlt : k < s.size
    · have hin := Lib.hid (crc_in y s[k] hy)
      have hz := crcIn_lt hy s[k]
      have HN : Hid (crcTo (s.data.toList.take (k + 1)) x = crcIt 8 (y ^^^ (s[k].toNat * 256))) := Lib.hid (by rw [take_snoc s k hlt, crcTo_snoc, hm.out]; rfl)
      go_wp2
      rw [hin.out]
      clear hin hy
      have HZ := Lib.hid hz
      clear hz
      generalize y ^^^ (s[k].toNat * 256) = z at *
      go_loop [1, 6] (fun u j => ∃ (i v : Nat) (V : Int), i ≤ 8 ∧ j = .int .i64 i ∧ u = .int .i64 V ∧ Hid (V = (v : Int)) ∧ Hid (v < 65536) ∧ Hid (crcIt i z = v)) (fun _ j => 8 - (intOf j).toNat)
      case atStart => exact ⟨0, z, z, by omega, rfl, rfl, Lib.hid rfl, HZ, Lib.hid rfl⟩
      case round =>
        obtain ⟨i, v, V, hi, rfl, rfl, hV, hv, hm2⟩ := hrel
        by_cases hlt2 : i < 8
        · have HST : Hid (crcStep v < 65536) := Lib.hid (crcStep_lt hv.out)
          have HS : Hid (crcIt (i + 1) z = crcStep v) := Lib.hid (by rw [crcIt, hm2.out])
          go_wp2
          · exact ⟨⟨i + 1, crcStep v, _, by omega, by go_num, rfl, Lib.hid (by rw [hV.out]; exact crc_s1 v hv.out (by rw [← hV.out]; assumption)), HST, HS⟩, by simp only [intOf]; omega⟩
          · exact ⟨⟨i + 1, crcStep v, _, by omega, by go_num, rfl, Lib.hid (by rw [hV.out]; exact crc_s0 v hv.out (by rw [← hV.out]; assumption)), HST, HS⟩, by simp only [intOf]; omega⟩
        · obtain rfl : i = 8 := by omega
          have HV : Hid (crcTo (s.data.toList.take (k + 1)) x = v) := Lib.hid (by rw [HN.out, hm2.out])
          go_wp2
          exact ⟨⟨k + 1, v, by omega, by go_num, vint hV.out, hv.out, HV⟩, by simp only [intOf]; omega⟩
    · have HV : Hid (crcTo s.data.toList x = y) := Lib.hid (by have := hm.out; rwa [List.take_of_length_le (by simp; omega)] at this)
      go_wp2
      go_ret
      exact ⟨ret_i64 (by rw [HV.out]), rfl⟩
end Go.Proofs.Ytfdlhiohbhpocaa
