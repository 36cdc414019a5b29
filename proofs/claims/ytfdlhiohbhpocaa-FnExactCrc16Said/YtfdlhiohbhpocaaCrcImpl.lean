/- Crc16: the program's walk, and the law. No condition. -/
import Derived.Test.YtfdlhiohbhpocaaCrc
namespace Go.Proofs.Ytfdlhiohbhpocaa
open Go.RowKit
def crcOut (s : ByteArray) (x : Int) : Int := if inB x 0 65535 then ((crcTo s.data.toList x.toNat : Nat) : Int) else 0
theorem s_Crc16 (s : ByteArray) (x : Int) (hs : s.size ≤ maxLen) (w : World) :
    Calls Try.prog 29 #[.string s, .int .i64 x] w fun e w' => e = .returned (.int .i64 (crcOut s x)) ∧ w = w' := by
  cases hb : inB x 0 65535
  · have G : Hid (crcOut s x = 0) := Lib.hid (by simp [crcOut, hb])
    go_enter Try.func29, Try.ntmps29
    go_wp2_with (go_at_call 39; refine (s_in _ _ _ _).mono ?_; rintro e w' ⟨rfl, rfl⟩)
    go_ret
    exact ⟨ret_i64 G.out.symm, rfl⟩
  · obtain ⟨h1, h2⟩ := inB_iff.1 hb
    obtain ⟨y, rfl⟩ := Int.eq_ofNat_of_zero_le h1
    have G : Hid (crcOut s y = ((crcTo s.data.toList y : Nat) : Int)) := Lib.hid (by simp [crcOut, hb])
    have HS := Lib.hid hs
    clear hs
    go_enter Try.func29, Try.ntmps29
    go_wp2_with (first | (go_at_call 39; refine (s_in _ _ _ _).mono ?_; rintro e w' ⟨rfl, rfl⟩) | (go_at_call 47; refine (s_l01Crc s y (by omega) HS.out _).mono ?_; rintro e w' ⟨rfl, rfl⟩))
    go_ret
    exact ⟨ret_i64 G.out.symm, rfl⟩
set_option maxHeartbeats 400000 in
theorem i_Crc16 (s : ByteArray) (x : Int) (hs : s.size ≤ 1048576) (w : World) :
    Calls Try.prog 30 #[.string s, .int .i64 x] w fun e w' => e = .returned (.int .i64 (crcOut s x)) ∧ Ext w w' := by
  cases hb : inB x 0 65535
  · have G : Hid (crcOut s x = 0) := Lib.hid (by simp [crcOut, hb])
    go_enter Try.func30, Try.ntmps30
    go_wp2_with (go_at_call 40; refine (i_in _ _ _ _).mono ?_; rintro e w' ⟨rfl, rfl⟩)
    go_ret
    exact ⟨ret_i64 G.out.symm, Ext.refl _⟩
  · obtain ⟨h1, h2⟩ := inB_iff.1 hb
    obtain ⟨y, rfl⟩ := Int.eq_ofNat_of_zero_le h1
    have G : Hid (crcOut s y = ((crcTo s.data.toList y : Nat) : Int)) := Lib.hid (by simp [crcOut, hb])
    obtain ⟨cap, w1, hconv, hext, _, hcell⟩ := bytes_of s w
    have HC := Lib.hid hcell
    clear hcell
    have hy : y < 65536 := by omega
    go_enter Try.func30, Try.ntmps30
    go_wp2_with (go_at_call 40; refine (i_in _ _ _ _).mono ?_; rintro e w' ⟨rfl, rfl⟩)
    clear hb hconv
    go_loop [5, 15] (fun u i => ∃ k v : Nat, k ≤ s.size ∧ i = .int .i64 k ∧ u = .int .i64 v ∧ v < 65536 ∧ Hid (crcTo (s.data.toList.take k) y = v)) (fun _ i => s.size - (intOf i).toNat)
    case atStart => exact ⟨0, y, Nat.zero_le _, rfl, rfl, hy, Lib.hid rfl⟩
    case round =>
      obtain ⟨k, v, hk, rfl, rfl, hv, hm⟩ := hrel
      by_cases hlt : k < s.size
      · have hck := HC.out k hlt
        have hin := Lib.hid (crc_in v s[k] hv)
        have hz := crcIn_lt hv s[k]
        have HN : Hid (crcTo (s.data.toList.take (k + 1)) y = crcIt 8 (v ^^^ (s[k].toNat * 256))) := Lib.hid (by rw [take_snoc s k hlt, crcTo_snoc, hm.out]; rfl)
        go_wp2
        rw [hin.out]
        clear hin hck
        generalize v ^^^ (s[k].toNat * 256) = z at *
        go_loop [5, 24] (fun u j => ∃ i v : Nat, i ≤ 8 ∧ j = .int .i64 i ∧ u = .int .i64 v ∧ v < 65536 ∧ Hid (crcIt i z = v)) (fun _ j => 8 - (intOf j).toNat)
        case atStart => exact ⟨0, z, by omega, rfl, rfl, hz, Lib.hid rfl⟩
        case round =>
          obtain ⟨i, v, hi, rfl, rfl, hv, hm2⟩ := hrel
          by_cases hlt2 : i < 8
          · have hst := crcStep_lt hv
            have HS : Hid (crcIt (i + 1) z = crcStep v) := Lib.hid (by rw [crcIt, hm2.out])
            have HST := Lib.hid hst
            have HV := Lib.hid hv
            clear hst hv hy
            go_wp2
            · exact ⟨⟨i + 1, crcStep v, by omega, by go_num, vint (crc_i1 v HV.out (by assumption)), HST.out, HS⟩, by simp only [intOf]; omega⟩
            · exact ⟨⟨i + 1, crcStep v, by omega, by go_num, vint (crc_i0 v HV.out (by assumption)), HST.out, HS⟩, by simp only [intOf]; omega⟩
          · obtain rfl : i = 8 := by omega
            have HV : Hid (crcTo (s.data.toList.take (k + 1)) y = v) := Lib.hid (by rw [HN.out, hm2.out])
            go_wp2
            exact ⟨⟨k + 1, v, by omega, by go_num, rfl, hv, HV⟩, by simp only [intOf]; omega⟩
      · have HV : Hid (crcTo s.data.toList y = v) := Lib.hid (by have := hm.out; rwa [List.take_of_length_le (by simp; omega)] at this)
        go_wp2
        go_ret
        exact ⟨ret_i64 (by rw [G.out, HV.out]), hext⟩
theorem l_Crc16 (s : ByteArray) (hs : s.size ≤ maxLen) (x : Int) (w : World) :
    Calls Try.prog 11 #[.string s, .int .i64 x] w fun e w' => e = .returned (.bool true) ∧ Ext w w' := by
  have HS := Lib.hid hs
  unfold maxLen at hs
  by_cases hl : s.size ≤ 1048576
  · go_enter Try.func11, Try.ntmps11
    go_wp2_with (first | (go_at_call 29; refine (s_Crc16 _ _ HS.out _).mono ?_; rintro e w1 ⟨rfl, rfl⟩) | (go_at_call 30; refine (i_Crc16 _ _ hl _).mono ?_; rintro e w2 ⟨rfl, hd2⟩))
    go_ret
    exact ⟨rfl, hd2⟩
  · go_enter Try.func11, Try.ntmps11
    go_wp2
    go_ret
    exact ⟨rfl, Ext.refl _⟩
end Go.Proofs.Ytfdlhiohbhpocaa
