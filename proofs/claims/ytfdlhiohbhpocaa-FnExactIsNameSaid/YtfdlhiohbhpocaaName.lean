/- IsName: the walks of the program and of the reference, and the law. No condition. -/
import Derived.Test.YtfdlhiohbhpocaaInts
import Derived.Test.YtfdlhiohbhpocaaMem
namespace Go.Proofs.Ytfdlhiohbhpocaa
open Go.RowKit

def smallB (c : UInt8) : Bool := decide (97 ≤ c.toNat) && decide (c.toNat ≤ 122)
def digB (c : UInt8) : Bool := decide (48 ≤ c.toNat) && decide (c.toNat ≤ 57)
def okB (c : UInt8) : Bool := smallB c || digB c
theorem s_small (c : UInt8) (w : World) :
    Calls Try.prog 41 #[.int .u8 (c.toNat : Int)] w fun e w' => e = .returned (.bool (smallB c)) ∧ w = w' := by
  by_cases h1 : (97 : Int) ≤ (c.toNat : Int)
  · by_cases h2 : (c.toNat : Int) ≤ 122
    · have G : Hid (smallB c = true) := Lib.hid (by simp [smallB]; omega)
      go_enter Try.func41, Try.ntmps41
      go_wp2
      go_ret
      exact ⟨ret_bool G.out.symm, rfl⟩
    · have G : Hid (smallB c = false) := Lib.hid (by simp [smallB]; omega)
      go_enter Try.func41, Try.ntmps41
      go_wp2
      go_ret
      exact ⟨ret_bool G.out.symm, rfl⟩
  · have G : Hid (smallB c = false) := Lib.hid (by simp [smallB]; omega)
    go_enter Try.func41, Try.ntmps41
    go_wp2
    go_ret
    exact ⟨ret_bool G.out.symm, rfl⟩
theorem s_dig (c : UInt8) (w : World) :
    Calls Try.prog 42 #[.int .u8 (c.toNat : Int)] w fun e w' => e = .returned (.bool (digB c)) ∧ w = w' := by
  by_cases h1 : (48 : Int) ≤ (c.toNat : Int)
  · by_cases h2 : (c.toNat : Int) ≤ 57
    · have G : Hid (digB c = true) := Lib.hid (by simp [digB]; omega)
      go_enter Try.func42, Try.ntmps42
      go_wp2
      go_ret
      exact ⟨ret_bool G.out.symm, rfl⟩
    · have G : Hid (digB c = false) := Lib.hid (by simp [digB]; omega)
      go_enter Try.func42, Try.ntmps42
      go_wp2
      go_ret
      exact ⟨ret_bool G.out.symm, rfl⟩
  · have G : Hid (digB c = false) := Lib.hid (by simp [digB]; omega)
    go_enter Try.func42, Try.ntmps42
    go_wp2
    go_ret
    exact ⟨ret_bool G.out.symm, rfl⟩
def hdB (s : ByteArray) : Bool := smallB (s.data.toList.headD 0)
def nameB (s : ByteArray) : Bool := decide (1 ≤ s.size) && (decide (s.size ≤ 10) && (hdB s && s.data.toList.all okB))
theorem hd_get (s : ByteArray) (h : 0 < s.size) : hdB s = smallB s[0] := by
  unfold hdB
  have hl : 0 < s.data.toList.length := by simpa using h
  congr 1
  match hs : s.data.toList, hl with
  | c :: l, _ =>
    show c = s.data[0]
    rw [← Array.getElem_toList (h := by simpa using h)]
    simp [hs]
theorem take_next (s : ByteArray) (k : Nat) (h : k < s.size) : s.data.toList.take (k + 1) = s.data.toList.take k ++ [s[k]] := by
  rw [List.take_succ_eq_append_getElem (by simpa using h)]; rfl
theorem ok_next {s : ByteArray} {k : Nat} (h : k < s.size) (hm : (s.data.toList.take k).all okB = true) (hk : okB s[k] = true) : (s.data.toList.take (k + 1)).all okB = true := by
  rw [take_next s k h, List.all_append, hm]; simp [hk]
theorem ok_fail {s : ByteArray} {k : Nat} (h : k < s.size) (hk : okB s[k] = false) : nameB s = false := by
  have : s.data.toList.all okB = false := by
    rw [List.all_eq_false]
    exact ⟨s[k], by
      show s.data[k] ∈ s.data.toList
      exact Array.getElem_mem_toList _, by simp [hk]⟩
  simp [nameB, this]
theorem ok_end {s : ByteArray} (h1 : 1 ≤ s.size) (h2 : s.size ≤ 10) (hh : hdB s = true) (hm : (s.data.toList.take s.size).all okB = true) : nameB s = true := by
  rw [List.take_of_length_le (by simp)] at hm
  simp [nameB, h1, h2, hh, hm]

set_option maxHeartbeats 400000 in
theorem s_IsName (s : ByteArray) (hs : s.size ≤ maxLen) (w : World) :
    Calls Try.prog 19 #[.string s] w fun e w' => e = .returned (.bool (nameB s)) ∧ w = w' := by
  unfold maxLen at hs
  by_cases h0 : s.size = 0
  · have G : Hid (nameB s = false) := Lib.hid (by simp [nameB, h0])
    have e1 : s.data.toList = [] := by apply List.eq_nil_of_length_eq_zero; simpa using h0
    have e2 : s.toList = [] := by rw [ByteArray.toList_eq, e1]
    clear e1 h0
    go_enter Try.func19, Try.ntmps19
    go_wp2
    go_ret
    exact ⟨ret_bool G.out.symm, rfl⟩
  · have e1 : s.toList ≠ [] := by
      rw [ByteArray.toList_eq]; intro h; apply h0; have := congrArg List.length h; simpa using this
    have e2 : s.toList.isEmpty = false := by simpa using e1
    have hp : 0 < s.size := by omega
    clear h0
    by_cases h10 : s.size ≤ 10
    · cases hh : smallB s[0]
      · have G : Hid (nameB s = false) := Lib.hid (by simp [nameB, hd_get s hp, hh])
        go_enter Try.func19, Try.ntmps19
        go_wp2_with (go_at_call 41; refine (s_small _ _).mono ?_; rintro e w' ⟨rfl, rfl⟩)
        go_ret
        exact ⟨ret_bool G.out.symm, rfl⟩
      · have HH := Lib.hid hh
        go_enter Try.func19, Try.ntmps19
        go_wp2_with (go_at_call 41; refine (s_small _ _).mono ?_; rintro e w' ⟨rfl, rfl⟩)
        clear hh e1 e2
        go_loop [3] (fun i => ∃ k : Nat, k ≤ s.size ∧ i = .int .i64 k ∧ Hid ((s.data.toList.take k).all okB = true)) (fun i => s.size - (intOf i).toNat)
        case atStart => exact ⟨0, by omega, rfl, Lib.hid rfl⟩
        case round =>
          obtain ⟨k, hk, rfl, hm⟩ := hrel
          by_cases hlt : k < s.size
          · cases h1 : smallB s[k]
            · cases h2 : digB s[k]
              · have G := Lib.hid (ok_fail hlt (by simp [okB, h1, h2]))
                go_wp2_with (first | (go_at_call 41; refine (s_small _ _).mono ?_; rintro e w' ⟨rfl, rfl⟩) | (go_at_call 42; refine (s_dig _ _).mono ?_; rintro e w' ⟨rfl, rfl⟩))
                go_ret
                exact ⟨ret_bool G.out.symm, rfl⟩
              · have G := Lib.hid (ok_next hlt hm.out (by simp [okB, h1, h2]))
                go_wp2_with (first | (go_at_call 41; refine (s_small _ _).mono ?_; rintro e w' ⟨rfl, rfl⟩) | (go_at_call 42; refine (s_dig _ _).mono ?_; rintro e w' ⟨rfl, rfl⟩))
                go_round
                case rel => exact ⟨k + 1, by omega, by go_num, G⟩
                case measure => simp [intOf]; omega
            · have G := Lib.hid (ok_next hlt hm.out (by simp [okB, h1]))
              go_wp2_with (first | (go_at_call 41; refine (s_small _ _).mono ?_; rintro e w' ⟨rfl, rfl⟩) | (go_at_call 42; refine (s_dig _ _).mono ?_; rintro e w' ⟨rfl, rfl⟩))
              go_round
              case rel => exact ⟨k + 1, by omega, by go_num, G⟩
              case measure => simp [intOf]; omega
          · obtain rfl : k = s.size := by omega
            have G := Lib.hid (ok_end (by omega) h10 (by rw [hd_get s hp]; exact HH.out) hm.out)
            go_wp2
            go_ret
            exact ⟨ret_bool G.out.symm, rfl⟩
    · have G : Hid (nameB s = false) := Lib.hid (by simp [nameB, h10])
      have h11 : 10 < s.size := by omega
      go_enter Try.func19, Try.ntmps19
      go_wp2
      go_ret
      exact ⟨ret_bool G.out.symm, rfl⟩
set_option maxHeartbeats 400000 in
theorem i_IsName (s : ByteArray) (hs : s.size ≤ 1048576) (w : World) :
    Calls Try.prog 20 #[.string s] w fun e w' => e = .returned (.bool (nameB s)) ∧ Ext w w' := by
  by_cases h0 : s.size < 1
  · have G : Hid (nameB s = false) := Lib.hid (by simp [nameB]; omega)
    go_enter Try.func20, Try.ntmps20
    go_wp2
    go_ret
    exact ⟨ret_bool G.out.symm, Ext.refl _⟩
  · by_cases h10 : s.size ≤ 10
    · obtain ⟨cap, w1, hconv, hext, _, hcell⟩ := bytes_of s w
      have HC := Lib.hid hcell
      clear hcell
      go_enter Try.func20, Try.ntmps20
      go_wp2
      clear hconv
      go_loop [18] (fun i => ∃ k : Nat, k ≤ s.size ∧ i = .int .i64 k ∧ Hid ((s.data.toList.take k).all okB = true) ∧ Hid (0 < k → hdB s = true)) (fun i => s.size - (intOf i).toNat)
      case atStart => exact ⟨0, by omega, rfl, Lib.hid rfl, Lib.hid (by omega)⟩
      case round =>
        obtain ⟨k, hk, rfl, hm, hh⟩ := hrel
        by_cases hlt : k < s.size
        · have hck := HC.out k hlt
          obtain ⟨x, hx⟩ : ∃ x : Int, (s[k].toNat : Int) = x := ⟨_, rfl⟩
          rw [hx] at hck
          have HX := Lib.hid hx
          have HG : Hid (k = 0 → hdB s = smallB s[k]) := Lib.hid (by rintro rfl; exact hd_get s hlt)
          have R : x < 48 ∨ (48 ≤ x ∧ x ≤ 57) ∨ (57 < x ∧ x < 97) ∨ (97 ≤ x ∧ x ≤ 122) ∨ 122 < x := by omega
          rcases R with r | ⟨r, r'⟩ | ⟨r, r'⟩ | ⟨r, r'⟩ | r
          · have G := Lib.hid (ok_fail hlt (by simp [okB, smallB, digB]; omega))
            clear hx HX HG hm hh
            by_cases hk0 : k = 0
            · subst hk0
              go_wp2
              go_ret
              exact ⟨ret_bool G.out.symm, hext⟩
            · have hkp : ((k : Int) == 0) = false := by rw [beq_eq_false_iff_ne]; omega
              go_wp2
              go_ret
              exact ⟨ret_bool G.out.symm, hext⟩
          · by_cases hk0 : k = 0
            · have G : Hid (nameB s = false) := Lib.hid (by simp [nameB, HG.out hk0, smallB]; omega)
              subst hk0
              clear hx HX HG hm hh
              go_wp2
              go_ret
              exact ⟨ret_bool G.out.symm, hext⟩
            · have G := Lib.hid (ok_next hlt hm.out (by simp [okB, smallB, digB]; omega))
              have G2 := Lib.hid (hh.out (by omega))
              have hkp : ((k : Int) == 0) = false := by rw [beq_eq_false_iff_ne]; omega
              clear hx HX HG hm hh
              go_wp2
              go_round
              case rel => exact ⟨k + 1, by omega, by go_num, G, Lib.hid fun _ => G2.out⟩
              case measure => simp [intOf]; omega
          · have G := Lib.hid (ok_fail hlt (by simp [okB, smallB, digB]; omega))
            have d1 : decide (x ≤ 57) = false := by simp; omega
            clear hx HX HG hm hh
            by_cases hk0 : k = 0
            · subst hk0
              go_wp2
              go_ret
              exact ⟨ret_bool G.out.symm, hext⟩
            · have hkp : ((k : Int) == 0) = false := by rw [beq_eq_false_iff_ne]; omega
              go_wp2
              go_ret
              exact ⟨ret_bool G.out.symm, hext⟩
          · have G := Lib.hid (ok_next hlt hm.out (by simp [okB, smallB, digB]; omega))
            have G2 : Hid (hdB s = true) := Lib.hid (by
              by_cases hk0 : k = 0
              · rw [HG.out hk0]; simp [smallB]; omega
              · exact hh.out (by omega))
            clear hx HX HG hm hh
            go_wp2
            go_round
            case rel => exact ⟨k + 1, by omega, by go_num, G, Lib.hid fun _ => G2.out⟩
            case measure => simp [intOf]; omega
          · have G := Lib.hid (ok_fail hlt (by simp [okB, smallB, digB]; omega))
            have d1 : decide (x ≤ 57) = false := by simp; omega
            have d2 : decide (x ≤ 122) = false := by simp; omega
            clear hx HX HG hm hh
            by_cases hk0 : k = 0
            · subst hk0
              go_wp2
              go_ret
              exact ⟨ret_bool G.out.symm, hext⟩
            · have hkp : ((k : Int) == 0) = false := by rw [beq_eq_false_iff_ne]; omega
              go_wp2
              go_ret
              exact ⟨ret_bool G.out.symm, hext⟩
        · obtain rfl : k = s.size := by omega
          have G := Lib.hid (ok_end (by omega) h10 (hh.out (by omega)) hm.out)
          go_wp2
          go_ret
          exact ⟨ret_bool G.out.symm, hext⟩
    · have G : Hid (nameB s = false) := Lib.hid (by simp [nameB, h10])
      have h11 : 10 < s.size := by omega
      go_enter Try.func20, Try.ntmps20
      go_wp2
      go_ret
      exact ⟨ret_bool G.out.symm, Ext.refl _⟩
theorem l_IsName (s : ByteArray) (hs : s.size ≤ maxLen) (w : World) :
    Calls Try.prog 6 #[.string s] w fun e w' => e = .returned (.bool true) ∧ Ext w w' := by
  have HS := Lib.hid hs
  unfold maxLen at hs
  by_cases hl : s.size ≤ 1048576
  · go_enter Try.func6, Try.ntmps6
    go_wp2_with (first | (go_at_call 19; refine (s_IsName _ HS.out _).mono ?_; rintro e w1 ⟨rfl, rfl⟩) | (go_at_call 20; refine (i_IsName _ hl _).mono ?_; rintro e w2 ⟨rfl, hd2⟩))
    go_ret
    exact ⟨rfl, hd2⟩
  · go_enter Try.func6, Try.ntmps6
    go_wp2
    go_ret
    exact ⟨rfl, Ext.refl _⟩
end Go.Proofs.Ytfdlhiohbhpocaa
