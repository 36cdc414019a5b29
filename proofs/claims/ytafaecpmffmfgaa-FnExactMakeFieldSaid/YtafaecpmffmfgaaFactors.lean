/- FactorsOf, IsPrime: the walks of the program and of the reference, and the laws. No condition. -/
import Derived.Test.YtafaecpmffmfgaaFacMath
import Derived.Test.YtafaecpmffmfgaaInts
import Derived.Test.YtafaecpmffmfgaaApp
namespace Go.Proofs.Ytafaecpmffmfgaa
open Go.RowKit

theorem sq_bd {p : Int} (h1 : 2 ≤ p) (h2 : p ≤ 1001) : 4 ≤ p * p ∧ p * p ≤ 1002001 :=
  ⟨Int.mul_le_mul h1 h1 (by omega) (by omega), Int.mul_le_mul h2 h2 (by omega) (by omega)⟩

theorem i_FactorsOf (n : Int) (w : World) : Calls Try.prog 83 #[.int .i64 n] w (RetInts w (facs n)) := by
  by_cases hr : 1 ≤ n ∧ n ≤ 1000000
  · have h0 := inB_t hr
    obtain ⟨r1, r2⟩ := hr
    have hs := Lib.hid (facMid_start ⟨r1, r2⟩)
    go_enter Try.func83, Try.ntmps83
    go_wp2_with (go_at_call 56; refine (i_in _ _ _ _).mono ?_; rintro e w' ⟨rfl, rfl⟩)
    clear h0
    go_loopw [0, 3, 4] (fun a fs q wr => ∃ (p m : Int) (pre : List Int), a = .int .i64 m ∧ q = .int .i64 p ∧ Own wr w.heap.size fs pre ∧ Hid (facMid false n p m pre) ∧ Ext w wr) (fun a _ q _ => (4000 + intOf a - intOf q).toNat)
    case atStart => exact ⟨2, n, [], rfl, rfl, (OwnV.nil _ _ _), hs, (Ext.refl _)⟩
    case round =>
      obtain ⟨p, m, pre, rfl, rfl, hown, hm, hext⟩ := hrel
      obtain ⟨b1, b2, b3, b4, b5, _⟩ := facMid_bd hm.out
      obtain ⟨s1, s2⟩ := sq_bd b1 b2
      by_cases hp : p * p ≤ m
      · have HM := Lib.hid (facMid_go hm.out hp)
        have hp2 := (facMid_bd HM.out).2.2.2.2.2 rfl
        clear hm
        go_wp2
        go_loopw [0, 3] (fun a fs wr => ∃ (m' : Int) (pre : List Int), m' ≤ m ∧ a = .int .i64 m' ∧ Own wr w.heap.size fs pre ∧ Hid (facMid true n p m' pre) ∧ Ext w wr) (fun a _ _ => (intOf a).toNat)
        case atStart => exact ⟨m, pre, Int.le_refl _, rfl, hown, HM, hext⟩
        case round =>
          clear b3 b4 b5 HM
          obtain ⟨m', pre', hle, rfl, hown, hm, hext⟩ := hrel
          obtain ⟨b1, b2, b3, b4, b5, _⟩ := facMid_bd hm.out
          by_cases hd : m' % p = 0
          · have HM := Lib.hid (facMid_hit hm.out hd)
            obtain ⟨c1, c2, c3, c4, c5, _⟩ := facMid_bd HM.out
            have hlt := (div_facts b1 b3 hd).2.1
            have hd' : (m' % p == 0) = true := by simpa using hd
            clear hd hm
            go_wp2_with (at_builtin; refine wp_app1 _ rfl _ _ rfl _ _ pre' rfl hown p rfl (Nat.le_trans b5 (by omega)) hext.size ?_; intro v' w' hown' hgr)
            exact ⟨⟨m' / p, pre' ++ [p], by omega, rfl, hown', HM, ext_app hext hown hgr⟩, by simp only [intOf]; omega⟩
          · have HM := Lib.hid (facMid_miss hm.out hd)
            have hd' : (m' % p == 0) = false := by simpa using hd
            clear hd hm
            go_wp2
            exact ⟨⟨p + 1, m', pre', rfl, rfl, hown, HM, hext⟩, by simp only [intOf]; omega⟩
      · have HM := Lib.hid (facMid_end hm.out hp)
        clear hm
        by_cases h1 : 1 < m
        · go_wp2_with (at_builtin; refine wp_app1 _ rfl _ _ rfl _ _ pre rfl hown m rfl (Nat.le_trans b5 (by omega)) hext.size ?_; intro v' w' hown' hgr)
          go_ret
          exact ⟨_, rfl, by rw [HM.out, if_pos h1]; exact hown', ext_app hext hown hgr⟩
        · go_wp2
          go_ret
          exact ⟨_, rfl, by rw [HM.out, if_neg (by omega), List.append_nil]; exact hown, hext⟩
  · have h0 := inB_f hr
    have G : Hid (facs n = []) := Lib.hid (by rw [facs, if_neg hr])
    go_enter Try.func83, Try.ntmps83
    go_wp2_with (go_at_call 56; refine (i_in _ _ _ _).mono ?_; rintro e w' ⟨rfl, rfl⟩)
    go_ret
    exact ⟨_, rfl, by rw [G.out]; exact OwnV.nil _ _ _, Ext.refl _⟩

theorem i_IsPrime (n : Int) (w : World) : Calls Try.prog 53 #[.int .i64 n] w fun e w' => e = .returned (.bool (isPr n)) ∧ Ext w w' := by
  have G := Lib.hid (facs_len n)
  go_enter Try.func53, Try.ntmps53
  go_wp2_with fail
  refine (i_FactorsOf _ _).mono ?_
  rintro e w1 ⟨v, rfl, hown, hext⟩
  obtain ⟨a, cap, hv, _⟩ := hown.rd
  subst hv
  go_wp2
  go_ret
  exact ⟨ret_bool (by rw [← G.out, Bool.eq_iff_iff]; simp; omega), hext⟩
end Go.Proofs.Ytafaecpmffmfgaa
