/- MeetSets, MinusSets, UnionSets: the walks of the program and of the reference, and the laws. No condition. -/
import Derived.Test.YtlfeoglhhfppmaaSetMath
import Derived.Test.YtlfeoglhhfppmaaClone
import Derived.Laws.AppendOwnNone
namespace Go.Proofs.Ytlfeoglhhfppmaa
open Go.RowKit

def notIn (xs : List Int) (x : Int) (k : Nat) : Prop := ∀ i (h : i < xs.length), i < k → ¬ xs[i] = x
theorem notIn_end {xs : List Int} {x : Int} (h : notIn xs x xs.length) : hasB xs x = false := by
  rw [hasB, decide_eq_false_iff_not]
  intro hm
  obtain ⟨i, hi, he⟩ := List.getElem_of_mem hm
  exact h i hi hi he
theorem hasB_hit {xs : List Int} {x : Int} {k : Nat} (h : k < xs.length) (he : xs[k] = x) : hasB xs x = true := by
  rw [hasB, decide_eq_true_eq, ← he]; exact List.getElem_mem h
theorem notIn_next {xs : List Int} {x : Int} {k : Nat} (h : notIn xs x k) (hk : k < xs.length) (he : ¬ xs[k] = x) : notIn xs x (k + 1) := by
  intro i hi h1
  by_cases h2 : i = k
  · subst h2; exact he
  · exact h i hi (by omega)

theorem c_Index (v : Value) (xs : List Int) (x : Int) (w : World) (h : Rd w v xs) : Calls Try.prog 48 #[v, .int .i64 x] w fun e w' => (∃ r : Int, e = .returned (.int .i64 r) ∧ decide (0 ≤ r) = hasB xs x ∧ w = w') := by
  obtain ⟨a, cap, rfl, hc, hm, hr⟩ := h
  obtain ⟨N, HN⟩ : ∃ N, Hid (N = xs.length) := ⟨_, Lib.hid rfl⟩
  have HC : Hid (0 < N → ∃ b o, a = some ⟨b, o, none⟩ ∧ ∀ i (h : i < xs.length), w.cell? ⟨b, o + i, none⟩ = some (.int .i64 xs[i])) := Lib.hid (fun hk => by
    obtain ⟨b, o, h1, h3, h2⟩ := hr (by rw [← HN.out]; exact hk)
    exact ⟨b, o, h1, h2⟩)
  clear hr
  rw [← HN.out] at hc ⊢
  go_enter Try.func48, Try.ntmps48
  go_wp2
  go_loop [8] (fun i => ∃ k : Nat, k ≤ N ∧ i = .int .i64 k ∧ Hid (notIn xs x k)) (fun i => N - (intOf i).toNat)
  case atStart => exact ⟨0, by omega, rfl, Lib.hid (fun i hi h => by omega)⟩
  case round =>
    obtain ⟨k, hk, rfl, hmid⟩ := hrel
    by_cases hlt : k < N
    · have hlt' : k < xs.length := by rw [← HN.out]; exact hlt
      obtain ⟨b, o, rfl, hall⟩ := HC.out (by omega)
      have hx := hall k hlt'
      obtain ⟨z, HZ⟩ : ∃ z, Hid (z = xs[k]) := ⟨_, Lib.hid rfl⟩
      rw [← HZ.out] at hx
      clear hall
      by_cases he : z = x
      · have G := Lib.hid (hasB_hit hlt' (HZ.out.symm.trans he))
        have heq : (x == z) = true := by simp [he]
        clear he
        go_wp2
        go_ret
        exact ⟨_, rfl, by rw [G.out]; simp, rfl⟩
      · have G := Lib.hid (notIn_next hmid.out hlt' (by rw [← HZ.out]; exact he))
        have heq : (x == z) = false := by rw [beq_eq_false_iff_ne]; first | exact he | exact fun h => he h.symm
        clear he hmid
        go_wp2
        exact ⟨⟨k + 1, by omega, by go_num, G⟩, by simp only [intOf]; omega⟩
    · have G : Hid (hasB xs x = false) := Lib.hid (notIn_end (by have := hmid.out; rw [show k = xs.length from by rw [← HN.out]; omega] at this; exact this))
      clear hmid
      go_wp2
      go_ret
      exact ⟨_, rfl, by rw [G.out]; simp, rfl⟩
theorem s_l00Has (v : Value) (xs : List Int) (x : Int) (w : World) (h : Rd w v xs) : Calls Try.prog 44 #[v, .int .i64 x] w fun e w' => (e = .returned (.bool (hasB xs x)) ∧ w = w') := by
  obtain ⟨a, cap, rfl, hc, hm, hr⟩ := h
  obtain ⟨N, HN⟩ : ∃ N, Hid (N = xs.length) := ⟨_, Lib.hid rfl⟩
  have HC : Hid (0 < N → ∃ b o, a = some ⟨b, o, none⟩ ∧ ∀ i (h : i < xs.length), w.cell? ⟨b, o + i, none⟩ = some (.int .i64 xs[i])) := Lib.hid (fun hk => by
    obtain ⟨b, o, h1, h3, h2⟩ := hr (by rw [← HN.out]; exact hk)
    exact ⟨b, o, h1, h2⟩)
  clear hr
  rw [← HN.out] at hc ⊢
  go_enter Try.func44, Try.ntmps44
  go_wp2
  go_loop [5] (fun i => ∃ k : Nat, k ≤ N ∧ i = .int .i64 k ∧ Hid (notIn xs x k)) (fun i => N - (intOf i).toNat)
  case atStart => exact ⟨0, by omega, rfl, Lib.hid (fun i hi h => by omega)⟩
  case round =>
    obtain ⟨k, hk, rfl, hmid⟩ := hrel
    by_cases hlt : k < N
    · have hlt' : k < xs.length := by rw [← HN.out]; exact hlt
      obtain ⟨b, o, rfl, hall⟩ := HC.out (by omega)
      have hx := hall k hlt'
      obtain ⟨z, HZ⟩ : ∃ z, Hid (z = xs[k]) := ⟨_, Lib.hid rfl⟩
      rw [← HZ.out] at hx
      clear hall
      by_cases he : z = x
      · have G := Lib.hid (hasB_hit hlt' (HZ.out.symm.trans he))
        have heq : (z == x) = true := by simp [he]
        clear he
        go_wp2
        go_ret
        exact ⟨ret_bool G.out.symm, rfl⟩
      · have G := Lib.hid (notIn_next hmid.out hlt' (by rw [← HZ.out]; exact he))
        have heq : (z == x) = false := by rw [beq_eq_false_iff_ne]; first | exact he | exact fun h => he h.symm
        clear he hmid
        go_wp2
        exact ⟨⟨k + 1, by omega, by go_num, G⟩, by simp only [intOf]; omega⟩
    · have G : Hid (hasB xs x = false) := Lib.hid (notIn_end (by have := hmid.out; rw [show k = xs.length from by rw [← HN.out]; omega] at this; exact this))
      clear hmid
      go_wp2
      go_ret
      exact ⟨ret_bool G.out.symm, rfl⟩
theorem c_Contains (v : Value) (xs : List Int) (x : Int) (w : World) (h : Rd w v xs) : Calls Try.prog 46 #[v, .int .i64 x] w fun e w' => e = .returned (.bool (hasB xs x)) ∧ w = w' := by
  go_enter Try.func46, Try.ntmps46
  go_wp2_with fail
  refine (c_Index _ xs _ _ h).mono ?_
  rintro e w1 ⟨r, rfl, hr, rfl⟩
  have HR := Lib.hid hr
  clear hr
  go_wp2
  go_ret
  exact ⟨ret_bool HR.out, rfl⟩
set_option maxHeartbeats 400000 in
theorem i_Meet_filtered (va vb : Value) (xs ys : List Int) (w : World) (ha : Rd w va xs) (hb : Rd w vb ys) :
    Calls Try.prog 27 #[va, vb, .func (.func 28) #[] #[]] w (RetInts w (setB (fun a b => a && b) xs ys)) := by
  have HA := Lib.hid ha
  have HB := Lib.hid hb
  clear ha hb
  cases h1 : validB xs 32
  · have G : Hid (setB (fun a b => a && b) xs ys = []) := Lib.hid (by simp [setB, h1])
    go_enter Try.func27, Try.ntmps27
    go_wp2_with (go_at_call 45; refine (i_ValidSet _ xs _ _ HA.out).mono ?_; rintro e w1 ⟨rfl, rfl⟩)
    go_ret
    exact ⟨_, rfl, by rw [G.out]; exact OwnV.nil _ _ _, Ext.refl _⟩
  · cases h2 : validB ys 32
    · have G : Hid (setB (fun a b => a && b) xs ys = []) := Lib.hid (by simp [setB, h2])
      have H1 := Lib.hid h1
      clear h1
      go_enter Try.func27, Try.ntmps27
      go_wp2_with fail
      refine (i_ValidSet _ xs _ _ HA.out).mono ?_
      rintro e w1 ⟨rfl, rfl⟩
      rw [H1.out]
      go_wp2_with fail
      refine (i_ValidSet _ ys _ _ HB.out).mono ?_
      rintro e w1 ⟨rfl, rfl⟩
      rw [h2]
      go_wp2
      go_ret
      exact ⟨_, rfl, by rw [G.out]; exact OwnV.nil _ _ _, Ext.refl _⟩
    · obtain ⟨R, HR⟩ : ∃ R, Hid (R = setB (fun a b => a && b) xs ys) := ⟨_, Lib.hid rfl⟩
      obtain ⟨P, HPD⟩ : ∃ P : Int → Bool, Hid (P = fun x => (fun a b => a && b) (hasB xs x) (hasB ys x)) := ⟨_, Lib.hid rfl⟩
      have G : Hid (R = filtTo P 32) := Lib.hid (by rw [HR.out, HPD.out]; simp [setB, h1, h2])
      have H1 := Lib.hid h1
      have H2 := Lib.hid h2
      rw [← HR.out]
      clear h1 h2
      go_enter Try.func27, Try.ntmps27
      go_wp2_with fail
      refine (i_ValidSet _ xs _ _ HA.out).mono ?_
      rintro e w1 ⟨rfl, rfl⟩
      rw [H1.out]
      go_wp2_with fail
      refine (i_ValidSet _ ys _ _ HB.out).mono ?_
      rintro e w ⟨rfl, rfl⟩
      rw [H2.out]
      go_wp2
      go_loopw [7, 8] (fun v q wr => ∃ k : Nat, k ≤ 32 ∧ q = .int .i64 k ∧ Hid (Own wr w.heap.size v (filtTo P k)) ∧ Hid (Ext w wr)) (fun _ q _ => 32 - (intOf q).toNat)
      case atStart => exact ⟨0, by omega, rfl, Lib.hid (OwnV.nil _ _ _), Lib.hid (Ext.refl _)⟩
      case round =>
        obtain ⟨k, hk, rfl, hown, hext⟩ := hrel
        by_cases hlt : k < 32
        · cases c1 : hasB xs k <;> cases c2 : hasB ys k
          · have HP : Hid (P k = false) := Lib.hid (by rw [HPD.out]; simp [c1, c2])
            have C1 := Lib.hid c1
            have C2 := Lib.hid c2
            clear c1 c2
            go_wp2_with fail
            refine (c_Contains _ xs _ _ (HA.out.ext hext.out)).mono ?_
            rintro e w1 ⟨rfl, rfl⟩
            rw [C1.out]
            go_wp2_with fail
            refine (c_Contains _ ys _ _ (HB.out.ext hext.out)).mono ?_
            rintro e w1 ⟨rfl, rfl⟩
            rw [C2.out]
            have HO := Lib.hid (show Own _ w.heap.size _ (filtTo P (k + 1)) from by rw [filtTo_miss HP.out]; exact hown.out)
            go_wp2
            exact ⟨⟨k + 1, by omega, by go_num, HO, hext⟩, by simp only [intOf]; omega⟩
          · have HP : Hid (P k = false) := Lib.hid (by rw [HPD.out]; simp [c1, c2])
            have C1 := Lib.hid c1
            have C2 := Lib.hid c2
            clear c1 c2
            go_wp2_with fail
            refine (c_Contains _ xs _ _ (HA.out.ext hext.out)).mono ?_
            rintro e w1 ⟨rfl, rfl⟩
            rw [C1.out]
            go_wp2_with fail
            refine (c_Contains _ ys _ _ (HB.out.ext hext.out)).mono ?_
            rintro e w1 ⟨rfl, rfl⟩
            rw [C2.out]
            have HO := Lib.hid (show Own _ w.heap.size _ (filtTo P (k + 1)) from by rw [filtTo_miss HP.out]; exact hown.out)
            go_wp2
            exact ⟨⟨k + 1, by omega, by go_num, HO, hext⟩, by simp only [intOf]; omega⟩
          · have HP : Hid (P k = false) := Lib.hid (by rw [HPD.out]; simp [c1, c2])
            have C1 := Lib.hid c1
            have C2 := Lib.hid c2
            clear c1 c2
            go_wp2_with fail
            refine (c_Contains _ xs _ _ (HA.out.ext hext.out)).mono ?_
            rintro e w1 ⟨rfl, rfl⟩
            rw [C1.out]
            go_wp2_with fail
            refine (c_Contains _ ys _ _ (HB.out.ext hext.out)).mono ?_
            rintro e w1 ⟨rfl, rfl⟩
            rw [C2.out]
            have HO := Lib.hid (show Own _ w.heap.size _ (filtTo P (k + 1)) from by rw [filtTo_miss HP.out]; exact hown.out)
            go_wp2
            exact ⟨⟨k + 1, by omega, by go_num, HO, hext⟩, by simp only [intOf]; omega⟩
          · have HP : Hid (P k = true) := Lib.hid (by rw [HPD.out]; simp [c1, c2])
            have C1 := Lib.hid c1
            have C2 := Lib.hid c2
            clear c1 c2
            go_wp2_with fail
            refine (c_Contains _ xs _ _ (HA.out.ext hext.out)).mono ?_
            rintro e w1 ⟨rfl, rfl⟩
            rw [C1.out]
            go_wp2_with fail
            refine (c_Contains _ ys _ _ (HB.out.ext hext.out)).mono ?_
            rintro e w1 ⟨rfl, rfl⟩
            rw [C2.out]
            have hown1 := hown.out
            have hz := hext.out.size
            have hlen := filtTo_len P k
            go_wp2_with (first | (at_builtin; refine wp_app1 _ rfl _ _ rfl _ _ (filtTo P k) rfl hown1 (k : Int) rfl (by omega) hz ?_; intro v' w' hown3 hgr) | go_in)
            have HO := Lib.hid (show Own w' w.heap.size v' (filtTo P (k + 1)) from by rw [filtTo_hit HP.out]; exact hown3)
            have HE : Hid (Ext w w') := Lib.hid (ext_app (e := 2) hext.out hown1 hgr)
            clear hown3 hgr hown1
            go_wp2
            exact ⟨⟨k + 1, by omega, by go_num, HO, HE⟩, by simp only [intOf]; omega⟩
        · obtain rfl : k = 32 := by omega
          go_wp2
          go_ret
          exact ⟨_, rfl, by rw [G.out]; exact hown.out, hext.out⟩
theorem i_MeetSets (va : Value) (xs : List Int) (vb : Value) (ys : List Int) (w : World) (ha : Rd w va xs) (hb : Rd w vb ys) : Calls Try.prog 10 #[va, vb] w (RetInts w (setB (fun a b => a && b) xs ys)) := by
  have HA := Lib.hid ha
  have HB := Lib.hid hb
  clear ha hb
  obtain ⟨R, HR⟩ : ∃ R, Hid (R = setB (fun a b => a && b) xs ys) := ⟨_, Lib.hid rfl⟩
  rw [← HR.out]
  go_enter Try.func10, Try.ntmps10
  go_wp2_with fail
  refine (i_Meet_filtered _ _ xs ys _ HA.out HB.out).mono ?_
  rintro e w1 ⟨v, rfl, hown, hext⟩
  rw [← HR.out] at hown
  go_wp2
  go_ret
  exact ⟨_, rfl, hown, hext⟩
set_option maxHeartbeats 400000 in
theorem i_Minus_filtered (va vb : Value) (xs ys : List Int) (w : World) (ha : Rd w va xs) (hb : Rd w vb ys) :
    Calls Try.prog 27 #[va, vb, .func (.func 29) #[] #[]] w (RetInts w (setB (fun a b => a && !b) xs ys)) := by
  have HA := Lib.hid ha
  have HB := Lib.hid hb
  clear ha hb
  cases h1 : validB xs 32
  · have G : Hid (setB (fun a b => a && !b) xs ys = []) := Lib.hid (by simp [setB, h1])
    go_enter Try.func27, Try.ntmps27
    go_wp2_with (go_at_call 45; refine (i_ValidSet _ xs _ _ HA.out).mono ?_; rintro e w1 ⟨rfl, rfl⟩)
    go_ret
    exact ⟨_, rfl, by rw [G.out]; exact OwnV.nil _ _ _, Ext.refl _⟩
  · cases h2 : validB ys 32
    · have G : Hid (setB (fun a b => a && !b) xs ys = []) := Lib.hid (by simp [setB, h2])
      have H1 := Lib.hid h1
      clear h1
      go_enter Try.func27, Try.ntmps27
      go_wp2_with fail
      refine (i_ValidSet _ xs _ _ HA.out).mono ?_
      rintro e w1 ⟨rfl, rfl⟩
      rw [H1.out]
      go_wp2_with fail
      refine (i_ValidSet _ ys _ _ HB.out).mono ?_
      rintro e w1 ⟨rfl, rfl⟩
      rw [h2]
      go_wp2
      go_ret
      exact ⟨_, rfl, by rw [G.out]; exact OwnV.nil _ _ _, Ext.refl _⟩
    · obtain ⟨R, HR⟩ : ∃ R, Hid (R = setB (fun a b => a && !b) xs ys) := ⟨_, Lib.hid rfl⟩
      obtain ⟨P, HPD⟩ : ∃ P : Int → Bool, Hid (P = fun x => (fun a b => a && !b) (hasB xs x) (hasB ys x)) := ⟨_, Lib.hid rfl⟩
      have G : Hid (R = filtTo P 32) := Lib.hid (by rw [HR.out, HPD.out]; simp [setB, h1, h2])
      have H1 := Lib.hid h1
      have H2 := Lib.hid h2
      rw [← HR.out]
      clear h1 h2
      go_enter Try.func27, Try.ntmps27
      go_wp2_with fail
      refine (i_ValidSet _ xs _ _ HA.out).mono ?_
      rintro e w1 ⟨rfl, rfl⟩
      rw [H1.out]
      go_wp2_with fail
      refine (i_ValidSet _ ys _ _ HB.out).mono ?_
      rintro e w ⟨rfl, rfl⟩
      rw [H2.out]
      go_wp2
      go_loopw [7, 8] (fun v q wr => ∃ k : Nat, k ≤ 32 ∧ q = .int .i64 k ∧ Hid (Own wr w.heap.size v (filtTo P k)) ∧ Hid (Ext w wr)) (fun _ q _ => 32 - (intOf q).toNat)
      case atStart => exact ⟨0, by omega, rfl, Lib.hid (OwnV.nil _ _ _), Lib.hid (Ext.refl _)⟩
      case round =>
        obtain ⟨k, hk, rfl, hown, hext⟩ := hrel
        by_cases hlt : k < 32
        · cases c1 : hasB xs k <;> cases c2 : hasB ys k
          · have HP : Hid (P k = false) := Lib.hid (by rw [HPD.out]; simp [c1, c2])
            have C1 := Lib.hid c1
            have C2 := Lib.hid c2
            clear c1 c2
            go_wp2_with fail
            refine (c_Contains _ xs _ _ (HA.out.ext hext.out)).mono ?_
            rintro e w1 ⟨rfl, rfl⟩
            rw [C1.out]
            go_wp2_with fail
            refine (c_Contains _ ys _ _ (HB.out.ext hext.out)).mono ?_
            rintro e w1 ⟨rfl, rfl⟩
            rw [C2.out]
            have HO := Lib.hid (show Own _ w.heap.size _ (filtTo P (k + 1)) from by rw [filtTo_miss HP.out]; exact hown.out)
            go_wp2
            exact ⟨⟨k + 1, by omega, by go_num, HO, hext⟩, by simp only [intOf]; omega⟩
          · have HP : Hid (P k = false) := Lib.hid (by rw [HPD.out]; simp [c1, c2])
            have C1 := Lib.hid c1
            have C2 := Lib.hid c2
            clear c1 c2
            go_wp2_with fail
            refine (c_Contains _ xs _ _ (HA.out.ext hext.out)).mono ?_
            rintro e w1 ⟨rfl, rfl⟩
            rw [C1.out]
            go_wp2_with fail
            refine (c_Contains _ ys _ _ (HB.out.ext hext.out)).mono ?_
            rintro e w1 ⟨rfl, rfl⟩
            rw [C2.out]
            have HO := Lib.hid (show Own _ w.heap.size _ (filtTo P (k + 1)) from by rw [filtTo_miss HP.out]; exact hown.out)
            go_wp2
            exact ⟨⟨k + 1, by omega, by go_num, HO, hext⟩, by simp only [intOf]; omega⟩
          · have HP : Hid (P k = true) := Lib.hid (by rw [HPD.out]; simp [c1, c2])
            have C1 := Lib.hid c1
            have C2 := Lib.hid c2
            clear c1 c2
            go_wp2_with fail
            refine (c_Contains _ xs _ _ (HA.out.ext hext.out)).mono ?_
            rintro e w1 ⟨rfl, rfl⟩
            rw [C1.out]
            go_wp2_with fail
            refine (c_Contains _ ys _ _ (HB.out.ext hext.out)).mono ?_
            rintro e w1 ⟨rfl, rfl⟩
            rw [C2.out]
            have hown1 := hown.out
            have hz := hext.out.size
            have hlen := filtTo_len P k
            go_wp2_with (first | (at_builtin; refine wp_app1 _ rfl _ _ rfl _ _ (filtTo P k) rfl hown1 (k : Int) rfl (by omega) hz ?_; intro v' w' hown3 hgr) | go_in)
            have HO := Lib.hid (show Own w' w.heap.size v' (filtTo P (k + 1)) from by rw [filtTo_hit HP.out]; exact hown3)
            have HE : Hid (Ext w w') := Lib.hid (ext_app (e := 2) hext.out hown1 hgr)
            clear hown3 hgr hown1
            go_wp2
            exact ⟨⟨k + 1, by omega, by go_num, HO, HE⟩, by simp only [intOf]; omega⟩
          · have HP : Hid (P k = false) := Lib.hid (by rw [HPD.out]; simp [c1, c2])
            have C1 := Lib.hid c1
            have C2 := Lib.hid c2
            clear c1 c2
            go_wp2_with fail
            refine (c_Contains _ xs _ _ (HA.out.ext hext.out)).mono ?_
            rintro e w1 ⟨rfl, rfl⟩
            rw [C1.out]
            go_wp2_with fail
            refine (c_Contains _ ys _ _ (HB.out.ext hext.out)).mono ?_
            rintro e w1 ⟨rfl, rfl⟩
            rw [C2.out]
            have HO := Lib.hid (show Own _ w.heap.size _ (filtTo P (k + 1)) from by rw [filtTo_miss HP.out]; exact hown.out)
            go_wp2
            exact ⟨⟨k + 1, by omega, by go_num, HO, hext⟩, by simp only [intOf]; omega⟩
        · obtain rfl : k = 32 := by omega
          go_wp2
          go_ret
          exact ⟨_, rfl, by rw [G.out]; exact hown.out, hext.out⟩
theorem i_MinusSets (va : Value) (xs : List Int) (vb : Value) (ys : List Int) (w : World) (ha : Rd w va xs) (hb : Rd w vb ys) : Calls Try.prog 15 #[va, vb] w (RetInts w (setB (fun a b => a && !b) xs ys)) := by
  have HA := Lib.hid ha
  have HB := Lib.hid hb
  clear ha hb
  obtain ⟨R, HR⟩ : ∃ R, Hid (R = setB (fun a b => a && !b) xs ys) := ⟨_, Lib.hid rfl⟩
  rw [← HR.out]
  go_enter Try.func15, Try.ntmps15
  go_wp2_with fail
  refine (i_Minus_filtered _ _ xs ys _ HA.out HB.out).mono ?_
  rintro e w1 ⟨v, rfl, hown, hext⟩
  rw [← HR.out] at hown
  go_wp2
  go_ret
  exact ⟨_, rfl, hown, hext⟩
set_option maxHeartbeats 400000 in
theorem i_Union_filtered (va vb : Value) (xs ys : List Int) (w : World) (ha : Rd w va xs) (hb : Rd w vb ys) :
    Calls Try.prog 27 #[va, vb, .func (.func 33) #[] #[]] w (RetInts w (setB (fun a b => a || b) xs ys)) := by
  have HA := Lib.hid ha
  have HB := Lib.hid hb
  clear ha hb
  cases h1 : validB xs 32
  · have G : Hid (setB (fun a b => a || b) xs ys = []) := Lib.hid (by simp [setB, h1])
    go_enter Try.func27, Try.ntmps27
    go_wp2_with (go_at_call 45; refine (i_ValidSet _ xs _ _ HA.out).mono ?_; rintro e w1 ⟨rfl, rfl⟩)
    go_ret
    exact ⟨_, rfl, by rw [G.out]; exact OwnV.nil _ _ _, Ext.refl _⟩
  · cases h2 : validB ys 32
    · have G : Hid (setB (fun a b => a || b) xs ys = []) := Lib.hid (by simp [setB, h2])
      have H1 := Lib.hid h1
      clear h1
      go_enter Try.func27, Try.ntmps27
      go_wp2_with fail
      refine (i_ValidSet _ xs _ _ HA.out).mono ?_
      rintro e w1 ⟨rfl, rfl⟩
      rw [H1.out]
      go_wp2_with fail
      refine (i_ValidSet _ ys _ _ HB.out).mono ?_
      rintro e w1 ⟨rfl, rfl⟩
      rw [h2]
      go_wp2
      go_ret
      exact ⟨_, rfl, by rw [G.out]; exact OwnV.nil _ _ _, Ext.refl _⟩
    · obtain ⟨R, HR⟩ : ∃ R, Hid (R = setB (fun a b => a || b) xs ys) := ⟨_, Lib.hid rfl⟩
      obtain ⟨P, HPD⟩ : ∃ P : Int → Bool, Hid (P = fun x => (fun a b => a || b) (hasB xs x) (hasB ys x)) := ⟨_, Lib.hid rfl⟩
      have G : Hid (R = filtTo P 32) := Lib.hid (by rw [HR.out, HPD.out]; simp [setB, h1, h2])
      have H1 := Lib.hid h1
      have H2 := Lib.hid h2
      rw [← HR.out]
      clear h1 h2
      go_enter Try.func27, Try.ntmps27
      go_wp2_with fail
      refine (i_ValidSet _ xs _ _ HA.out).mono ?_
      rintro e w1 ⟨rfl, rfl⟩
      rw [H1.out]
      go_wp2_with fail
      refine (i_ValidSet _ ys _ _ HB.out).mono ?_
      rintro e w ⟨rfl, rfl⟩
      rw [H2.out]
      go_wp2
      go_loopw [7, 8] (fun v q wr => ∃ k : Nat, k ≤ 32 ∧ q = .int .i64 k ∧ Hid (Own wr w.heap.size v (filtTo P k)) ∧ Hid (Ext w wr)) (fun _ q _ => 32 - (intOf q).toNat)
      case atStart => exact ⟨0, by omega, rfl, Lib.hid (OwnV.nil _ _ _), Lib.hid (Ext.refl _)⟩
      case round =>
        obtain ⟨k, hk, rfl, hown, hext⟩ := hrel
        by_cases hlt : k < 32
        · cases c1 : hasB xs k <;> cases c2 : hasB ys k
          · have HP : Hid (P k = false) := Lib.hid (by rw [HPD.out]; simp [c1, c2])
            have C1 := Lib.hid c1
            have C2 := Lib.hid c2
            clear c1 c2
            go_wp2_with fail
            refine (c_Contains _ xs _ _ (HA.out.ext hext.out)).mono ?_
            rintro e w1 ⟨rfl, rfl⟩
            rw [C1.out]
            go_wp2_with fail
            refine (c_Contains _ ys _ _ (HB.out.ext hext.out)).mono ?_
            rintro e w1 ⟨rfl, rfl⟩
            rw [C2.out]
            have HO := Lib.hid (show Own _ w.heap.size _ (filtTo P (k + 1)) from by rw [filtTo_miss HP.out]; exact hown.out)
            go_wp2
            exact ⟨⟨k + 1, by omega, by go_num, HO, hext⟩, by simp only [intOf]; omega⟩
          · have HP : Hid (P k = true) := Lib.hid (by rw [HPD.out]; simp [c1, c2])
            have C1 := Lib.hid c1
            have C2 := Lib.hid c2
            clear c1 c2
            go_wp2_with fail
            refine (c_Contains _ xs _ _ (HA.out.ext hext.out)).mono ?_
            rintro e w1 ⟨rfl, rfl⟩
            rw [C1.out]
            go_wp2_with fail
            refine (c_Contains _ ys _ _ (HB.out.ext hext.out)).mono ?_
            rintro e w1 ⟨rfl, rfl⟩
            rw [C2.out]
            have hown1 := hown.out
            have hz := hext.out.size
            have hlen := filtTo_len P k
            go_wp2_with (first | (at_builtin; refine wp_app1 _ rfl _ _ rfl _ _ (filtTo P k) rfl hown1 (k : Int) rfl (by omega) hz ?_; intro v' w' hown3 hgr) | go_in)
            have HO := Lib.hid (show Own w' w.heap.size v' (filtTo P (k + 1)) from by rw [filtTo_hit HP.out]; exact hown3)
            have HE : Hid (Ext w w') := Lib.hid (ext_app (e := 2) hext.out hown1 hgr)
            clear hown3 hgr hown1
            go_wp2
            exact ⟨⟨k + 1, by omega, by go_num, HO, HE⟩, by simp only [intOf]; omega⟩
          · have HP : Hid (P k = true) := Lib.hid (by rw [HPD.out]; simp [c1, c2])
            have C1 := Lib.hid c1
            have C2 := Lib.hid c2
            clear c1 c2
            go_wp2_with fail
            refine (c_Contains _ xs _ _ (HA.out.ext hext.out)).mono ?_
            rintro e w1 ⟨rfl, rfl⟩
            rw [C1.out]
            go_wp2_with fail
            refine (c_Contains _ ys _ _ (HB.out.ext hext.out)).mono ?_
            rintro e w1 ⟨rfl, rfl⟩
            rw [C2.out]
            have hown1 := hown.out
            have hz := hext.out.size
            have hlen := filtTo_len P k
            go_wp2_with (first | (at_builtin; refine wp_app1 _ rfl _ _ rfl _ _ (filtTo P k) rfl hown1 (k : Int) rfl (by omega) hz ?_; intro v' w' hown3 hgr) | go_in)
            have HO := Lib.hid (show Own w' w.heap.size v' (filtTo P (k + 1)) from by rw [filtTo_hit HP.out]; exact hown3)
            have HE : Hid (Ext w w') := Lib.hid (ext_app (e := 2) hext.out hown1 hgr)
            clear hown3 hgr hown1
            go_wp2
            exact ⟨⟨k + 1, by omega, by go_num, HO, HE⟩, by simp only [intOf]; omega⟩
          · have HP : Hid (P k = true) := Lib.hid (by rw [HPD.out]; simp [c1, c2])
            have C1 := Lib.hid c1
            have C2 := Lib.hid c2
            clear c1 c2
            go_wp2_with fail
            refine (c_Contains _ xs _ _ (HA.out.ext hext.out)).mono ?_
            rintro e w1 ⟨rfl, rfl⟩
            rw [C1.out]
            go_wp2_with fail
            refine (c_Contains _ ys _ _ (HB.out.ext hext.out)).mono ?_
            rintro e w1 ⟨rfl, rfl⟩
            rw [C2.out]
            have hown1 := hown.out
            have hz := hext.out.size
            have hlen := filtTo_len P k
            go_wp2_with (first | (at_builtin; refine wp_app1 _ rfl _ _ rfl _ _ (filtTo P k) rfl hown1 (k : Int) rfl (by omega) hz ?_; intro v' w' hown3 hgr) | go_in)
            have HO := Lib.hid (show Own w' w.heap.size v' (filtTo P (k + 1)) from by rw [filtTo_hit HP.out]; exact hown3)
            have HE : Hid (Ext w w') := Lib.hid (ext_app (e := 2) hext.out hown1 hgr)
            clear hown3 hgr hown1
            go_wp2
            exact ⟨⟨k + 1, by omega, by go_num, HO, HE⟩, by simp only [intOf]; omega⟩
        · obtain rfl : k = 32 := by omega
          go_wp2
          go_ret
          exact ⟨_, rfl, by rw [G.out]; exact hown.out, hext.out⟩
theorem i_UnionSets (va : Value) (xs : List Int) (vb : Value) (ys : List Int) (w : World) (ha : Rd w va xs) (hb : Rd w vb ys) : Calls Try.prog 17 #[va, vb] w (RetInts w (setB (fun a b => a || b) xs ys)) := by
  have HA := Lib.hid ha
  have HB := Lib.hid hb
  clear ha hb
  obtain ⟨R, HR⟩ : ∃ R, Hid (R = setB (fun a b => a || b) xs ys) := ⟨_, Lib.hid rfl⟩
  rw [← HR.out]
  go_enter Try.func17, Try.ntmps17
  go_wp2_with fail
  refine (i_Union_filtered _ _ xs ys _ HA.out HB.out).mono ?_
  rintro e w1 ⟨v, rfl, hown, hext⟩
  rw [← HR.out] at hown
  go_wp2
  go_ret
  exact ⟨_, rfl, hown, hext⟩
end Go.Proofs.Ytlfeoglhhfppmaa
