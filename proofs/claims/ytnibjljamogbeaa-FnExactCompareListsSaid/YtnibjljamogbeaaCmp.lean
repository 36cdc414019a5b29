/- CompareLists: the walks of the program, the library's slices.Compare and the reference, and the law. No condition. -/
import Derived.Test.YtnibjljamogbeaaInts
import Derived.Test.YtnibjljamogbeaaSlices
namespace Go.Proofs.Ytnibjljamogbeaa
open Go.RowKit

def cmpI (x y : Int) : Int := if x < y then -1 else if y < x then 1 else 0
def cmpL : List Int → List Int → Int
  | [], [] => 0
  | [], _ :: _ => -1
  | _ :: _, [] => 1
  | x :: xs, y :: ys => if x < y then -1 else if y < x then 1 else cmpL xs ys
theorem cmp_i (x y : Int) (w : World) : Calls Try.prog 72 #[.int .i64 x, .int .i64 y] w fun e w' => e = .returned (.int .i64 (cmpI x y)) ∧ w = w' := by
  have n1 : (x != x) = false := by simp
  have n2 : (y != y) = false := by simp
  by_cases h1 : x < y
  · have G : Hid (cmpI x y = -1) := Lib.hid (by simp [cmpI, h1])
    go_enter Try.func72, Try.ntmps72
    go_wp2
    go_ret
    exact ⟨ret_i64 G.out.symm, rfl⟩
  · by_cases h2 : y < x
    · have G : Hid (cmpI x y = 1) := Lib.hid (by simp [cmpI, h1, h2])
      go_enter Try.func72, Try.ntmps72
      go_wp2
      go_ret
      exact ⟨ret_i64 G.out.symm, rfl⟩
    · have G : Hid (cmpI x y = 0) := Lib.hid (by simp [cmpI, h1, h2])
      go_enter Try.func72, Try.ntmps72
      go_wp2
      go_ret
      exact ⟨ret_i64 G.out.symm, rfl⟩
theorem drop_cons {xs : List Int} {k : Nat} (h : k < xs.length) : xs.drop k = xs[k] :: xs.drop (k + 1) := List.drop_eq_getElem_cons h
theorem drop_nil' {xs : List Int} {k : Nat} (h : xs.length ≤ k) : xs.drop k = [] := List.drop_of_length_le h
theorem drop_ne {xs : List Int} {k : Nat} (h : k < xs.length) : ∃ x r, xs.drop k = x :: r := ⟨_, _, drop_cons h⟩

theorem i_cmpL (v : Value) (xs : List Int) (v' : Value) (ys : List Int) (w : World) (h : Rd w v xs) (h' : Rd w v' ys) :
    Calls Try.prog 57 #[v, v'] w fun e w' => e = .returned (.int .i64 (cmpL xs ys)) ∧ Drawn w w' := by
  obtain ⟨a, cap, rfl, hc, hm, hr⟩ := h
  obtain ⟨a', cap', rfl, hc', hm', hr'⟩ := h'
  have HR := Lib.hid hr
  have HR' := Lib.hid hr'
  clear hr hr'
  obtain ⟨N, HN⟩ : ∃ N, Hid (N = xs.length) := ⟨_, Lib.hid rfl⟩
  obtain ⟨M, HM⟩ : ∃ M, Hid (M = ys.length) := ⟨_, Lib.hid rfl⟩
  rw [← HN.out] at hc ⊢
  rw [← HM.out] at hc' ⊢
  go_enter Try.func57, Try.ntmps57
  go_wp2
  go_loopw [11] (fun i wr => ∃ k : Nat, k ≤ N ∧ k ≤ M ∧ i = .int .i64 k ∧ Hid (cmpL xs ys = cmpL (xs.drop k) (ys.drop k)) ∧ Hid (Drawn w wr)) (fun i _ => N - (intOf i).toNat)
  case atStart => exact ⟨0, by omega, by omega, rfl, Lib.hid rfl, Lib.hid (Drawn.refl _)⟩
  case round =>
    obtain ⟨k, hk, hk2, rfl, hm3, hd⟩ := hrel
    by_cases hlt : k < N
    · have hlt' : k < xs.length := by rw [← HN.out]; exact hlt
      by_cases hlt2 : k < M
      · have hlt2' : k < ys.length := by rw [← HM.out]; exact hlt2
        obtain ⟨b, o, rfl, hb, hall⟩ := HR.out (by omega)
        obtain ⟨b', o', rfl, hb', hall'⟩ := HR'.out (by omega)
        have hx := (hd.out.ext.cell (p := ⟨b, o + k, none⟩) hb).trans (hall k hlt')
        have hy := (hd.out.ext.cell (p := ⟨b', o' + k, none⟩) hb').trans (hall' k hlt2')
        have HD : Hid (cmpL xs ys = if xs[k] < ys[k] then -1 else if ys[k] < xs[k] then 1 else cmpL (xs.drop (k + 1)) (ys.drop (k + 1))) := Lib.hid (by
          rw [hm3.out, drop_cons hlt', drop_cons hlt2', cmpL])
        generalize xs[k] = x at *
        generalize ys[k] = y at *
        clear hall hall' hm3
        have dr := hd.out
        by_cases h1 : x < y
        · have G : Hid (cmpL xs ys = -1) := Lib.hid (by rw [HD.out, if_pos h1])
          have GC : Hid (cmpI x y = -1) := Lib.hid (by simp [cmpI, h1])
          go_wp2_with (go_at_call 72; refine (cmp_i _ _ _).mono ?_; rintro e w1 ⟨rfl, rfl⟩; rw [GC.out])
          go_ret
          exact ⟨ret_i64 G.out.symm, by repeat (first | exact dr | apply Drawn.drewN)⟩
        · by_cases h2 : y < x
          · have G : Hid (cmpL xs ys = 1) := Lib.hid (by rw [HD.out, if_neg h1, if_pos h2])
            have GC : Hid (cmpI x y = 1) := Lib.hid (by simp [cmpI, h1, h2])
            go_wp2_with (go_at_call 72; refine (cmp_i _ _ _).mono ?_; rintro e w1 ⟨rfl, rfl⟩; rw [GC.out])
            go_ret
            exact ⟨ret_i64 G.out.symm, by repeat (first | exact dr | apply Drawn.drewN)⟩
          · have G : Hid (cmpL xs ys = cmpL (xs.drop (k + 1)) (ys.drop (k + 1))) := Lib.hid (by rw [HD.out, if_neg h1, if_neg h2])
            have GC : Hid (cmpI x y = 0) := Lib.hid (by simp [cmpI, h1, h2])
            have h1' : y ≤ x := by omega
            have h2' : x ≤ y := by omega
            go_wp2_with (go_at_call 72; refine (cmp_i _ _ _).mono ?_; rintro e w1 ⟨rfl, rfl⟩; rw [GC.out])
            exact ⟨⟨k + 1, by omega, by omega, by go_num, G, Lib.hid (by repeat (first | exact dr | apply Drawn.drewN))⟩, by simp only [intOf]; omega⟩
      · have G : Hid (cmpL xs ys = 1) := Lib.hid (by
          obtain ⟨x, r, hx⟩ := drop_ne hlt'
          rw [hm3.out, hx, drop_nil' (by have := HM.out; omega), cmpL])
        obtain ⟨b, o, rfl, hb, hall⟩ := HR.out (by omega)
        have hx := (hd.out.ext.cell (p := ⟨b, o + k, none⟩) hb).trans (hall k hlt')
        generalize xs[k] = x at *
        clear hall
        have dr := hd.out
        go_wp2
        go_ret
        exact ⟨ret_i64 G.out.symm, dr⟩
    · have dr := hd.out
      by_cases hlt2 : k < M
      · have G : Hid (cmpL xs ys = -1) := Lib.hid (by
          obtain ⟨y, r, hy⟩ := drop_ne (xs := ys) (k := k) (by rw [← HM.out]; exact hlt2)
          rw [hm3.out, hy, drop_nil' (by have := HN.out; omega), cmpL])
        go_wp2
        go_ret
        exact ⟨ret_i64 G.out.symm, dr⟩
      · have G : Hid (cmpL xs ys = 0) := Lib.hid (by
          rw [hm3.out, drop_nil' (by have := HN.out; omega), drop_nil' (by have := HM.out; omega), cmpL])
        go_wp2
        go_ret
        exact ⟨ret_i64 G.out.symm, dr⟩
theorem s_cmpL (v : Value) (xs : List Int) (v' : Value) (ys : List Int) (w : World) (h : Rd w v xs) (h' : Rd w v' ys) :
    Calls Try.prog 28 #[v, v'] w fun e w' => e = .returned (.int .i64 (cmpL xs ys)) ∧ Drawn w w' := by
  obtain ⟨a, cap, rfl, hc, hm, hr⟩ := h
  obtain ⟨a', cap', rfl, hc', hm', hr'⟩ := h'
  have HR := Lib.hid hr
  have HR' := Lib.hid hr'
  clear hr hr'
  obtain ⟨N, HN⟩ : ∃ N, Hid (N = xs.length) := ⟨_, Lib.hid rfl⟩
  obtain ⟨M, HM⟩ : ∃ M, Hid (M = ys.length) := ⟨_, Lib.hid rfl⟩
  rw [← HN.out] at hc ⊢
  rw [← HM.out] at hc' ⊢
  go_enter Try.func28, Try.ntmps28
  go_wp2
  go_loopw [5] (fun i wr => ∃ k : Nat, k ≤ N ∧ k ≤ M ∧ i = .int .i64 k ∧ Hid (cmpL xs ys = cmpL (xs.drop k) (ys.drop k)) ∧ Hid (Drawn w wr)) (fun i _ => N - (intOf i).toNat)
  case atStart => exact ⟨0, by omega, by omega, rfl, Lib.hid rfl, Lib.hid (Drawn.refl _)⟩
  case round =>
    obtain ⟨k, hk, hk2, rfl, hm3, hd⟩ := hrel
    by_cases hlt : k < N
    · have hlt' : k < xs.length := by rw [← HN.out]; exact hlt
      by_cases hlt2 : k < M
      · have hlt2' : k < ys.length := by rw [← HM.out]; exact hlt2
        obtain ⟨b, o, rfl, hb, hall⟩ := HR.out (by omega)
        obtain ⟨b', o', rfl, hb', hall'⟩ := HR'.out (by omega)
        have hx := (hd.out.ext.cell (p := ⟨b, o + k, none⟩) hb).trans (hall k hlt')
        have hy := (hd.out.ext.cell (p := ⟨b', o' + k, none⟩) hb').trans (hall' k hlt2')
        have HD : Hid (cmpL xs ys = if xs[k] < ys[k] then -1 else if ys[k] < xs[k] then 1 else cmpL (xs.drop (k + 1)) (ys.drop (k + 1))) := Lib.hid (by
          rw [hm3.out, drop_cons hlt', drop_cons hlt2', cmpL])
        generalize xs[k] = x at *
        generalize ys[k] = y at *
        clear hall hall' hm3
        have dr := hd.out
        by_cases h1 : x < y
        · have G : Hid (cmpL xs ys = -1) := Lib.hid (by rw [HD.out, if_pos h1])
          have GC : Hid (cmpI x y = -1) := Lib.hid (by simp [cmpI, h1])
          (go_wp2; repeat (go_quiet (fail); go_wp2))
          go_ret
          exact ⟨ret_i64 G.out.symm, by repeat (first | exact dr | apply Drawn.drewN)⟩
        · by_cases h2 : y < x
          · have G : Hid (cmpL xs ys = 1) := Lib.hid (by rw [HD.out, if_neg h1, if_pos h2])
            have GC : Hid (cmpI x y = 1) := Lib.hid (by simp [cmpI, h1, h2])
            (go_wp2; repeat (go_quiet (fail); go_wp2))
            go_ret
            exact ⟨ret_i64 G.out.symm, by repeat (first | exact dr | apply Drawn.drewN)⟩
          · have G : Hid (cmpL xs ys = cmpL (xs.drop (k + 1)) (ys.drop (k + 1))) := Lib.hid (by rw [HD.out, if_neg h1, if_neg h2])
            have GC : Hid (cmpI x y = 0) := Lib.hid (by simp [cmpI, h1, h2])
            have h1' : y ≤ x := by omega
            have h2' : x ≤ y := by omega
            (go_wp2; repeat (go_quiet (fail); go_wp2))
            exact ⟨⟨k + 1, by omega, by omega, by go_num, G, Lib.hid (by repeat (first | exact dr | apply Drawn.drewN))⟩, by simp only [intOf]; omega⟩
      · have G : Hid (cmpL xs ys = 1) := Lib.hid (by
          obtain ⟨x, r, hx⟩ := drop_ne hlt'
          rw [hm3.out, hx, drop_nil' (by have := HM.out; omega), cmpL])
        obtain ⟨b, o, rfl, hb, hall⟩ := HR.out (by omega)
        have hx := (hd.out.ext.cell (p := ⟨b, o + k, none⟩) hb).trans (hall k hlt')
        generalize xs[k] = x at *
        clear hall
        have dr := hd.out
        go_wp2
        go_ret
        exact ⟨ret_i64 G.out.symm, dr⟩
    · have dr := hd.out
      by_cases hlt2 : k < M
      · have G : Hid (cmpL xs ys = -1) := Lib.hid (by
          obtain ⟨y, r, hy⟩ := drop_ne (xs := ys) (k := k) (by rw [← HM.out]; exact hlt2)
          rw [hm3.out, hy, drop_nil' (by have := HN.out; omega), cmpL])
        go_wp2
        go_ret
        exact ⟨ret_i64 G.out.symm, dr⟩
      · have G : Hid (cmpL xs ys = 0) := Lib.hid (by
          rw [hm3.out, drop_nil' (by have := HN.out; omega), drop_nil' (by have := HM.out; omega), cmpL])
        go_wp2
        go_ret
        exact ⟨ret_i64 G.out.symm, dr⟩
theorem i_CompareLists (v : Value) (xs : List Int) (v' : Value) (ys : List Int) (w : World) (h : Rd w v xs) (h' : Rd w v' ys) :
    Calls Try.prog 30 #[v, v'] w fun e w' => e = .returned (.int .i64 (cmpL xs ys)) ∧ Drawn w w' := by
  have HR := Lib.hid h
  have HR' := Lib.hid h'
  clear h h'
  go_enter Try.func30, Try.ntmps30
  go_wp2_with fail
  refine (i_cmpL _ xs _ ys _ HR.out HR'.out).mono ?_
  rintro e w1 ⟨rfl, hd⟩
  go_wp2
  go_ret
  exact ⟨rfl, hd⟩
theorem l_CompareLists (w : World) (v0 : Value) (xs0 : List Int) (h0 : Rd w v0 xs0) (v1 : Value) (xs1 : List Int) (h1 : Rd w v1 xs1) :
    Calls Try.prog 8 #[v0, v1] w fun e w' => e = .returned (.bool true) ∧ Ext w w' := by
  have r0_0 := h0
  obtain ⟨ad0, cap0, rfl, hc0, hm0, _⟩ := h0
  have r1_0 := h1
  obtain ⟨ad1, cap1, rfl, hc1, hm1, _⟩ := h1
  by_cases hl0 : 1048576 < xs0.length
  · go_enter Try.func8, Try.ntmps8
    go_wp2
    go_ret
    exact ⟨rfl, Ext.refl _⟩
  by_cases hl1 : 1048576 < xs1.length
  · go_enter Try.func8, Try.ntmps8
    go_wp2
    go_ret
    exact ⟨rfl, Ext.refl _⟩
  have X0 : Ext w w := Ext.refl w
  go_enter Try.func8, Try.ntmps8
  go_wp2_with fail
  refine (l_toInt64S _ xs0 _ (by omega) r0_0).mono ?_
  rintro e w1 ⟨u_s0, rfl, s0_1, x1⟩
  have z1 := x1.size
  have X1 : Ext w w1 := X0.trans x1
  have r0_1 := r0_0.ext X1
  have r1_1 := r1_0.ext X1
  go_wp2_with fail
  refine (l_toInt64S _ xs1 _ (by omega) r1_1).mono ?_
  rintro e w2 ⟨u_s1, rfl, s1_2, x2⟩
  have z2 := x2.size
  have X2 : Ext w w2 := X1.trans x2
  have s0_2 := s0_1.ext x2
  have r0_2 := r0_0.ext X2
  have r1_2 := r1_0.ext X2
  go_wp2_with fail
  refine (s_cmpL _ xs0 _ xs1 _ s0_2.rd s1_2.rd ).mono ?_
  rintro e w3 ⟨rfl, d3⟩
  have x3 := d3.ext
  have z3 := x3.size
  have X3 : Ext w w3 := X2.trans x3
  have s0_3 := s0_2.ext x3
  have s1_3 := s1_2.ext x3
  have r0_3 := r0_0.ext X3
  have r1_3 := r1_0.ext X3
  go_wp2_with fail
  refine (l_toInt64S _ xs0 _ (by omega) r0_3).mono ?_
  rintro e w4 ⟨u_x0x, rfl, x0x_4, x4⟩
  have z4 := x4.size
  have X4 : Ext w w4 := X3.trans x4
  have s0_4 := s0_3.ext x4
  have s1_4 := s1_3.ext x4
  have r0_4 := r0_0.ext X4
  have r1_4 := r1_0.ext X4
  go_wp2_with fail
  refine (l_toInt64S _ xs1 _ (by omega) r1_4).mono ?_
  rintro e w5 ⟨u_x1x, rfl, x1x_5, x5⟩
  have z5 := x5.size
  have X5 : Ext w w5 := X4.trans x5
  have s0_5 := s0_4.ext x5
  have s1_5 := s1_4.ext x5
  have x0x_5 := x0x_4.ext x5
  have r0_5 := r0_0.ext X5
  have r1_5 := r1_0.ext X5
  go_wp2_with fail
  refine (i_CompareLists _ xs0 _ xs1 _ x0x_5.rd x1x_5.rd ).mono ?_
  rintro e w6 ⟨rfl, d6⟩
  have x6 := d6.ext
  have z6 := x6.size
  have X6 : Ext w w6 := X5.trans x6
  have s0_6 := s0_5.ext x6
  have s1_6 := s1_5.ext x6
  have x0x_6 := x0x_5.ext x6
  have x1x_6 := x1x_5.ext x6
  have r0_6 := r0_0.ext X6
  have r1_6 := r1_0.ext X6
  go_wp2_with fail
  refine (l_toInt64S _ xs0 _ (by omega) r0_6).mono ?_
  rintro e w7 ⟨u_t0, rfl, t0_7, x7⟩
  have z7 := x7.size
  have X7 : Ext w w7 := X6.trans x7
  have s0_7 := s0_6.ext x7
  have s1_7 := s1_6.ext x7
  have x0x_7 := x0x_6.ext x7
  have x1x_7 := x1x_6.ext x7
  have r0_7 := r0_0.ext X7
  have r1_7 := r1_0.ext X7
  go_wp2_with fail
  refine (l_eqInt64S_t _ _ xs0 _ x0x_7.rd t0_7.rd).mono ?_
  rintro e w8 ⟨rfl, d8⟩
  have x8 := d8.ext
  have z8 := x8.size
  have X8 : Ext w w8 := X7.trans x8
  have s0_8 := s0_7.ext x8
  have s1_8 := s1_7.ext x8
  have x0x_8 := x0x_7.ext x8
  have x1x_8 := x1x_7.ext x8
  have t0_8 := t0_7.ext x8
  have r0_8 := r0_0.ext X8
  have r1_8 := r1_0.ext X8
  go_wp2_with fail
  refine (l_toInt64S _ xs1 _ (by omega) r1_8).mono ?_
  rintro e w9 ⟨u_t1, rfl, t1_9, x9⟩
  have z9 := x9.size
  have X9 : Ext w w9 := X8.trans x9
  have s0_9 := s0_8.ext x9
  have s1_9 := s1_8.ext x9
  have x0x_9 := x0x_8.ext x9
  have x1x_9 := x1x_8.ext x9
  have t0_9 := t0_8.ext x9
  have r0_9 := r0_0.ext X9
  have r1_9 := r1_0.ext X9
  go_wp2_with fail
  refine (l_eqInt64S_t _ _ xs1 _ x1x_9.rd t1_9.rd).mono ?_
  rintro e w10 ⟨rfl, d10⟩
  have x10 := d10.ext
  have z10 := x10.size
  have X10 : Ext w w10 := X9.trans x10
  have s0_10 := s0_9.ext x10
  have s1_10 := s1_9.ext x10
  have x0x_10 := x0x_9.ext x10
  have x1x_10 := x1x_9.ext x10
  have t0_10 := t0_9.ext x10
  have t1_10 := t1_9.ext x10
  have r0_10 := r0_0.ext X10
  have r1_10 := r1_0.ext X10
  go_wp2
  go_ret
  exact ⟨rfl, X10⟩

end Go.Proofs.Ytnibjljamogbeaa
