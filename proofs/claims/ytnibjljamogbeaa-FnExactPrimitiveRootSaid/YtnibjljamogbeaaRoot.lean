/- PrimitiveRoot: every prime number up to 1000 has a primitive root (reckoned by the kernel, prime by prime); the walks of the program and of the reference, and the law. No condition. -/
import Derived.Test.YtnibjljamogbeaaOrder
import Derived.Test.YtnibjljamogbeaaFactors
import Derived.KernelRfl
namespace Go.Proofs.Ytnibjljamogbeaa
open Go.RowKit

/-- x, x*g, .. (n of them) are not 1; the next is. -/
def chkRoot (p g : Nat) : Nat → Nat → Bool
  | 0, x => x == 1 % p
  | n + 1, x => x != 1 % p && chkRoot p g n (x * g % p)
def rootsOf : List (Nat × Nat) :=
  [(2, 1), (3, 2), (5, 2), (7, 3), (11, 2), (13, 2), (17, 3), (19, 2), (23, 5), (29, 2), (31, 3), (37, 2), (41, 6), (43, 3), (47, 5), (53, 2), (59, 2), (61, 2), (67, 2), (71, 7), (73, 5), (79, 3), (83, 2), (89, 3), (97, 5), (101, 2), (103, 5), (107, 2), (109, 6), (113, 3), (127, 3), (131, 2), (137, 3), (139, 2), (149, 2), (151, 6), (157, 5), (163, 2), (167, 5), (173, 2), (179, 2), (181, 2), (191, 19), (193, 5), (197, 2), (199, 3), (211, 2), (223, 3), (227, 2), (229, 6), (233, 3), (239, 7), (241, 7), (251, 6), (257, 3), (263, 5), (269, 2), (271, 6), (277, 5), (281, 3), (283, 3), (293, 2), (307, 5), (311, 17), (313, 10), (317, 2), (331, 3), (337, 10), (347, 2), (349, 2), (353, 3), (359, 7), (367, 6), (373, 2), (379, 2), (383, 5), (389, 2), (397, 5), (401, 3), (409, 21), (419, 2), (421, 2), (431, 7), (433, 5), (439, 15), (443, 2), (449, 3), (457, 13), (461, 2), (463, 3), (467, 2), (479, 13), (487, 3), (491, 2), (499, 7), (503, 5), (509, 2), (521, 3), (523, 2), (541, 2), (547, 2), (557, 2), (563, 2), (569, 3), (571, 3), (577, 5), (587, 2), (593, 3), (599, 7), (601, 7), (607, 3), (613, 2), (617, 3), (619, 2), (631, 3), (641, 3), (643, 11), (647, 5), (653, 2), (659, 2), (661, 2), (673, 5), (677, 2), (683, 5), (691, 3), (701, 2), (709, 2), (719, 11), (727, 5), (733, 6), (739, 3), (743, 5), (751, 3), (757, 2), (761, 6), (769, 11), (773, 2), (787, 2), (797, 2), (809, 3), (811, 3), (821, 2), (823, 3), (827, 2), (829, 2), (839, 11), (853, 2), (857, 3), (859, 2), (863, 5), (877, 2), (881, 3), (883, 2), (887, 5), (907, 2), (911, 17), (919, 7), (929, 3), (937, 5), (941, 2), (947, 2), (953, 3), (967, 5), (971, 6), (977, 3), (983, 5), (991, 6), (997, 7)]
def chkAll : Bool := rootsOf.all (fun r => decide (1 ≤ r.2) && decide (r.2 < r.1) && chkRoot r.1 r.2 (r.1 - 2) (r.2 % r.1)) && (List.range 1001).all (fun p => !isPr (p : Int) || rootsOf.any (fun r => r.1 == p))
theorem chkAll_t : chkAll = true := by kernel_rfl
theorem chkRoot_pw (p g : Nat) : ∀ (n k : Nat), chkRoot p g n (g ^ (k + 1) % p) = true → (∀ j, k ≤ j → j < k + n → g ^ (j + 1) % p ≠ 1 % p) ∧ g ^ (k + n + 1) % p = 1 % p
  | 0, k, h => ⟨fun j h1 h2 => by omega, by simpa [chkRoot] using h⟩
  | n + 1, k, h => by
    rw [chkRoot, Bool.and_eq_true] at h
    obtain ⟨h1, h2⟩ := h
    have e : g ^ (k + 1) % p * g % p = g ^ (k + 1 + 1) % p := by rw [Nat.pow_succ g (k + 1), Nat.mod_mul_mod]
    rw [e] at h2
    obtain ⟨h3, h4⟩ := chkRoot_pw p g n (k + 1) h2
    refine ⟨fun j h5 h6 => ?_, by rw [← h4]; congr 2; omega⟩
    by_cases he : j = k
    · subst he; simpa using h1
    · exact h3 j (by omega) (by omega)
theorem upMid_all {q : Int → Bool} {N : Int} : ∀ (k : Nat), (k : Int) ≤ N → (∀ j : Nat, j < k → q j = false) → upMid q N k
  | 0, _, _ => upMid_start _ _
  | k + 1, h, hf => by
    have h1 := upMid_all (q := q) (N := N) k (by omega) (fun (j : Nat) (hj : j < k) => hf j (by omega))
    have h2 := upMid_next (x := (k : Int)) (by omega) h1 (hf k (by omega))
    exact h2
theorem root_ex {p : Int} (hp : isPr p = true) (hle : p ≤ 1000) : ∃ g : Int, 1 ≤ g ∧ g ≤ p - 1 ∧ ordE g p = p - 1 := by
  have h2 : 2 ≤ p := by simp only [isPr, Bool.and_eq_true, decide_eq_true_eq] at hp; exact hp.1.1
  obtain ⟨P, rfl⟩ := Int.eq_ofNat_of_zero_le (show 0 ≤ p by omega)
  have hc := chkAll_t
  rw [chkAll, Bool.and_eq_true, List.all_eq_true, List.all_eq_true] at hc
  have h3 := hc.2 P (List.mem_range.2 (by omega))
  rw [hp] at h3
  simp only [Bool.not_true, Bool.false_or, List.any_eq_true, beq_iff_eq] at h3
  obtain ⟨⟨P', g⟩, hm, he⟩ := h3
  simp only at he
  subst he
  have h4 := hc.1 _ hm
  simp only [Bool.and_eq_true, decide_eq_true_eq] at h4
  obtain ⟨⟨h5, h6⟩, h7⟩ := h4
  have h8 : g % P' = g ^ (0 + 1) % P' := by simp
  rw [h8] at h7
  obtain ⟨h9, h10⟩ := chkRoot_pw P' g (P' - 2) 0 h7
  refine ⟨g, by omega, by omega, ?_⟩
  have hP : ∀ j : Nat, j < P' - 2 → ordP g P' j = false := by
    intro j hj
    have := h9 j (by omega) (by omega)
    unfold ordP
    rw [Int.toNat_natCast, pw_nat, one_mod]
    simp only [beq_eq_false_iff_ne, ne_eq]
    omega
  have hmid := upMid_all (q := ordP g P') (N := (P' : Int)) (P' - 2) (by omega) hP
  have := ord_hit (a := g) (m := P') (k := ((P' - 2 : Nat) : Int)) (by omega) hmid (by
    rw [Int.toNat_natCast, pw_nat, one_mod]
    rw [Nat.zero_add] at h10
    omega)
  omega
def rootP (p : Int) : Int → Bool := fun x => ordE (x + 1) p == p - 1
def rootE (p : Int) : Int := match findUp (rootP p) (p - 1).toNat 0 with | some x => x + 1 | none => 0
def rootOut (p : Int) : Int × Int := if isPr p && decide (p ≤ 1000) then (rootE p, 0) else (0, 2)
theorem root_some {p : Int} (hp : isPr p = true) (hle : p ≤ 1000) : findUp (rootP p) (p - 1).toNat 0 ≠ none := by
  intro hn
  obtain ⟨g, h1, h2, h3⟩ := root_ex hp hle
  have := findUp_none _ _ _ hn (g - 1) (by omega) (by omega)
  unfold rootP at this
  rw [show g - 1 + 1 = g from by omega, h3] at this
  simp at this
theorem root_hit {p k : Int} (hk : k < p - 1) (h : upMid (rootP p) (p - 1) k) (hf : ordE (k + 1) p = p - 1) : rootE p = k + 1 := by
  rw [rootE, upMid_hit hk h (by simpa [rootP] using hf)]
theorem root_next {p k : Int} (hk : k < p - 1) (h : upMid (rootP p) (p - 1) k) (hf : ¬ ordE (k + 1) p = p - 1) : upMid (rootP p) (p - 1) (k + 1) :=
  upMid_next hk h (by simpa [rootP] using hf)
theorem root_res {p k : Int} (h0 : 0 ≤ k) (hk : k < p - 1) (hle : p ≤ 1000) : resB (k + 1) p = true := by
  simp only [resB, Bool.and_eq_true, inB_iff]; omega
/-- A residue whose order is p - 1 is the program's answer, told by OrderMod. -/
theorem ordOut_one {a m : Int} (hr : resB a m = true) : ordOut a m = if ordE a m = 0 then (0, 3) else (ordE a m, 0) := by rw [ordOut, if_pos hr]

theorem isPr_two {p : Int} (hp : isPr p = true) : 2 ≤ p := by
  simp only [isPr, Bool.and_eq_true, decide_eq_true_eq] at hp; exact hp.1.1
theorem i_PrimitiveRoot (p : Int) (w : World) :
    Calls Try.prog 39 #[.int .i64 p] w fun e w' => e = .returned (.tuple #[.int .i64 (rootOut p).1, .int .i64 (rootOut p).2]) ∧ Ext w w' := by
  by_cases hle : p ≤ 1000
  · cases hp : isPr p
    · have G : Hid (rootOut p = (0, 2)) := Lib.hid (by simp [rootOut, hp])
      go_enter Try.func39, Try.ntmps39
      go_wp2_with (go_at_call 65; refine (i_IsPrime _ _).mono ?_; rintro e w1 ⟨rfl, hext⟩)
      go_ret2
      exact ⟨ret_i64_2 (by rw [G.out]) (by rw [G.out]), hext⟩
    · have h2 := isPr_two hp
      have HX := Lib.hid (root_some hp hle)
      have G : Hid (rootOut p = (rootE p, 0)) := Lib.hid (by simp [rootOut, hp, hle])
      go_enter Try.func39, Try.ntmps39
      go_wp2_with (go_at_call 65; refine (i_IsPrime _ _).mono ?_; rintro e w1 ⟨rfl, hext⟩)
      clear hp
      go_loop [4] (fun a => ∃ k : Int, 0 ≤ k ∧ k < p - 1 ∧ a = .int .i64 (k + 1) ∧ Hid (upMid (rootP p) (p - 1) k)) (fun a => (p + 1 - intOf a).toNat)
      case atStart => exact ⟨0, by omega, by omega, rfl, Lib.hid (upMid_start _ _)⟩
      case round =>
        obtain ⟨k, k1, k2, rfl, hmid⟩ := hrel
        have hone := ordOut_one (root_res k1 k2 hle)
        by_cases hf : ordE (k + 1) p = p - 1
        · have G2 := Lib.hid (root_hit k2 hmid.out hf)
          have HO : Hid (ordOut (k + 1) p = (p - 1, 0)) := Lib.hid (by rw [hone, hf, if_neg (by omega)])
          clear hf hone
          go_wp2_with fail
          refine (i_OrderMod _ _ _).mono ?_
          rintro e w2 ⟨rfl, rfl⟩
          rw [HO.out]
          have hself : (p - 1 == p - 1) = true := by simp
          go_wp2
          go_ret2
          exact ⟨ret_i64_2 (by rw [G.out, G2.out]) (by rw [G.out]), hext⟩
        · have G2 := root_next k2 hmid.out hf
          have hlt : k + 1 < p - 1 := by
            rcases Int.lt_or_le (k + 1) (p - 1) with h | h
            · exact h
            · have e : k + 1 = p - 1 := by omega
              rw [e] at G2
              exact absurd (upMid_end G2) HX.out
          have HG2 := Lib.hid G2
          obtain ⟨z, hz⟩ : ∃ z, ordE (k + 1) p = z := ⟨_, rfl⟩
          rw [hz] at hf hone
          have hf' : (z == p - 1) = false := by simpa using hf
          clear G2 hz hf
          by_cases h0 : z = 0
          · have HO : Hid (ordOut (k + 1) p = (0, 3)) := Lib.hid (by rw [hone, if_pos h0])
            clear hone hf' h0
            go_wp2_with fail
            refine (i_OrderMod _ _ _).mono ?_
            rintro e w2 ⟨rfl, rfl⟩
            rw [HO.out]
            go_wp2
            go_round
            case rel => exact ⟨k + 1, by omega, hlt, rfl, HG2⟩
            case measure => simp only [intOf]; omega
          · have HO : Hid (ordOut (k + 1) p = (z, 0)) := Lib.hid (by rw [hone, if_neg h0])
            clear hone h0
            go_wp2_with fail
            refine (i_OrderMod _ _ _).mono ?_
            rintro e w2 ⟨rfl, rfl⟩
            rw [HO.out]
            go_wp2
            go_round
            case rel => exact ⟨k + 1, by omega, hlt, rfl, HG2⟩
            case measure => simp only [intOf]; omega
  · have G : Hid (rootOut p = (0, 2)) := Lib.hid (by simp [rootOut, hle])
    have hgt : 1000 < p := by omega
    go_enter Try.func39, Try.ntmps39
    go_wp2
    go_ret2
    exact ⟨ret_i64_2 (by rw [G.out]) (by rw [G.out]), Ext.refl _⟩
theorem s_PrimitiveRoot (p : Int) (w : World) :
    Calls Try.prog 38 #[.int .i64 p] w fun e w' => e = .returned (.tuple #[.int .i64 (rootOut p).1, .int .i64 (rootOut p).2]) ∧ w = w' := by
  cases hp : isPr p
  · have G : Hid (rootOut p = (0, 2)) := Lib.hid (by simp [rootOut, hp])
    go_enter Try.func38, Try.ntmps38
    go_wp2_with (go_at_call 64; refine (s_IsPrime _ _).mono ?_; rintro e w1 ⟨rfl, rfl⟩)
    go_ret2
    exact ⟨ret_i64_2 (by rw [G.out]) (by rw [G.out]), rfl⟩
  · by_cases hle : p ≤ 1000
    · have h2 := isPr_two hp
      have HX := Lib.hid (root_some hp hle)
      have G : Hid (rootOut p = (rootE p, 0)) := Lib.hid (by simp [rootOut, hp, hle])
      go_enter Try.func38, Try.ntmps38
      go_wp2_with (go_at_call 64; refine (s_IsPrime _ _).mono ?_; rintro e w1 ⟨rfl, rfl⟩)
      clear hp
      go_loop [4] (fun a => ∃ k : Int, 0 ≤ k ∧ k < p - 1 ∧ a = .int .i64 (k + 1) ∧ Hid (upMid (rootP p) (p - 1) k)) (fun a => (p + 1 - intOf a).toNat)
      case atStart => exact ⟨0, by omega, by omega, rfl, Lib.hid (upMid_start _ _)⟩
      case round =>
        obtain ⟨k, k1, k2, rfl, hmid⟩ := hrel
        have HRES := Lib.hid (root_res k1 k2 hle)
        by_cases hf : ordE (k + 1) p = p - 1
        · have G2 := Lib.hid (root_hit k2 hmid.out hf)
          have HO := Lib.hid hf
          have hself : (p - 1 != p - 1) = false := by simp
          clear hf
          go_wp2_with fail
          refine (s_l02Order _ _ HRES.out _).mono ?_
          rintro e w2 ⟨rfl, rfl⟩
          rw [HO.out]
          go_wp2
          go_ret2
          exact ⟨ret_i64_2 (by rw [G.out, G2.out]) (by rw [G.out]), rfl⟩
        · have G2 := root_next k2 hmid.out hf
          have hlt : k + 1 < p - 1 := by
            rcases Int.lt_or_le (k + 1) (p - 1) with h | h
            · exact h
            · have e : k + 1 = p - 1 := by omega
              rw [e] at G2
              exact absurd (upMid_end G2) HX.out
          have HG2 := Lib.hid G2
          have hf' : (ordE (k + 1) p != p - 1) = true := by simpa using hf
          clear G2 hf
          go_wp2_with fail
          refine (s_l02Order _ _ HRES.out _).mono ?_
          rintro e w2 ⟨rfl, rfl⟩
          go_wp2
          go_round
          case rel => exact ⟨k + 1, by omega, hlt, rfl, HG2⟩
          case measure => simp only [intOf]; omega
    · have G : Hid (rootOut p = (0, 2)) := Lib.hid (by simp [rootOut, hle])
      have hgt : 1000 < p := by omega
      go_enter Try.func38, Try.ntmps38
      go_wp2_with (go_at_call 64; refine (s_IsPrime _ _).mono ?_; rintro e w1 ⟨rfl, rfl⟩)
      go_ret2
      exact ⟨ret_i64_2 (by rw [G.out]) (by rw [G.out]), rfl⟩
theorem l_PrimitiveRoot (p : Int) (w : World) :
    Calls Try.prog 11 #[.int .i64 p] w fun e w' => e = .returned (.bool true) ∧ Ext w w' := by
  go_enter Try.func11, Try.ntmps11
  go_wp2_with (first | (go_at_call 38; refine (s_PrimitiveRoot _ _).mono ?_; rintro e w1 ⟨rfl, rfl⟩) | (go_at_call 39; refine (i_PrimitiveRoot _ _).mono ?_; rintro e w2 ⟨rfl, x2⟩))
  go_ret
  exact ⟨rfl, x2⟩
end Go.Proofs.Ytnibjljamogbeaa
