/- SolveChinese: the walks of the program and of the reference, and the law. No condition. -/
import Derived.Test.YtfdlhiohbhpocaaGcd
namespace Go.Proofs.Ytfdlhiohbhpocaa
open Go.RowKit

theorem ret_i64_3 {a b c x y z : Int} (h : a = x) (k : b = y) (l : c = z) : Ending.returned (.tuple #[.int .i64 a, .int .i64 b, .int .i64 c]) = .returned (.tuple #[.int .i64 x, .int .i64 y, .int .i64 z]) := by rw [h, k, l]
/-- The first of x, x+m, .. below all at which p says yes. -/
def findBy (p : Int → Bool) (m all : Int) : Nat → Int → Option Int
  | 0, _ => none
  | k + 1, x => if x < all then (if p x then some x else findBy p m all k (x + m)) else none
def chAll (m n : Int) : Int := m / gcdOut m n * n
def chP (b n : Int) : Int → Bool := fun x => x % n == b
def chPick (all : Int) : Option Int → Int × Int × Int
  | some x => (x, all, 0)
  | none => (0, 0, 3)
def chOut (a m b n : Int) : Int × Int × Int :=
  if resB a m && resB b n then chPick (chAll m n) (findBy (chP b n) m (chAll m n) 1000001 a) else (0, 0, 2)
theorem gcdOut_pos {m n : Int} (hm : 1 ≤ m) : 1 ≤ gcdOut m n := by
  have : 0 < Nat.gcd m.natAbs n.natAbs := Nat.gcd_pos_of_pos_left _ (by omega)
  unfold gcdOut; omega
theorem gcdOut_le {m n : Int} (hm : 1 ≤ m) : gcdOut m n ≤ m := by
  have : Nat.gcd m.natAbs n.natAbs ≤ m.natAbs := Nat.gcd_le_left _ (by omega)
  unfold gcdOut; omega
theorem quo_bd {m g : Int} (hm : 1 ≤ m) (hg : 1 ≤ g) : 0 ≤ m / g ∧ m / g ≤ m :=
  ⟨Int.ediv_nonneg (by omega) (by omega), Int.ediv_le_self _ (by omega)⟩
theorem chAll_bd {m n : Int} (hm : 1 ≤ m) (hm' : m ≤ 1000) (hn : 1 ≤ n) (hn' : n ≤ 1000) : 0 ≤ chAll m n ∧ chAll m n ≤ 1000000 := by
  obtain ⟨h1, h2⟩ := quo_bd hm (gcdOut_pos (n := n) hm)
  refine ⟨Int.mul_nonneg h1 (by omega), ?_⟩
  calc m / gcdOut m n * n ≤ 1000 * 1000 := Int.mul_le_mul (by omega) hn' (by omega) (by omega)
    _ = 1000000 := rfl
/-- Half way: nothing before x; k rounds are enough. -/
def chMid (p : Int → Bool) (m all : Int) (r : Option Int) (x : Int) : Prop := ∃ k : Nat, all - x < k ∧ r = findBy p m all k x
theorem chMid_next {p : Int → Bool} {m all : Int} {r : Option Int} {x : Int} (hm : 1 ≤ m) (h : chMid p m all r x) (hx : x < all) (hf : p x = false) : chMid p m all r (x + m) := by
  obtain ⟨k, h1, h2⟩ := h
  obtain ⟨k, rfl⟩ : ∃ j, k = j + 1 := ⟨k - 1, by omega⟩
  exact ⟨k, by omega, by rw [h2, findBy, if_pos hx, if_neg (by simp [hf])]⟩
theorem chMid_hit {p : Int → Bool} {m all : Int} {r : Option Int} {x : Int} (h : chMid p m all r x) (hx : x < all) (hf : p x = true) : r = some x := by
  obtain ⟨k, h1, h2⟩ := h
  obtain ⟨k, rfl⟩ : ∃ j, k = j + 1 := ⟨k - 1, by omega⟩
  rw [h2, findBy, if_pos hx, if_pos hf]
theorem chMid_end {p : Int → Bool} {m all : Int} {r : Option Int} {x : Int} (h : chMid p m all r x) (hx : ¬ x < all) : r = none := by
  obtain ⟨k, h1, h2⟩ := h
  cases k with
  | zero => exact h2
  | succ k => rw [h2, findBy, if_neg hx]

theorem i_SolveChinese (a m b n : Int) (w : World) :
    Calls Try.prog 38 #[.int .i64 a, .int .i64 m, .int .i64 b, .int .i64 n] w fun e w' => e = .returned (.tuple #[.int .i64 (chOut a m b n).1, .int .i64 (chOut a m b n).2.1, .int .i64 (chOut a m b n).2.2]) ∧ Drawn w w' := by
  cases hr : resB a m
  · have G : Hid (chOut a m b n = (0, 0, 2)) := Lib.hid (by simp [chOut, hr])
    go_enter Try.func38, Try.ntmps38
    go_wp2_with (go_at_call 44; refine (i_residue _ _ _).mono ?_; rintro e w' ⟨rfl, rfl⟩)
    go_ret3
    exact ⟨ret_i64_3 (by rw [G.out]) (by rw [G.out]) (by rw [G.out]), Drawn.refl _⟩
  · cases hr2 : resB b n
    · have G : Hid (chOut a m b n = (0, 0, 2)) := Lib.hid (by simp [chOut, hr2])
      go_enter Try.func38, Try.ntmps38
      go_wp2_with (go_at_call 44; refine (i_residue _ _ _).mono ?_; rintro e w' ⟨rfl, rfl⟩)
      go_ret3
      exact ⟨ret_i64_3 (by rw [G.out]) (by rw [G.out]) (by rw [G.out]), Drawn.refl _⟩
    · have ⟨h1, h2, h3, h4⟩ := resB_t hr
      have ⟨j1, j2, j3, j4⟩ := resB_t hr2
      have g1 := gcdOut_pos (m := m) (n := n) h1
      have g2 := gcdOut_le (m := m) (n := n) h1
      have ⟨q1, q2⟩ := quo_bd h1 g1
      have ⟨b1, b2⟩ := chAll_bd h1 h2 j1 j2
      obtain ⟨r, HR⟩ : ∃ r, Hid (r = findBy (chP b n) m (chAll m n) 1000001 a) := ⟨_, Lib.hid rfl⟩
      have G : Hid (chOut a m b n = chPick (chAll m n) r) := Lib.hid (by rw [HR.out]; simp [chOut, hr, hr2])
      have hs : chMid (chP b n) m (chAll m n) r a := ⟨1000001, by omega, HR.out⟩
      clear HR
      obtain ⟨all, hall⟩ : ∃ all, chAll m n = all := ⟨_, rfl⟩
      obtain ⟨g, hg⟩ : ∃ g, gcdOut m n = g := ⟨_, rfl⟩
      have hall2 : m / g * n = all := by rw [← hg, ← hall]; rfl
      rw [hall] at hs G b1 b2
      rw [hg] at g1 g2 q1 q2
      have HALL := Lib.hid hall2
      have HG := Lib.hid hg
      have b3 : m / g * n ≤ 1000000 := by omega
      have b4 : 0 ≤ m / g * n := by omega
      clear hall hg hall2
      go_enter Try.func38, Try.ntmps38
      go_wp2_with (go_at_call 44; refine (i_residue _ _ _).mono ?_; rintro e w' ⟨rfl, rfl⟩)
      clear hr hr2
      go_wp2_with fail
      refine (i_gcdI _ _ (by omega) (by omega) (by omega) (by omega) _).mono ?_
      rintro e w1 ⟨rfl, hd1⟩
      rw [HG.out]
      go_wp2
      rw [HALL.out]
      clear q1 q2 b3 b4
      go_loop [12] (fun x => ∃ k : Int, 0 ≤ k ∧ k ≤ 1001000 ∧ x = .int .i64 k ∧ chMid (chP b n) m all r k) (fun x => (all - intOf x).toNat)
      case atStart => exact ⟨a, by omega, by omega, rfl, hs⟩
      case round =>
        obtain ⟨k, k1, k2, rfl, hmid⟩ := hrel
        clear hs
        by_cases hlt : k < all
        · by_cases hf : k % n = b
          · have G2 := Lib.hid (chMid_hit hmid hlt (by simpa [chP] using hf))
            have hf' : (k % n == b) = true := by simpa using hf
            clear hf
            go_wp2
            go_ret3
            exact ⟨ret_i64_3 (by rw [G.out, G2.out]; rfl) (by rw [G.out, G2.out]; rfl) (by rw [G.out, G2.out]; rfl), hd1⟩
          · have G2 := Lib.hid (chMid_next h1 hmid hlt (by simpa [chP] using hf))
            have hf' : (k % n == b) = false := by simpa using hf
            go_wp2
            go_round
            case rel => exact ⟨k + m, by omega, by omega, rfl, G2.out⟩
            case measure => simp [intOf]; omega
        · have G2 := Lib.hid (chMid_end hmid hlt)
          go_wp2
          go_ret3
          exact ⟨ret_i64_3 (by rw [G.out, G2.out]; rfl) (by rw [G.out, G2.out]; rfl) (by rw [G.out, G2.out]; rfl), hd1⟩
theorem s_SolveChinese (a m b n : Int) (w : World) :
    Calls Try.prog 37 #[.int .i64 a, .int .i64 m, .int .i64 b, .int .i64 n] w fun e w' => e = .returned (.tuple #[.int .i64 (chOut a m b n).1, .int .i64 (chOut a m b n).2.1, .int .i64 (chOut a m b n).2.2]) ∧ Drawn w w' := by
  cases hr : resB a m
  · have G : Hid (chOut a m b n = (0, 0, 2)) := Lib.hid (by simp [chOut, hr])
    go_enter Try.func37, Try.ntmps37
    go_wp2_with (go_at_call 43; refine (s_residue _ _ _).mono ?_; rintro e w' ⟨rfl, rfl⟩)
    go_ret3
    exact ⟨ret_i64_3 (by rw [G.out]) (by rw [G.out]) (by rw [G.out]), Drawn.refl _⟩
  · cases hr2 : resB b n
    · have G : Hid (chOut a m b n = (0, 0, 2)) := Lib.hid (by simp [chOut, hr2])
      go_enter Try.func37, Try.ntmps37
      go_wp2_with (go_at_call 43; refine (s_residue _ _ _).mono ?_; rintro e w' ⟨rfl, rfl⟩)
      go_ret3
      exact ⟨ret_i64_3 (by rw [G.out]) (by rw [G.out]) (by rw [G.out]), Drawn.refl _⟩
    · have ⟨h1, h2, h3, h4⟩ := resB_t hr
      have ⟨j1, j2, j3, j4⟩ := resB_t hr2
      have g1 := gcdOut_pos (m := m) (n := n) h1
      have g2 := gcdOut_le (m := m) (n := n) h1
      have ⟨q1, q2⟩ := quo_bd h1 g1
      have ⟨b1, b2⟩ := chAll_bd h1 h2 j1 j2
      obtain ⟨r, HR⟩ : ∃ r, Hid (r = findBy (chP b n) m (chAll m n) 1000001 a) := ⟨_, Lib.hid rfl⟩
      have G : Hid (chOut a m b n = chPick (chAll m n) r) := Lib.hid (by rw [HR.out]; simp [chOut, hr, hr2])
      have hs : chMid (chP b n) m (chAll m n) r a := ⟨1000001, by omega, HR.out⟩
      clear HR
      obtain ⟨all, hall⟩ : ∃ all, chAll m n = all := ⟨_, rfl⟩
      obtain ⟨g, hg⟩ : ∃ g, gcdOut m n = g := ⟨_, rfl⟩
      have hall2 : m / g * n = all := by rw [← hg, ← hall]; rfl
      rw [hall] at hs G b1 b2
      rw [hg] at g1 g2 q1 q2
      have HALL := Lib.hid hall2
      have HG := Lib.hid hg
      have b3 : m / g * n ≤ 1000000 := by omega
      have b4 : 0 ≤ m / g * n := by omega
      clear hall hg hall2
      go_enter Try.func37, Try.ntmps37
      go_wp2_with (go_at_call 43; refine (s_residue _ _ _).mono ?_; rintro e w' ⟨rfl, rfl⟩)
      clear hr hr2
      go_wp2_with fail
      refine (s_gcdI _ _ (by omega) (by omega) (by omega) (by omega) _).mono ?_
      rintro e w1 ⟨rfl, hd1⟩
      rw [HG.out]
      go_wp2
      rw [HALL.out]
      clear q1 q2 b3 b4
      go_loop [12] (fun x => ∃ k : Int, 0 ≤ k ∧ k ≤ 1001000 ∧ x = .int .i64 k ∧ chMid (chP b n) m all r k) (fun x => (all - intOf x).toNat)
      case atStart => exact ⟨a, by omega, by omega, rfl, hs⟩
      case round =>
        obtain ⟨k, k1, k2, rfl, hmid⟩ := hrel
        clear hs
        by_cases hlt : k < all
        · by_cases hf : k % n = b
          · have G2 := Lib.hid (chMid_hit hmid hlt (by simpa [chP] using hf))
            have hf' : (k % n == b) = true := by simpa using hf
            clear hf
            go_wp2
            go_ret3
            exact ⟨ret_i64_3 (by rw [G.out, G2.out]; rfl) (by rw [G.out, G2.out]; rfl) (by rw [G.out, G2.out]; rfl), hd1⟩
          · have G2 := Lib.hid (chMid_next h1 hmid hlt (by simpa [chP] using hf))
            have hf' : (k % n == b) = false := by simpa using hf
            go_wp2
            go_round
            case rel => exact ⟨k + m, by omega, by omega, rfl, G2.out⟩
            case measure => simp [intOf]; omega
        · have G2 := Lib.hid (chMid_end hmid hlt)
          go_wp2
          go_ret3
          exact ⟨ret_i64_3 (by rw [G.out, G2.out]; rfl) (by rw [G.out, G2.out]; rfl) (by rw [G.out, G2.out]; rfl), hd1⟩
theorem l_SolveChinese (a m b n : Int) (w : World) :
    Calls Try.prog 14 #[.int .i64 a, .int .i64 m, .int .i64 b, .int .i64 n] w fun e w' => e = .returned (.bool true) ∧ Ext w w' := by
  go_enter Try.func14, Try.ntmps14
  go_wp2_with (first | (go_at_call 37; refine (s_SolveChinese _ _ _ _ _).mono ?_; rintro e w1 ⟨rfl, hd1⟩) | (go_at_call 38; refine (i_SolveChinese _ _ _ _ _).mono ?_; rintro e w2 ⟨rfl, hd2⟩))
  go_ret
  exact ⟨rfl, (hd1.trans hd2).ext⟩
end Go.Proofs.Ytfdlhiohbhpocaa
