/- The reference's own split of a field's order into p and D, and that it is PrimePower up to 64. No condition. -/
import Derived.Test.YtafaecpmffmfgaaPPower
namespace Go.Proofs.Ytafaecpmffmfgaa
open Go.RowKit

def spD (p : Int) : Nat → Int → Int → Int × Int
  | 0, _, _ => (0, 0)
  | f + 1, m, D => if 1 < m then (if m % p = 0 then spD p f (m / p) (D + 1) else (0, 0)) else (p, D)
def spP (n : Int) : Nat → Int → Int
  | 0, p => p
  | f + 1, p => if n % p = 0 then p else spP n f (p + 1)
def splitOut (n : Int) : Int × Int := if inB n 2 64 then spD (spP n 63 2) 65 n 0 else (0, 0)
theorem split_pp_all : (List.range 63).all (fun i => decide (splitOut ((i : Int) + 2) = ppOut ((i : Int) + 2))) = true := by decide +kernel
theorem split_pp {n : Int} (h1 : 2 ≤ n) (h2 : n ≤ 64) : splitOut n = ppOut n := by
  have h := (List.all_eq_true.1 split_pp_all) (n - 2).toNat (by rw [List.mem_range]; omega)
  have h := of_decide_eq_true h
  rw [show (((n - 2).toNat : Nat) : Int) + 2 = n from by omega] at h
  exact h
def spMid (n p : Int) : Prop := ∃ f : Nat, p + f = 65 ∧ spP n f p = spP n 63 2
theorem spMid_start (n : Int) : spMid n 2 := ⟨63, by omega, rfl⟩
theorem spMid_next {n p : Int} (h : spMid n p) (hp : p ≤ 64) (hd : ¬ n % p = 0) : spMid n (p + 1) := by
  obtain ⟨f, h1, h2⟩ := h
  obtain ⟨g, rfl⟩ : ∃ g, f = g + 1 := ⟨f - 1, by omega⟩
  exact ⟨g, by omega, by rw [← h2, spP, if_neg hd]⟩
theorem spMid_end {n p : Int} (h : spMid n p) (hp : p ≤ 64) (hd : n % p = 0) : spP n 63 2 = p := by
  obtain ⟨f, h1, h2⟩ := h
  obtain ⟨g, rfl⟩ : ∃ g, f = g + 1 := ⟨f - 1, by omega⟩
  rw [← h2, spP, if_pos hd]
def spIn (n p m D : Int) : Prop := ∃ f : Nat, m + 1 ≤ f ∧ 1 ≤ m ∧ 0 ≤ D ∧ D + m ≤ 64 ∧ splitOut n = spD p f m D
theorem spIn_start {n p : Int} (h1 : 2 ≤ n) (h2 : n ≤ 64) (hp : spP n 63 2 = p) : spIn n p n 0 :=
  ⟨65, by omega, by omega, by omega, by omega, by rw [splitOut, if_pos (inB_t ⟨h1, h2⟩), hp]⟩
theorem spIn_next {n p m D : Int} (h : spIn n p m D) (hp : 2 ≤ p) (hm : 1 < m) (hd : m % p = 0) : spIn n p (m / p) (D + 1) := by
  obtain ⟨f, h1, h2, h3, h4, h5⟩ := h
  obtain ⟨g, rfl⟩ : ∃ g, f = g + 1 := ⟨f - 1, by omega⟩
  have := div_facts hp h2 hd
  exact ⟨g, by omega, by omega, by omega, by omega, by rw [h5, spD, if_pos hm, if_pos hd]⟩
theorem spIn_miss {n p m D : Int} (h : spIn n p m D) (hm : 1 < m) (hd : ¬ m % p = 0) : splitOut n = (0, 0) := by
  obtain ⟨f, h1, h2, h3, h4, h5⟩ := h
  obtain ⟨g, rfl⟩ : ∃ g, f = g + 1 := ⟨f - 1, by omega⟩
  rw [h5, spD, if_pos hm, if_neg hd]
theorem spIn_end {n p m D : Int} (h : spIn n p m D) (hm : ¬ 1 < m) : splitOut n = (p, D) := by
  obtain ⟨f, h1, h2, h3, h4, h5⟩ := h
  obtain ⟨g, rfl⟩ : ∃ g, f = g + 1 := ⟨f - 1, by omega⟩
  rw [h5, spD, if_neg hm]
theorem spIn_bd {n p m D : Int} (h : spIn n p m D) : 1 ≤ m ∧ 0 ≤ D ∧ D + m ≤ 64 := by
  obtain ⟨f, h1, h2, h3, h4, h5⟩ := h
  exact ⟨h2, h3, h4⟩
theorem s_l03Split (n : Int) (w : World) : Calls Try.prog 58 #[.int .i64 n] w fun e w' => e = .returned (.tuple #[.int .i64 (splitOut n).1, .int .i64 (splitOut n).2]) ∧ w = w' := by
  by_cases hr : 2 ≤ n ∧ n ≤ 64
  · have h0 := inB_t hr
    obtain ⟨r1, r2⟩ := hr
    have hs := Lib.hid (spMid_start n)
    go_enter Try.func58, Try.ntmps58
    go_wp2_with (go_at_call 80; refine (s_in _ _ _ _).mono ?_; rintro e w' ⟨rfl, rfl⟩)
    clear h0
    go_loop [4] (fun q => ∃ p : Int, 2 ≤ p ∧ p ≤ n ∧ q = .int .i64 p ∧ Hid (spMid n p)) (fun q => (100 - intOf q).toNat)
    case atStart => exact ⟨2, by omega, by omega, rfl, hs⟩
    case round =>
      obtain ⟨p, b1, b2, rfl, hm⟩ := hrel
      by_cases h0 : n % p = 0
      · have h0' : (n % p != 0) = false := by simpa using h0
        have HS := Lib.hid (spIn_start r1 r2 (spMid_end hm.out (by omega) h0))
        clear h0 hm
        go_wp2
        go_loop [5, 6] (fun d q => ∃ m D : Int, q = .int .i64 m ∧ d = .int .i64 D ∧ Hid (spIn n p m D)) (fun _ q => (intOf q).toNat)
        case atStart => exact ⟨n, 0, rfl, rfl, HS⟩
        case round =>
          obtain ⟨m, D, rfl, rfl, hm⟩ := hrel
          obtain ⟨c1, c2, c3⟩ := spIn_bd hm.out
          by_cases h1 : 1 < m
          · by_cases hd : m % p = 0
            · have HM := Lib.hid (spIn_next hm.out b1 h1 hd)
              have h3 := (div_facts b1 c1 hd).2.1
              have hd' : (m % p != 0) = false := by simpa using hd
              clear hd hm
              go_wp2
              exact ⟨⟨m / p, D + 1, rfl, rfl, HM⟩, by simp only [intOf]; omega⟩
            · have HM := Lib.hid (spIn_miss hm.out h1 hd)
              have hd' : (m % p != 0) = true := by simpa using hd
              clear hd hm
              go_wp2
              go_ret2
              exact ⟨ret_i64_2 (by rw [HM.out]) (by rw [HM.out]), rfl⟩
          · have HM := Lib.hid (spIn_end hm.out h1)
            clear hm
            go_wp2
            go_ret2
            exact ⟨ret_i64_2 (by rw [HM.out]) (by rw [HM.out]), rfl⟩
      · have h0' : (n % p != 0) = true := by simpa using h0
        have HM := Lib.hid (spMid_next hm.out (by omega) h0)
        have hlt : p ≠ n := by rintro rfl; exact h0 Int.emod_self
        clear h0 hm
        go_wp2
        exact ⟨⟨p + 1, by omega, by omega, rfl, HM⟩, by simp only [intOf]; omega⟩
  · have h0 := inB_f hr
    have G : Hid (splitOut n = (0, 0)) := Lib.hid (by rw [splitOut, h0]; rfl)
    go_enter Try.func58, Try.ntmps58
    go_wp2_with (go_at_call 80; refine (s_in _ _ _ _).mono ?_; rintro e w' ⟨rfl, rfl⟩)
    go_ret2
    exact ⟨ret_i64_2 (by rw [G.out]) (by rw [G.out]), rfl⟩
end Go.Proofs.Ytafaecpmffmfgaa
