/- InvertPermutation and Compose: the walks of the program and of the reference, and the laws. No condition. -/
import Derived.Test.YtloacmfafccofaaPermValid
namespace Go.Proofs.Ytloacmfafccofaa
open Go.RowKit

abbrev casN (ns : List Nat) : List Int := ns.map (fun x : Nat => (x : Int))
/-- A permutation, as natural numbers. -/
def IsP (ns : List Nat) : Prop := ns.length ≤ 32 ∧ (∀ i (h : i < ns.length), ns[i] < ns.length) ∧ ns.Nodup
theorem isP_of_valid {xs : List Int} (h : validP xs = true) : ∃ ns, xs = casN ns ∧ IsP ns := by
  rw [validP, Bool.and_eq_true, decide_eq_true_eq] at h
  obtain ⟨h1, h2⟩ := okP_iff.1 h.2
  have hx : xs = casN (xs.map Int.toNat) := by
    apply List.ext_getElem (by simp)
    intro i p q
    have := h1 xs[i] (List.getElem_mem p)
    simp; omega
  refine ⟨xs.map Int.toNat, hx, by simpa using h.1, fun i hi => ?_, ?_⟩
  · have hi' : i < xs.length := by simpa using hi
    have := h1 xs[i] (List.getElem_mem hi')
    simp; omega
  · rw [hx] at h2
    exact (List.pairwise_map.1 h2).imp (by intro a b h e; exact h (by rw [e]))
/-- The cells of a list of natural numbers that came in. -/
theorem rd_cells {w : World} {a : Option Addr} {n cap : Nat} {ns : List Nat} (h : Rd w (.slice a n cap) (casN ns)) : n = ns.length ∧ n ≤ cap ∧ cap ≤ 9223372036854775807 ∧ Hid (0 < ns.length → ∃ b o, a = some ⟨b, o, none⟩ ∧ b < w.heap.size ∧ ∀ i (h : i < ns.length), w.cell? ⟨b, o + i, none⟩ = some (.int .i64 (ns[i] : Nat))) := by
  obtain ⟨a', cap', he, hc, hm, hr⟩ := h
  cases he
  rw [List.length_map] at hc ⊢
  refine ⟨rfl, hc, hm, Lib.hid fun hk => ?_⟩
  obtain ⟨b, o, h1, h3, h2⟩ := hr (by simpa using hk)
  refine ⟨b, o, h1, h3, fun i hi => ?_⟩
  rw [h2 i (by simpa using hi)]
  simp
def backTo (ns : List Nat) : Nat → List Int
  | 0 => List.replicate ns.length 0
  | k + 1 => (backTo ns k).set (ns.getD k 0) (k : Int)
theorem backTo_len (ns : List Nat) : ∀ k, (backTo ns k).length = ns.length
  | 0 => by simp [backTo]
  | k + 1 => by rw [backTo, List.length_set, backTo_len ns k]
def timesN (ns ms : List Nat) : List Int := ns.map fun a => ((ms.getD a 0 : Nat) : Int)
theorem timesN_len (ns ms : List Nat) : (timesN ns ms).length = ns.length := by simp [timesN]
theorem timesN_get (ns ms : List Nat) (i : Nat) (h : i < ns.length) (h2 : ns[i] < ms.length) : (timesN ns ms)[i]'(by rw [timesN_len]; exact h) = (ms[ns[i]] : Nat) := by
  simp [timesN, h2]

set_option maxHeartbeats 400000 in
theorem s_back (v : Value) (ns : List Nat) (w : World) (hp : IsP ns) (h : Rd w v (casN ns)) : Calls Try.prog 60 #[v] w (RetInts w (backTo ns ns.length)) := by
  obtain ⟨hp1, hp2, _⟩ := hp
  have HP2 := Lib.hid hp2
  obtain ⟨a, n, cap, rfl⟩ : ∃ a n cap, v = .slice a n cap := by obtain ⟨a, cap, h1, _⟩ := h; exact ⟨_, _, _, h1⟩
  obtain ⟨rfl, hc, hm, HC⟩ := rd_cells h
  obtain ⟨N, HN⟩ : ∃ N, Hid (N = ns.length) := ⟨_, Lib.hid rfl⟩
  clear h hp2
  rw [← HN.out] at hc hp1 ⊢
  go_enter Try.func60, Try.ntmps60
  go_wp2_with (at_make; refine wp_make _ rfl _ _ rfl w.heap.size .i64 .i64 _ _ N rfl rfl rfl rfl (by omega) (Nat.le_refl _) ?_; intro w1 hown hext)
  go_loopw [4] (fun i wr => ∃ k : Nat, k ≤ N ∧ i = .int .i64 k ∧ Hid (Own wr w.heap.size (.slice (some ⟨w.heap.size, 0, none⟩) N N) (backTo ns k)) ∧ Hid (Ext w wr)) (fun i _ => N - (intOf i).toNat)
  case atStart => exact ⟨0, by omega, rfl, Lib.hid (by rw [backTo, ← HN.out]; exact hown), Lib.hid hext⟩
  case round =>
    clear hown hext
    obtain ⟨k, hk, rfl, hown, hext⟩ := hrel
    by_cases hlt : k < N
    · have hlt' : k < ns.length := by rw [← HN.out]; exact hlt
      obtain ⟨b, o, rfl, hb, hall⟩ := HC.out (by rw [← HN.out]; omega)
      have hx := (hext.out.cell (p := ⟨b, o + k, none⟩) hb).trans (hall k hlt')
      obtain ⟨y, HY⟩ : ∃ y, Hid (y = ns[k]) := ⟨_, Lib.hid rfl⟩
      have hyN : y < N := by rw [HY.out, HN.out]; exact HP2.out k hlt'
      rw [← HY.out] at hx
      clear hall
      have hc1 := hown.out.cell y (by rw [List.length_map, backTo_len, ← HN.out]; exact hyN)
      have hf1 := hown.out.frozen y
      obtain ⟨hs1, hs2⟩ := hown.out.stored y (.int .i64 (k : Int))
      have HS : Hid (Own (wr.setCell ⟨w.heap.size, y, none⟩ (.int .i64 (k : Int))) w.heap.size (.slice (some ⟨w.heap.size, 0, none⟩) N N) (backTo ns (k + 1))) := Lib.hid (by
        have hg : ns.getD k 0 = y := by rw [HY.out]; simp [hlt']
        unfold Own; rw [backTo, hg, List.map_set]; exact hs1)
      have HE : Hid (Ext w (wr.setCell ⟨w.heap.size, y, none⟩ (.int .i64 (k : Int)))) := Lib.hid (ext_app (e := 2) (v := .slice (some ⟨w.heap.size, 0, none⟩) N N) hext.out hown.out hs2)
      generalize ((backTo ns k).map (Value.int .i64))[y]'(by rw [List.length_map, backTo_len, ← HN.out]; exact hyN) = old at hc1
      clear hs1 hs2 hown hext
      go_wp2
      exact ⟨⟨k + 1, by omega, by go_num, HS, HE⟩, by simp only [intOf]; omega⟩
    · obtain rfl : k = N := by omega
      go_wp2
      go_ret
      exact ⟨_, rfl, hown.out, hext.out⟩
def invOut (xs : List Int) : List Int := if validP xs then backTo (xs.map Int.toNat) xs.length else []
def invCode (xs : List Int) : Int := if validP xs then 0 else 1
theorem casN_toNat (ns : List Nat) : (casN ns).map Int.toNat = ns := by simp [casN, List.map_map, Function.comp_def]
theorem invOut_len (xs : List Int) : (invOut xs).length ≤ 3000000 := by
  unfold invOut; split
  · rename_i h
    rw [validP, Bool.and_eq_true, decide_eq_true_eq] at h
    rw [backTo_len, List.length_map]; omega
  · simp
end Go.Proofs.Ytloacmfafccofaa
