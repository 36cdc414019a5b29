/- Compose: the walks of the program and of the reference, and the law. No condition. -/
import Derived.Test.YtloacmfafccofaaPermInv
namespace Go.Proofs.Ytloacmfafccofaa
open Go.RowKit

set_option maxHeartbeats 400000 in
theorem s_times (v v' : Value) (ns ms : List Nat) (w : World) (hp : IsP ns) (hl : ms.length = ns.length) (h : Rd w v (casN ns)) (h' : Rd w v' (casN ms)) : Calls Try.prog 62 #[v, v'] w (RetInts w (timesN ns ms)) := by
  obtain ⟨hp1, hp2, _⟩ := hp
  have HP2 := Lib.hid hp2
  have HL := Lib.hid hl
  obtain ⟨a, n, cap, rfl⟩ : ∃ a n cap, v = .slice a n cap := by obtain ⟨a, cap, h1, _⟩ := h; exact ⟨_, _, _, h1⟩
  obtain ⟨a', n', cap', rfl⟩ : ∃ a n cap, v' = .slice a n cap := by obtain ⟨a, cap, h1, _⟩ := h'; exact ⟨_, _, _, h1⟩
  obtain ⟨rfl, hc, hm, HC⟩ := rd_cells h
  obtain ⟨rfl, hc', hm', HC'⟩ := rd_cells h'
  obtain ⟨N, HN⟩ : ∃ N, Hid (N = ns.length) := ⟨_, Lib.hid rfl⟩
  obtain ⟨R, HR⟩ : ∃ R, Hid (R = timesN ns ms) := ⟨_, Lib.hid rfl⟩
  clear h h' hp2
  rw [hl] at hc' ⊢
  rw [← HN.out] at hc hc' hp1 ⊢
  rw [← HR.out]
  have HRL : Hid (R.length = N) := Lib.hid (by rw [HR.out, timesN_len, HN.out])
  clear hl
  go_enter Try.func62, Try.ntmps62
  go_wp2
  go_loopw [5, 6] (fun v i wr => ∃ k : Nat, k ≤ N ∧ i = .int .i64 k ∧ Hid (Own wr w.heap.size v (R.take k)) ∧ Hid (Ext w wr)) (fun _ i _ => N - (intOf i).toNat)
  case atStart => exact ⟨0, by omega, rfl, Lib.hid (by rw [List.take_zero]; exact OwnV.empty _ _), Lib.hid (ext_alloc _ _)⟩
  case round =>
    obtain ⟨k, hk, rfl, hown, hext⟩ := hrel
    by_cases hlt : k < N
    · have hlt' : k < ns.length := by rw [← HN.out]; exact hlt
      obtain ⟨b, o, rfl, hb, hall⟩ := HC.out (by rw [← HN.out]; omega)
      obtain ⟨b2, o2, rfl, hb2, hall2⟩ := HC'.out (by rw [HL.out, ← HN.out]; omega)
      have hx := (hext.out.cell (p := ⟨b, o + k, none⟩) hb).trans (hall k hlt')
      have hnk := HP2.out k hlt'
      have hx2 := (hext.out.cell (p := ⟨b2, o2 + ns[k], none⟩) hb2).trans (hall2 ns[k] (by rw [HL.out]; exact hnk))
      have HRK : Hid (∃ h : k < R.length, R[k] = (ms[ns[k]]'(by rw [HL.out]; exact hnk) : Nat)) := Lib.hid (by
        refine ⟨by rw [HR.out, timesN_len]; exact hlt', ?_⟩
        simp only [HR.out]
        exact timesN_get ns ms k hlt' _)
      generalize (ms[ns[k]]'(by rw [HL.out]; exact hnk)) = z at hx2 HRK
      obtain ⟨y, HY⟩ : ∃ y, Hid (y = ns[k]) := ⟨_, Lib.hid rfl⟩
      have hyN : y < N := by rw [HY.out, HN.out]; exact hnk
      rw [← HY.out] at hx hx2
      clear hall hall2 hnk
      have hown1 := hown.out
      have hz := hext.out.size
      have HT : Hid (R.take (k + 1) = R.take k ++ [(z : Int)]) := Lib.hid (by
        obtain ⟨h1, h2⟩ := HRK.out
        rw [List.take_succ_eq_append_getElem h1, h2])
      have hlen : (R.take k).length ≤ 32 := by rw [List.length_take]; omega
      go_wp2_with (at_builtin; refine wp_app1 _ rfl _ _ rfl _ _ (R.take k) rfl hown1 (z : Int) rfl (by omega) hz ?_; intro v2 w' hown3 hgr)
      have HO : Hid (Own w' w.heap.size v2 (R.take (k + 1))) := Lib.hid (by rw [HT.out]; exact hown3)
      have HE : Hid (Ext w w') := Lib.hid (ext_app (e := 2) hext.out hown1 hgr)
      clear hown3 hgr hown1
      go_wp2
      exact ⟨⟨k + 1, by omega, by go_num, HO, HE⟩, by simp only [intOf]; omega⟩
    · obtain rfl : k = N := by omega
      go_wp2
      go_ret
      exact ⟨_, rfl, by rw [← List.take_of_length_le (l := R) (i := k) (by have := HRL.out; omega)]; exact hown.out, hext.out⟩
def mulOut (xs ys : List Int) : List Int := if validP xs && validP ys then (if xs.length = ys.length then timesN (xs.map Int.toNat) (ys.map Int.toNat) else []) else []
def mulCode (xs ys : List Int) : Int := if validP xs && validP ys then (if xs.length = ys.length then 0 else 2) else 1
theorem mulOut_len (xs ys : List Int) : (mulOut xs ys).length ≤ 3000000 := by
  unfold mulOut; split
  · rename_i h
    rw [Bool.and_eq_true, validP, Bool.and_eq_true, decide_eq_true_eq] at h
    split
    · rw [timesN_len, List.length_map]; omega
    · simp
  · simp
end Go.Proofs.Ytloacmfafccofaa
