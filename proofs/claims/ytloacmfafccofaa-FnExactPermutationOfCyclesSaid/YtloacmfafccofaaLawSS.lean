/- Slices of slices among the arguments: how they are opened; the laws' own helpers szInt64SS, toInt64SS. No condition. -/
import Derived.Test.YtloacmfafccofaaLawL
import Derived.Test.YtloacmfafccofaaFldLw
import Derived.Test.YtloacmfafccofaaOpen
import Derived.Deep.Matrix
namespace Go.Proofs.Ytloacmfafccofaa
open Go.ChangeShapes Go.WideShapes Go.ChangeAt Go.RowKit Go.Joins

section
variable {H : Type} {enc : TypeId × Value → H} {W : World} {base : Nat}
theorem open_lists {v : Value} {d : DataW H} {p : List MemPlace} (hv : Value.okWide Try.prog W .any base 29 v) (h : DataW.Trod enc Try.prog W 0 (fun _ => true) true 29 v d p) (_lt : ∀ x ∈ p, x.block < W.heap.size) : ∃ xss, RdL W v xss := by
  obtain ⟨a, len, cap, rfl⟩ := okWide_slice Try.underlying29 hv
  obtain ⟨fuel, hf⟩ := h
  rcases Go.Deep.open_int_rows Try.underlying29 Try.underlying22 Try.underlying2 (by kernel_rfl) (by kernel_rfl) hf with ⟨hcs, _⟩ | ⟨x, l, c, A, L, C, Z, hcs, _, hl, hm, _, hrows⟩
  · simp [Value.cells] at hcs
    obtain ⟨rfl, rfl, rfl⟩ := hcs
    exact ⟨[], none, 0, rfl, by simp, by omega, fun h => by simp at h⟩
  · simp [Value.cells] at hcs
    obtain ⟨rfl, rfl, rfl⟩ := hcs
    have hlen : ((List.range len).map fun r => (Z r).take (L r)).length = len := by simp
    refine ⟨(List.range len).map fun r => (Z r).take (L r), some x, cap, by rw [hlen], by rw [hlen]; exact hl, by unfold maxLen at hm; omega, fun hn => ?_⟩
    rw [hlen] at hn
    have h0 := (hrows 0 (by omega)).1
    have hsp : x.spot = none := by
      cases hs : x.spot with
      | none => rfl
      | some s =>
        exfalso
        simp only [Addr.add, if_pos, World.cell?] at h0
        split at h0
        · rw [hs] at h0; simp at h0
        · cases h0
    obtain ⟨b, o, sp⟩ := x
    simp only at hsp
    subst hsp
    have hb : b < W.heap.size := by
      have := World.block_lt_of_cell? W _ h0
      simpa [Addr.add] using this
    refine ⟨b, o, rfl, hb, fun i hi => ?_⟩
    rw [hlen] at hi
    obtain ⟨r1, r2, r3, r4, r5, r6, r7⟩ := hrows i (by omega)
    have e : (⟨b, o, none⟩ : Addr).add i = ⟨b, o + i, none⟩ := by
      unfold Addr.add; split
      · rename_i h; subst h; rfl
      · rfl
    rw [e] at r1
    refine ⟨A i, L i, C i, r1, ?_⟩
    rw [List.getElem_map, List.getElem_range]
    cases hA : A i with
    | none =>
      have hC := r6 hA
      have hL : L i = 0 := by omega
      rw [hL, hC, List.take_zero]
      exact Rd.nil W
    | some a' => exact rd_of_cells r2 r3 r4 (fun c hc => (r7 a' hA).2 c (by omega))
end
theorem l_szInt64SS (v : Value) (xss : List (List Int)) (l : Int) (w : World) (h : RdL w v xss) (hl : 0 ≤ l) (hl2 : l ≤ 1048576) :
    Calls Try.prog 36 #[v, .int .i64 l] w fun e w' => e = .returned (.int .i64 (if (xss.length : Int) + (sumLen xss : Nat) ≤ l then l - xss.length - (sumLen xss : Nat) else -1)) ∧ w = w' := by
  obtain ⟨a, cap, rfl, hc, hm, hr⟩ := h
  obtain ⟨N, HN⟩ : ∃ N, Hid (N = xss.length) := ⟨_, Lib.hid rfl⟩
  have HR := Lib.hid hr
  clear hr
  obtain ⟨R, HRR⟩ : ∃ R : Int, Hid (R = (if (xss.length : Int) + (sumLen xss : Nat) ≤ l then l - xss.length - (sumLen xss : Nat) else -1)) := ⟨_, Lib.hid rfl⟩
  rw [← HRR.out]
  rw [← HN.out] at hc ⊢
  by_cases hlt : (N : Int) ≤ l
  · go_enter Try.func36, Try.ntmps36
    go_wp2
    go_loop [1, 5] (fun q i => ∃ (j : Nat) (z : Int), j ≤ N ∧ i = .int .i64 j ∧ q = .int .i64 z ∧ 0 ≤ z ∧ z ≤ 1048576 ∧ Hid (z = l - (N : Int) - (sumLen (xss.take j) : Nat))) (fun _ i => N - (intOf i).toNat)
    case atStart => exact ⟨0, l - N, by omega, rfl, rfl, by omega, by omega, Lib.hid (by simp [sumLen])⟩
    case round =>
      obtain ⟨j, z, hj, rfl, rfl, z0, z1, hz⟩ := hrel
      by_cases hlt2 : j < N
      · have hjx : j < xss.length := by rw [← HN.out]; exact hlt2
        obtain ⟨g, o, rfl, hg, hall⟩ := HR.out (by omega)
        obtain ⟨b, n, c, hcell, hrd⟩ := hall j hjx
        have HRD := Lib.hid hrd
        have HST := Lib.hid (sumLen_take hjx)
        have HSL := Lib.hid (sumLen_take_le xss (j + 1))
        clear hall hrd
        go_wp2_with fail
        refine (l_szInt64S _ xss[j] z _ HRD.out z0 z1).mono ?_
        rintro e _ ⟨rfl, rfl⟩
        by_cases hle : (xss[j].length : Int) ≤ z
        · rw [if_pos hle]
          have HZ : Hid (z - (xss[j].length : Int) = l - (N : Int) - (sumLen (xss.take (j + 1)) : Nat)) := Lib.hid (by have := hz.out; have := HST.out; omega)
          obtain ⟨z2, HZ2⟩ : ∃ z2, Hid (z2 = z - (xss[j].length : Int)) := ⟨_, Lib.hid rfl⟩
          have hz20 : 0 ≤ z2 := by rw [HZ2.out]; omega
          have hz21 : z2 ≤ 1048576 := by rw [HZ2.out]; omega
          rw [← HZ2.out] at HZ ⊢
          clear hz hle
          go_wp2
          go_round
          case rel => exact ⟨j + 1, z2, by omega, by go_num, rfl, hz20, hz21, HZ⟩
          case measure => simp only [intOf]; omega
        · rw [if_neg hle]
          have HE : Hid (R = -1) := Lib.hid (by rw [HRR.out, if_neg]; have := hz.out; have := HST.out; have := HSL.out; have := HN.out; omega)
          clear hz hle
          go_wp2
          go_ret
          exact ⟨ret_i64 HE.out.symm, rfl⟩
      · obtain rfl : j = N := by omega
        have HE : Hid (z = R) := Lib.hid (by
          have h1 := hz.out
          have h2 := HN.out
          rw [List.take_of_length_le (by omega)] at h1
          rw [HRR.out, if_pos (by omega), h1, h2])
        clear hz
        go_wp2
        go_ret
        exact ⟨ret_i64 HE.out, rfl⟩
  · have HE : Hid (R = -1) := Lib.hid (by rw [HRR.out, if_neg]; have := HN.out; omega)
    go_enter Try.func36, Try.ntmps36
    go_wp2
    go_ret
    exact ⟨ret_i64 HE.out.symm, rfl⟩
end Go.Proofs.Ytloacmfafccofaa
