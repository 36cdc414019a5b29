/- The identity permutation: the program's 'identity', the reference's 'l04One', IdentityPermutation. No condition. -/
import Derived.Test.YtloacmfafccofaaInts
import Derived.Test.YtloacmfafccofaaApp
import Derived.Test.YtloacmfafccofaaSlices
namespace Go.Proofs.Ytloacmfafccofaa
open Go.RowKit

theorem i_identity (n : Nat) (w : World) (hn : n ≤ 1000) : Calls Try.prog 69 #[.int .i64 n] w (RetInts w (iota 0 n)) := by
  go_enter Try.func69, Try.ntmps69
  go_wp2_with (at_make; refine wp_make _ rfl _ _ rfl w.heap.size .i64 .i64 _ _ n rfl rfl rfl rfl (by omega) (Nat.le_refl _) ?_; intro w1 hown hext)
  go_loopw [9] (fun i wr => ∃ (j : Nat) (ys : List Int), j ≤ n ∧ i = .int .i64 j ∧ Hid (ys.length = n) ∧ Hid (∀ t (ht : t < ys.length), t < j → ys[t] = 0 + (t : Int)) ∧ Hid (Own wr w.heap.size (.slice (some ⟨w.heap.size, 0, none⟩) n n) ys) ∧ Hid (Ext w wr)) (fun i _ => n - (intOf i).toNat)
  case atStart => exact ⟨0, List.replicate n 0, by omega, rfl, Lib.hid (by simp), Lib.hid (fun t ht h => by omega), Lib.hid hown, Lib.hid hext⟩
  case round =>
    clear hown hext
    obtain ⟨j, ys, hj, rfl, hl, hm2, hown, hext⟩ := hrel
    by_cases hlt : j < n
    · have hc1 := hown.out.cell j (by rw [List.length_map]; have := hl.out; omega)
      have hf1 := hown.out.frozen j
      obtain ⟨hs1, hs2⟩ := hown.out.stored j (.int .i64 j)
      have HS : Hid (Own (wr.setCell ⟨w.heap.size, j, none⟩ (.int .i64 j)) w.heap.size (.slice (some ⟨w.heap.size, 0, none⟩) n n) (ys.set j j)) := Lib.hid (by
        unfold Own; rw [List.map_set]; exact hs1)
      have HE : Hid (Ext w (wr.setCell ⟨w.heap.size, j, none⟩ (.int .i64 j))) := Lib.hid (ext_app (e := 2) (v := .slice (some ⟨w.heap.size, 0, none⟩) n n) hext.out hown.out hs2)
      have HN2 : Hid (∀ t (ht : t < (ys.set j (j : Int)).length), t < j + 1 → (ys.set j (j : Int))[t] = 0 + (t : Int)) := Lib.hid (by
        intro t ht h1
        rw [List.getElem_set]
        by_cases he : j = t
        · subst he; rw [if_pos rfl]; omega
        · rw [if_neg he]; exact hm2.out t (by simpa using ht) (by omega))
      have HL : Hid ((ys.set j (j : Int)).length = n) := Lib.hid (by rw [List.length_set]; exact hl.out)
      generalize (ys.map (Value.int .i64))[j]'(by rw [List.length_map]; have := hl.out; omega) = old at hc1
      clear hs1 hs2 hown hext hm2 hl
      go_wp2
      exact ⟨⟨j + 1, ys.set j j, by omega, by go_num, HL, HN2, HS, HE⟩, by simp only [intOf]; omega⟩
    · obtain rfl : j = n := by omega
      have HF : Hid (ys = iota 0 j) := Lib.hid (by
        have h1 := hl.out
        have h2 := iota_of (k := 0) (ys := ys) (fun i hi => hm2.out i hi (by omega))
        rw [h1] at h2; exact h2)
      clear hl hm2
      go_wp2
      go_ret
      exact ⟨_, rfl, by rw [← HF.out]; exact hown.out, hext.out⟩
theorem iota_succ (k : Int) (n : Nat) : iota k (n + 1) = iota k n ++ [k + (n : Int)] := by
  simp [iota, List.range_succ]
theorem s_l04One (n : Int) (w : World) (hn : n ≤ 1000) : Calls Try.prog 61 #[.int .i64 n] w (RetInts w (iota 0 n.toNat)) := by
  go_enter Try.func61, Try.ntmps61
  go_wp2
  go_loopw [3, 4] (fun v i wr => ∃ j : Nat, (j : Int) ≤ n + (if n < 0 then -n else 0) ∧ i = .int .i64 j ∧ Hid (Own wr w.heap.size v (iota 0 j)) ∧ Hid (Ext w wr)) (fun _ i _ => (n - intOf i).toNat)
  case atStart => exact ⟨0, by split <;> omega, rfl, Lib.hid (OwnV.empty _ _), Lib.hid (ext_alloc _ _)⟩
  case round =>
    obtain ⟨j, hj, rfl, hown, hext⟩ := hrel
    by_cases hlt : (j : Int) < n
    · have hown' := hown.out
      have hz := hext.out.size
      have hj2 : j ≤ 1000 := by omega
      clear hj
      go_wp2_with (at_builtin; refine wp_app1 _ rfl _ _ rfl _ _ (iota 0 j) rfl hown' j rfl (by rw [iota_len]; omega) hz ?_; intro v' w' hown2 hgr)
      have HO : Hid (Own w' w.heap.size v' (iota 0 (j + 1))) := Lib.hid (by rw [iota_succ, Int.zero_add]; exact hown2)
      have HE := Lib.hid (ext_app hext.out hown.out hgr)
      clear hown2 hgr hown'
      go_wp2
      exact ⟨⟨j + 1, by split <;> omega, by go_num, HO, HE⟩, by simp only [intOf]; omega⟩
    · have HJ : Hid (j = n.toNat) := Lib.hid (by split at hj <;> omega)
      clear hj
      go_wp2
      go_ret
      exact ⟨_, rfl, by rw [← HJ.out]; exact hown.out, hext.out⟩
def idOut (n : Int) : List Int := if inB n 0 32 then iota 0 n.toNat else []
def idCode (n : Int) : Int := if inB n 0 32 then 0 else 2
end Go.Proofs.Ytloacmfafccofaa
