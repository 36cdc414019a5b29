/- Contracts of the laws' own helpers on slices of integers: toInt64S, eqInt64S, markInt64S, heldInt64S. No condition. -/
import Derived.Test.YthibddfcjnljfaaDoorApp
namespace Go.Proofs.YthibddfcjnljfaaDoor
open Go.RowKit

/-- The numbers k, k+1, .. : n of them. -/
def iota (k : Int) (n : Nat) : List Int := (List.range n).map fun i : Nat => k + (i : Int)
theorem iota_len (k : Int) (n : Nat) : (iota k n).length = n := by simp [iota]
theorem iota_get (k : Int) (n i : Nat) (h : i < (iota k n).length) : (iota k n)[i] = k + (i : Int) := by simp [iota]

/-- The first j places agree. -/
def agree (xs ys : List Int) (j : Nat) : Prop := ∀ i, i < j → xs[i]? = ys[i]?
theorem agree_end {xs ys : List Int} (hl : xs.length = ys.length) (h : agree xs ys xs.length) : xs = ys := by
  apply List.ext_getElem? 
  intro i
  by_cases hi : i < xs.length
  · exact h i hi
  · rw [List.getElem?_eq_none (by omega), List.getElem?_eq_none (by omega)]
theorem agree_next {xs ys : List Int} {j : Nat} (h : agree xs ys j) (h1 : j < xs.length) (h2 : j < ys.length) (he : xs[j] = ys[j]) : agree xs ys (j + 1) := by
  intro i hi
  by_cases hj : i = j
  · subst hj; simp [h1, h2, he]
  · exact h i (by omega)

theorem l_eqInt64S (v v' : Value) (xs ys : List Int) (w : World) (h : Rd w v xs) (h' : Rd w v' ys) :
    Calls Tryd.prog 18 #[v, v'] w fun e w' => e = .returned (.bool (decide (xs = ys))) ∧ Drawn w w' := by
  obtain ⟨a, cap, rfl, hc, hm, hr⟩ := h
  obtain ⟨a', cap', rfl, hc', hm', hr'⟩ := h'
  by_cases hl : xs.length = ys.length
  · have hl' : ((xs.length : Int) != (ys.length : Int)) = false := by simp [hl]
    have HL := Lib.hid hl
    clear hl
    go_enter Tryd.func18, Tryd.ntmps18
    go_wp2
    go_loopw [5] (fun i wr => ∃ k : Nat, k ≤ xs.length ∧ i = .int .i64 k ∧ agree xs ys k ∧ Drawn w wr) (fun i _ => xs.length - (intOf i).toNat)
    case atStart => exact ⟨0, by omega, rfl, fun i hi => by omega, Drawn.refl _⟩
    case round =>
      obtain ⟨k, hk, rfl, hag, hd⟩ := hrel
      by_cases hlt : k < xs.length
      · have hlt' : k < ys.length := by have := HL.out; omega
        obtain ⟨b, o, rfl, hb, hcell⟩ := hr (by omega)
        obtain ⟨b', o', rfl, hb', hcell'⟩ := hr' (by omega)
        have hx := (hd.ext.cell (p := ⟨b, o + k, none⟩) hb).trans (hcell k hlt)
        have hy := (hd.ext.cell (p := ⟨b', o' + k, none⟩) hb').trans (hcell' k hlt')
        clear hcell hcell' hr hr'
        by_cases he : xs[k] = ys[k]
        · have G := Lib.hid (agree_next hag hlt hlt' he)
          have he' : (xs[k] != ys[k]) = false := by simp [he]
          generalize xs[k] = p at *
          generalize ys[k] = q at *
          clear he
          go_wp2
          go_quiet (fail)
          go_wp2
          exact ⟨⟨k + 1, by omega, by go_num, G.out, hd.drewN _⟩, by simp [intOf]; omega⟩
        · have G : Hid (¬ xs = ys) := Lib.hid (by rintro rfl; exact he rfl)
          have he' : (xs[k] != ys[k]) = true := by simpa using he
          generalize xs[k] = p at *
          generalize ys[k] = q at *
          clear he
          go_wp2
          go_quiet (fail)
          go_wp2
          go_ret
          exact ⟨ret_bool (by simp [G.out]), hd.drewN _⟩
      · obtain rfl : k = xs.length := by omega
        have G := Lib.hid (agree_end HL.out hag)
        go_wp2
        go_ret
        exact ⟨ret_bool (by simp [G.out]), hd⟩
  · have hl' : ((xs.length : Int) != (ys.length : Int)) = true := by rw [bne_iff_ne]; omega
    have G : Hid (¬ xs = ys) := Lib.hid (by rintro rfl; exact hl rfl)
    clear hl
    go_enter Tryd.func18, Tryd.ntmps18
    go_wp2
    go_ret
    exact ⟨ret_bool (by simp [G.out]), Drawn.refl _⟩
theorem l_eqInt64S_t (v v' : Value) (xs : List Int) (w : World) (h : Rd w v xs) (h' : Rd w v' xs) :
    Calls Tryd.prog 18 #[v, v'] w fun e w' => e = .returned (.bool true) ∧ Drawn w w' :=
  (l_eqInt64S v v' xs xs w h h').mono fun _ _ ⟨he, hd⟩ => ⟨by rw [he]; simp, hd⟩

theorem l_heldInt64S (v : Value) (k n : Nat) (w : World) (hk : k + n ≤ 4000000) (h : Rd w v (iota k n)) :
    Calls Tryd.prog 24 #[v, .int .i64 k] w fun e w' => e = .returned (.int .i64 ((k + n : Nat) : Int)) ∧ w = w' := by
  obtain ⟨a, cap, hv, hc, hm, hr⟩ := h
  rw [iota_len] at hv hc
  subst hv
  have hcell : Hid (0 < n → ∃ b o, a = some ⟨b, o, none⟩ ∧ ∀ i, i < n → w.cell? ⟨b, o + i, none⟩ = some (.int .i64 ((k : Int) + (i : Int)))) := by
    refine Lib.hid fun hn => ?_
    obtain ⟨b, o, h1, _, h2⟩ := hr (by rw [iota_len]; exact hn)
    exact ⟨b, o, h1, fun i hi => by rw [h2 i (by rw [iota_len]; exact hi), iota_get]⟩
  clear hr
  go_enter Tryd.func24, Tryd.ntmps24
  go_wp2
  go_loop [1, 5] (fun q i => ∃ (j : Nat) (z : Int), j ≤ n ∧ i = .int .i64 j ∧ q = .int .i64 z ∧ Hid (z = (k : Int) + (j : Int)) ∧ 0 ≤ z ∧ z ≤ 4000000) (fun _ i => n - (intOf i).toNat)
  case atStart => exact ⟨0, k, by omega, rfl, rfl, Lib.hid (by omega), by omega, by omega⟩
  case round =>
    obtain ⟨j, z, hj, rfl, rfl, hz, z1, z2⟩ := hrel
    by_cases hlt : j < n
    · obtain ⟨b, o, rfl, hall⟩ := hcell.out (by omega)
      have hx := hall j hlt
      rw [← hz.out] at hx
      have HZ : Hid (z + 1 = (k : Int) + ((j + 1 : Nat) : Int)) := Lib.hid (by have := hz.out; omega)
      have z3 : z + 1 ≤ 4000000 := by have := hz.out; omega
      have hne : (z != z) = false := by simp
      clear hall hz
      go_wp2
      go_round
      case rel => exact ⟨j + 1, z + 1, by omega, by go_num, rfl, HZ, by omega, by omega⟩
      case measure => simp only [intOf]; omega
    · obtain rfl : j = n := by omega
      have HZ : Hid (z = ((k + j : Nat) : Int)) := Lib.hid (by have := hz.out; omega)
      clear hz
      go_wp2
      go_ret
      exact ⟨ret_i64 HZ.out, rfl⟩
theorem iota_of {k : Int} {ys : List Int} (h : ∀ i (hi : i < ys.length), ys[i] = k + (i : Int)) : ys = iota k ys.length := by
  apply List.ext_getElem (by rw [iota_len])
  intro i h1 h2
  rw [h i h1, iota_get]
theorem l_markInt64S (v : Value) (k : Nat) (xs : List Int) (lo : Nat) (w : World) (hk : k + xs.length ≤ 4000000) (h : Own w lo v xs) :
    Calls Tryd.prog 23 #[v, .int .i64 k] w fun e w' => e = .returned (.int .i64 ((k + xs.length : Nat) : Int)) ∧ Own w' lo v (iota k xs.length) ∧ w.grownBy w' v.ownBlock := by
  obtain ⟨a, cap, hv, hc, hm, hg, hn⟩ := h.form
  rw [List.length_map] at hv hc
  have H := Lib.hid h
  clear h
  subst hv
  unfold maxLen at hm
  obtain ⟨n, HXN⟩ : ∃ n, Hid (n = xs.length) := ⟨_, Lib.hid rfl⟩
  rw [← HXN.out] at hk hc H ⊢
  go_enter Tryd.func23, Tryd.ntmps23
  go_wp2
  go_loopw [1, 5] (fun q i wr => ∃ (j : Nat) (z : Int) (ys : List Int), j ≤ n ∧ i = .int .i64 j ∧ q = .int .i64 z ∧ Hid (z = (k : Int) + (j : Int)) ∧ 0 ≤ z ∧ z ≤ 4000000 ∧ Hid (ys.length = n) ∧ Hid (∀ t (ht : t < ys.length), t < j → ys[t] = (k : Int) + (t : Int)) ∧ Hid (Own wr lo (.slice a n cap) ys) ∧ Hid (w.grownBy wr (Value.ownBlock (.slice a n cap)))) (fun _ i _ => n - (intOf i).toNat)
  case atStart => exact ⟨0, k, xs, by omega, rfl, rfl, Lib.hid (by omega), by omega, by omega, Lib.hid HXN.out.symm, Lib.hid (fun t ht h => by omega), H, Lib.hid (World.grownBy.refl _ _)⟩
  case round =>
    obtain ⟨j, z, ys, hj, rfl, rfl, hz, z1, z2, hl, hm2, hown, hgr⟩ := hrel
    by_cases hlt : j < n
    · obtain ⟨g, rfl, hlo, hgl⟩ := hg (by omega)
      have hc1 := hown.out.cell j (by rw [List.length_map]; have := hl.out; omega)
      have hf1 := hown.out.frozen j
      obtain ⟨hs1, hs2⟩ := hown.out.stored j (.int .i64 z)
      have HS : Hid (Own (wr.setCell ⟨g, j, none⟩ (.int .i64 z)) lo (.slice (some ⟨g, 0, none⟩) n cap) (ys.set j z)) := Lib.hid (by
        unfold Own; rw [List.map_set]; exact hs1)
      have HG : Hid (w.grownBy (wr.setCell ⟨g, j, none⟩ (.int .i64 z)) (Value.ownBlock (.slice (some ⟨g, 0, none⟩) n cap))) := Lib.hid (grownBy_trans hgr.out hs2)
      have HZ : Hid (z + 1 = (k : Int) + ((j + 1 : Nat) : Int)) := Lib.hid (by have := hz.out; omega)
      have z3 : z + 1 ≤ 4000000 := by have := hz.out; omega
      have HN2 : Hid (∀ t (ht : t < (ys.set j z).length), t < j + 1 → (ys.set j z)[t] = (k : Int) + (t : Int)) := Lib.hid (by
        intro t ht h1
        rw [List.getElem_set]
        by_cases he : j = t
        · subst he; rw [if_pos rfl, hz.out]
        · rw [if_neg he]; exact hm2.out t (by simpa using ht) (by omega))
      have HL : Hid ((ys.set j z).length = n) := Lib.hid (by rw [List.length_set]; exact hl.out)
      generalize (ys.map (Value.int .i64))[j]'(by rw [List.length_map]; have := hl.out; omega) = old at hc1
      clear hs1 hs2 hz hown hgr hm2 hl
      go_wp2
      exact ⟨⟨j + 1, z + 1, ys.set j z, by omega, by go_num, rfl, HZ, by omega, by omega, HL, HN2, HS, HG⟩, by simp only [intOf]; omega⟩
    · obtain rfl : j = n := by omega
      have HF : Hid (ys = iota k j) := Lib.hid (by
        have h1 := hl.out
        have h2 := iota_of (k := (k : Int)) (ys := ys) (fun i hi => hm2.out i hi (by omega))
        rw [h1] at h2; exact h2)
      have HZ : Hid (z = ((k + j : Nat) : Int)) := Lib.hid (by have := hz.out; omega)
      clear hz hl hm2
      go_wp2
      go_ret
      exact ⟨ret_i64 HZ.out, by rw [← HF.out]; exact hown.out, hgr.out⟩
theorem l_toInt64S (v : Value) (xs : List Int) (w : World) (hn : xs.length ≤ 1048576) (h : Rd w v xs) : Calls Tryd.prog 16 #[v] w (RetInts w xs) := by
  obtain ⟨a, cap, rfl, hc, hm, hr⟩ := h
  obtain ⟨n, HXN⟩ : ∃ n, Hid (n = xs.length) := ⟨_, Lib.hid rfl⟩
  have HC : Hid (0 < n → ∃ b o, a = some ⟨b, o, none⟩ ∧ b < w.heap.size ∧ ∀ i (h : i < xs.length), w.cell? ⟨b, o + i, none⟩ = some (.int .i64 xs[i])) := Lib.hid (by rw [HXN.out]; exact hr)
  clear hr
  rw [← HXN.out] at hn hc ⊢
  go_enter Tryd.func16, Tryd.ntmps16
  go_wp2_with (at_make; refine wp_make _ rfl _ _ rfl w.heap.size .i64 .i64 _ _ n rfl rfl rfl rfl (by omega) (Nat.le_refl _) ?_; intro w1 hown hext)
  go_loopw [4] (fun i wr => ∃ (j : Nat) (ys : List Int), j ≤ n ∧ i = .int .i64 j ∧ Hid (ys.length = n) ∧ Hid (∀ t (ht : t < ys.length) (hx : t < xs.length), t < j → ys[t] = xs[t]) ∧ Hid (Own wr w.heap.size (.slice (some ⟨w.heap.size, 0, none⟩) n n) ys) ∧ Hid (Ext w wr)) (fun i _ => n - (intOf i).toNat)
  case atStart => exact ⟨0, List.replicate n 0, by omega, rfl, Lib.hid (by simp), Lib.hid (fun t ht hx h => by omega), Lib.hid hown, Lib.hid hext⟩
  case round =>
    clear hown hext
    obtain ⟨j, ys, hj, rfl, hl, hm2, hown, hext⟩ := hrel
    by_cases hlt : j < n
    · obtain ⟨b, o, rfl, hb, hall⟩ := HC.out (by omega)
      have hjx : j < xs.length := by rw [← HXN.out]; exact hlt
      have hx := (hext.out.cell (p := ⟨b, o + j, none⟩) hb).trans (hall j hjx)
      have hc1 := hown.out.cell j (by rw [List.length_map]; have := hl.out; omega)
      have hf1 := hown.out.frozen j
      obtain ⟨hs1, hs2⟩ := hown.out.stored j (.int .i64 xs[j])
      have HS : Hid (Own (wr.setCell ⟨w.heap.size, j, none⟩ (.int .i64 xs[j])) w.heap.size (.slice (some ⟨w.heap.size, 0, none⟩) n n) (ys.set j xs[j])) := Lib.hid (by
        unfold Own; rw [List.map_set]; exact hs1)
      have HE : Hid (Ext w (wr.setCell ⟨w.heap.size, j, none⟩ (.int .i64 xs[j]))) := Lib.hid (ext_app (e := 2) (v := .slice (some ⟨w.heap.size, 0, none⟩) n n) hext.out hown.out hs2)
      have HN2 : Hid (∀ t (ht : t < (ys.set j xs[j]).length) (hx : t < xs.length), t < j + 1 → (ys.set j xs[j])[t] = xs[t]) := Lib.hid (by
        intro t ht hx h1
        rw [List.getElem_set]
        by_cases he : j = t
        · subst he; rw [if_pos rfl]
        · rw [if_neg he]; exact hm2.out t (by simpa using ht) hx (by omega))
      have HL : Hid ((ys.set j xs[j]).length = n) := Lib.hid (by rw [List.length_set]; exact hl.out)
      generalize (ys.map (Value.int .i64))[j]'(by rw [List.length_map]; have := hl.out; omega) = old at hc1
      generalize xs[j] = z at *
      clear hs1 hs2 hown hext hm2 hl hall
      go_wp2
      exact ⟨⟨j + 1, ys.set j z, by omega, by go_num, HL, HN2, HS, HE⟩, by simp only [intOf]; omega⟩
    · obtain rfl : j = n := by omega
      have HF : Hid (ys = xs) := Lib.hid (by
        apply List.ext_getElem (by rw [hl.out, HXN.out])
        intro i h1 h2
        exact hm2.out i h1 h2 (by have := HXN.out; omega))
      clear hl hm2
      go_wp2
      go_ret
      exact ⟨_, rfl, by rw [← HF.out]; exact hown.out, hext.out⟩
end Go.Proofs.YthibddfcjnljfaaDoor
