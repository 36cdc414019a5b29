/- The cycles of a permutation: the walks of the program and of the reference. No condition. -/
import Derived.Test.YtloacmfafccofaaPermInv
import Derived.Test.YtloacmfafccofaaCycMath
import Derived.Test.YtloacmfafccofaaLists
namespace Go.Proofs.Ytloacmfafccofaa
open Go.RowKit

def slen : Value → Nat
  | .slice _ n _ => n
  | _ => 0
theorem OwnV.slen {e : TypeId} {w : World} {lo : Nat} {v : Value} {ys : List Value} (h : OwnV e w lo v ys) : slen v = ys.length := by
  obtain ⟨a, cap, h1, _⟩ := h.form
  rw [h1]; rfl
theorem cyA_hit {ns : List Nat} {k : Nat} {acc : List Nat} {s : List Bool} (h : cyW ns 33 (cyA ns k).2 k = (acc, s)) (ha : acc ≠ []) : (cyA ns (k + 1)).1 = (cyA ns k).1 ++ [acc] ∧ (cyA ns (k + 1)).2 = s := by
  constructor
  · rw [cyA, h]; simp [ha]
  · rw [cyA, h]
theorem cyA_miss {ns : List Nat} {k : Nat} {s : List Bool} (h : cyW ns 33 (cyA ns k).2 k = ([], s)) : (cyA ns (k + 1)).1 = (cyA ns k).1 ∧ (cyA ns (k + 1)).2 = s := by
  constructor
  · rw [cyA, h]; simp
  · rw [cyA, h]
theorem cyA_count (ns : List Nat) (k : Nat) : (cyA ns k).1.length ≤ k := by
  induction k with
  | zero => simp [cyA]
  | succ k ih =>
    show (if _ then (cyA ns k).1 else (cyA ns k).1 ++ [_]).length ≤ k + 1
    split
    · omega
    · rw [List.length_append, List.length_singleton]; omega
theorem cyW_unseen {ns : List Nat} {s : List Bool} {k : Nat} (hk : k < s.length) (h : s[k] = false) : (cyW ns 33 s k).1 ≠ [] := by
  have hg : s.getD k true = false := by simp [List.getD, hk, h]
  rw [cyW, hg]; simp
theorem cyW_seen {ns : List Nat} {s : List Bool} {k : Nat} (hk : k < s.length) (h : s[k] = true) : cyW ns 33 s k = ([], s) := by
  have hg : s.getD k true = true := by simp [List.getD, hk, h]
  rw [cyW, hg]; rfl
set_option maxRecDepth 100000 in
set_option maxHeartbeats 2000000 in
theorem i_cycles (v : Value) (ns : List Nat) (w : World) (hp : IsP ns) (h : Rd w v (casN ns)) : Calls Try.prog 48 #[v] w (RetL w ((cycN ns).map casN)) := by
  obtain ⟨hp1, hp2, hp3⟩ := hp
  have HP2 := Lib.hid hp2
  obtain ⟨a, n, cap, rfl⟩ : ∃ a n cap, v = .slice a n cap := by obtain ⟨a, cap, h1, _⟩ := h; exact ⟨_, _, _, h1⟩
  obtain ⟨rfl, hc, hm, HC⟩ := rd_cells h
  obtain ⟨N, HN⟩ : ∃ N, Hid (N = ns.length) := ⟨_, Lib.hid rfl⟩
  clear h hp2 hp3
  rw [← HN.out] at hc hp1 ⊢
  obtain ⟨R, HR⟩ : ∃ R, Hid (R = (cycN ns).map casN) := ⟨_, Lib.hid rfl⟩
  rw [← HR.out]
  go_enter Try.func48, Try.ntmps48
  go_wp2_with (at_make; refine wp_makeB _ rfl _ _ rfl w.heap.size .i64 .i64 _ _ N rfl rfl rfl rfl (by omega) (Nat.le_refl _) ?_; intro w1 hownb hext)
  go_loopw [4, 13] (fun v i wr => ∃ k : Nat, k ≤ N ∧ i = .int .i64 k ∧ Hid (OwnL wr w.heap.size wr.heap.size v ((cyA ns k).1.map casN)) ∧ Hid (OwnB wr w.heap.size (.slice (some ⟨w.heap.size, 0, none⟩) N N) (cyA ns k).2) ∧ Hid (Ext w wr)) (fun _ i _ => N - (intOf i).toNat)
  case atStart => exact ⟨0, by omega, rfl, Lib.hid (OwnL.empty _ _ _ _ (OwnV.nil _ _ _)), Lib.hid (by rw [cyA, ← HN.out]; exact hownb), Lib.hid hext⟩
  case round =>
    clear hownb hext
    obtain ⟨k, hk, rfl, hL, hB, hext⟩ := hrel
    by_cases hlt : k < N
    · obtain ⟨b, o, rfl, hb, hall⟩ := HC.out (by rw [← HN.out]; omega)
      have HALL := Lib.hid hall
      obtain ⟨av, capv, hve, hve1, hve2, _⟩ := hL.out.form
      subst hve
      have hLL := cyA_count ns k
      rw [List.length_map] at hL hve1 ⊢
      obtain ⟨L4, HL40⟩ : ∃ L4, Hid (L4 = (cyA ns k).1.length) := ⟨_, Lib.hid rfl⟩
      rw [← HL40.out] at hL hve1 hLL ⊢
      obtain ⟨S, HS0⟩ : ∃ S, Hid (S = wr.heap.size) := ⟨_, Lib.hid rfl⟩
      have HZ1 : Hid (w.heap.size ≤ S) := Lib.hid (by rw [HS0.out]; exact hext.out.size)
      rw [← HS0.out] at hL
      clear hall
      go_wp2
      go_loopw [6, 7] (fun cv y wr => ∃ (acc : List Nat) (s : List Bool) (yy : Nat), yy < N ∧ y = .int .i64 yy ∧ Hid (cyMid ns (cyA ns k).2 k acc s yy) ∧ Hid (s.length = N) ∧ Hid (Own wr S cv (casN acc)) ∧ Hid (OwnB wr w.heap.size (.slice (some ⟨w.heap.size, 0, none⟩) N N) s) ∧ Hid (OwnL wr w.heap.size S (.slice av L4 capv) ((cyA ns k).1.map casN)) ∧ Hid (Ext w wr) ∧ Hid (S ≤ wr.heap.size)) (fun cv _ _ => 40 - slen cv)
      case atStart => exact ⟨[], (cyA ns k).2, k, hlt, rfl, Lib.hid (cyMid_start (by rw [cyA_len, ← HN.out]; omega)), Lib.hid (by rw [cyA_len, HN.out]), Lib.hid (OwnV.nil _ _ _), Lib.hid hB.out, Lib.hid hL.out, Lib.hid hext.out, Lib.hid (Nat.le_of_eq HS0.out)⟩
      case round =>
        clear hL hB hext
        obtain ⟨acc, s, y, hy, rfl, hmid, hsl, hown, hB, hL, hext, hszr⟩ := hrel
        have hsz := hszr.out
        have hys : y < s.length := by rw [hsl.out]; exact hy
        have hc1 := hB.out.cell y (by rw [List.length_map]; exact hys)
        rw [List.getElem_map] at hc1
        have hf1 := hB.out.frozen y
        have hal : acc.length ≤ 32 := by
          have h1 := cyMid_bd hmid.out
          rw [cyA_len, ← HN.out] at h1
          omega
        cases hsy : s[y]
        · rw [hsy] at hc1
          have HM := Lib.hid (cyMid_next hmid.out hys hsy)
          obtain ⟨hs1, hs2⟩ := hB.out.stored y (.bool true)
          have HBS : Hid (OwnB (wr.setCell ⟨w.heap.size, y, none⟩ (.bool true)) w.heap.size (.slice (some ⟨w.heap.size, 0, none⟩) N N) (s.set y true)) := Lib.hid (by
            unfold OwnB; rw [List.map_set]; exact hs1)
          have HLS : Hid (OwnL (wr.setCell ⟨w.heap.size, y, none⟩ (.bool true)) w.heap.size S (.slice av L4 capv) ((cyA ns k).1.map casN)) := Lib.hid (hL.out.keptT hB.out (by decide) (by decide) hs2)
          have hownS : Own (wr.setCell ⟨w.heap.size, y, none⟩ (.bool true)) S _ (casN acc) := hown.out.keptT hB.out (by decide) hs2
          have HES : Hid (Ext w (wr.setCell ⟨w.heap.size, y, none⟩ (.bool true))) := Lib.hid (ext_app (e := 4) (v := .slice (some ⟨w.heap.size, 0, none⟩) N N) hext.out hB.out hs2)
          have hz : S ≤ (wr.setCell ⟨w.heap.size, y, none⟩ (.bool true)).heap.size := by
            have h1 := hs2.size
            have h2 := hsz
            omega
          have HSZS : Hid ((wr.setCell ⟨w.heap.size, y, none⟩ (.bool true)).heap.size = wr.heap.size) := Lib.hid (by simp)
          have hyn : y < ns.length := by rw [← HN.out]; exact hy
          obtain ⟨y2, HY2⟩ : ∃ y2, Hid (y2 = ns[y]) := ⟨_, Lib.hid rfl⟩
          have hy2 : y2 < N := by rw [HY2.out, HN.out]; exact HP2.out y hyn
          have HPY : Hid (∀ w9, Ext w w9 → w9.cell? ⟨b, o + y, none⟩ = some (.int .i64 (y2 : Nat))) := Lib.hid (fun w9 h9 => by rw [HY2.out]; exact (h9.cell (p := ⟨b, o + y, none⟩) hb).trans (HALL.out y hyn))
          have HSL : Hid ((s.set y true).length = N) := Lib.hid (by rw [List.length_set]; exact hsl.out)
          have HGD : Hid (ns.getD y 0 = y2) := Lib.hid (by rw [HY2.out, List.getD, List.getElem?_eq_getElem hyn]; rfl)
          have hslen := hownS.slen
          rw [List.length_map, List.length_map] at hslen
          have HSLEN := Lib.hid hslen
          clear hmid hB hL hext hown hs1 hs2 hsy hsl hys hslen
          go_wp2_with (at_builtin; refine wp_app1 _ rfl _ _ rfl _ _ (casN acc) rfl hownS (y : Int) (by rw [HSZS.out]; rfl) (by rw [List.length_map]; omega) hz ?_; intro v4 w4 hown4 hgr; have HE4 : Hid (Ext w w4) := Lib.hid (Below.grown HES.out hgr HES.out.size (fun j hj => Nat.le_trans (HZ1.out) (hownS.lt j hj).1)); have hx4 := HPY.out w4 HE4.out)
          have HO4 : Hid (Own w4 S v4 (casN (acc ++ [y]))) := Lib.hid (by rw [casN, List.map_append]; exact hown4)
          have HB4 : Hid (OwnB w4 w.heap.size (.slice (some ⟨w.heap.size, 0, none⟩) N N) (s.set y true)) := Lib.hid (HBS.out.keptT hownS (by decide) hgr)
          have HL4 : Hid (OwnL w4 w.heap.size S (.slice av L4 capv) ((cyA ns k).1.map casN)) := Lib.hid (HLS.out.keptI hownS (Nat.le_refl _) hgr)
          have hsl4 := HO4.out.slen
          rw [List.length_map, List.length_map, List.length_append, List.length_singleton] at hsl4
          have HSL4 := Lib.hid hsl4
          have HSZ4 : Hid (S ≤ w4.heap.size) := Lib.hid (Nat.le_trans hz hgr.size)
          clear hown4 hgr hownS hsl4 hx4
          go_wp2
          exact ⟨⟨acc ++ [y], s.set y true, y2, hy2, rfl, Lib.hid (by rw [← HGD.out]; exact HM.out), HSL, HO4, HB4, HL4, HE4, HSZ4⟩, by have h1 := HSL4.out; have h2 := HSLEN.out; omega⟩
        · rw [hsy] at hc1
          have HW := Lib.hid (cyMid_end hmid.out hys hsy)
          obtain ⟨ac, cc, hce, hce1, hce2, _⟩ := hown.out.form
          subst hce
          have hownc := hown.out
          rw [List.length_map, List.length_map] at hce1 hownc ⊢
          unfold maxLen at hce2
          obtain ⟨AL, HAL⟩ : ∃ AL, Hid (AL = acc.length) := ⟨_, Lib.hid rfl⟩
          rw [← HAL.out] at hce1 hal hownc ⊢
          by_cases hne : 0 < AL
          · have HA := Lib.hid (cyA_hit HW.out (by intro h0; have := HAL.out; rw [h0] at this; simp at this; omega))
            have hLout := hL.out
            have hZ2 : w.heap.size ≤ wr.heap.size := hext.out.size
            clear hmid hown hL
            go_wp2_with (at_builtin; refine wp_appL _ rfl _ _ rfl w.heap.size S S _ ((cyA ns k).1.map casN) rfl hLout ac AL cc (casN acc) hownc (Nat.le_refl _) HZ1.out rfl (by rw [List.length_map]; have := HL40.out; omega) hZ2 ?_; intro v5 w5 hL5 hgr5)
            have HL5 : Hid (OwnL w5 w.heap.size w5.heap.size v5 ((cyA ns (k + 1)).1.map casN)) := Lib.hid (by rw [HA.out.1, List.map_append]; exact hL5)
            have HB5 : Hid (OwnB w5 w.heap.size (.slice (some ⟨w.heap.size, 0, none⟩) N N) (cyA ns (k + 1)).2) := Lib.hid (by
              rw [HA.out.2]
              obtain ⟨vs, a1, _⟩ := hLout
              exact hB.out.keptT a1 (by decide) hgr5)
            have HE5 := Lib.hid (ext_appL hext.out hLout hgr5)
            clear hL5 hgr5 hLout
            go_wp2
            exact ⟨⟨k + 1, by omega, by go_num, HL5, HB5, HE5⟩, by simp only [intOf]; omega⟩
          · have hz0 : AL = 0 := by omega
            have HA := Lib.hid (cyA_miss (ns := ns) (k := k) (s := s) (by rw [HW.out, show acc = [] from List.eq_nil_of_length_eq_zero (by rw [← HAL.out]; exact hz0)]))
            have HL5 : Hid (OwnL wr w.heap.size wr.heap.size (.slice av L4 capv) ((cyA ns (k + 1)).1.map casN)) := Lib.hid (by rw [HA.out.1]; exact hL.out.size)
            have HB5 : Hid (OwnB wr w.heap.size (.slice (some ⟨w.heap.size, 0, none⟩) N N) (cyA ns (k + 1)).2) := Lib.hid (by rw [HA.out.2]; exact hB.out)
            clear hmid hown hL hB
            have HZ0 := Lib.hid hz0
            clear hz0
            go_wp2
            exact ⟨⟨k + 1, by omega, by go_num, HL5, HB5, hext⟩, by simp only [intOf]; omega⟩
    · obtain rfl : k = N := by omega
      have HF : Hid ((cyA ns k).1.map casN = R) := Lib.hid (by rw [HR.out, cycN, HN.out])
      go_wp2
      go_ret
      exact ⟨_, rfl, by rw [← HF.out]; exact hL.out, hext.out⟩
set_option maxRecDepth 100000 in
set_option maxHeartbeats 2000000 in
theorem s_cycles (v : Value) (ns : List Nat) (w : World) (hp : IsP ns) (h : Rd w v (casN ns)) : Calls Try.prog 46 #[v] w (RetL w ((cycN ns).map casN)) := by
  obtain ⟨hp1, hp2, hp3⟩ := hp
  have HP2 := Lib.hid hp2
  obtain ⟨a, n, cap, rfl⟩ : ∃ a n cap, v = .slice a n cap := by obtain ⟨a, cap, h1, _⟩ := h; exact ⟨_, _, _, h1⟩
  obtain ⟨rfl, hc, hm, HC⟩ := rd_cells h
  obtain ⟨N, HN⟩ : ∃ N, Hid (N = ns.length) := ⟨_, Lib.hid rfl⟩
  clear h hp2 hp3
  rw [← HN.out] at hc hp1 ⊢
  obtain ⟨R, HR⟩ : ∃ R, Hid (R = (cycN ns).map casN) := ⟨_, Lib.hid rfl⟩
  rw [← HR.out]
  have HX0 := Lib.hid (ext_alloc w (.cells #[] 22))
  have HO0 := Lib.hid (OwnV.empty 22 w)
  go_enter Try.func46, Try.ntmps46
  go_wp2_with (at_make; generalize w.alloc (.cells #[] 22) = w0 at HX0 HO0 ⊢; refine wp_makeB _ rfl _ _ rfl w.heap.size .i64 .i64 _ _ N rfl rfl rfl rfl (by omega) HX0.out.size ?_; intro w1 hownb hext)
  go_loopw [3, 5] (fun v i wr => ∃ k : Nat, k ≤ N ∧ i = .int .i64 k ∧ Hid (OwnL wr w.heap.size wr.heap.size v ((cyA ns k).1.map casN)) ∧ Hid (OwnB wr w.heap.size (.slice (some ⟨w0.heap.size, 0, none⟩) N N) (cyA ns k).2) ∧ Hid (Ext w wr)) (fun _ i _ => N - (intOf i).toNat)
  case atStart => exact ⟨0, by omega, rfl, Lib.hid (OwnL.empty _ _ _ _ (HO0.out.ext hext)), Lib.hid (by rw [cyA, ← HN.out]; exact hownb), Lib.hid (HX0.out.trans hext)⟩
  case round =>
    clear hownb hext
    obtain ⟨k, hk, rfl, hL, hB, hext⟩ := hrel
    by_cases hlt : k < N
    · obtain ⟨b, o, rfl, hb, hall⟩ := HC.out (by rw [← HN.out]; omega)
      have HALL := Lib.hid hall
      obtain ⟨av, capv, hve, hve1, hve2, _⟩ := hL.out.form
      subst hve
      have hLL := cyA_count ns k
      rw [List.length_map] at hL hve1 ⊢
      obtain ⟨L4, HL40⟩ : ∃ L4, Hid (L4 = (cyA ns k).1.length) := ⟨_, Lib.hid rfl⟩
      rw [← HL40.out] at hL hve1 hLL ⊢
      obtain ⟨S, HS0⟩ : ∃ S, Hid (S = wr.heap.size) := ⟨_, Lib.hid rfl⟩
      have HZ1 : Hid (w.heap.size ≤ S) := Lib.hid (by rw [HS0.out]; exact hext.out.size)
      rw [← HS0.out] at hL
      clear hall
      have hkS : k < (cyA ns k).2.length := by rw [cyA_len, ← HN.out]; exact hlt
      have hck := hB.out.cell k (by rw [List.length_map]; exact hkS)
      rw [List.getElem_map] at hck
      cases hsk : (cyA ns k).2[k]
      case true =>
        rw [hsk] at hck
        have HA := Lib.hid (cyA_miss (cyW_seen (ns := ns) hkS hsk))
        have HL5 : Hid (OwnL wr w.heap.size wr.heap.size (.slice av L4 capv) ((cyA ns (k + 1)).1.map casN)) := Lib.hid (by rw [HA.out.1]; exact hL.out.size)
        have HB5 : Hid (OwnB wr w.heap.size (.slice (some ⟨w0.heap.size, 0, none⟩) N N) (cyA ns (k + 1)).2) := Lib.hid (by rw [HA.out.2]; exact hB.out)
        clear hsk hL hB
        go_wp2
        exact ⟨⟨k + 1, by omega, by go_num, HL5, HB5, hext⟩, by simp only [intOf]; omega⟩
      rw [hsk] at hck
      have HUN := Lib.hid (cyW_unseen (ns := ns) hkS hsk)
      have HOC := Lib.hid (OwnV.empty 2 wr)
      have HXC := Lib.hid (ext_alloc wr (.cells #[] 2))
      clear hsk
      go_wp2
      go_loopw [6, 7] (fun cv y wr => ∃ (acc : List Nat) (s : List Bool) (yy : Nat), yy < N ∧ y = .int .i64 yy ∧ Hid (cyMid ns (cyA ns k).2 k acc s yy) ∧ Hid (s.length = N) ∧ Hid (Own wr S cv (casN acc)) ∧ Hid (OwnB wr w.heap.size (.slice (some ⟨w0.heap.size, 0, none⟩) N N) s) ∧ Hid (OwnL wr w.heap.size S (.slice av L4 capv) ((cyA ns k).1.map casN)) ∧ Hid (Ext w wr) ∧ Hid (S ≤ wr.heap.size)) (fun cv _ _ => 40 - slen cv)
      case atStart => exact ⟨[], (cyA ns k).2, k, hlt, rfl, Lib.hid (cyMid_start (by rw [cyA_len, ← HN.out]; omega)), Lib.hid (by rw [cyA_len, HN.out]), Lib.hid (by rw [HS0.out]; exact HOC.out), Lib.hid (hB.out.ext HXC.out), Lib.hid (hL.out.ext HXC.out), Lib.hid (hext.out.trans HXC.out), Lib.hid (by rw [HS0.out]; exact HXC.out.size)⟩
      case round =>
        clear hL hB hext hck
        obtain ⟨acc, s, y, hy, rfl, hmid, hsl, hown, hB, hL, hext, hszr⟩ := hrel
        have hsz := hszr.out
        have hys : y < s.length := by rw [hsl.out]; exact hy
        have hc1 := hB.out.cell y (by rw [List.length_map]; exact hys)
        rw [List.getElem_map] at hc1
        have hf1 := hB.out.frozen y
        have hal : acc.length ≤ 32 := by
          have h1 := cyMid_bd hmid.out
          rw [cyA_len, ← HN.out] at h1
          omega
        cases hsy : s[y]
        · rw [hsy] at hc1
          have HM := Lib.hid (cyMid_next hmid.out hys hsy)
          obtain ⟨hs1, hs2⟩ := hB.out.stored y (.bool true)
          have HBS : Hid (OwnB (wr.setCell ⟨w0.heap.size, y, none⟩ (.bool true)) w.heap.size (.slice (some ⟨w0.heap.size, 0, none⟩) N N) (s.set y true)) := Lib.hid (by
            unfold OwnB; rw [List.map_set]; exact hs1)
          have HLS : Hid (OwnL (wr.setCell ⟨w0.heap.size, y, none⟩ (.bool true)) w.heap.size S (.slice av L4 capv) ((cyA ns k).1.map casN)) := Lib.hid (hL.out.keptT hB.out (by decide) (by decide) hs2)
          have hownS : Own (wr.setCell ⟨w0.heap.size, y, none⟩ (.bool true)) S _ (casN acc) := hown.out.keptT hB.out (by decide) hs2
          have HES : Hid (Ext w (wr.setCell ⟨w0.heap.size, y, none⟩ (.bool true))) := Lib.hid (ext_app (e := 4) (v := .slice (some ⟨w0.heap.size, 0, none⟩) N N) hext.out hB.out hs2)
          have hz : S ≤ (wr.setCell ⟨w0.heap.size, y, none⟩ (.bool true)).heap.size := by
            have h1 := hs2.size
            have h2 := hsz
            omega
          have HSZS : Hid ((wr.setCell ⟨w0.heap.size, y, none⟩ (.bool true)).heap.size = wr.heap.size) := Lib.hid (by simp)
          have hyn : y < ns.length := by rw [← HN.out]; exact hy
          obtain ⟨y2, HY2⟩ : ∃ y2, Hid (y2 = ns[y]) := ⟨_, Lib.hid rfl⟩
          have hy2 : y2 < N := by rw [HY2.out, HN.out]; exact HP2.out y hyn
          have HPY : Hid (∀ w9, Ext w w9 → w9.cell? ⟨b, o + y, none⟩ = some (.int .i64 (y2 : Nat))) := Lib.hid (fun w9 h9 => by rw [HY2.out]; exact (h9.cell (p := ⟨b, o + y, none⟩) hb).trans (HALL.out y hyn))
          have HSL : Hid ((s.set y true).length = N) := Lib.hid (by rw [List.length_set]; exact hsl.out)
          have HGD : Hid (ns.getD y 0 = y2) := Lib.hid (by rw [HY2.out, List.getD, List.getElem?_eq_getElem hyn]; rfl)
          have hslen := hownS.slen
          rw [List.length_map, List.length_map] at hslen
          have HSLEN := Lib.hid hslen
          clear hmid hB hL hext hown hs1 hs2 hsy hsl hys hslen
          go_wp2_with (at_builtin; refine wp_app1 _ rfl _ _ rfl _ _ (casN acc) rfl hownS (y : Int) (by rw [HSZS.out]; rfl) (by rw [List.length_map]; omega) hz ?_; intro v4 w4 hown4 hgr; have HE4 : Hid (Ext w w4) := Lib.hid (Below.grown HES.out hgr HES.out.size (fun j hj => Nat.le_trans (HZ1.out) (hownS.lt j hj).1)); have hx4 := HPY.out w4 HE4.out)
          have HO4 : Hid (Own w4 S v4 (casN (acc ++ [y]))) := Lib.hid (by rw [casN, List.map_append]; exact hown4)
          have HB4 : Hid (OwnB w4 w.heap.size (.slice (some ⟨w0.heap.size, 0, none⟩) N N) (s.set y true)) := Lib.hid (HBS.out.keptT hownS (by decide) hgr)
          have HL4 : Hid (OwnL w4 w.heap.size S (.slice av L4 capv) ((cyA ns k).1.map casN)) := Lib.hid (HLS.out.keptI hownS (Nat.le_refl _) hgr)
          have hsl4 := HO4.out.slen
          rw [List.length_map, List.length_map, List.length_append, List.length_singleton] at hsl4
          have HSL4 := Lib.hid hsl4
          have HSZ4 : Hid (S ≤ w4.heap.size) := Lib.hid (Nat.le_trans hz hgr.size)
          clear hown4 hgr hownS hsl4 hx4
          go_wp2
          exact ⟨⟨acc ++ [y], s.set y true, y2, hy2, rfl, Lib.hid (by rw [← HGD.out]; exact HM.out), HSL, HO4, HB4, HL4, HE4, HSZ4⟩, by have h1 := HSL4.out; have h2 := HSLEN.out; omega⟩
        · rw [hsy] at hc1
          have HW := Lib.hid (cyMid_end hmid.out hys hsy)
          obtain ⟨ac, cc, hce, hce1, hce2, _⟩ := hown.out.form
          subst hce
          have hownc := hown.out
          rw [List.length_map, List.length_map] at hce1 hownc ⊢
          unfold maxLen at hce2
          obtain ⟨AL, HAL⟩ : ∃ AL, Hid (AL = acc.length) := ⟨_, Lib.hid rfl⟩
          rw [← HAL.out] at hce1 hal hownc ⊢
          have HA := Lib.hid (cyA_hit HW.out (by have := HUN.out; rw [HW.out] at this; exact this))
          have hLout := hL.out
          have hZ2 : w.heap.size ≤ wr.heap.size := hext.out.size
          clear hmid hown hL
          go_wp2_with (at_builtin; refine wp_appL _ rfl _ _ rfl w.heap.size S S _ ((cyA ns k).1.map casN) rfl hLout ac AL cc (casN acc) hownc (Nat.le_refl _) HZ1.out rfl (by rw [List.length_map]; have := HL40.out; omega) hZ2 ?_; intro v5 w5 hL5 hgr5)
          have HL5 : Hid (OwnL w5 w.heap.size w5.heap.size v5 ((cyA ns (k + 1)).1.map casN)) := Lib.hid (by rw [HA.out.1, List.map_append]; exact hL5)
          have HB5 : Hid (OwnB w5 w.heap.size (.slice (some ⟨w0.heap.size, 0, none⟩) N N) (cyA ns (k + 1)).2) := Lib.hid (by
            rw [HA.out.2]
            obtain ⟨vs, a1, _⟩ := hLout
            exact hB.out.keptT a1 (by decide) hgr5)
          have HE5 := Lib.hid (ext_appL hext.out hLout hgr5)
          clear hL5 hgr5 hLout
          go_wp2
          exact ⟨⟨k + 1, by omega, by go_num, HL5, HB5, HE5⟩, by simp only [intOf]; omega⟩
    · obtain rfl : k = N := by omega
      have HF : Hid ((cyA ns k).1.map casN = R) := Lib.hid (by rw [HR.out, cycN, HN.out])
      go_wp2
      go_ret
      exact ⟨_, rfl, by rw [← HF.out]; exact hL.out, hext.out⟩
end Go.Proofs.Ytloacmfafccofaa
