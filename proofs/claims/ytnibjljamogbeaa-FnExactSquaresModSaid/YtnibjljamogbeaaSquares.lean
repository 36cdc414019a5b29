/- SquaresMod: the walks of the program and of the reference, and the law. No condition. -/
import Derived.Test.YtnibjljamogbeaaSqMod
import Derived.Test.YtnibjljamogbeaaSlices
namespace Go.Proofs.Ytnibjljamogbeaa
open Go.RowKit

/-- a is x * x modulo m for an x from 0 to m-1. -/
def isSq (m a : Int) : Bool := (findUp (sqP a m) m.toNat 0).isSome
/-- The squares among 1 .. k. -/
def sqTo (m : Int) : Nat → List Int
  | 0 => []
  | k + 1 => sqTo m k ++ if isSq m ((k : Int) + 1) then [(k : Int) + 1] else []
def sqAll (m : Int) : List Int := if inB m 1 1000 then sqTo m (m.toNat - 1) else []
theorem sqTo_len (m : Int) : ∀ k, (sqTo m k).length ≤ k
  | 0 => by simp [sqTo]
  | k + 1 => by rw [sqTo, List.length_append]; have := sqTo_len m k; split <;> simp <;> omega
theorem sqAll_len (m : Int) : (sqAll m).length ≤ 3000000 := by
  unfold sqAll; split
  · rename_i h; have := inB_iff.1 h; have := sqTo_len m (m.toNat - 1); omega
  · simp
theorem sqOut_isSq {m a : Int} (h : 1 ≤ m ∧ m ≤ 1000) (ha : 1 ≤ a) (ha' : a < m) : sqOut a m = isSq m a := by
  have hr : resB a m = true := by simp only [resB, Bool.and_eq_true, inB_iff]; omega
  have h0 : (a == 0) = false := by rw [beq_eq_false_iff_ne]; omega
  simp [sqOut, hr, h0, isSq]

theorem i_SquaresMod (m : Int) (w : World) : Calls Try.prog 27 #[.int .i64 m] w (RetInts w (sqAll m)) := by
  cases hb : inB m 1 1000
  · have G : Hid (sqAll m = []) := Lib.hid (by simp [sqAll, hb])
    go_enter Try.func27, Try.ntmps27
    go_wp2_with (go_at_call 55; refine (i_modulus _ _).mono ?_; rintro e w' ⟨rfl, rfl⟩)
    go_ret
    exact ⟨_, rfl, by rw [G.out]; exact OwnV.nil _ _ _, Ext.refl _⟩
  · obtain ⟨h1, h2⟩ := inB_iff.1 hb
    have G : Hid (sqAll m = sqTo m (m.toNat - 1)) := Lib.hid (by simp [sqAll, hb])
    go_enter Try.func27, Try.ntmps27
    go_wp2_with (go_at_call 55; refine (i_modulus _ _).mono ?_; rintro e w' ⟨rfl, rfl⟩)
    clear hb
    go_loopw [3, 4] (fun v i wr => ∃ j : Nat, (j : Int) ≤ m - 1 ∧ i = .int .i64 ((j : Int) + 1) ∧ Hid (Own wr w.heap.size v (sqTo m j)) ∧ Hid (Ext w wr)) (fun _ i _ => (m + 1 - intOf i).toNat)
    case atStart => exact ⟨0, by omega, rfl, Lib.hid (OwnV.nil _ _ _), Lib.hid (Ext.refl _)⟩
    case round =>
      obtain ⟨j, hj, rfl, hown, hext⟩ := hrel
      have hown' := hown.out
      have hz := hext.out.size
      by_cases hlt : (j : Int) + 1 < m
      · have HQ : Hid (sqOut ((j : Int) + 1) m = isSq m ((j : Int) + 1)) := Lib.hid (sqOut_isSq ⟨h1, h2⟩ (by omega) hlt)
        have HS : Hid (sqTo m (j + 1) = sqTo m j ++ if isSq m ((j : Int) + 1) then [(j : Int) + 1] else []) := Lib.hid rfl
        have hlen := sqTo_len m j
        cases hs : isSq m ((j : Int) + 1)
        · have HT : Hid (sqTo m (j + 1) = sqTo m j) := Lib.hid (by rw [HS.out, hs]; simp)
          clear HS hown'
          go_wp2_with fail
          refine (i_IsSquareMod _ _ _).mono ?_
          rintro e w' ⟨rfl, rfl⟩
          rw [HQ.out]
          go_wp2
          exact ⟨⟨j + 1, by omega, by go_num, Lib.hid (by rw [HT.out]; exact hown.out), hext⟩, by simp only [intOf]; omega⟩
        · have HT : Hid (sqTo m (j + 1) = sqTo m j ++ [(j : Int) + 1]) := Lib.hid (by rw [HS.out, hs]; simp)
          clear HS
          go_wp2_with fail
          refine (i_IsSquareMod _ _ _).mono ?_
          rintro e w' ⟨rfl, rfl⟩
          rw [HQ.out]
          go_wp2_with (at_builtin; refine wp_app1 _ rfl _ _ rfl _ _ (sqTo m j) rfl hown' ((j : Int) + 1) rfl (by omega) hz ?_; intro v' w' hown2 hgr)
          have HO : Hid (Own w' w.heap.size v' (sqTo m (j + 1))) := Lib.hid (by rw [HT.out]; exact hown2)
          have HE := Lib.hid (ext_app hext.out hown.out hgr)
          clear hown2 hgr hown'
          exact ⟨⟨j + 1, by omega, by go_num, HO, HE⟩, by simp only [intOf]; omega⟩
      · have HJ : Hid (m.toNat - 1 = j) := Lib.hid (by omega)
        clear hown'
        go_wp2
        go_ret
        exact ⟨_, rfl, by rw [G.out, HJ.out]; exact hown.out, hext.out⟩
theorem findUp_isSome (p : Int → Bool) : ∀ (n : Nat) (x : Int), (findUp p n x).isSome = true ↔ ∃ i : Nat, i < n ∧ p (x + i) = true
  | 0, x => by simp [findUp]
  | n + 1, x => by
    rw [findUp]
    by_cases hp : p x = true
    · rw [if_pos hp]
      exact ⟨fun _ => ⟨0, by omega, by simpa using hp⟩, fun _ => rfl⟩
    · rw [if_neg hp, findUp_isSome p n (x + 1)]
      constructor
      · rintro ⟨i, h1, h2⟩; exact ⟨i + 1, by omega, by rw [← h2]; congr 1; omega⟩
      · rintro ⟨i, h1, h2⟩
        cases i with
        | zero => exact absurd (by simpa using h2) hp
        | succ i => exact ⟨i, by omega, by rw [← h2]; congr 1; omega⟩
/-- bs marks what the first j numbers have as squares. -/
def marks (m : Int) (j : Nat) (bs : List Bool) : Prop := ∀ t (ht : t < bs.length), bs[t] = true ↔ ∃ i : Nat, i < j ∧ (i : Int) * (i : Int) % m = (t : Int)
theorem marks_start (m : Int) (n : Nat) : marks m 0 (List.replicate n false) := fun t ht => by simp
theorem marks_next {m : Int} {j t : Nat} {bs : List Bool} (h : marks m j bs) (hq : (j : Int) * (j : Int) % m = (t : Int)) : marks m (j + 1) (bs.set t true) := by
  intro s hs
  rw [List.getElem_set]
  by_cases he : t = s
  · rw [if_pos he]; exact ⟨fun _ => ⟨j, by omega, by rw [hq, he]⟩, fun _ => rfl⟩
  · rw [if_neg he, h s (by simpa using hs)]
    constructor
    · rintro ⟨i, h1, h2⟩; exact ⟨i, by omega, h2⟩
    · rintro ⟨i, h1, h2⟩
      by_cases hi : i = j
      · subst hi; rw [hq] at h2; omega
      · exact ⟨i, by omega, h2⟩
theorem marks_end {m : Int} {bs : List Bool} (h : marks m m.toNat bs) {t : Nat} (ht : t < bs.length) : bs[t] = isSq m (t : Int) := by
  rw [Bool.eq_iff_iff, h t ht, isSq, findUp_isSome]
  constructor
  · rintro ⟨i, h1, h2⟩; exact ⟨i, h1, by simp [sqP, h2]⟩
  · rintro ⟨i, h1, h2⟩; exact ⟨i, h1, by simpa [sqP] using h2⟩
set_option maxHeartbeats 400000 in
theorem s_SquaresMod (m : Int) (w : World) : Calls Try.prog 26 #[.int .i64 m] w (RetInts w (sqAll m)) := by
  cases hb : inB m 1 1000
  · have G : Hid (sqAll m = []) := Lib.hid (by simp [sqAll, hb])
    go_enter Try.func26, Try.ntmps26
    go_wp2_with (go_at_call 54; refine (s_modulus _ _).mono ?_; rintro e w' ⟨rfl, rfl⟩)
    go_ret
    exact ⟨_, rfl, by rw [G.out]; exact OwnV.nil _ _ _, Ext.refl _⟩
  · obtain ⟨h1, h2⟩ := inB_iff.1 hb
    obtain ⟨M, rfl⟩ := Int.eq_ofNat_of_zero_le (show 0 ≤ m by omega)
    have G : Hid (sqAll M = sqTo M (M - 1)) := Lib.hid (by simp [sqAll, hb])
    go_enter Try.func26, Try.ntmps26
    go_wp2_with (first | (go_at_call 54; refine (s_modulus _ _).mono ?_; rintro e w' ⟨rfl, rfl⟩) | (at_make; refine wp_makeB _ rfl _ _ rfl w.heap.size .i64 .i64 _ _ M rfl rfl rfl rfl (by omega) (Nat.le_refl _) ?_; intro w1 hown hext))
    clear hb
    go_loopw [4] (fun i wr => ∃ (j : Nat) (bs : List Bool), j ≤ M ∧ i = .int .i64 j ∧ Hid (bs.length = M) ∧ Hid (marks M j bs) ∧ Hid (OwnB wr w.heap.size (.slice (some ⟨w.heap.size, 0, none⟩) M M) bs) ∧ Hid (Ext w wr)) (fun i _ => M - (intOf i).toNat)
    case atStart => exact ⟨0, List.replicate M false, by omega, rfl, Lib.hid (by simp), Lib.hid (marks_start _ _), Lib.hid hown, Lib.hid hext⟩
    case round =>
      clear hown hext
      obtain ⟨j, bs, hj, rfl, hl, hm, hown, hext⟩ := hrel
      by_cases hlt : j < M
      · have ⟨b1, b2⟩ := mulmod_bd (a := j) (x := j) (m := M) (by omega) (by omega) (by omega) (by omega) h2
        have q1 := Int.emod_nonneg ((j : Int) * j) (show (M : Int) ≠ 0 by omega)
        have q2 := Int.emod_lt_of_pos ((j : Int) * j) (show 0 < (M : Int) by omega)
        obtain ⟨t, ht⟩ : ∃ t : Nat, (j : Int) * j % M = t := ⟨((j : Int) * j % M).toNat, by omega⟩
        rw [ht] at q1 q2
        have htl : t < bs.length := by have := hl.out; omega
        have hc1 := hown.out.cell t (by rw [List.length_map]; exact htl)
        have hf1 := hown.out.frozen t
        obtain ⟨hs1, hs2⟩ := hown.out.stored t (.bool true)
        have HS : Hid (OwnB (wr.setCell ⟨w.heap.size, t, none⟩ (.bool true)) w.heap.size (.slice (some ⟨w.heap.size, 0, none⟩) M M) (bs.set t true)) := Lib.hid (by
          unfold OwnB; rw [List.map_set]; exact hs1)
        have HE : Hid (Ext w (wr.setCell ⟨w.heap.size, t, none⟩ (.bool true))) := Lib.hid (ext_app (e := 4) (v := .slice (some ⟨w.heap.size, 0, none⟩) M M) hext.out hown.out hs2)
        have HM := Lib.hid (marks_next hm.out ht)
        have HL : Hid ((bs.set t true).length = M) := Lib.hid (by rw [List.length_set]; exact hl.out)
        generalize (bs.map Value.bool)[t]'(by rw [List.length_map]; exact htl) = old at hc1
        clear hs1 hs2 hown hext hl hm htl
        go_wp2
        exact ⟨⟨j + 1, bs.set t true, by omega, by go_num, HL, HM, HS, HE⟩, by simp only [intOf]; omega⟩
      · obtain rfl : j = M := by omega
        have HE : Hid (∀ t (ht : t < bs.length), bs[t] = isSq j (t : Int)) := Lib.hid (fun t ht => marks_end (by simpa using hm.out) ht)
        clear hm
        go_wp2
        obtain ⟨wo, hwo⟩ : ∃ wo : World, wo = wr := ⟨_, rfl⟩
        subst hwo
        go_loopw [5, 6] (fun v i wr => ∃ k : Nat, (k : Int) ≤ (j : Int) - 1 ∧ i = .int .i64 ((k : Int) + 1) ∧ Hid (Own wr wo.heap.size v (sqTo j k)) ∧ Hid (Ext wo wr)) (fun _ i _ => (j + 1 - intOf i).toNat)
        case atStart => exact ⟨0, by omega, rfl, Lib.hid (OwnV.empty _ _), Lib.hid (ext_alloc _ _)⟩
        case round =>
          obtain ⟨k, hk, rfl, ho, he⟩ := hrel
          have hown' := ho.out
          have hz := he.out.size
          by_cases hlt2 : k + 1 < j
          · have htl : k + 1 < bs.length := by have := hl.out; omega
            have hcell := (hown.out.ext he.out).cell (k + 1) (by rw [List.length_map]; exact htl)
            rw [List.getElem_map, HE.out (k + 1) htl] at hcell
            have hcast : (((k + 1 : Nat)) : Int) = (k : Int) + 1 := by omega
            rw [hcast] at hcell
            have HS : Hid (sqTo j (k + 1) = sqTo j k ++ if isSq j ((k : Int) + 1) then [(k : Int) + 1] else []) := Lib.hid rfl
            have hlen := sqTo_len j k
            cases hs : isSq j ((k : Int) + 1)
            · have HT : Hid (sqTo j (k + 1) = sqTo j k) := Lib.hid (by rw [HS.out, hs]; simp)
              rw [hs] at hcell
              clear HS hown' hs hcast
              go_wp2
              exact ⟨⟨k + 1, by omega, by go_num, Lib.hid (by rw [HT.out]; exact ho.out), he⟩, by simp only [intOf]; omega⟩
            · have HT : Hid (sqTo j (k + 1) = sqTo j k ++ [(k : Int) + 1]) := Lib.hid (by rw [HS.out, hs]; simp)
              rw [hs] at hcell
              clear HS hs hcast
              go_wp2_with (at_builtin; refine wp_app1 _ rfl _ _ rfl _ _ (sqTo j k) rfl hown' ((k : Int) + 1) rfl (by omega) hz ?_; intro v' w' hown2 hgr)
              have HO : Hid (Own w' wo.heap.size v' (sqTo j (k + 1))) := Lib.hid (by rw [HT.out]; exact hown2)
              have HE2 := Lib.hid (ext_app he.out ho.out hgr)
              clear hown2 hgr hown'
              exact ⟨⟨k + 1, by omega, by go_num, HO, HE2⟩, by simp only [intOf]; omega⟩
          · have HJ : Hid (j - 1 = k) := Lib.hid (by omega)
            clear hown'
            go_wp2
            go_ret
            exact ⟨_, rfl, by rw [G.out, HJ.out]; exact ho.out.mono hext.out.size, hext.out.trans he.out⟩
theorem l_SquaresMod (a0 : Int) (w : World) :
    Calls Try.prog 7 #[.int .i64 a0] w fun e w' => e = .returned (.bool true) ∧ Ext w w' := by
  have hbd := Lib.hid (show (sqAll a0).length ≤ 3000000 from sqAll_len a0)
  obtain ⟨R, HR⟩ : ∃ R : List Int, Hid (R = sqAll a0) := ⟨_, Lib.hid rfl⟩
  have hb : R.length ≤ 3000000 := by rw [HR.out]; exact hbd.out
  clear hbd
  have X0 : Ext w w := Ext.refl w
  go_enter Try.func7, Try.ntmps7
  go_wp2_with fail
  refine (s_SquaresMod a0 _  ).mono ?_
  rintro e w1 ⟨u_wt, rfl, wt_1, x1⟩
  rw [← HR.out] at wt_1
  have z1 := x1.size
  have X1 : Ext w w1 := X0.trans x1
  go_wp2_with fail
  refine (i_SquaresMod a0 _  ).mono ?_
  rintro e w2 ⟨u_gt, rfl, gt_2, x2⟩
  rw [← HR.out] at gt_2
  have z2 := x2.size
  have X2 : Ext w w2 := X1.trans x2
  have wt_2 := wt_1.ext x2
  go_wp2_with fail
  refine (l_eqInt64S_t _ _ R _ gt_2.rd wt_2.rd).mono ?_
  rintro e w3 ⟨rfl, d3⟩
  have x3 := d3.ext
  have z3 := x3.size
  have X3 : Ext w w3 := X2.trans x3
  have wt_3 := wt_2.ext x3
  have gt_3 := gt_2.ext x3
  go_wp2_with fail
  refine (l_markInt64S _ (1) R _ _ (by omega) gt_3).mono ?_
  rintro e w4 ⟨rfl, gt_4, g4⟩
  have z4 := g4.size
  have X4 : Ext w w4 := Below.grown X3 g4 X3.size (fun j hj => Nat.le_trans (X1.size) (gt_3.lt j hj).1)
  have wt_4 := wt_3.kept g4 (wt_1.apart gt_3 (by omega))
  go_wp2_with fail
  refine (l_heldInt64S _ 1 R.length _ (by omega) gt_4.rd).mono ?_
  rintro e _ ⟨rfl, rfl⟩
  go_wp2_with fail
  refine (i_SquaresMod a0 _  ).mono ?_
  rintro e w5 ⟨u_ht, rfl, ht_5, x5⟩
  rw [← HR.out] at ht_5
  have z5 := x5.size
  have X5 : Ext w w5 := X4.trans x5
  have wt_5 := wt_4.ext x5
  have gt_5 := gt_4.ext x5
  go_wp2_with fail
  refine (l_eqInt64S_t _ _ R _ ht_5.rd wt_5.rd).mono ?_
  rintro e w6 ⟨rfl, d6⟩
  have x6 := d6.ext
  have z6 := x6.size
  have X6 : Ext w w6 := X5.trans x6
  have wt_6 := wt_5.ext x6
  have gt_6 := gt_5.ext x6
  have ht_6 := ht_5.ext x6
  go_wp2_with fail
  refine (l_heldInt64S _ 1 R.length _ (by omega) gt_6.rd).mono ?_
  rintro e _ ⟨rfl, rfl⟩
  go_wp2
  go_ret
  exact ⟨rfl, X6⟩

end Go.Proofs.Ytnibjljamogbeaa
