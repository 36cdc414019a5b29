/- LogTable: the walks of the program and of the reference. No condition. -/
import Derived.Test.YtafaecpmffmfgaaFldTop2
namespace Go.Proofs.Ytafaecpmffmfgaa
open Go.RowKit

theorem findUp_bd {p : Int → Bool} : ∀ (n : Nat) (x j : Int), findUp p n x = some j → x ≤ j ∧ j < x + n
  | 0, x, j, h => by simp [findUp] at h
  | n + 1, x, j, h => by
    rw [findUp] at h
    split at h
    · simp only [Option.some.injEq] at h; omega
    · have := findUp_bd n (x + 1) j h; omega
theorem primV_bd {P : Int} {cs : List Int} (hp : 2 ≤ P) (hD : 1 ≤ cs.length) : 0 ≤ primV P cs ∧ primV P cs ≤ P ^ cs.length - 1 := by
  have hq := q_ge hp hD
  unfold primV
  cases h : findUp (primT P cs) (P ^ cs.length - 1).toNat 0 with
  | none => simp; omega
  | some j => have := findUp_bd _ _ _ h; simp only; omega
/-- The table and the power, behind n rounds. -/
def logT (P : Int) (cs : List Int) (a : Int) (Q : Nat) : Nat → List Int × Int
  | 0 => ((List.replicate Q 0).set 0 (-1), 1)
  | n + 1 => ((logT P cs a Q n).1.set (logT P cs a Q n).2.toNat (n : Int), mulN P cs (logT P cs a Q n).2 a)
theorem logT_len (P : Int) (cs : List Int) (a : Int) (Q : Nat) : ∀ n, (logT P cs a Q n).1.length = Q
  | 0 => by simp [logT]
  | n + 1 => by rw [logT, List.length_set, logT_len P cs a Q n]
theorem logT_bd {P : Int} {cs : List Int} (hp : 2 ≤ P) (hD : 1 ≤ cs.length) (a : Int) (Q : Nat) : ∀ n, 0 ≤ (logT P cs a Q n).2 ∧ (logT P cs a Q n).2 < P ^ cs.length
  | 0 => by have := q_ge hp hD; exact ⟨by simp [logT], by show (1 : Int) < _; omega⟩
  | n + 1 => mulN_bd (by omega) _ _
def outLog (P D : Int) (xs : List Int) : List Int := if fieldB P D xs then (logT P (xs.take D.toNat) (primV P (xs.take D.toNat)) (P ^ (xs.take D.toNat).length).toNat ((P ^ (xs.take D.toNat).length).toNat - 1)).1 else []
theorem outLog_len (P D : Int) (xs : List Int) : (outLog P D xs).length ≤ 64 := by
  unfold outLog
  cases h : fieldB P D xs
  · simp
  · obtain ⟨d, rfl, _, _, h4, _, _⟩ := fld_facts h
    rw [if_pos rfl, logT_len, Int.toNat_natCast]; omega
set_option maxRecDepth 100000 in
set_option maxHeartbeats 1000000 in
theorem s_LogTable (P D : Int) (v : Value) (xs : List Int) (w : World) (h : Rd w v xs) (hsn : Sane v) (_hn : xs.length ≤ 100000000) (_hD : D ≤ 9223372036854775807) :
    Calls Try.prog 43 #[.agg #[.int .i64 P, .int .i64 D, v]] w (RetInts w (outLog P D xs)) := by
  have HRD := Lib.hid h
  have HF := Lib.hid (FldAt.new w P D v 27)
  have HE0 := Lib.hid (ext_alloc w (.cells #[.int .i64 P, .int .i64 D, v] 27))
  clear h
  cases hb : fieldB P D xs
  · have G : Hid (outLog P D xs = []) := Lib.hid (by rw [outLog, hb]; rfl)
    go_enter Try.func43, Try.ntmps43
    go_wp2_with fail
    refine (s_ok _ P D v xs _ HF.out (HRD.out.ext HE0.out) hsn).mono ?_
    rintro e w1 ⟨rfl, x1⟩
    rw [hb]
    go_wp2
    go_ret
    exact ⟨_, rfl, by rw [G.out]; exact OwnV.nil _ _ _, HE0.out.trans x1⟩
  · obtain ⟨d, rfl, hFK, hxs, hq64, hG, hlen⟩ := fld_facts hb
    obtain ⟨p1, p2, d1, d2, _, _⟩ := hFK
    obtain ⟨A, HA⟩ : ∃ A, Hid (A = primV P (xs.take d)) := ⟨_, Lib.hid rfl⟩
    obtain ⟨q, HQ⟩ : ∃ q, Hid (q = P ^ (xs.take d).length) := ⟨_, Lib.hid rfl⟩
    have hq2 : 2 ≤ q := by rw [HQ.out]; exact q_ge p1 (by rw [hlen]; exact d1)
    have hq3 : q ≤ 64 := by rw [HQ.out]; exact hq64
    obtain ⟨Q, rfl⟩ : ∃ Q : Nat, q = (Q : Int) := ⟨q.toNat, by omega⟩
    obtain ⟨R, HR⟩ : ∃ R, Hid (R = logT P (xs.take d) A Q) := ⟨_, Lib.hid rfl⟩
    have G : Hid (outLog P d xs = (R (Q - 1)).1) := Lib.hid (by rw [outLog, hb, if_pos rfl, Int.toNat_natCast, ← HA.out, ← HQ.out, Int.toNat_natCast, HR.out])
    have hAb := primV_bd (cs := xs.take d) p1 (by rw [hlen]; exact d1)
    rw [← HA.out, ← HQ.out] at hAb
    obtain ⟨hA0, hA1⟩ := hAb
    have HBD : Hid (∀ n, 0 ≤ (R n).2 ∧ (R n).2 < (Q : Int)) := Lib.hid (by
      rw [HR.out, HQ.out]; exact logT_bd p1 (by rw [hlen]; exact d1) A Q)
    have HLN : Hid (∀ n, (R n).1.length = Q) := Lib.hid (by rw [HR.out]; exact logT_len _ _ _ _)
    have HFK : Hid (FldOk P d (xs.take d)) := Lib.hid (fld_facts hb |> fun ⟨d', e1, e2, _⟩ => by
      have : d' = d := by omega
      subst this; exact e2)
    have HXS := Lib.hid hxs
    have HG := Lib.hid hG
    have HQ64 : Hid (P ^ (xs.take d).length ≤ 64) := Lib.hid hq64
    have HPD : Hid (P ^ d = (Q : Int)) := Lib.hid (by rw [HQ.out, hlen])
    have HUP : Hid (upW P (d : Int).toNat 1 = (Q : Int)) := Lib.hid (by
      have := (upW_pow p1 d 1 (by omega)).1 (by rw [Int.one_mul, HPD.out]; omega)
      rw [Int.toNat_natCast, this, Int.one_mul, HPD.out])
    have HB := Lib.hid hb
    rw [G.out]
    clear hxs hG hq64 hlen hb
    have hq2' : 2 ≤ Q := by omega
    have hq3' : Q ≤ 64 := by omega
    go_enter Try.func43, Try.ntmps43
    go_wp2_with fail
    refine (s_ok _ P d v xs _ HF.out (HRD.out.ext HE0.out) hsn).mono ?_
    rintro e w1 ⟨rfl, x1⟩
    rw [HB.out]
    have HE1 := Lib.hid (HE0.out.trans x1)
    have HF1 := Lib.hid (HF.out.ext x1)
    clear x1
    go_wp2_with fail
    refine (s_size3 _ P d v _ HF1.out p1 p2 d2).mono ?_
    rintro e w2 ⟨rfl, x2⟩
    rw [HPD.out]
    have HE2 := Lib.hid (HE1.out.drawn x2)
    have HF2 := Lib.hid (HF1.out.ext x2.ext)
    clear x2
    go_wp2_with (at_make; refine wp_make _ rfl _ _ rfl w2.heap.size .i64 .i64 _ _ Q rfl rfl rfl rfl (by omega) (Nat.le_refl _) ?_; intro w3 hown3 hext3; have HO3 := Lib.hid hown3; have HE3 := Lib.hid hext3; have hc3 := hown3.cell 0 (by rw [List.length_map, List.length_replicate]; omega); have hf3 := hown3.frozen 0; rw [List.getElem_map, List.getElem_replicate] at hc3; clear hown3 hext3)
    obtain ⟨hs1, hs2⟩ := HO3.out.stored 0 (.int .i64 (-1))
    have HO4 : Hid (Own (w3.setCell ⟨w2.heap.size, 0, none⟩ (.int .i64 (-1))) w2.heap.size (.slice (some ⟨w2.heap.size, 0, none⟩) Q Q) (R 0).1) := Lib.hid (by
      unfold Own; rw [HR.out, logT, List.map_set]; exact hs1)
    have HX4 : Hid (Ext w2 (w3.setCell ⟨w2.heap.size, 0, none⟩ (.int .i64 (-1)))) := Lib.hid (ext_app (e := 2) (v := .slice (some ⟨w2.heap.size, 0, none⟩) Q Q) HE3.out HO3.out hs2)
    have HE4 := Lib.hid (HE2.out.trans HX4.out)
    clear hs1 hs2 hc3 hf3
    go_wp2_with fail
    refine (s_prim _ P d v (xs.take d) _ HFK.out (HF2.out.ext HX4.out) (by rw [← HXS.out]; exact HRD.out.ext HE4.out) HQ64.out HG.out).mono ?_
    rintro e w5 ⟨rfl, x5⟩
    rw [← HA.out]
    have HO5 := Lib.hid (HO4.out.ext x5)
    have HX5 := Lib.hid (HX4.out.trans x5)
    have HF5 := Lib.hid (HF2.out.ext HX5.out)
    have HE5 := Lib.hid (HE2.out.trans HX5.out)
    clear x5
    go_wp2
    go_loopw [6, 7] (fun x' n' wr => ∃ (k : Nat) (X : Int), k ≤ Q - 1 ∧ n' = .int .i64 k ∧ x' = .int .i64 X ∧ Hid (X = (R k).2) ∧ Hid (Own wr w2.heap.size (.slice (some ⟨w2.heap.size, 0, none⟩) Q Q) (R k).1) ∧ Hid (Ext w2 wr)) (fun _ n' _ => Q - (intOf n').toNat)
    case atStart => exact ⟨0, 1, by omega, rfl, rfl, Lib.hid (by rw [HR.out]; rfl), HO5, HX5⟩
    case round =>
      obtain ⟨k, X, hk, rfl, rfl, hX, hown, hext⟩ := hrel
      by_cases hlt : k < Q - 1
      · have hltI : (k : Int) < (Q : Int) - 1 := by omega
        have hXb := HBD.out k
        rw [← hX.out] at hXb
        obtain ⟨hX0, hX1⟩ := hXb
        obtain ⟨x, HXN⟩ : ∃ x : Nat, Hid (X = (x : Int)) := ⟨X.toNat, Lib.hid (by omega)⟩
        have hxQ : x < Q := by have := HXN.out; omega
        have hx63 : X ≤ 63 := by omega
        have hcx := hown.out.cell x (by rw [List.length_map, HLN.out]; exact hxQ)
        have hfx := hown.out.frozen x
        obtain ⟨hs1, hs2⟩ := hown.out.stored x (.int .i64 (k : Int))
        have HOS : Hid (Own (wr.setCell ⟨w2.heap.size, x, none⟩ (.int .i64 (k : Int))) w2.heap.size (.slice (some ⟨w2.heap.size, 0, none⟩) Q Q) (R (k + 1)).1) := Lib.hid (by
          have h1 : (R (k + 1)).1 = (R k).1.set x (k : Int) := by rw [HR.out, logT]; congr 1; rw [← HR.out, ← hX.out, HXN.out]; rfl
          unfold Own; rw [h1, List.map_set]; exact hs1)
        have HXS2 : Hid (Ext w2 (wr.setCell ⟨w2.heap.size, x, none⟩ (.int .i64 (k : Int)))) := Lib.hid (ext_app (e := 2) (v := .slice (some ⟨w2.heap.size, 0, none⟩) Q Q) hext.out hown.out hs2)
        have HEW := Lib.hid (HE2.out.trans HXS2.out)
        have HR1 : Hid (mulN P (xs.take d) X A = (R (k + 1)).2) := Lib.hid (by rw [hX.out, HR.out]; rfl)
        have hxI : X = (x : Int) := HXN.out
        subst hxI
        generalize ((R k).1.map (Value.int .i64))[x]'(by rw [List.length_map, HLN.out]; exact hxQ) = old at hcx
        clear hs1 hs2 hX
        go_wp2_with fail
        refine (s_mul _ P d v (xs.take d) (x : Int) A _ HFK.out (HF2.out.ext HXS2.out) (by rw [← HXS.out]; exact HRD.out.ext HEW.out) hX0 (by omega) hA0 (by omega)).mono ?_
        rintro e w6 ⟨rfl, x6⟩
        rw [HR1.out]
        have HO6 := Lib.hid (HOS.out.ext x6)
        have HX6 := Lib.hid (HXS2.out.trans x6)
        clear x6
        go_wp2
        exact ⟨⟨k + 1, _, by omega, by go_num, rfl, Lib.hid rfl, HO6, HX6⟩, by simp only [intOf]; omega⟩
      · have hltI : ¬ (k : Int) < (Q : Int) - 1 := by omega
        obtain rfl : k = Q - 1 := by omega
        go_wp2
        go_ret
        exact ⟨_, rfl, hown.out.mono HE2.out.size, HE2.out.trans hext.out⟩
set_option maxRecDepth 100000 in
set_option maxHeartbeats 1000000 in
theorem i_LogTable (P D : Int) (v : Value) (xs : List Int) (w : World) (h : Rd w v xs) (hn : xs.length ≤ 100000000) (hD : D ≤ 9223372036854775807) :
    Calls Try.prog 44 #[.agg #[.int .i64 P, .int .i64 D, v]] w (RetInts w (outLog P D xs)) := by
  have HRD := Lib.hid h
  have HF := Lib.hid (FldAt.new w P D v 27)
  have HE0 := Lib.hid (ext_alloc w (.cells #[.int .i64 P, .int .i64 D, v] 27))
  clear h
  cases hb : fieldB P D xs
  · have G : Hid (outLog P D xs = []) := Lib.hid (by rw [outLog, hb]; rfl)
    go_enter Try.func44, Try.ntmps44
    go_wp2_with fail
    refine (i_ValidField P D v xs _ (HRD.out.ext HE0.out) hn hD).mono ?_
    rintro e w1 ⟨rfl, x1⟩
    rw [hb]
    go_wp2
    go_ret
    exact ⟨_, rfl, by rw [G.out]; exact OwnV.nil _ _ _, HE0.out.trans x1⟩
  · obtain ⟨d, rfl, hFK, hxs, hq64, hG, hlen⟩ := fld_facts hb
    obtain ⟨p1, p2, d1, d2, _, _⟩ := hFK
    obtain ⟨A, HA⟩ : ∃ A, Hid (A = primV P (xs.take d)) := ⟨_, Lib.hid rfl⟩
    obtain ⟨q, HQ⟩ : ∃ q, Hid (q = P ^ (xs.take d).length) := ⟨_, Lib.hid rfl⟩
    have hq2 : 2 ≤ q := by rw [HQ.out]; exact q_ge p1 (by rw [hlen]; exact d1)
    have hq3 : q ≤ 64 := by rw [HQ.out]; exact hq64
    obtain ⟨Q, rfl⟩ : ∃ Q : Nat, q = (Q : Int) := ⟨q.toNat, by omega⟩
    obtain ⟨R, HR⟩ : ∃ R, Hid (R = logT P (xs.take d) A Q) := ⟨_, Lib.hid rfl⟩
    have G : Hid (outLog P d xs = (R (Q - 1)).1) := Lib.hid (by rw [outLog, hb, if_pos rfl, Int.toNat_natCast, ← HA.out, ← HQ.out, Int.toNat_natCast, HR.out])
    have hAb := primV_bd (cs := xs.take d) p1 (by rw [hlen]; exact d1)
    rw [← HA.out, ← HQ.out] at hAb
    obtain ⟨hA0, hA1⟩ := hAb
    have HBD : Hid (∀ n, 0 ≤ (R n).2 ∧ (R n).2 < (Q : Int)) := Lib.hid (by
      rw [HR.out, HQ.out]; exact logT_bd p1 (by rw [hlen]; exact d1) A Q)
    have HLN : Hid (∀ n, (R n).1.length = Q) := Lib.hid (by rw [HR.out]; exact logT_len _ _ _ _)
    have HFK : Hid (FldOk P d (xs.take d)) := Lib.hid (fld_facts hb |> fun ⟨d', e1, e2, _⟩ => by
      have : d' = d := by omega
      subst this; exact e2)
    have HXS := Lib.hid hxs
    have HG := Lib.hid hG
    have HQ64 : Hid (P ^ (xs.take d).length ≤ 64) := Lib.hid hq64
    have HPD : Hid (P ^ d = (Q : Int)) := Lib.hid (by rw [HQ.out, hlen])
    have HUP : Hid (upW P (d : Int).toNat 1 = (Q : Int)) := Lib.hid (by
      have := (upW_pow p1 d 1 (by omega)).1 (by rw [Int.one_mul, HPD.out]; omega)
      rw [Int.toNat_natCast, this, Int.one_mul, HPD.out])
    have HB := Lib.hid hb
    rw [G.out]
    clear hxs hG hq64 hlen hb
    have hq2' : 2 ≤ Q := by omega
    have hq3' : Q ≤ 64 := by omega
    go_enter Try.func44, Try.ntmps44
    go_wp2_with fail
    refine (i_ValidField P d v xs _ (HRD.out.ext HE0.out) hn hD).mono ?_
    rintro e w1 ⟨rfl, x1⟩
    rw [HB.out]
    have HE1 := Lib.hid (HE0.out.trans x1)
    have HF1 := Lib.hid (HF.out.ext x1)
    clear x1
    obtain ⟨_, c0, c1, c2⟩ := HF1.out
    go_wp2_with fail
    refine (i_fieldSize P d v _ p1 (by omega) (by omega) hD).mono ?_
    rintro e w2 ⟨rfl, x2⟩
    rw [HUP.out]
    have HE2 := Lib.hid (HE1.out.trans x2)
    have HF2 := Lib.hid (HF1.out.ext x2)
    clear c0 c1 c2
    clear x2
    go_wp2_with (at_make; refine wp_make _ rfl _ _ rfl w2.heap.size .i64 .i64 _ _ Q rfl rfl rfl rfl (by omega) (Nat.le_refl _) ?_; intro w3 hown3 hext3; have HO3 := Lib.hid hown3; have HE3 := Lib.hid hext3; have hc3 := hown3.cell 0 (by rw [List.length_map, List.length_replicate]; omega); have hf3 := hown3.frozen 0; rw [List.getElem_map, List.getElem_replicate] at hc3; obtain ⟨_, c0, c1, c2⟩ := HF2.out.ext hext3; have hbne : w.heap.size ≠ w2.heap.size := Nat.ne_of_lt HF2.out.1; clear hown3 hext3)
    obtain ⟨hs1, hs2⟩ := HO3.out.stored 0 (.int .i64 (-1))
    have HO4 : Hid (Own (w3.setCell ⟨w2.heap.size, 0, none⟩ (.int .i64 (-1))) w2.heap.size (.slice (some ⟨w2.heap.size, 0, none⟩) Q Q) (R 0).1) := Lib.hid (by
      unfold Own; rw [HR.out, logT, List.map_set]; exact hs1)
    have HX4 : Hid (Ext w2 (w3.setCell ⟨w2.heap.size, 0, none⟩ (.int .i64 (-1)))) := Lib.hid (ext_app (e := 2) (v := .slice (some ⟨w2.heap.size, 0, none⟩) Q Q) HE3.out HO3.out hs2)
    have HE4 := Lib.hid (HE2.out.trans HX4.out)
    clear hs1 hs2 hc3 hf3
    go_wp2_with fail
    refine (i_prim P d v (xs.take d) _ HFK.out (by rw [← HXS.out]; exact HRD.out.ext HE4.out) HQ64.out HG.out).mono ?_
    rintro e w5 ⟨rfl, x5⟩
    clear c0 c1 c2
    rw [← HA.out]
    have HO5 := Lib.hid (HO4.out.ext x5)
    have HX5 := Lib.hid (HX4.out.trans x5)
    have HF5 := Lib.hid (HF2.out.ext HX5.out)
    have HE5 := Lib.hid (HE2.out.trans HX5.out)
    clear x5
    go_wp2
    go_loopw [5, 6] (fun x' n' wr => ∃ (k : Nat) (X : Int), k ≤ Q - 1 ∧ n' = .int .i64 k ∧ x' = .int .i64 X ∧ Hid (X = (R k).2) ∧ Hid (Own wr w2.heap.size (.slice (some ⟨w2.heap.size, 0, none⟩) Q Q) (R k).1) ∧ Hid (Ext w2 wr)) (fun _ n' _ => Q - (intOf n').toNat)
    case atStart => exact ⟨0, 1, by omega, rfl, rfl, Lib.hid (by rw [HR.out]; rfl), HO5, HX5⟩
    case round =>
      obtain ⟨k, X, hk, rfl, rfl, hX, hown, hext⟩ := hrel
      go_wp2_with fail
      refine (i_size _ _ _ _ (by omega)).mono ?_
      rintro e wr ⟨rfl, rfl⟩
      by_cases hlt : k < Q - 1
      · have hltI : (k : Int) < (Q : Int) - 1 := by omega
        have hXb := HBD.out k
        rw [← hX.out] at hXb
        obtain ⟨hX0, hX1⟩ := hXb
        obtain ⟨x, HXN⟩ : ∃ x : Nat, Hid (X = (x : Int)) := ⟨X.toNat, Lib.hid (by omega)⟩
        have hxQ : x < Q := by have := HXN.out; omega
        have hx63 : X ≤ 63 := by omega
        have hcx := hown.out.cell x (by rw [List.length_map, HLN.out]; exact hxQ)
        have hfx := hown.out.frozen x
        obtain ⟨hs1, hs2⟩ := hown.out.stored x (.int .i64 (k : Int))
        have HOS : Hid (Own (wr.setCell ⟨w2.heap.size, x, none⟩ (.int .i64 (k : Int))) w2.heap.size (.slice (some ⟨w2.heap.size, 0, none⟩) Q Q) (R (k + 1)).1) := Lib.hid (by
          have h1 : (R (k + 1)).1 = (R k).1.set x (k : Int) := by rw [HR.out, logT]; congr 1; rw [← HR.out, ← hX.out, HXN.out]; rfl
          unfold Own; rw [h1, List.map_set]; exact hs1)
        have HXS2 : Hid (Ext w2 (wr.setCell ⟨w2.heap.size, x, none⟩ (.int .i64 (k : Int)))) := Lib.hid (ext_app (e := 2) (v := .slice (some ⟨w2.heap.size, 0, none⟩) Q Q) hext.out hown.out hs2)
        have HEW := Lib.hid (HE2.out.trans HXS2.out)
        have HR1 : Hid (mulN P (xs.take d) X A = (R (k + 1)).2) := Lib.hid (by rw [hX.out, HR.out]; rfl)
        have hxI : X = (x : Int) := HXN.out
        subst hxI
        generalize ((R k).1.map (Value.int .i64))[x]'(by rw [List.length_map, HLN.out]; exact hxQ) = old at hcx
        clear hs1 hs2 hX
        obtain ⟨_, c0, c1, c2⟩ := HF2.out.ext HXS2.out
        go_wp2_with fail
        refine (i_mul P d v (xs.take d) (x : Int) A _ HFK.out (by rw [← HXS.out]; exact HRD.out.ext HEW.out) hX0 (by omega) hA0 (by omega)).mono ?_
        rintro e w6 ⟨rfl, x6⟩
        clear c0 c1 c2
        rw [HR1.out]
        have HO6 := Lib.hid (HOS.out.ext x6)
        have HX6 := Lib.hid (HXS2.out.trans x6)
        clear x6
        go_wp2
        exact ⟨⟨k + 1, _, by omega, by go_num, rfl, Lib.hid rfl, HO6, HX6⟩, by simp only [intOf]; omega⟩
      · have hltI : ¬ (k : Int) < (Q : Int) - 1 := by omega
        obtain rfl : k = Q - 1 := by omega
        go_wp2
        go_ret
        exact ⟨_, rfl, hown.out.mono HE2.out.size, HE2.out.trans hext.out⟩
end Go.Proofs.Ytafaecpmffmfgaa
