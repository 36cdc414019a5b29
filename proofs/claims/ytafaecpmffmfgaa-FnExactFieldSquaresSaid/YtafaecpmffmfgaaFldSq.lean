/- FieldSquares: the walks of the program and of the reference. No condition. -/
import Derived.Test.YtafaecpmffmfgaaFldTop2
import Derived.Test.YtafaecpmffmfgaaCompLay
import Derived.Test.YtafaecpmffmfgaaSetsS
namespace Go.Proofs.Ytafaecpmffmfgaa
open Go.RowKit

/-- The squares of 1, 2, .. in their order: k of them. -/
def sqL (P : Int) (cs : List Int) : Nat → List Int
  | 0 => []
  | k + 1 => sqL P cs k ++ [mulN P cs ((k : Int) + 1) ((k : Int) + 1)]
theorem sqL_len (P : Int) (cs : List Int) : ∀ k, (sqL P cs k).length = k
  | 0 => rfl
  | k + 1 => by rw [sqL, List.length_append, sqL_len P cs k]; rfl
def outSquares (P D : Int) (xs : List Int) : List Int := if fieldB P D xs then putAll [] (sqL P (xs.take D.toNat) ((P ^ (xs.take D.toNat).length).toNat - 1)) else []
theorem outSquares_len (P D : Int) (xs : List Int) : (outSquares P D xs).length ≤ 64 := by
  unfold outSquares
  cases h : fieldB P D xs
  · simp
  · obtain ⟨d, rfl, _, _, h4, _, _⟩ := fld_facts h
    rw [if_pos rfl, Int.toNat_natCast]
    have := putAll_len (sqL P (xs.take d) ((P ^ (xs.take d).length).toNat - 1)) []
    rw [sqL_len, List.length_nil, Nat.zero_add] at this
    omega
set_option maxRecDepth 100000 in
set_option maxHeartbeats 1000000 in
theorem s_FieldSquares (P D : Int) (v : Value) (xs : List Int) (w : World) (h : Rd w v xs) (hsn : Sane v) (_hn : xs.length ≤ 100000000) (_hD : D ≤ 9223372036854775807) :
    Calls Try.prog 48 #[.agg #[.int .i64 P, .int .i64 D, v]] w (RetInts w (outSquares P D xs)) := by
  have HRD := Lib.hid h
  have HF := Lib.hid (FldAt.new w P D v 27)
  have HE0 := Lib.hid (ext_alloc w (.cells #[.int .i64 P, .int .i64 D, v] 27))
  clear h
  cases hb : fieldB P D xs
  · have G : Hid (outSquares P D xs = []) := Lib.hid (by rw [outSquares, hb]; rfl)
    go_enter Try.func48, Try.ntmps48
    go_wp2_with fail
    refine (s_ok _ P D v xs _ HF.out (HRD.out.ext HE0.out) hsn).mono ?_
    rintro e w1 ⟨rfl, x1⟩
    rw [hb]
    go_wp2
    go_ret
    exact ⟨_, rfl, by rw [G.out]; exact OwnV.nil _ _ _, HE0.out.trans x1⟩
  · obtain ⟨d, rfl, hFK, hxs, hq64, hG, hlen⟩ := fld_facts hb
    obtain ⟨p1, p2, d1, d2, _, _⟩ := hFK
    obtain ⟨q, HQ⟩ : ∃ q, Hid (q = P ^ (xs.take d).length) := ⟨_, Lib.hid rfl⟩
    have hq2 : 2 ≤ q := by rw [HQ.out]; exact q_ge p1 (by rw [hlen]; exact d1)
    have hq3 : q ≤ 64 := by rw [HQ.out]; exact hq64
    obtain ⟨Q, rfl⟩ : ∃ Q : Nat, q = (Q : Int) := ⟨q.toNat, by omega⟩
    obtain ⟨R, HR⟩ : ∃ R, Hid (R = sqL P (xs.take d)) := ⟨_, Lib.hid rfl⟩
    have G : Hid (outSquares P d xs = putAll [] (R (Q - 1))) := Lib.hid (by rw [outSquares, hb, if_pos rfl, Int.toNat_natCast, ← HQ.out, Int.toNat_natCast, HR.out])
    have HLN : Hid (∀ k, (R k).length = k) := Lib.hid (by rw [HR.out]; exact sqL_len _ _)
    have HFK : Hid (FldOk P d (xs.take d)) := Lib.hid (fld_facts hb |> fun ⟨d', e1, e2, _⟩ => by
      have : d' = d := by omega
      subst this; exact e2)
    have HXS := Lib.hid hxs
    have HPD : Hid (P ^ d = (Q : Int)) := Lib.hid (by rw [HQ.out, hlen])
    have HUP : Hid (upW P (d : Int).toNat 1 = (Q : Int)) := Lib.hid (by
      have := (upW_pow p1 d 1 (by omega)).1 (by rw [Int.one_mul, HPD.out]; omega)
      rw [Int.toNat_natCast, this, Int.one_mul, HPD.out])
    have HB := Lib.hid hb
    have hQ2 : 2 ≤ Q := by omega
    have hQ3 : Q ≤ 64 := by omega
    clear hxs hq64 hlen hb
    rw [G.out]
    have hsq : ∀ (w1 : World), FldAt w1 w.heap.size P d v → Rd w1 v (xs.take d ++ [1]) → Calls Try.prog 77 #[.pointer (some ⟨w.heap.size, 0, none⟩)] w1 (RetInts w1 (putAll [] (R (Q - 1)))) := by
      intro w1 hf1 hr1
      have HF1 := Lib.hid hf1
      have HR1 := Lib.hid hr1
      clear hf1 hr1
      go_enter Try.func77, Try.ntmps77
      go_wp2
      go_loopw [3, 4] (fun o' a' wr => ∃ (k : Nat), k ≤ Q - 1 ∧ a' = .int .i64 ((k : Int) + 1) ∧ Hid (Own wr w1.heap.size o' (putAll [] (R k))) ∧ Hid (Ext w1 wr)) (fun _ a' _ => Q - (intOf a').toNat)
      case atStart => exact ⟨0, by omega, rfl, Lib.hid (by rw [HR.out]; exact OwnV.empty _ _), Lib.hid (ext_alloc _ _)⟩
      case round =>
        obtain ⟨k, hk, rfl, hown, hext⟩ := hrel
        go_wp2_with fail
        refine (s_size3 _ P d v _ (HF1.out.ext hext.out) p1 p2 d2).mono ?_
        rintro e w2 ⟨rfl, x2⟩
        rw [HPD.out]
        have HE2 := Lib.hid (hext.out.drawn x2)
        have HO2 := Lib.hid (hown.out.drawn x2)
        clear x2 hown hext
        by_cases hlt : (k : Int) + 1 < (Q : Int)
        · go_wp2_with fail
          refine (s_mul _ P d v (xs.take d) ((k : Int) + 1) ((k : Int) + 1) _ HFK.out (HF1.out.ext HE2.out) (HR1.out.ext HE2.out) (by omega) (by omega) (by omega) (by omega)).mono ?_
          rintro e w3 ⟨rfl, x3⟩
          have HE3 := Lib.hid (HE2.out.trans x3)
          have HO3 := Lib.hid (HO2.out.ext x3)
          obtain ⟨m, HM⟩ : ∃ m, Hid (mulN P (xs.take d) ((k : Int) + 1) ((k : Int) + 1) = m) := ⟨_, Lib.hid rfl⟩
          have HT : Hid (putAll [] (R (k + 1)) = putL m false (putAll [] (R k))) := Lib.hid (by rw [HR.out, sqL, putAll_snoc, HM.out])
          have HLE : Hid ((putAll [] (R k)).length ≤ 64) := Lib.hid (by have h1 := putAll_len (R k) []; rw [HLN.out] at h1; simp at h1; omega)
          rw [HM.out]
          clear x3
          go_wp2_with fail
          refine (s_l00Put _ (putAll [] (R k)) m _ (by have := HLE.out; omega) HO3.out.rd).mono ?_
          rintro e w4 ⟨v4, rfl, o4, x4⟩
          have HO4 : Hid (Own w4 w1.heap.size v4 (putAll [] (R (k + 1)))) := Lib.hid (by rw [HT.out]; exact o4.mono HE3.out.size)
          have HE4 := Lib.hid (HE3.out.trans x4)
          clear o4 x4
          go_wp2
          exact ⟨⟨k + 1, by omega, by go_num, HO4, HE4⟩, by simp only [intOf]; omega⟩
        · obtain rfl : k = Q - 1 := by omega
          go_wp2
          go_ret
          exact ⟨_, rfl, HO2.out, HE2.out⟩
    have HSQ := Lib.hid hsq
    clear hsq
    go_enter Try.func48, Try.ntmps48
    go_wp2_with fail
    refine (s_ok _ P d v xs _ HF.out (HRD.out.ext HE0.out) hsn).mono ?_
    rintro e w1 ⟨rfl, x1⟩
    rw [HB.out]
    go_wp2_with fail
    refine (HSQ.out _ (HF.out.ext x1) (by rw [← HXS.out]; exact HRD.out.ext (HE0.out.trans x1))).mono ?_
    rintro e w2 ⟨v2, rfl, o2, x2⟩
    go_wp2
    go_ret
    exact ⟨_, rfl, o2.mono (HE0.out.trans x1).size, (HE0.out.trans x1).trans x2⟩
set_option maxRecDepth 100000 in
set_option maxHeartbeats 1000000 in
theorem i_FieldSquares (P D : Int) (v : Value) (xs : List Int) (w : World) (h : Rd w v xs) (hn : xs.length ≤ 100000000) (hD : D ≤ 9223372036854775807) :
    Calls Try.prog 49 #[.agg #[.int .i64 P, .int .i64 D, v]] w (RetInts w (outSquares P D xs)) := by
  have HRD := Lib.hid h
  have HF := Lib.hid (FldAt.new w P D v 27)
  have HE0 := Lib.hid (ext_alloc w (.cells #[.int .i64 P, .int .i64 D, v] 27))
  clear h
  cases hb : fieldB P D xs
  · have G : Hid (outSquares P D xs = []) := Lib.hid (by rw [outSquares, hb]; rfl)
    go_enter Try.func49, Try.ntmps49
    go_wp2_with fail
    refine (i_ValidField P D v xs _ (HRD.out.ext HE0.out) hn hD).mono ?_
    rintro e w1 ⟨rfl, x1⟩
    rw [hb]
    go_wp2
    go_ret
    exact ⟨_, rfl, by rw [G.out]; exact OwnV.nil _ _ _, HE0.out.trans x1⟩
  · obtain ⟨d, rfl, hFK, hxs, hq64, hG, hlen⟩ := fld_facts hb
    obtain ⟨p1, p2, d1, d2, _, _⟩ := hFK
    obtain ⟨q, HQ⟩ : ∃ q, Hid (q = P ^ (xs.take d).length) := ⟨_, Lib.hid rfl⟩
    have hq2 : 2 ≤ q := by rw [HQ.out]; exact q_ge p1 (by rw [hlen]; exact d1)
    have hq3 : q ≤ 64 := by rw [HQ.out]; exact hq64
    obtain ⟨Q, rfl⟩ : ∃ Q : Nat, q = (Q : Int) := ⟨q.toNat, by omega⟩
    obtain ⟨R, HR⟩ : ∃ R, Hid (R = sqL P (xs.take d)) := ⟨_, Lib.hid rfl⟩
    have G : Hid (outSquares P d xs = putAll [] (R (Q - 1))) := Lib.hid (by rw [outSquares, hb, if_pos rfl, Int.toNat_natCast, ← HQ.out, Int.toNat_natCast, HR.out])
    have HLN : Hid (∀ k, (R k).length = k) := Lib.hid (by rw [HR.out]; exact sqL_len _ _)
    have HFK : Hid (FldOk P d (xs.take d)) := Lib.hid (fld_facts hb |> fun ⟨d', e1, e2, _⟩ => by
      have : d' = d := by omega
      subst this; exact e2)
    have HXS := Lib.hid hxs
    have HPD : Hid (P ^ d = (Q : Int)) := Lib.hid (by rw [HQ.out, hlen])
    have HUP : Hid (upW P (d : Int).toNat 1 = (Q : Int)) := Lib.hid (by
      have := (upW_pow p1 d 1 (by omega)).1 (by rw [Int.one_mul, HPD.out]; omega)
      rw [Int.toNat_natCast, this, Int.one_mul, HPD.out])
    have HB := Lib.hid hb
    have hQ2 : 2 ≤ Q := by omega
    have hQ3 : Q ≤ 64 := by omega
    clear hxs hq64 hlen hb
    have GC : Hid (Lib.compact (srt (R (Q - 1))) = outSquares P d xs) := Lib.hid (by rw [G.out, compact_srt])
    go_enter Try.func49, Try.ntmps49
    go_wp2_with fail
    refine (i_ValidField P d v xs _ (HRD.out.ext HE0.out) hn hD).mono ?_
    rintro e w1 ⟨rfl, x1⟩
    rw [HB.out]
    have HE1 := Lib.hid (HE0.out.trans x1)
    have HF1 := Lib.hid (HF.out.ext x1)
    clear x1
    go_wp2
    go_loopw [3, 4] (fun o' a' wr => ∃ (k : Nat), k ≤ Q - 1 ∧ a' = .int .i64 ((k : Int) + 1) ∧ Hid (Own wr w1.heap.size o' (R k)) ∧ Hid (Ext w1 wr)) (fun _ a' _ => Q - (intOf a').toNat)
    case atStart => exact ⟨0, by omega, rfl, Lib.hid (by rw [HR.out]; exact OwnV.nil _ _ _), Lib.hid (Ext.refl _)⟩
    case round =>
      obtain ⟨k, hk, rfl, hown, hext⟩ := hrel
      obtain ⟨_, c0, c1, c2⟩ := HF1.out.ext hext.out
      go_wp2_with fail
      refine (i_fieldSize P d v _ p1 (by omega) (by omega) hD).mono ?_
      rintro e w2 ⟨rfl, x2⟩
      rw [HUP.out]
      have HE2 := Lib.hid (hext.out.trans x2)
      have HO2 := Lib.hid (hown.out.ext x2)
      clear x2 hown hext c0 c1 c2
      by_cases hlt : (k : Int) + 1 < (Q : Int)
      · obtain ⟨_, c0, c1, c2⟩ := HF1.out.ext HE2.out
        go_wp2_with fail
        refine (i_mul P d v (xs.take d) ((k : Int) + 1) ((k : Int) + 1) _ HFK.out (by rw [← HXS.out]; exact HRD.out.ext (HE1.out.trans HE2.out)) (by omega) (by omega) (by omega) (by omega)).mono ?_
        rintro e w3 ⟨rfl, x3⟩
        have HE3 := Lib.hid (HE2.out.trans x3)
        have hown3 : Own w3 w1.heap.size _ (R k) := HO2.out.ext x3
        obtain ⟨m, HM⟩ : ∃ m, Hid (mulN P (xs.take d) ((k : Int) + 1) ((k : Int) + 1) = m) := ⟨_, Lib.hid rfl⟩
        have HT : Hid (R (k + 1) = R k ++ [m]) := Lib.hid (by rw [HR.out, sqL, HM.out])
        have hle : (R k).length ≤ 64 := by rw [HLN.out]; omega
        have hz := HE3.out.size
        rw [HM.out]
        clear x3 c0 c1 c2
        go_wp2_with (at_builtin; refine wp_app1 _ rfl _ _ rfl _ _ (R k) rfl hown3 m rfl (by omega) hz ?_; intro v4 w4 hown4 hgr)
        have HO4 : Hid (Own w4 w1.heap.size v4 (R (k + 1))) := Lib.hid (by rw [HT.out]; exact hown4)
        have HE4 : Hid (Ext w1 w4) := Lib.hid (ext_app (e := 2) HE3.out hown3 hgr)
        clear hown4 hgr hown3
        go_wp2
        exact ⟨⟨k + 1, by omega, by go_num, HO4, HE4⟩, by simp only [intOf]; omega⟩
      · obtain rfl : k = Q - 1 := by omega
        go_wp2_with fail
        refine (c_Sort _ (R (Q - 1)) _ _ (by rw [HLN.out]; omega) HO2.out).mono ?_
        rintro e w3 ⟨rfl, o3, g3⟩
        have HE3 : Hid (Ext w1 w3) := Lib.hid (ext_app (e := 2) HE2.out HO2.out g3)
        have HO3 := Lib.hid o3
        clear o3 g3
        go_wp2_with fail
        refine (c_Compact _ (srt (R (Q - 1))) _ _ (by rw [srt_len, HLN.out]; omega) (by rw [srt_len, HLN.out]; omega) HO3.out).mono ?_
        rintro e w4 ⟨v4, rfl, o4, g4⟩
        have HE4 : Hid (Ext w1 w4) := Lib.hid (ext_app (e := 2) HE3.out HO3.out g4)
        go_wp2
        go_ret
        exact ⟨_, rfl, by rw [← GC.out]; exact o4.mono HE1.out.size, HE1.out.trans HE4.out⟩
end Go.Proofs.Ytafaecpmffmfgaa
