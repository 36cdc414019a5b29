/- Slices of strings that are read; the laws' own helpers on them: eqStringS, markText, markStringS, heldStringS. No condition. -/
import Derived.Test.YthibddfcjnljfaaDoorStrRow
import Derived.Test.YthibddfcjnljfaaDoorApp
import Derived.Lib.ItoaNum
import Derived.Lib.ItoaLen
import Derived.Laws.IdiomStrings
import Derived.Deep.RegionHeld3
namespace Go.Proofs.YthibddfcjnljfaaDoor
open Go.RowKit

/-- v reads as the strings xs. -/
def RdS (w : World) (v : Value) (xs : List ByteArray) : Prop :=
  ∃ a cap, v = .slice a xs.length cap ∧ xs.length ≤ cap ∧ cap ≤ 9223372036854775807 ∧
    (0 < xs.length → ∃ b o, a = some ⟨b, o, none⟩ ∧ b < w.heap.size ∧ ∀ i (h : i < xs.length), w.cell? ⟨b, o + i, none⟩ = some (.string xs[i]))
theorem RdS.ext {w w' : World} {v : Value} {xs : List ByteArray} (h : RdS w v xs) (hb : Ext w w') : RdS w' v xs := by
  obtain ⟨a, cap, h1, h2, h3, h4⟩ := h
  refine ⟨a, cap, h1, h2, h3, fun hn => ?_⟩
  obtain ⟨b, o, h5, h6, h7⟩ := h4 hn
  exact ⟨b, o, h5, Nat.lt_of_lt_of_le h6 hb.size, fun i hi => by rw [hb.cell (p := ⟨b, o + i, none⟩) h6]; exact h7 i hi⟩
theorem OwnV.rdS {w : World} {lo : Nat} {v : Value} {xs : List ByteArray} (h : OwnS w lo v xs) : RdS w v xs := by
  obtain ⟨a, cap, h1, h2, h3, h4, h5⟩ := h.form
  rw [List.length_map] at h1 h2
  refine ⟨a, cap, h1, h2, by unfold maxLen at h3; omega, fun hn => ?_⟩
  obtain ⟨g, rfl, hg, hl⟩ := h4 (by omega)
  subst h1
  refine ⟨g, 0, rfl, hl, fun i hi => ?_⟩
  rw [Nat.zero_add, h.cell i (by simpa using hi)]
  simp
/-- The call hands back new strings xs; nothing that was there has turned. -/
def RetStrs (w : World) (xs : List ByteArray) (e : Ending) (w' : World) : Prop := ∃ v, e = .returned v ∧ OwnS w' w.heap.size v xs ∧ Ext w w'

theorem l_eqStringS_t (v v' : Value) (xs : List ByteArray) (w : World) (h : RdS w v xs) (h' : RdS w v' xs) :
    Calls Tryd.prog 12 #[v, v'] w fun e w' => e = .returned (.bool true) ∧ Drawn w w' := by
  obtain ⟨a, cap, rfl, hc, hm, hr⟩ := h
  obtain ⟨a', cap', rfl, hc', hm', hr'⟩ := h'
  have hl' : ((xs.length : Int) != (xs.length : Int)) = false := by simp
  go_enter Tryd.func12, Tryd.ntmps12
  go_wp2
  go_loopw [5] (fun i wr => ∃ k : Nat, k ≤ xs.length ∧ i = .int .i64 k ∧ Drawn w wr) (fun i _ => xs.length - (intOf i).toNat)
  case atStart => exact ⟨0, by omega, rfl, Drawn.refl _⟩
  case round =>
    obtain ⟨k, hk, rfl, hd⟩ := hrel
    by_cases hlt : k < xs.length
    · obtain ⟨b, o, rfl, hb, hcell⟩ := hr (by omega)
      obtain ⟨b', o', rfl, hb', hcell'⟩ := hr' (by omega)
      have hx := (hd.ext.cell (p := ⟨b, o + k, none⟩) hb).trans (hcell k hlt)
      have hy := (hd.ext.cell (p := ⟨b', o' + k, none⟩) hb').trans (hcell' k hlt)
      clear hcell hcell' hr hr'
      generalize xs[k] = p at *
      go_wp2
      go_quiet (fail)
      go_wp2
      exact ⟨⟨k + 1, by omega, by go_num, hd.drewN _⟩, by simp [intOf]; omega⟩
    · obtain rfl : k = xs.length := by omega
      go_wp2
      go_ret
      exact ⟨rfl, hd⟩

/-- The mark of the number k. -/
def mtxt (k : Nat) : ByteArray := ⟨(109 :: Lib.decDigits k).toArray⟩
def mMid (z k : Nat) (ds : List UInt8) : Prop := Lib.decDigits k = (if z = 0 then [] else Lib.decDigits z) ++ ds
theorem mMid_next {z k : Nat} {ds : List UInt8} (h : mMid z k ds) (hz : 0 < z) : mMid (z / 10) k (UInt8.ofNat (48 + z % 10) :: ds) := by
  unfold mMid at *
  rw [if_neg (by omega)] at h
  by_cases hs : z < 10
  · rw [if_pos (by omega), h, Lib.decDigits, dif_pos hs, Nat.mod_eq_of_lt hs]; rfl
  · rw [if_neg (by omega), h, Lib.decDigits, dif_neg hs, List.append_assoc]; rfl
theorem mdig (m : Nat) (h : m < 10) : ((UInt8.ofNat (48 + m)).toNat : Int) = 48 + (m : Int) := by
  rw [UInt8.toNat_ofNat', Nat.mod_eq_of_lt (by omega)]; omega
theorem bytes_cons (y : UInt8) (ds : List UInt8) : (⟨#[y]⟩ ++ ⟨ds.toArray⟩ : ByteArray) = ⟨(y :: ds).toArray⟩ := by
  apply ByteArray.ext
  simp [ByteArray.data_append]
theorem mMid_len {z k : Nat} {ds : List UInt8} (h : mMid z k ds) (hk : k ≤ 4000000) : ds.length ≤ 100 := by
  unfold mMid at h
  have h3 : (Lib.decDigits k).length ≤ 20 := by rw [Lib.decDigits_length]; exact Lib.nDigits_le20 _ (by omega)
  rw [h, List.length_append] at h3
  omega
set_option maxRecDepth 100000 in
theorem l_markText (K : Int) (k : Nat) (w : World) (HK : Hid (K = (k : Int))) (h0 : 0 < K) (h1 : K ≤ 4000000) : Calls Tryd.prog 29 #[.int .i64 K] w fun e w' => e = .returned (.string (mtxt k)) ∧ Ext w w' := by
  have HM0 : Hid (mMid K.toNat k []) := Lib.hid (by have := HK.out; unfold mMid; rw [if_neg (by omega), show K.toNat = k by omega]; simp)
  go_enter Tryd.func29, Tryd.ntmps29
  go_wp2
  go_loopw [0, 3] (fun q v wr => ∃ (z : Int) (ds : List UInt8), q = .int .i64 z ∧ 0 ≤ z ∧ z ≤ 4000000 ∧ v = .string ⟨ds.toArray⟩ ∧ Hid (mMid z.toNat k ds) ∧ Hid (Ext w wr)) (fun q _ _ => (intOf q).natAbs)
  case atStart => exact ⟨K, [], rfl, by omega, h1, rfl, HM0, Lib.hid (Ext.refl _)⟩
  case round =>
    obtain ⟨z, ds, rfl, hz0, hz1, rfl, hmid, hext⟩ := hrel
    have hdl : ds.length ≤ 100 := mMid_len hmid.out (by have := HK.out; omega)
    by_cases hz : 0 < z
    · obtain ⟨m, HM⟩ : ∃ m : Nat, Hid (m = z.toNat % 10) := ⟨_, Lib.hid rfl⟩
      have hm10 : m < 10 := by rw [HM.out]; exact Nat.mod_lt _ (by omega)
      have hmod : z % 10 = (m : Int) := by rw [HM.out]; omega
      obtain ⟨y, HY⟩ : ∃ y : UInt8, Hid (y = UInt8.ofNat (48 + m)) := ⟨_, Lib.hid rfl⟩
      have HYN : Hid ((y.toNat : Int) = 48 + (m : Int)) := Lib.hid (by rw [HY.out]; exact mdig m hm10)
      have HN := Lib.hid (mMid_next hmid.out (by omega))
      rw [← HM.out, ← HY.out] at HN
      have HN' : Hid (mMid (z / 10).toNat k (y :: ds)) := Lib.hid (by rw [show (z / 10).toNat = z.toNat / 10 by omega]; exact HN.out)
      have hconv : (convert 51 9 (.slice (some ⟨wr.heap.size, 0, none⟩) 1 1)).run Tryd.prog (wr.alloc (.cells #[.int .u8 (48 + (m : Int))] 5)) = .ok (.string ⟨#[y]⟩) (wr.alloc (.cells #[.int .u8 (48 + (m : Int))] 5)) :=
        run_convert_bytes_back _ _ _ 5 ⟨wr.heap.size, 0, none⟩ 1 [y] Tryd.underlying51 Tryd.underlying5 Tryd.underlying9 (fun j hj => by
          have hj0 : j = 0 := by simpa using hj
          subst hj0
          rw [← HYN.out]
          exact World.cell?_alloc_at _ _ _ _ rfl)
      have HE2 : Hid (Ext w (wr.alloc (.cells #[.int .u8 (48 + (m : Int))] 5))) := Lib.hid (hext.out.trans (ext_alloc wr _))
      clear hmid HN
      go_wp2
      refine ⟨⟨z / 10, y :: ds, rfl, by omega, by omega, ?_, HN', HE2⟩, by simp only [intOf]; omega⟩
      exact congrArg Value.string (bytes_cons y ds)
    · have hz' : z = 0 := by omega
      subst hz'
      have HR : Hid (mtxt k = ⟨(109 :: ds).toArray⟩) := Lib.hid (by
        have h := hmid.out
        unfold mMid at h
        rw [if_pos (by rfl), List.nil_append] at h
        unfold mtxt; rw [h])
      clear hmid
      go_wp2
      go_ret
      exact ⟨by rw [HR.out]; exact congrArg (fun b => Ending.returned (Value.string b)) (bytes_cons 109 ds), hext.out⟩
/-- The marks of the numbers k, k+1, .. : n of them. -/
def marksS (k n : Nat) : List ByteArray := (List.range n).map fun i => mtxt (k + i)
theorem marksS_len (k n : Nat) : (marksS k n).length = n := by simp [marksS]
theorem marksS_get (k n i : Nat) (h : i < (marksS k n).length) : (marksS k n)[i] = mtxt (k + i) := by simp [marksS]
theorem l_heldStringS (v : Value) (k n : Nat) (w : World) (hk0 : Hid (0 < k)) (hk : Hid (k + n ≤ 4000000)) (h : RdS w v (marksS k n)) :
    Calls Tryd.prog 14 #[v, .int .i64 k] w fun e w' => e = .returned (.int .i64 ((k + n : Nat) : Int)) ∧ Ext w w' := by
  obtain ⟨a, cap, hv, hc, hm, hr⟩ := h
  rw [marksS_len] at hv hc
  subst hv
  have hcell : Hid (0 < n → ∃ b o, a = some ⟨b, o, none⟩ ∧ b < w.heap.size ∧ ∀ i, i < n → w.cell? ⟨b, o + i, none⟩ = some (.string (mtxt (k + i)))) := by
    refine Lib.hid fun hn => ?_
    obtain ⟨b, o, h1, h3, h2⟩ := hr (by rw [marksS_len]; exact hn)
    exact ⟨b, o, h1, h3, fun i hi => by rw [h2 i (by rw [marksS_len]; exact hi), marksS_get]⟩
  clear hr
  go_enter Tryd.func14, Tryd.ntmps14
  go_wp2
  go_loopw [1, 5] (fun q i wr => ∃ (j : Nat) (z : Int), j ≤ n ∧ i = .int .i64 j ∧ q = .int .i64 z ∧ Hid (z = ((k + j : Nat) : Int)) ∧ 0 < z ∧ z ≤ 4000000 ∧ Hid (Ext w wr)) (fun _ i _ => n - (intOf i).toNat)
  case atStart => exact ⟨0, k, by omega, rfl, rfl, Lib.hid (by simp), by have := hk0.out; omega, by have := hk.out; omega, Lib.hid (Ext.refl _)⟩
  case round =>
    obtain ⟨j, z, hj, rfl, rfl, hz, z1, z2, hext⟩ := hrel
    by_cases hlt : j < n
    · obtain ⟨b, o, rfl, hb, hall⟩ := hcell.out (by omega)
      have HX := Lib.hid ((hext.out.cell (p := ⟨b, o + j, none⟩) hb).trans (hall j hlt))
      have hx := HX.out
      have HB : Hid (b < wr.heap.size) := Lib.hid (Nat.lt_of_lt_of_le hb hext.out.size)
      have HZ : Hid (z + 1 = ((k + (j + 1) : Nat) : Int)) := Lib.hid (by have := hz.out; omega)
      have z3 : z + 1 ≤ 4000000 := by have := hz.out; have := hk.out; omega
      obtain ⟨t, HT⟩ : ∃ t, Hid (t = mtxt (k + j)) := ⟨_, Lib.hid rfl⟩
      rw [← HT.out] at hx
      clear hall HX
      go_wp2
      go_region_held3 (fun w' => Ext wr w' ∧ w'.cell? ⟨b, o + j, none⟩ = some (.string t)) (first | exact ⟨x6, (x6.cell (p := ⟨b, o + j, none⟩) HB.out).trans hx⟩ | exact ⟨Ext.drewN (Ext.refl _) 1, hx⟩) (first | (go_at_call 29; refine (l_markText z (k + j) _ hz z1 z2).mono ?_; rintro e w6 ⟨rfl, y6⟩; rw [← HT.out]; have x6 := Ext.trans (Ext.drewN (Ext.refl wr) 1) y6))
      go_wp2
      exact ⟨⟨j + 1, z + 1, by omega, by go_num, rfl, HZ, by omega, z3, Lib.hid (hext.out.trans x6)⟩, by simp only [intOf]; omega⟩
    · obtain rfl : j = n := by omega
      have HZ : Hid (z = ((k + j : Nat) : Int)) := Lib.hid hz.out
      clear hz
      go_wp2
      go_ret
      exact ⟨ret_i64 HZ.out, hext.out⟩
theorem l_markStringS (v : Value) (k : Nat) (xs : List ByteArray) (lo : Nat) (w : World) (hk0 : Hid (0 < k)) (hk : Hid (k + xs.length ≤ 4000000)) (h : OwnS w lo v xs) :
    Calls Tryd.prog 13 #[v, .int .i64 k] w fun e w' => e = .returned (.int .i64 ((k + xs.length : Nat) : Int)) ∧ OwnS w' lo v (marksS k xs.length) ∧ w.grownBy w' v.ownBlock := by
  obtain ⟨a, cap, hv, hc, hm, hg, hn⟩ := h.form
  rw [List.length_map] at hv hc
  have H := Lib.hid h
  clear h
  subst hv
  unfold maxLen at hm
  obtain ⟨n, HXN⟩ : ∃ n, Hid (n = xs.length) := ⟨_, Lib.hid rfl⟩
  rw [← HXN.out] at hk hc H ⊢
  go_enter Tryd.func13, Tryd.ntmps13
  go_wp2
  go_loopw [1, 5] (fun q i wr => ∃ (j : Nat) (z : Int) (ys : List ByteArray), j ≤ n ∧ i = .int .i64 j ∧ q = .int .i64 z ∧ Hid (z = ((k + j : Nat) : Int)) ∧ 0 < z ∧ z ≤ 4000000 ∧ Hid (ys.length = n) ∧ Hid (∀ t (ht : t < ys.length), t < j → ys[t] = mtxt (k + t)) ∧ Hid (OwnS wr lo (.slice a n cap) ys) ∧ Hid (w.grownBy wr (Value.ownBlock (.slice a n cap)))) (fun _ i _ => n - (intOf i).toNat)
  case atStart => exact ⟨0, k, xs, by omega, rfl, rfl, Lib.hid (by omega), by have := hk0.out; omega, by have := hk.out; omega, Lib.hid HXN.out.symm, Lib.hid (fun t ht h => by omega), H, Lib.hid (World.grownBy.refl _ _)⟩
  case round =>
    obtain ⟨j, z, ys, hj, rfl, rfl, hz, z1, z2, hl, hm2, hown, hgr⟩ := hrel
    by_cases hlt : j < n
    · obtain ⟨g, rfl, hlo, hgl⟩ := hg (by omega)
      obtain ⟨T, HT⟩ : ∃ t, Hid (t = mtxt (k + j)) := ⟨_, Lib.hid rfl⟩
      have HZ : Hid (z + 1 = ((k + (j + 1) : Nat) : Int)) := Lib.hid (by have := hz.out; omega)
      have z3 : z + 1 ≤ 4000000 := by have := hz.out; have := hk.out; omega
      have HN2 : Hid (∀ t (ht : t < (ys.set j T).length), t < j + 1 → (ys.set j T)[t] = mtxt (k + t)) := Lib.hid (by
        intro t ht h1
        rw [List.getElem_set]
        by_cases he : j = t
        · subst he; rw [if_pos rfl, HT.out]
        · rw [if_neg he]; exact hm2.out t (by simpa using ht) (by omega))
      have HL : Hid ((ys.set j T).length = n) := Lib.hid (by rw [List.length_set]; exact hl.out)
      go_wp2_with fail
      refine (l_markText z (k + j) _ hz z1 z2).mono ?_
      rintro e w6 ⟨rfl, y6⟩
      rw [← HT.out]
      have hown6 := hown.out.ext y6
      have hc1 := hown6.cell j (by rw [List.length_map]; have := hl.out; omega)
      have hf1 := hown6.frozen j
      obtain ⟨hs1, hs2⟩ := hown6.stored j (.string T)
      have HS : Hid (OwnS (w6.setCell ⟨g, j, none⟩ (.string T)) lo (.slice (some ⟨g, 0, none⟩) n cap) (ys.set j T)) := Lib.hid (by
        unfold OwnS; rw [List.map_set]; exact hs1)
      have HG : Hid (w.grownBy (w6.setCell ⟨g, j, none⟩ (.string T)) (Value.ownBlock (.slice (some ⟨g, 0, none⟩) n cap))) := Lib.hid (grownBy_trans (grownBy_trans hgr.out (grownBy_of_ext y6 _)) hs2)
      generalize (ys.map Value.string)[j]'(by rw [List.length_map]; have := hl.out; omega) = old at hc1
      clear hs1 hs2 hz hown hgr hm2 hl hown6 y6
      go_wp2
      exact ⟨⟨j + 1, z + 1, ys.set j T, by omega, by go_num, rfl, HZ, by omega, z3, HL, HN2, HS, HG⟩, by simp only [intOf]; omega⟩
    · obtain rfl : j = n := by omega
      have HF : Hid (ys = marksS k j) := Lib.hid (by
        have h1 := hl.out
        apply List.ext_getElem (by rw [marksS_len]; exact h1)
        intro i h2 h3
        rw [marksS_get]
        exact hm2.out i h2 (by omega))
      have HZ : Hid (z = ((k + j : Nat) : Int)) := Lib.hid hz.out
      clear hz hl hm2
      go_wp2
      go_ret
      exact ⟨ret_i64 HZ.out, by rw [← HF.out]; exact hown.out, hgr.out⟩
end Go.Proofs.YthibddfcjnljfaaDoor
