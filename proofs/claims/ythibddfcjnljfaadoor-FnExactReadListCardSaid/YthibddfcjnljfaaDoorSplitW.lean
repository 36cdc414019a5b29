/- SplitWords: the walks of the program and of the reference. No condition. -/
import Derived.Test.YthibddfcjnljfaaDoorStrS
import Derived.Test.YthibddfcjnljfaaDoorSplitP
import Derived.Shelf.Strings.Split
import Derived.Shelf.LaysM
namespace Go.Proofs.YthibddfcjnljfaaDoor
open Go.RowKit Go.Shelf

set_option maxRecDepth 100000 in
theorem s_split (s : ByteArray) (c : UInt8) (w : World) (hs0 : s.size ≤ maxLen) (HS : Hid (s.size ≤ 1048576)) : Calls Tryd.prog 27 #[.string s, .int .u8 (c.toNat : Int)] w (RetStrs w (pieces c s)) := by
  unfold maxLen at hs0
  have HM0 := Lib.hid (cutMid_start c s)
  go_enter Tryd.func27, Tryd.ntmps27
  go_wp2
  go_loopw [5, 6, 7] (fun v q i wr => ∃ (k a : Nat) (done : List ByteArray), k ≤ s.size ∧ i = .int .i64 (k : Int) ∧ q = .int .i64 (a : Int) ∧ Hid (cutMid c s done a k) ∧ Hid (OwnS wr w.heap.size v done) ∧ Hid (Ext w wr)) (fun _ _ i _ => s.size - (intOf i).toNat)
  case atStart => exact ⟨0, 0, [], by omega, rfl, rfl, HM0, Lib.hid (OwnV.empty _ _), Lib.hid (ext_alloc _ _)⟩
  case round =>
    obtain ⟨k, a, done, hk, rfl, rfl, hmid, hown, hext⟩ := hrel
    have hak : a ≤ k := hmid.out.1
    have hlen : done.length ≤ 1000000000 := by have := cutMid_len hmid.out; have := HS.out; omega
    have HLEN := Lib.hid hlen
    have hlo := hext.out.size
    clear hlen
    by_cases hlt : k < s.size
    · by_cases he : s[k] = c
      · have hb : (((s[k].toNat : Nat) : Int) == ((c.toNat : Nat) : Int)) = true := by rw [he]; simp
        have HN := Lib.hid (cutMid_hit hmid.out hlt he)
        clear he
        go_wp2_with (at_builtin; refine wp_appS wr rfl _ _ rfl w.heap.size u5 done rfl hown.out (s.extract a k) rfl HLEN.out hlo ?_; intro v2 w2 ho2 hg2)
        exact ⟨⟨k + 1, k + 1, done ++ [s.extract a k], by omega, by go_num, by go_num, HN, Lib.hid ho2, Lib.hid (ext_app hext.out hown.out hg2)⟩, by simp only [intOf]; omega⟩
      · have hb : (((s[k].toNat : Nat) : Int) == ((c.toNat : Nat) : Int)) = false := beq_eq_false_iff_ne.2 (fun h => he (UInt8.toNat_inj.1 (by omega)))
        have HN := Lib.hid (cutMid_skip hmid.out hlt he)
        clear he
        go_wp2
        exact ⟨⟨k + 1, a, done, by omega, by go_num, rfl, HN, hown, hext⟩, by simp only [intOf]; omega⟩
    · have hk' : k = s.size := by omega
      subst hk'
      have HR := Lib.hid (cutMid_end hmid.out)
      go_wp2_with (at_builtin; refine wp_appS wr rfl _ _ rfl w.heap.size u5 done rfl hown.out (s.extract a s.size) rfl HLEN.out hlo ?_; intro v2 w2 ho2 hg2)
      go_ret
      exact ⟨_, rfl, by rw [← HR.out]; exact ho2, ext_app hext.out hown.out hg2⟩
/-- What is no blank among the first k. -/
def fullOf (l : List ByteArray) : List ByteArray := l.filter fun x => !x.toList.isEmpty
theorem fullOf_hit {l : List ByteArray} {k : Nat} (h : k < l.length) (he : l[k].toList.isEmpty = false) : fullOf (l.take (k + 1)) = fullOf (l.take k) ++ [l[k]] := by
  unfold fullOf
  rw [List.take_succ_eq_append_getElem h, List.filter_append]
  simp [he]
theorem fullOf_skip {l : List ByteArray} {k : Nat} (h : k < l.length) (he : l[k].toList.isEmpty = true) : fullOf (l.take (k + 1)) = fullOf (l.take k) := by
  unfold fullOf
  rw [List.take_succ_eq_append_getElem h, List.filter_append]
  simp [he]
theorem fullOf_len (l : List ByteArray) (k : Nat) : (fullOf (l.take k)).length ≤ l.length := by
  unfold fullOf
  exact Nat.le_trans (List.length_filter_le _ _) (by rw [List.length_take]; omega)
theorem fullOf_words (s : ByteArray) : fullOf ((pieces 32 s).take (pieces 32 s).length) = words s := by
  rw [List.take_length]; rfl
set_option maxRecDepth 100000 in
theorem s_SplitWords (s : ByteArray) (w : World) (hs0 : s.size ≤ maxLen) (HS : Hid (s.size ≤ 1048576)) : Calls Tryd.prog 10 #[.string s] w (RetStrs w (words s)) := by
  go_enter Tryd.func10, Tryd.ntmps10
  go_wp2_with fail
  refine (s_split s 32 _ hs0 HS).mono ?_
  rintro e w1 ⟨v1, rfl, o1, x1⟩
  obtain ⟨L, HL⟩ : ∃ L, Hid (L = pieces 32 s) := ⟨_, Lib.hid rfl⟩
  rw [← HL.out] at o1
  have HLN : Hid (L.length ≤ 2000000) := Lib.hid (by rw [HL.out]; have := pieces_le 32 s; have := HS.out; omega)
  have HW : Hid (words s = fullOf (L.take L.length)) := Lib.hid (by rw [HL.out, fullOf_words])
  obtain ⟨a, cap, rfl, hc, hm, hr⟩ := o1.rdS
  have X1 := Lib.hid x1
  clear o1 x1
  go_wp2
  go_loopw [4, 5] (fun v i wr => ∃ (k : Nat), k ≤ L.length ∧ i = .int .i64 (k : Int) ∧ Hid (OwnS wr w1.heap.size v (fullOf (L.take k))) ∧ Hid (Ext w1 wr)) (fun _ i _ => L.length - (intOf i).toNat)
  case atStart => exact ⟨0, by omega, rfl, Lib.hid (OwnV.empty _ _), Lib.hid (ext_alloc _ _)⟩
  case round =>
    obtain ⟨k, hk, rfl, hown, hext⟩ := hrel
    by_cases hlt : k < L.length
    · obtain ⟨b, o, rfl, hb, hcell⟩ := hr (by omega)
      have hx := (hext.out.cell (p := ⟨b, o + k, none⟩) hb).trans (hcell k hlt)
      have HLEN : Hid ((fullOf (L.take k)).length ≤ 1000000000) := Lib.hid (by have := fullOf_len L k; have := HLN.out; omega)
      have hlo := hext.out.size
      clear hcell hr
      cases he : L[k].toList.isEmpty
      · have HN := Lib.hid (fullOf_hit hlt he)
        have he2 : L[k].toList ≠ [] := by simpa using he
        generalize L[k] = x at *
        go_wp2_with (at_builtin; refine wp_appS wr rfl _ _ rfl w1.heap.size u4 (fullOf (L.take k)) rfl hown.out x rfl HLEN.out hlo ?_; intro v2 w2 ho2 hg2)
        exact ⟨⟨k + 1, by omega, by go_num, Lib.hid (by rw [HN.out]; exact ho2), Lib.hid (ext_app hext.out hown.out hg2)⟩, by simp only [intOf]; omega⟩
      · have HN := Lib.hid (fullOf_skip hlt he)
        have he2 : L[k].toList = [] := by simpa using he
        generalize L[k] = x at *
        go_wp2
        exact ⟨⟨k + 1, by omega, by go_num, Lib.hid (by rw [HN.out]; exact hown.out), hext⟩, by simp only [intOf]; omega⟩
    · obtain rfl : k = L.length := by omega
      go_wp2
      go_ret
      exact ⟨_, rfl, by rw [HW.out]; exact hown.out.mono X1.out.size, X1.out.trans hext.out⟩
def laidSplit_ren : Go.Shelf.Ren := ⟨fun | 146 => 28 | 221 => 39 | 268 => 52 | 138 => 53 | 143 => 54 | 195 => 68 | 197 => 69 | 218 => 70 | 219 => 71 | 260 => 81 | 217 => 82 | 225 => 83 | 224 => 84 | 267 => 85 | 266 => 87 | 314 => 88 | n => n, fun | 9 => 9 | 31 => 24 | 3 => 3 | 4 => 4 | 0 => 0 | 105 => 88 | 21 => 21 | 5 => 5 | 46 => 76 | 119 => 105 | 139 => 108 | 138 => 107 | 146 => 109 | 51 => 83 | n => n, fun | 1 => 3 | 3 => 6 | 4 => 7 | n => n⟩
theorem laidSplit : Go.Proofs.LaysM.n146 Tryd.prog laidSplit_ren := {
  mixed := by kernel_rfl
  f138 := Tryd.func53.trans (congrArg some (by kernel_rfl))
  f143 := Tryd.func54.trans (congrArg some (by kernel_rfl))
  f146 := Tryd.func28.trans (congrArg some (by kernel_rfl))
  f195 := Tryd.func68.trans (congrArg some (by kernel_rfl))
  f197 := Tryd.func69.trans (congrArg some (by kernel_rfl))
  f217 := Tryd.func82.trans (congrArg some (by kernel_rfl))
  f218 := Tryd.func70.trans (congrArg some (by kernel_rfl))
  f219 := Tryd.func71.trans (congrArg some (by kernel_rfl))
  f221 := Tryd.func39.trans (congrArg some (by kernel_rfl))
  f224 := Tryd.func84.trans (congrArg some (by kernel_rfl))
  f225 := Tryd.func83.trans (congrArg some (by kernel_rfl))
  f260 := Tryd.func81.trans (congrArg some (by kernel_rfl))
  f266 := Tryd.func87.trans (congrArg some (by kernel_rfl))
  f267 := Tryd.func85.trans (congrArg some (by kernel_rfl))
  f268 := Tryd.func52.trans (congrArg some (by kernel_rfl))
  f314 := Tryd.func88.trans (congrArg some (by kernel_rfl))
  t0 := Tryd.underlying0
  a0 := Tryd.isAgg0
  z0 := Tryd.sizeOf0
  v0 := Tryd.zeroValue0
  t3 := Tryd.underlying3
  a3 := Tryd.isAgg3
  z3 := Tryd.sizeOf3
  v3 := Tryd.zeroValue3
  t4 := Tryd.underlying4
  a4 := Tryd.isAgg4
  z4 := Tryd.sizeOf4
  v4 := Tryd.zeroValue4
  t5 := Tryd.underlying5
  a5 := Tryd.isAgg5
  z5 := Tryd.sizeOf5
  v5 := Tryd.zeroValue5
  t9 := Tryd.underlying9
  a9 := Tryd.isAgg9
  z9 := Tryd.sizeOf9
  v9 := Tryd.zeroValue9
  t21 := Tryd.underlying21
  a21 := Tryd.isAgg21
  z21 := Tryd.sizeOf21
  v21 := Tryd.zeroValue21
  t31 := Tryd.underlying24
  a31 := Tryd.isAgg24
  z31 := Tryd.sizeOf24
  v31 := Tryd.zeroValue24
  t46 := Tryd.underlying76
  a46 := Tryd.isAgg76
  z46 := Tryd.sizeOf76
  v46 := Tryd.zeroValue76
  t51 := Tryd.underlying83
  a51 := Tryd.isAgg83
  z51 := Tryd.sizeOf83
  v51 := Tryd.zeroValue83
  t105 := Tryd.underlying88
  a105 := Tryd.isAgg88
  z105 := Tryd.sizeOf88
  v105 := Tryd.zeroValue88
  t119 := Tryd.underlying105
  a119 := Tryd.isAgg105
  z119 := Tryd.sizeOf105
  t138 := Tryd.underlying107
  a138 := Tryd.isAgg107
  z138 := Tryd.sizeOf107
  v138 := Tryd.zeroValue107
  t139 := Tryd.underlying108
  a139 := Tryd.isAgg108
  z139 := Tryd.sizeOf108
  v139 := Tryd.zeroValue108
  t146 := Tryd.underlying109
  a146 := Tryd.isAgg109
  z146 := Tryd.sizeOf109
  v146 := Tryd.zeroValue109
  g1 := by kernel_rfl
  g3 := by kernel_rfl
  g4 := by kernel_rfl
  i0 := by kernel_rfl
  i3 := by kernel_rfl
  i4 := by kernel_rfl
  i5 := by kernel_rfl
  i9 := by kernel_rfl
  i21 := by kernel_rfl
  i31 := by kernel_rfl
  i46 := by kernel_rfl
  i51 := by kernel_rfl
  i105 := by kernel_rfl
  i138 := by kernel_rfl
  i139 := by kernel_rfl
  i146 := by kernel_rfl
  m1 := by kernel_rfl
  s1_3 := fun w h => Go.Proofs.cell_of_shapedOpen_int (zero := #[.int .i64 0]) (t := 3) h (of_decide_eq_true (by kernel_rfl)) (by kernel_rfl) rfl (by kernel_rfl) (by kernel_rfl) Tryd.underlying3
  m3 := by kernel_rfl
  m4 := by kernel_rfl }
theorem hi_str : (Tryd.prog.info? 9).map (fun i => (i.zero, i.size, i.bytes)) = some (some (.string ByteArray.empty), 1, 16) := by kernel_rfl
/-- The cell of the library's variable that its search reads holds some number. -/
def MaxOk (w : World) : Prop := ∃ m, w.cell? ⟨3, 0, none⟩ = some (.int .i64 m)
theorem MaxOk.ext {w w' : World} (h : MaxOk w) (hb : Ext w w') : MaxOk w' := by
  obtain ⟨m, hm⟩ := h
  have hl : 3 < w.heap.size := World.block_lt_of_cell? w _ hm
  exact ⟨m, by rw [hb.cell (p := ⟨3, 0, none⟩) hl]; exact hm⟩
theorem i_Split (s : ByteArray) (c : UInt8) (w : World) (HS : s.size ≤ 1048576) (hm : MaxOk w) : Calls Tryd.prog 28 #[.string s, .string ⟨#[c]⟩] w (RetStrs w (pieces c s)) := by
  obtain ⟨m, hm⟩ := hm
  refine (Any.strings_Split { laidSplit with } hi_str s ⟨#[c]⟩ m w (by omega) hm (Nat.le_refl 1)).mono ?_
  rintro e w' ⟨rfl, rfl⟩
  rw [pieces_eq, ← pieces_len]
  refine ⟨_, rfl, ?_, ext_alloc _ _⟩
  have h := World.ownsRow_lit (base := w.heap.size) (e := 9) (size := 1) w ((pieces c s).map Value.string).toArray (pieces c s).length (Nat.le_refl _) (by have := pieces_le c s; unfold maxLen; omega) (by simp)
  unfold OwnS OwnV
  rw [List.length_map]
  simp only [List.toList_toArray] at h
  exact h
set_option maxRecDepth 100000 in
theorem i_SplitWords (s : ByteArray) (w : World) (HS : Hid (s.size ≤ 1048576)) (hmx : MaxOk w) : Calls Tryd.prog 11 #[.string s] w (RetStrs w (words s)) := by
  have HMX := Lib.hid hmx
  clear hmx
  go_enter Tryd.func11, Tryd.ntmps11
  go_wp2_with fail
  refine (i_Split s 32 _ HS.out HMX.out).mono ?_
  rintro e w1 ⟨v1, rfl, o1, x1⟩
  obtain ⟨L, HL⟩ : ∃ L, Hid (L = pieces 32 s) := ⟨_, Lib.hid rfl⟩
  rw [← HL.out] at o1
  have HLN : Hid (L.length ≤ 2000000) := Lib.hid (by rw [HL.out]; have := pieces_le 32 s; have := HS.out; omega)
  have HW : Hid (words s = fullOf (L.take L.length)) := Lib.hid (by rw [HL.out, fullOf_words])
  obtain ⟨a, cap, rfl, hc, hm, hr⟩ := o1.rdS
  have X1 := Lib.hid x1
  clear o1 x1
  go_wp2
  go_loopw [3, 9] (fun v i wr => ∃ (k : Nat), k ≤ L.length ∧ i = .int .i64 (k : Int) ∧ Hid (OwnS wr w1.heap.size v (fullOf (L.take k))) ∧ Hid (Ext w1 wr)) (fun _ i _ => L.length - (intOf i).toNat)
  case atStart => exact ⟨0, by omega, rfl, Lib.hid (OwnV.nil _ _ _), Lib.hid (Ext.refl _)⟩
  case round =>
    obtain ⟨k, hk, rfl, hown, hext⟩ := hrel
    by_cases hlt : k < L.length
    · obtain ⟨b, o, rfl, hb, hcell⟩ := hr (by omega)
      have hx := (hext.out.cell (p := ⟨b, o + k, none⟩) hb).trans (hcell k hlt)
      have HLEN : Hid ((fullOf (L.take k)).length ≤ 1000000000) := Lib.hid (by have := fullOf_len L k; have := HLN.out; omega)
      have hlo := hext.out.size
      clear hcell hr
      cases he : L[k].toList.isEmpty
      · have HN := Lib.hid (fullOf_hit hlt he)
        have he2 : L[k].toList ≠ [] := by simpa using he
        generalize L[k] = x at *
        go_wp2_with (at_builtin; refine wp_appS wr rfl _ _ rfl w1.heap.size u3 (fullOf (L.take k)) rfl hown.out x rfl HLEN.out hlo ?_; intro v2 w2 ho2 hg2)
        exact ⟨⟨k + 1, by omega, by go_num, Lib.hid (by rw [HN.out]; exact ho2), Lib.hid (ext_app hext.out hown.out hg2)⟩, by simp only [intOf]; omega⟩
      · have HN := Lib.hid (fullOf_skip hlt he)
        have he2 : L[k].toList = [] := by simpa using he
        generalize L[k] = x at *
        go_wp2
        exact ⟨⟨k + 1, by omega, by go_num, Lib.hid (by rw [HN.out]; exact hown.out), hext⟩, by simp only [intOf]; omega⟩
    · obtain rfl : k = L.length := by omega
      go_wp2
      go_ret
      exact ⟨_, rfl, by rw [HW.out]; exact hown.out.mono X1.out.size, X1.out.trans hext.out⟩
theorem l_SplitWords (s : ByteArray) (hs : s.size ≤ maxLen) (w : World) (hmx : MaxOk w) : Calls Tryd.prog 4 #[.string s] w fun e w' => e = .returned (.bool true) ∧ Ext w w' := by
  have HS0 := Lib.hid hs
  have HMX := Lib.hid hmx
  clear hmx
  unfold maxLen at hs
  by_cases hl : 1048576 < s.size
  · go_enter Tryd.func4, Tryd.ntmps4
    go_wp2
    go_ret
    exact ⟨rfl, Ext.refl _⟩
  have HS : Hid (s.size ≤ 1048576) := Lib.hid (by omega)
  obtain ⟨R, HR⟩ : ∃ R : List ByteArray, Hid (R = words s) := ⟨_, Lib.hid rfl⟩
  have HB : Hid (1 + R.length ≤ 4000000) := Lib.hid (by rw [HR.out]; have := words_le s; have := HS.out; omega)
  have H1 : Hid (0 < 1) := Lib.hid (by omega)
  go_enter Tryd.func4, Tryd.ntmps4
  go_wp2_with fail
  refine (s_SplitWords s _ HS0.out HS).mono ?_
  rintro e w1 ⟨uw, rfl, W1, x1⟩
  rw [← HR.out] at W1
  go_wp2_with fail
  refine (i_SplitWords s _ HS (HMX.out.ext x1)).mono ?_
  rintro e w2 ⟨ug, rfl, G2, x2⟩
  rw [← HR.out] at G2
  have W2 := W1.ext x2
  have X2 := Ext.trans x1 x2
  have z2 := x2.size
  go_wp2_with fail
  refine (l_eqStringS_t _ _ R _ G2.rdS W2.rdS).mono ?_
  rintro e w3 ⟨rfl, d3⟩
  have x3 := d3.ext
  have W3 := W2.ext x3
  have G3 := G2.ext x3
  have X3 := Ext.trans X2 x3
  go_wp2_with fail
  refine (l_markStringS _ 1 R _ _ H1 HB G3).mono ?_
  rintro e w4 ⟨rfl, G4, g4⟩
  have W4 := W3.kept g4 (W1.apart G3 (Nat.le_refl _))
  have X4 : Ext w w4 := Below.grown X3 g4 X3.size (fun j hj => Nat.le_trans x1.size (G3.lt j hj).1)
  go_wp2_with fail
  refine (l_heldStringS _ 1 R.length _ H1 HB G4.rdS).mono ?_
  rintro e w5 ⟨rfl, x5⟩
  have W5 := W4.ext x5
  have G5 := G4.ext x5
  have X5 := Ext.trans X4 x5
  go_wp2_with fail
  refine (i_SplitWords s _ HS (HMX.out.ext X5)).mono ?_
  rintro e w6 ⟨uh, rfl, V6, x6⟩
  rw [← HR.out] at V6
  have W6 := W5.ext x6
  have G6 := G5.ext x6
  have X6 := Ext.trans X5 x6
  go_wp2_with fail
  refine (l_eqStringS_t _ _ R _ V6.rdS W6.rdS).mono ?_
  rintro e w7 ⟨rfl, d7⟩
  have G7 := G6.ext d7.ext
  have X7 := Ext.trans X6 d7.ext
  go_wp2_with fail
  refine (l_heldStringS _ 1 R.length _ H1 HB G7.rdS).mono ?_
  rintro e w8 ⟨rfl, x8⟩
  go_wp2
  go_ret
  exact ⟨rfl, X7.trans x8⟩
end Go.Proofs.YthibddfcjnljfaaDoor
