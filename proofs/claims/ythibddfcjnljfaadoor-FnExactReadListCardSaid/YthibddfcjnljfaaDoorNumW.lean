/- ReadDecimal: the walks of the program and of the reference, and the law. No condition. -/
import Derived.Test.YthibddfcjnljfaaDoorDec
import Derived.Test.YthibddfcjnljfaaDoorNumP
import Derived.Shelf.Strings.Prefix
import Derived.Shelf.Strconv.ParseIntPublic10
import Derived.Lib.SmallJoins
namespace Go.Proofs.YthibddfcjnljfaaDoor
open Go.RowKit Go.Shelf

/-- A variable of an error's type holds an error. -/
def ErrCell (g : Nat) (w : World) : Prop := ∃ tp p, w.cell? ⟨g, 0, none⟩ = some (.iface tp p)
theorem ErrCell.ext {g : Nat} {w w' : World} (h : ErrCell g w) (hb : Ext w w') : ErrCell g w' := by
  obtain ⟨tp, p, h⟩ := h
  have hl : g < w.heap.size := World.block_lt_of_cell? w _ h
  exact ⟨tp, p, by rw [hb.cell (p := ⟨g, 0, none⟩) hl]; exact h⟩
/-- What the library's reading leans on. -/
structure NumLaid (w : World) : Prop where
  tab : Lib.TabIs Tryd.prog w "internal/strconv.uint64pow10" .u64 Lib.pow10Tab
  syn : ErrCell 1 w
  rng : ErrCell 2 w
theorem NumLaid.ext {w w' : World} (h : NumLaid w) (hb : Ext w w') : NumLaid w' := ⟨tab_ext h.tab hb, h.syn.ext hb, h.rng.ext hb⟩
def laidParse_ren : Go.Shelf.Ren := ⟨fun | 174 => 37 | 247 => 46 | 245 => 47 | 287 => 58 | 279 => 59 | 280 => 60 | 281 => 61 | 282 => 62 | 321 => 74 | 322 => 75 | 316 => 76 | 171 => 78 | 205 => 77 | 243 => 86 | 246 => 38 | 283 => 48 | 284 => 49 | 285 => 50 | 286 => 51 | 129 => 64 | 317 => 63 | 318 => 65 | 319 => 66 | 320 => 67 | 337 => 79 | 338 => 80 | n => n, fun | 9 => 9 | 3 => 3 | 2 => 2 | 75 => 48 | 85 => 49 | 4 => 4 | 167 => 73 | 5 => 5 | 53 => 64 | 175 => 74 | 46 => 76 | 168 => 77 | 37 => 51 | 0 => 0 | 210 => 97 | 21 => 21 | 127 => 71 | 145 => 102 | 143 => 100 | 171 => 63 | 173 => 67 | 212 => 82 | 51 => 83 | 20 => 20 | 213 => 84 | 232 => 103 | 233 => 104 | 80 => 60 | n => n, fun | 15 => 1 | 16 => 2 | 17 => 0 | 18 => 4 | 19 => 5 | n => n⟩
theorem laidParse : Go.Proofs.LaysC.n174 Tryd.prog laidParse_ren := {
  mixed := by kernel_rfl
  f129 := Tryd.func64.trans (congrArg some (by kernel_rfl))
  f171 := Tryd.func78.trans (congrArg some (by kernel_rfl))
  f174 := Tryd.func37.trans (congrArg some (by kernel_rfl))
  f205 := Tryd.func77.trans (congrArg some (by kernel_rfl))
  f243 := Tryd.func86.trans (congrArg some (by kernel_rfl))
  f245 := Tryd.func47.trans (congrArg some (by kernel_rfl))
  f246 := Tryd.func38.trans (congrArg some (by kernel_rfl))
  f247 := Tryd.func46.trans (congrArg some (by kernel_rfl))
  f279 := Tryd.func59.trans (congrArg some (by kernel_rfl))
  f280 := Tryd.func60.trans (congrArg some (by kernel_rfl))
  f281 := Tryd.func61.trans (congrArg some (by kernel_rfl))
  f282 := Tryd.func62.trans (congrArg some (by kernel_rfl))
  f283 := Tryd.func48.trans (congrArg some (by kernel_rfl))
  f284 := Tryd.func49.trans (congrArg some (by kernel_rfl))
  f285 := Tryd.func50.trans (congrArg some (by kernel_rfl))
  f286 := Tryd.func51.trans (congrArg some (by kernel_rfl))
  f287 := Tryd.func58.trans (congrArg some (by kernel_rfl))
  f316 := Tryd.func76.trans (congrArg some (by kernel_rfl))
  f317 := Tryd.func63.trans (congrArg some (by kernel_rfl))
  f318 := Tryd.func65.trans (congrArg some (by kernel_rfl))
  f319 := Tryd.func66.trans (congrArg some (by kernel_rfl))
  f320 := Tryd.func67.trans (congrArg some (by kernel_rfl))
  f321 := Tryd.func74.trans (congrArg some (by kernel_rfl))
  f322 := Tryd.func75.trans (congrArg some (by kernel_rfl))
  f337 := Tryd.func79.trans (congrArg some (by kernel_rfl))
  f338 := Tryd.func80.trans (congrArg some (by kernel_rfl))
  t0 := Tryd.underlying0
  a0 := Tryd.isAgg0
  z0 := Tryd.sizeOf0
  v0 := Tryd.zeroValue0
  t2 := Tryd.underlying2
  a2 := Tryd.isAgg2
  z2 := Tryd.sizeOf2
  v2 := Tryd.zeroValue2
  t3 := Tryd.underlying3
  a3 := Tryd.isAgg3
  z3 := Tryd.sizeOf3
  v3 := Tryd.zeroValue3
  t4 := Tryd.underlying4
  a4 := Tryd.isAgg4
  z4 := Tryd.sizeOf4
  v4 := Tryd.zeroValue4
  t5 := Tryd.underlying5
  a5 := Tryd.isAgg5
  z5 := Tryd.sizeOf5
  v5 := Tryd.zeroValue5
  t9 := Tryd.underlying9
  a9 := Tryd.isAgg9
  z9 := Tryd.sizeOf9
  v9 := Tryd.zeroValue9
  t20 := Tryd.underlying20
  a20 := Tryd.isAgg20
  z20 := Tryd.sizeOf20
  v20 := Tryd.zeroValue20
  t21 := Tryd.underlying21
  a21 := Tryd.isAgg21
  z21 := Tryd.sizeOf21
  v21 := Tryd.zeroValue21
  t37 := Tryd.underlying51
  a37 := Tryd.isAgg51
  z37 := Tryd.sizeOf51
  v37 := Tryd.zeroValue51
  t46 := Tryd.underlying76
  a46 := Tryd.isAgg76
  z46 := Tryd.sizeOf76
  v46 := Tryd.zeroValue76
  t51 := Tryd.underlying83
  a51 := Tryd.isAgg83
  z51 := Tryd.sizeOf83
  v51 := Tryd.zeroValue83
  t53 := Tryd.underlying64
  a53 := Tryd.isAgg64
  z53 := Tryd.sizeOf64
  v53 := Tryd.zeroValue64
  t75 := Tryd.underlying48
  a75 := Tryd.isAgg48
  z75 := Tryd.sizeOf48
  v75 := Tryd.zeroValue48
  t85 := Tryd.underlying49
  a85 := Tryd.isAgg49
  z85 := Tryd.sizeOf49
  v85 := Tryd.zeroValue49
  t127 := Tryd.underlying71
  a127 := Tryd.isAgg71
  z127 := Tryd.sizeOf71
  v127 := Tryd.zeroValue71
  t143 := Tryd.underlying100
  a143 := Tryd.isAgg100
  z143 := Tryd.sizeOf100
  v143 := Tryd.zeroValue100
  t145 := Tryd.underlying102
  a145 := Tryd.isAgg102
  z145 := Tryd.sizeOf102
  v145 := Tryd.zeroValue102
  t167 := Tryd.underlying73
  a167 := Tryd.isAgg73
  z167 := Tryd.sizeOf73
  v167 := Tryd.zeroValue73
  t168 := Tryd.underlying77
  a168 := Tryd.isAgg77
  z168 := Tryd.sizeOf77
  v168 := Tryd.zeroValue77
  t171 := Tryd.underlying63
  a171 := Tryd.isAgg63
  z171 := Tryd.sizeOf63
  v171 := Tryd.zeroValue63
  t173 := Tryd.underlying67
  a173 := Tryd.isAgg67
  z173 := Tryd.sizeOf67
  v173 := Tryd.zeroValue67
  t175 := Tryd.underlying74
  a175 := Tryd.isAgg74
  z175 := Tryd.sizeOf74
  v175 := Tryd.zeroValue74
  t210 := Tryd.underlying97
  a210 := Tryd.isAgg97
  z210 := Tryd.sizeOf97
  v210 := Tryd.zeroValue97
  t212 := Tryd.underlying82
  a212 := Tryd.isAgg82
  z212 := Tryd.sizeOf82
  v212 := Tryd.zeroValue82
  t213 := Tryd.underlying84
  a213 := Tryd.isAgg84
  z213 := Tryd.sizeOf84
  t232 := Tryd.underlying103
  a232 := Tryd.isAgg103
  z232 := Tryd.sizeOf103
  v232 := Tryd.zeroValue103
  t233 := Tryd.underlying104
  a233 := Tryd.isAgg104
  z233 := Tryd.sizeOf104
  v233 := Tryd.zeroValue104
  g15 := by kernel_rfl
  g16 := by kernel_rfl
  g17 := by kernel_rfl
  g18 := by kernel_rfl
  g19 := by kernel_rfl
  t80 := Tryd.underlying60
  a80 := Tryd.isAgg60
  z80 := Tryd.sizeOf60
  v80 := Tryd.zeroValue60
  i0 := by kernel_rfl
  i2 := by kernel_rfl
  i3 := by kernel_rfl
  i4 := by kernel_rfl
  i5 := by kernel_rfl
  i9 := by kernel_rfl
  i20 := by kernel_rfl
  i21 := by kernel_rfl
  i37 := by kernel_rfl
  i46 := by kernel_rfl
  i51 := by kernel_rfl
  i53 := by kernel_rfl
  i75 := by kernel_rfl
  i80 := by kernel_rfl
  i85 := by kernel_rfl
  i127 := by kernel_rfl
  i143 := by kernel_rfl
  i145 := by kernel_rfl
  i167 := by kernel_rfl
  i168 := by kernel_rfl
  i171 := by kernel_rfl
  i173 := by kernel_rfl
  i175 := by kernel_rfl
  i210 := by kernel_rfl
  i212 := by kernel_rfl
  i232 := by kernel_rfl
  i233 := by kernel_rfl
  m15 := by kernel_rfl
  m16 := by kernel_rfl
  m17 := by kernel_rfl
  m18 := by kernel_rfl
  m19 := by kernel_rfl
  c0 := by kernel_rfl
  c2 := by kernel_rfl
  c3 := by kernel_rfl
  c4 := by kernel_rfl
  c5 := by kernel_rfl
  c9 := by kernel_rfl
  c20 := by kernel_rfl
  c21 := by kernel_rfl
  c37 := by kernel_rfl
  c46 := by kernel_rfl
  c51 := by kernel_rfl
  c53 := by kernel_rfl
  c75 := by kernel_rfl
  c80 := by kernel_rfl
  c85 := by kernel_rfl
  c127 := by kernel_rfl
  c143 := by kernel_rfl
  c145 := by kernel_rfl
  c167 := by kernel_rfl
  c168 := by kernel_rfl
  c171 := by kernel_rfl
  c173 := by kernel_rfl
  c175 := by kernel_rfl
  c210 := by kernel_rfl
  c212 := by kernel_rfl
  c213 := by kernel_rfl
  c232 := by kernel_rfl
  c233 := by kernel_rfl }
def laidTrim_ren : Go.Shelf.Ren := ⟨fun | 101 => 36 | 208 => 45 | 206 => 57 | n => n, fun | 9 => 9 | 4 => 4 | 3 => 3 | n => n, fun | n => n⟩
theorem laidTrim : Go.Proofs.Lays.n101 Tryd.prog laidTrim_ren := {
  mixed := by kernel_rfl
  f101 := Tryd.func36.trans (congrArg some (by kernel_rfl))
  f206 := Tryd.func57.trans (congrArg some (by kernel_rfl))
  f208 := Tryd.func45.trans (congrArg some (by kernel_rfl))
  t3 := Tryd.underlying3
  a3 := Tryd.isAgg3
  z3 := Tryd.sizeOf3
  v3 := Tryd.zeroValue3
  t4 := Tryd.underlying4
  a4 := Tryd.isAgg4
  z4 := Tryd.sizeOf4
  v4 := Tryd.zeroValue4
  t9 := Tryd.underlying9
  a9 := Tryd.isAgg9
  z9 := Tryd.sizeOf9
  v9 := Tryd.zeroValue9 }
theorem i_Parse (s : ByteArray) (w : World) (hs : s.size ≤ 1048576) (hl : NumLaid w) : Calls Tryd.prog 37 #[.string s, .int .i64 10, .int .i64 64] w fun e w' =>
    ((∃ v, Lib.parseIntB 64 s.data.toList = .ok v ∧ e = .returned (.tuple #[.int .i64 v, .nilIface])) ∨ ((∀ v, Lib.parseIntB 64 s.data.toList ≠ .ok v) ∧ ∃ z t N, e = .returned (.tuple #[.int .i64 z, .iface t (.pointer (some ⟨N, 0, none⟩))]))) ∧ Ext w w' := by
  cases hp : Lib.parseIntB 64 s.data.toList with
  | ok v =>
    refine (Any.strconv_ParseInt_10_at64_ok laidParse s (by omega) v hp w).mono ?_
    rintro e w' ⟨rfl, h⟩
    refine ⟨.inl ⟨v, rfl, rfl⟩, ?_⟩
    rcases h with rfl | ⟨t, rfl⟩
    · exact Ext.refl _
    · exact Joins.below_bytesWorld _ _ _ _ (Nat.le_refl _)
  | range =>
    obtain ⟨tp, p, hc⟩ := hl.rng
    refine (Any.strconv_ParseInt_10_at64_range laidParse s (by omega) hp (.iface tp p) w hc (.inr ⟨tp, p, rfl⟩)).mono ?_
    rintro e w' ⟨N, rfl, _, _, hb⟩
    exact ⟨.inr ⟨(fun v h => by cases h), _, _, N, rfl⟩, hb⟩
  | _ =>
    obtain ⟨tp, p, hc⟩ := hl.syn
    refine (Any.strconv_ParseInt_10_at64_syntax laidParse s (by omega) hp (.iface tp p) w hc (.inr ⟨tp, p, rfl⟩)).mono ?_
    rintro e w' ⟨N, rfl, _, _, hb⟩
    exact ⟨.inr ⟨(fun v h => by cases h), _, _, N, rfl⟩, hb⟩
/-- The call hands back a number, or none. -/
def RetNum (o : Option Int) (w : World) (e : Ending) (w' : World) : Prop := e = .returned (.tuple #[.int .i64 (o.getD 0), .bool o.isSome]) ∧ Ext w w'
theorem numOf_out {s : List UInt8} (h : ¬ (1 ≤ (trimL s).length ∧ (trimL s).length ≤ 18)) : numOf s = none := by
  unfold numOf; rw [if_neg h]
theorem numOf_ok {s : List UInt8} {v : Int} (h : 1 ≤ (trimL s).length ∧ (trimL s).length ≤ 18) (hp : Lib.parseIntB 64 s = .ok v) : numOf s = if Lib.itoa v = s then some v else none := by
  unfold numOf; rw [if_pos h, hp]
theorem numOf_bad {s : List UInt8} (hp : ∀ v, Lib.parseIntB 64 s ≠ .ok v) : numOf s = none := by
  unfold numOf
  split
  · cases h : Lib.parseIntB 64 s with
    | ok v => exact absurd h (hp v)
    | _ => rfl
  · rfl
theorem parse_bd {s : List UInt8} {v : Int} (h : Lib.parseIntB 64 s = .ok v) : -9223372036854775808 ≤ v ∧ v ≤ 9223372036854775807 := by
  have e63 : (2 : Nat) ^ (64 - 1) = 9223372036854775808 := by decide
  have := Lib.parseIntB_bounds h
  rw [e63] at this
  omega
set_option maxRecDepth 100000 in
theorem i_ReadDecimal (s : ByteArray) (w : World) (HS : Hid (s.size ≤ 1048576)) (hl : NumLaid w) : Calls Tryd.prog 20 #[.string s] w (RetNum (numOf s.data.toList) w) := by
  have HL := Lib.hid hl
  clear hl
  obtain ⟨R, HR⟩ : ∃ R, Hid (R = numOf s.data.toList) := ⟨_, Lib.hid rfl⟩
  rw [← HR.out]
  obtain ⟨D, HD⟩ : ∃ D : ByteArray, Hid (D = bs (trimL s.data.toList)) := ⟨_, Lib.hid rfl⟩
  have HDZ : Hid (D.size = (trimL s.data.toList).length) := Lib.hid (by rw [HD.out]; simp [ByteArray.size])
  by_cases h1 : D.size < 1
  · have HN : Hid (R = none) := Lib.hid (by rw [HR.out]; exact numOf_out (by rw [← HDZ.out]; omega))
    go_enter Tryd.func20, Tryd.ntmps20
    go_wp2_with fail
    refine (Any.strings_TrimPrefix laidTrim s ⟨#[45]⟩ _).mono ?_
    rintro e w1 ⟨rfl, rfl⟩
    rw [show (.string ⟨(Lib.trimPrefix s.data.toList ((⟨#[45]⟩ : ByteArray).data.toList)).toArray⟩ : Value) = .string D by rw [HD.out]; rfl]
    go_wp2
    go_ret2
    exact ⟨by rw [HN.out]; rfl, Ext.refl _⟩
  by_cases h2 : 18 < D.size
  · have HN : Hid (R = none) := Lib.hid (by rw [HR.out]; exact numOf_out (by rw [← HDZ.out]; omega))
    go_enter Tryd.func20, Tryd.ntmps20
    go_wp2_with fail
    refine (Any.strings_TrimPrefix laidTrim s ⟨#[45]⟩ _).mono ?_
    rintro e w1 ⟨rfl, rfl⟩
    rw [show (.string ⟨(Lib.trimPrefix s.data.toList ((⟨#[45]⟩ : ByteArray).data.toList)).toArray⟩ : Value) = .string D by rw [HD.out]; rfl]
    go_wp2
    go_ret2
    exact ⟨by rw [HN.out]; rfl, Ext.refl _⟩
  have HI : Hid (1 ≤ (trimL s.data.toList).length ∧ (trimL s.data.toList).length ≤ 18) := Lib.hid (by rw [← HDZ.out]; omega)
  go_enter Tryd.func20, Tryd.ntmps20
  go_wp2_with fail
  refine (Any.strings_TrimPrefix laidTrim s ⟨#[45]⟩ _).mono ?_
  rintro e w1 ⟨rfl, rfl⟩
  rw [show (.string ⟨(Lib.trimPrefix s.data.toList ((⟨#[45]⟩ : ByteArray).data.toList)).toArray⟩ : Value) = .string D by rw [HD.out]; rfl]
  go_wp2_with fail
  refine (i_Parse s _ HS.out HL.out).mono ?_
  rintro e w2 ⟨⟨v, hv, rfl⟩ | ⟨hno, z, t, N, rfl⟩, x2⟩
  · have HB := Lib.hid (parse_bd hv)
    have HN : Hid (R = if Lib.itoa v = s.data.toList then some v else none) := Lib.hid (by rw [HR.out]; exact numOf_ok HI.out hv)
    clear hv
    go_wp2_with fail
    refine (i_Decimal v _ HB.out.1 HB.out.2 (HL.out.ext x2).tab).mono ?_
    rintro e w3 ⟨rfl, x3⟩
    by_cases he : Lib.itoa v = s.data.toList
    · have HN2 : Hid (R = some v) := Lib.hid (by rw [HN.out, if_pos he])
      rw [show (.string ⟨(Lib.itoa v).toArray⟩ : Value) = .string s by rw [he]]
      clear he HN
      go_wp2
      go_ret2
      exact ⟨by rw [HN2.out]; rfl, x2.trans x3⟩
    · have HN2 : Hid (R = none) := Lib.hid (by rw [HN.out, if_neg he])
      obtain ⟨T, HT⟩ : ∃ T : ByteArray, Hid (T = bs (Lib.itoa v)) := ⟨_, Lib.hid rfl⟩
      have hne : (T.toList == s.toList) = false := beq_eq_false_iff_ne.2 (by
        rw [ByteArray.toList_eq, ByteArray.toList_eq, HT.out]
        exact he)
      rw [show (.string ⟨(Lib.itoa v).toArray⟩ : Value) = .string T by rw [HT.out]]
      clear he HN
      go_wp2
      go_ret2
      exact ⟨by rw [HN2.out]; rfl, x2.trans x3⟩
  · have HN : Hid (R = none) := Lib.hid (by rw [HR.out]; exact numOf_bad hno)
    clear hno
    go_wp2
    go_ret2
    exact ⟨by rw [HN.out]; rfl, x2⟩
theorem s_digit (c : UInt8) (w : World) :
    Calls Tryd.prog 44 #[.int .u8 (c.toNat : Int)] w fun e w' => e = .returned (.bool (digB c)) ∧ w = w' := by
  by_cases h1 : (48 : Int) ≤ (c.toNat : Int)
  · by_cases h2 : (c.toNat : Int) ≤ 57
    · have G : Hid (digB c = true) := Lib.hid (by simp [digB]; omega)
      go_enter Tryd.func44, Tryd.ntmps44
      go_wp2
      go_ret
      exact ⟨ret_bool G.out.symm, rfl⟩
    · have G : Hid (digB c = false) := Lib.hid (by simp [digB]; omega)
      go_enter Tryd.func44, Tryd.ntmps44
      go_wp2
      go_ret
      exact ⟨ret_bool G.out.symm, rfl⟩
  · have G : Hid (digB c = false) := Lib.hid (by simp [digB]; omega)
    go_enter Tryd.func44, Tryd.ntmps44
    go_wp2
    go_ret
    exact ⟨ret_bool G.out.symm, rfl⟩
theorem numS_out {s : List UInt8} (h : ¬ (1 ≤ (trimL s).length ∧ (trimL s).length ≤ 18)) : numS s = none := by
  unfold numS; rw [if_neg h]
theorem numS_bad {s : List UInt8} (h : (trimL s).all digB = false) : numS s = none := by
  unfold numS
  split
  · rw [h, if_neg (by simp)]
  · rfl
theorem numS_ok {s : List UInt8} (h : 1 ≤ (trimL s).length ∧ (trimL s).length ≤ 18) (hd : (trimL s).all digB = true) : numS s = if Lib.itoa (numV s) = s then some (numV s) else none := by
  unfold numS; rw [if_pos h, if_pos hd]
theorem take_nextB (s : ByteArray) (k : Nat) (h : k < s.size) : s.data.toList.take (k + 1) = s.data.toList.take k ++ [s[k]] := by
  rw [List.take_succ_eq_append_getElem (by simpa using h)]; rfl
theorem all_badB {s : ByteArray} {k : Nat} (h : k < s.size) (hk : digB s[k] = false) : s.data.toList.all digB = false := by
  rw [List.all_eq_false]
  exact ⟨s[k], by
    show s.data[k] ∈ s.data.toList
    exact Array.getElem_mem_toList _, by simp [hk]⟩
theorem trim_minus {s : ByteArray} (h0 : 0 < s.size) (h : s[0] = 45) : (s.extract 1 s.size).data.toList = trimL s.data.toList ∧ (s.extract 1 s.size).size + 1 = s.size ∧ numV s.data.toList = -((valF 0 (trimL s.data.toList) : Nat) : Int) := by
  have e := drop_at s 0 0 (Nat.le_refl _) h0
  simp only [List.take_zero, List.drop_nil, List.nil_append, List.drop_zero] at e
  refine ⟨?_, ?_, ?_⟩
  · rw [ext_data, e, h, trimL_minus]; rfl
  · rw [ByteArray.size_extract]; omega
  · rw [e, h, numV_minus, trimL_minus]
theorem trim_other {s : ByteArray} (h0 : 0 < s.size) (h : s[0] ≠ 45) : s.data.toList = trimL s.data.toList ∧ numV s.data.toList = ((valF 0 (trimL s.data.toList) : Nat) : Int) := by
  have e := drop_at s 0 0 (Nat.le_refl _) h0
  simp only [List.take_zero, List.drop_nil, List.nil_append, List.drop_zero] at e
  refine ⟨?_, ?_⟩
  · conv => rhs; rw [e]
    rw [trimL_other _ _ h, ← e]
  · rw [e, numV_other _ _ h, trimL_other _ _ h]
/-- Half way through the digits. -/
def digMid (t : ByteArray) (k : Nat) (z : Int) : Prop := z = ((valF 0 (t.data.toList.take k) : Nat) : Int) ∧ (t.data.toList.take k).all digB = true
theorem digMid_next {t : ByteArray} {k : Nat} {z : Int} (h : digMid t k z) (hk : k < t.size) (hd : digB t[k] = true) : digMid t (k + 1) (10 * z + ((t[k].toNat : Int) - 48)) := by
  obtain ⟨h1, h2⟩ := h
  have hb := digB_t hd
  refine ⟨?_, ?_⟩
  · rw [take_nextB t k hk, valF_snoc, h1]; omega
  · rw [take_nextB t k hk, List.all_append, h2]; simp [hd]
theorem digMid_lt {t : ByteArray} {k : Nat} {z : Int} (h : digMid t k z) (hk : k ≤ 17) : 0 ≤ z ∧ z < 100000000000000000 := by
  obtain ⟨h1, h2⟩ := h
  have h17 : (10 : Nat) ^ 17 = 100000000000000000 := by decide
  have h3 := val_lt (t.data.toList.take k) 0 0 h2 (by decide)
  have h4 : 10 ^ (0 + (t.data.toList.take k).length) ≤ 10 ^ 17 := Nat.pow_le_pow_right (by omega) (by rw [List.length_take]; omega)
  omega
set_option maxHeartbeats 1000000 in
set_option maxRecDepth 100000 in
theorem s_num_minus (s : ByteArray) (w : World) (R : Option Int) (HR : Hid (R = numS s.data.toList)) (hs0 : s.size ≤ 9223372036854775807) (hp : 0 < s.size) (h45 : s[0] = 45) (e2 : s.toList.isEmpty = false) (_e3 : s.toList ≠ []) : Calls Tryd.prog 35 #[.string s] w (RetNum R w) := by
  obtain ⟨q1, q2, q3⟩ := trim_minus hp h45
  obtain ⟨t, ht⟩ : ∃ t : ByteArray, s.extract 1 s.size = t := ⟨_, rfl⟩
  rw [ht] at q1 q2
  have HTL := Lib.hid q1
  have HV := Lib.hid q3
  have HLN : Hid (t.size = (trimL s.data.toList).length) := Lib.hid (by rw [← q1]; simp)
  have hb : (((s[0].toNat : Nat) : Int) == 45) = true := by rw [h45]; rfl
  clear q1 q3 h45
  by_cases h1 : t.size < 1
  · first
    | (exfalso; omega)
    | (have HN : Hid (R = none) := Lib.hid (by rw [HR.out]; exact numS_out (by rw [← HLN.out]; omega))
       go_enter Tryd.func35, Tryd.ntmps35
       go_wp2
       go_ret2
       exact ⟨by rw [HN.out]; rfl, Ext.refl _⟩)
  by_cases h2 : 18 < t.size
  · have HN : Hid (R = none) := Lib.hid (by rw [HR.out]; exact numS_out (by rw [← HLN.out]; omega))
    go_enter Tryd.func35, Tryd.ntmps35
    go_wp2
    go_ret2
    exact ⟨by rw [HN.out]; rfl, Ext.refl _⟩
  have HI : Hid (1 ≤ (trimL s.data.toList).length ∧ (trimL s.data.toList).length ≤ 18) := Lib.hid (by rw [← HLN.out]; omega)
  go_enter Tryd.func35, Tryd.ntmps35
  go_wp2
  go_loop [5, 6] (fun n i => ∃ (k : Nat) (z : Int), k ≤ t.size ∧ i = .int .i64 k ∧ n = .int .i64 z ∧ Hid (digMid t k z) ∧ 0 ≤ z ∧ z < 1000000000000000000) (fun _ i => t.size - (intOf i).toNat)
  case atStart => exact ⟨0, 0, by omega, rfl, rfl, Lib.hid ⟨by simp [valF], by simp⟩, by omega, by omega⟩
  case round =>
    obtain ⟨k, z, hk, rfl, rfl, hmid, z0, z1⟩ := hrel
    by_cases hlt : k < t.size
    · cases hd : digB t[k]
      · have HN : Hid (R = none) := Lib.hid (by rw [HR.out]; exact numS_bad (by rw [← HTL.out]; exact all_badB hlt hd))
        have HD := Lib.hid hd
        clear hd
        go_wp2_with (go_at_call 44; refine (s_digit _ _).mono ?_; rintro e w' ⟨rfl, rfl⟩; rw [HD.out])
        go_ret2
        exact ⟨by rw [HN.out]; rfl, Ext.refl _⟩
      · have HM := Lib.hid (digMid_next hmid.out hlt hd)
        have HZ := digMid_lt hmid.out (by omega)
        have hc1 : (48 : Int) ≤ ((t[k].toNat : Nat) : Int) := by have := digB_t hd; omega
        have hc2 : ((t[k].toNat : Nat) : Int) ≤ 57 := by have := digB_t hd; omega
        have HD := Lib.hid hd
        obtain ⟨_, z17⟩ := HZ
        clear hd z1
        go_wp2_with (go_at_call 44; refine (s_digit _ _).mono ?_; rintro e w' ⟨rfl, rfl⟩; rw [HD.out])
        go_round
        case rel => exact ⟨k + 1, 10 * z + (((t[k].toNat : Nat) : Int) - 48), by omega, by go_num, by go_num, HM, by omega, by omega⟩
        case measure => simp only [intOf]; omega
    · have hk' : k = t.size := by omega
      subst hk'
      have HD : Hid ((trimL s.data.toList).all digB = true ∧ z = ((valF 0 (trimL s.data.toList) : Nat) : Int)) := Lib.hid (by
        obtain ⟨h3, h4⟩ := hmid.out
        have e : t.data.toList.take t.size = t.data.toList := List.take_of_length_le (by simp)
        rw [e, HTL.out] at h3 h4
        exact ⟨h4, h3⟩)
      have HN : Hid (R = if Lib.itoa (-z) = s.data.toList then some (-z) else none) := Lib.hid (by rw [HR.out, numS_ok HI.out HD.out.1, HV.out, ← HD.out.2])
      clear hmid
      go_wp2_with fail
      refine (s_dec (-z) _ (by omega) (by omega)).mono ?_
      rintro e w5 ⟨rfl, x5⟩
      by_cases he : Lib.itoa (-z) = s.data.toList
      · have HN2 : Hid (R = some (-z)) := Lib.hid (by rw [HN.out, if_pos he])
        rw [show (.string ⟨(Lib.itoa (-z)).toArray⟩ : Value) = .string s by rw [he]]
        clear he HN
        go_wp2
        go_ret2
        exact ⟨by rw [HN2.out]; rfl, x5⟩
      · have HN2 : Hid (R = none) := Lib.hid (by rw [HN.out, if_neg he])
        obtain ⟨T', HT'⟩ : ∃ T : ByteArray, Hid (T = bs (Lib.itoa (-z))) := ⟨_, Lib.hid rfl⟩
        have hne : (T'.toList == s.toList) = false := beq_eq_false_iff_ne.2 (by
          rw [ByteArray.toList_eq, ByteArray.toList_eq, HT'.out]
          exact he)
        rw [show (.string ⟨(Lib.itoa (-z)).toArray⟩ : Value) = .string T' by rw [HT'.out]]
        clear he HN
        go_wp2
        go_ret2
        exact ⟨by rw [HN2.out]; rfl, x5⟩
set_option maxHeartbeats 1000000 in
set_option maxRecDepth 100000 in
theorem s_num_other (s : ByteArray) (w : World) (R : Option Int) (HR : Hid (R = numS s.data.toList)) (hs0 : s.size ≤ 9223372036854775807) (hp : 0 < s.size) (h45 : s[0] ≠ 45) (e2 : s.toList.isEmpty = false) (_e3 : s.toList ≠ []) : Calls Tryd.prog 35 #[.string s] w (RetNum R w) := by
  obtain ⟨q1, q3⟩ := trim_other hp h45
  have HTL := Lib.hid q1
  have HV := Lib.hid q3
  have HLN : Hid (s.size = (trimL s.data.toList).length) := Lib.hid (by rw [← q1]; simp)
  have hb : (((s[0].toNat : Nat) : Int) == 45) = false := beq_eq_false_iff_ne.2 (fun h => h45 (UInt8.toNat_inj.1 (by
    have : (45 : UInt8).toNat = 45 := rfl
    omega)))
  clear q1 q3 h45
  by_cases h1 : s.size < 1
  · first
    | (exfalso; omega)
    | (have HN : Hid (R = none) := Lib.hid (by rw [HR.out]; exact numS_out (by rw [← HLN.out]; omega))
       go_enter Tryd.func35, Tryd.ntmps35
       go_wp2
       go_ret2
       exact ⟨by rw [HN.out]; rfl, Ext.refl _⟩)
  by_cases h2 : 18 < s.size
  · have HN : Hid (R = none) := Lib.hid (by rw [HR.out]; exact numS_out (by rw [← HLN.out]; omega))
    go_enter Tryd.func35, Tryd.ntmps35
    go_wp2
    go_ret2
    exact ⟨by rw [HN.out]; rfl, Ext.refl _⟩
  have HI : Hid (1 ≤ (trimL s.data.toList).length ∧ (trimL s.data.toList).length ≤ 18) := Lib.hid (by rw [← HLN.out]; omega)
  go_enter Tryd.func35, Tryd.ntmps35
  go_wp2
  go_loop [5, 6] (fun n i => ∃ (k : Nat) (z : Int), k ≤ s.size ∧ i = .int .i64 k ∧ n = .int .i64 z ∧ Hid (digMid s k z) ∧ 0 ≤ z ∧ z < 1000000000000000000) (fun _ i => s.size - (intOf i).toNat)
  case atStart => exact ⟨0, 0, by omega, rfl, rfl, Lib.hid ⟨by simp [valF], by simp⟩, by omega, by omega⟩
  case round =>
    obtain ⟨k, z, hk, rfl, rfl, hmid, z0, z1⟩ := hrel
    by_cases hlt : k < s.size
    · cases hd : digB s[k]
      · have HN : Hid (R = none) := Lib.hid (by rw [HR.out]; exact numS_bad (by rw [← HTL.out]; exact all_badB hlt hd))
        have HD := Lib.hid hd
        clear hd
        go_wp2_with (go_at_call 44; refine (s_digit _ _).mono ?_; rintro e w' ⟨rfl, rfl⟩; rw [HD.out])
        go_ret2
        exact ⟨by rw [HN.out]; rfl, Ext.refl _⟩
      · have HM := Lib.hid (digMid_next hmid.out hlt hd)
        have HZ := digMid_lt hmid.out (by omega)
        have hc1 : (48 : Int) ≤ ((s[k].toNat : Nat) : Int) := by have := digB_t hd; omega
        have hc2 : ((s[k].toNat : Nat) : Int) ≤ 57 := by have := digB_t hd; omega
        have HD := Lib.hid hd
        obtain ⟨_, z17⟩ := HZ
        clear hd z1
        go_wp2_with (go_at_call 44; refine (s_digit _ _).mono ?_; rintro e w' ⟨rfl, rfl⟩; rw [HD.out])
        go_round
        case rel => exact ⟨k + 1, 10 * z + (((s[k].toNat : Nat) : Int) - 48), by omega, by go_num, by go_num, HM, by omega, by omega⟩
        case measure => simp only [intOf]; omega
    · have hk' : k = s.size := by omega
      subst hk'
      have HD : Hid ((trimL s.data.toList).all digB = true ∧ z = ((valF 0 (trimL s.data.toList) : Nat) : Int)) := Lib.hid (by
        obtain ⟨h3, h4⟩ := hmid.out
        have e : s.data.toList.take s.size = s.data.toList := List.take_of_length_le (by simp)
        rw [e, HTL.out] at h3 h4
        exact ⟨h4, h3⟩)
      have HN : Hid (R = if Lib.itoa (z) = s.data.toList then some (z) else none) := Lib.hid (by rw [HR.out, numS_ok HI.out HD.out.1, HV.out, ← HD.out.2])
      clear hmid
      go_wp2_with fail
      refine (s_dec (z) _ (by omega) (by omega)).mono ?_
      rintro e w5 ⟨rfl, x5⟩
      by_cases he : Lib.itoa (z) = s.data.toList
      · have HN2 : Hid (R = some (z)) := Lib.hid (by rw [HN.out, if_pos he])
        rw [show (.string ⟨(Lib.itoa (z)).toArray⟩ : Value) = .string s by rw [he]]
        clear he HN
        go_wp2
        go_ret2
        exact ⟨by rw [HN2.out]; rfl, x5⟩
      · have HN2 : Hid (R = none) := Lib.hid (by rw [HN.out, if_neg he])
        obtain ⟨T', HT'⟩ : ∃ T : ByteArray, Hid (T = bs (Lib.itoa (z))) := ⟨_, Lib.hid rfl⟩
        have hne : (T'.toList == s.toList) = false := beq_eq_false_iff_ne.2 (by
          rw [ByteArray.toList_eq, ByteArray.toList_eq, HT'.out]
          exact he)
        rw [show (.string ⟨(Lib.itoa (z)).toArray⟩ : Value) = .string T' by rw [HT'.out]]
        clear he HN
        go_wp2
        go_ret2
        exact ⟨by rw [HN2.out]; rfl, x5⟩
theorem s_num (s : ByteArray) (w : World) (hs0 : s.size ≤ maxLen) : Calls Tryd.prog 35 #[.string s] w (RetNum (numOf s.data.toList) w) := by
  unfold maxLen at hs0
  rw [← num_eq]
  obtain ⟨R, HR⟩ : ∃ R, Hid (R = numS s.data.toList) := ⟨_, Lib.hid rfl⟩
  rw [← HR.out]
  by_cases h0 : s.size = 0
  · have e1 : s.data.toList = [] := by apply List.eq_nil_of_length_eq_zero; simpa using h0
    have e2 : s.toList = [] := by rw [ByteArray.toList_eq, e1]
    have HN : Hid (R = none) := Lib.hid (by rw [HR.out, e1]; rfl)
    clear e1
    go_enter Tryd.func35, Tryd.ntmps35
    go_wp2
    go_ret2
    exact ⟨by rw [HN.out]; rfl, Ext.refl _⟩
  have hp : 0 < s.size := by omega
  have e3 : s.toList ≠ [] := by
    rw [ByteArray.toList_eq]; intro h; apply h0; have := congrArg List.length h; simpa using this
  have e2 : s.toList.isEmpty = false := by simpa using e3
  by_cases h45 : s[0] = 45
  · exact s_num_minus s w R HR hs0 hp h45 e2 e3
  · exact s_num_other s w R HR hs0 hp h45 e2 e3
theorem s_ReadDecimal (s : ByteArray) (w : World) (hs0 : s.size ≤ maxLen) : Calls Tryd.prog 19 #[.string s] w (RetNum (numOf s.data.toList) w) := by
  obtain ⟨R, HR⟩ : ∃ R, Hid (R = numOf s.data.toList) := ⟨_, Lib.hid rfl⟩
  have HS := Lib.hid (s_num s w hs0)
  rw [← HR.out] at HS ⊢
  clear hs0
  go_enter Tryd.func19, Tryd.ntmps19
  go_wp2_with fail
  refine HS.out.mono ?_
  rintro e w1 ⟨rfl, x1⟩
  go_wp2
  go_ret2
  exact ⟨rfl, x1⟩
theorem l_ReadDecimal (s : ByteArray) (hs : s.size ≤ maxLen) (w : World) (hl : NumLaid w) : Calls Tryd.prog 6 #[.string s] w fun e w' => e = .returned (.bool true) ∧ Ext w w' := by
  have HL := Lib.hid hl
  clear hl
  have HS0 := Lib.hid hs
  unfold maxLen at hs
  by_cases hl : 1048576 < s.size
  · go_enter Tryd.func6, Tryd.ntmps6
    go_wp2
    go_ret
    exact ⟨rfl, Ext.refl _⟩
  have HS : Hid (s.size ≤ 1048576) := Lib.hid (by omega)
  obtain ⟨A, HA⟩ : ∃ A, Hid (A = (numOf s.data.toList).getD 0) := ⟨_, Lib.hid rfl⟩
  obtain ⟨B, HB⟩ : ∃ B, Hid (B = (numOf s.data.toList).isSome) := ⟨_, Lib.hid rfl⟩
  go_enter Tryd.func6, Tryd.ntmps6
  go_wp2_with fail
  refine (s_ReadDecimal s _ HS0.out).mono ?_
  rintro e w1 ⟨rfl, x1⟩
  rw [← HA.out, ← HB.out]
  go_wp2_with fail
  refine (i_ReadDecimal s _ HS (HL.out.ext x1)).mono ?_
  rintro e w2 ⟨rfl, x2⟩
  rw [← HA.out, ← HB.out]
  cases B
  · go_wp2
    go_ret
    exact ⟨rfl, x1.trans x2⟩
  · go_wp2
    go_ret
    exact ⟨rfl, x1.trans x2⟩
end Go.Proofs.YthibddfcjnljfaaDoor
