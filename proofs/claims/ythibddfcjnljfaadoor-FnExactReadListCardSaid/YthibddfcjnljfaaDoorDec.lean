/- Decimal: the reference's digits, the shelf's strconv.FormatInt, the law. No condition. -/
import Derived.Test.YthibddfcjnljfaaDoorApp
import Derived.Test.YthibddfcjnljfaaDoorInts
import Derived.Lib.ItoaNum
import Derived.Lib.ItoaLen
import Derived.Lib.LaidTab
import Derived.Laws.IdiomStrings
import Derived.Laws.BytesArg
import Derived.Shelf.Strconv.Itoa4
namespace Go.Proofs.YthibddfcjnljfaaDoor
open Go.RowKit Go.Shelf

theorem info_byte : (Tryd.prog.info? 5).map (fun i => (i.zero, i.size, i.bytes)) = some (some (.int .u8 0), 1, 1) := by kernel_rfl
theorem info_u8 : ∃ i, Tryd.prog.info? 5 = some i ∧ i.zero = some (.int .u8 0) ∧ i.size = 1 ∧ i.bytes = 1 := by
  have h := info_byte
  cases hi : Tryd.prog.info? 5 with
  | none => rw [hi] at h; cases h
  | some i =>
    rw [hi] at h
    simp only [Option.map_some, Option.some.injEq, Prod.mk.injEq] at h
    exact ⟨i, rfl, h.1, h.2.1, h.2.2⟩
abbrev OwnY (w : World) (lo : Nat) (v : Value) (ys : List UInt8) : Prop := OwnV 5 w lo v (ys.map fun y => Value.int .u8 (y.toNat : Int))

def laidFormatInt_ren : Go.Shelf.Ren := ⟨fun | 173 => 26 | 246 => 38 | 283 => 48 | 284 => 49 | 285 => 50 | 286 => 51 | 129 => 64 | 317 => 63 | 318 => 65 | 319 => 66 | 320 => 67 | 337 => 79 | 338 => 80 | n => n, fun | 2 => 2 | 3 => 3 | 9 => 9 | 4 => 4 | 171 => 63 | 0 => 0 | 53 => 64 | 37 => 51 | 5 => 5 | 173 => 67 | 212 => 82 | 51 => 83 | 20 => 20 | 213 => 84 | 46 => 76 | 232 => 103 | 233 => 104 | n => n, fun | 17 => 0 | 18 => 4 | 19 => 5 | n => n⟩
theorem laidFormatInt : Go.Proofs.LaysM.n173 Tryd.prog laidFormatInt_ren := {
  mixed := by kernel_rfl
  f129 := Tryd.func64.trans (congrArg some (by kernel_rfl))
  f173 := Tryd.func26.trans (congrArg some (by kernel_rfl))
  f246 := Tryd.func38.trans (congrArg some (by kernel_rfl))
  f283 := Tryd.func48.trans (congrArg some (by kernel_rfl))
  f284 := Tryd.func49.trans (congrArg some (by kernel_rfl))
  f285 := Tryd.func50.trans (congrArg some (by kernel_rfl))
  f286 := Tryd.func51.trans (congrArg some (by kernel_rfl))
  f317 := Tryd.func63.trans (congrArg some (by kernel_rfl))
  f318 := Tryd.func65.trans (congrArg some (by kernel_rfl))
  f319 := Tryd.func66.trans (congrArg some (by kernel_rfl))
  f320 := Tryd.func67.trans (congrArg some (by kernel_rfl))
  f337 := Tryd.func79.trans (congrArg some (by kernel_rfl))
  f338 := Tryd.func80.trans (congrArg some (by kernel_rfl))
  t0 := Tryd.underlying0
  a0 := Tryd.isAgg0
  z0 := Tryd.sizeOf0
  v0 := Tryd.zeroValue0
  t2 := Tryd.underlying2
  a2 := Tryd.isAgg2
  z2 := Tryd.sizeOf2
  v2 := Tryd.zeroValue2
  t3 := Tryd.underlying3
  a3 := Tryd.isAgg3
  z3 := Tryd.sizeOf3
  v3 := Tryd.zeroValue3
  t4 := Tryd.underlying4
  a4 := Tryd.isAgg4
  z4 := Tryd.sizeOf4
  v4 := Tryd.zeroValue4
  t5 := Tryd.underlying5
  a5 := Tryd.isAgg5
  z5 := Tryd.sizeOf5
  v5 := Tryd.zeroValue5
  t9 := Tryd.underlying9
  a9 := Tryd.isAgg9
  z9 := Tryd.sizeOf9
  v9 := Tryd.zeroValue9
  t20 := Tryd.underlying20
  a20 := Tryd.isAgg20
  z20 := Tryd.sizeOf20
  v20 := Tryd.zeroValue20
  t37 := Tryd.underlying51
  a37 := Tryd.isAgg51
  z37 := Tryd.sizeOf51
  v37 := Tryd.zeroValue51
  t46 := Tryd.underlying76
  a46 := Tryd.isAgg76
  z46 := Tryd.sizeOf76
  v46 := Tryd.zeroValue76
  t51 := Tryd.underlying83
  a51 := Tryd.isAgg83
  z51 := Tryd.sizeOf83
  v51 := Tryd.zeroValue83
  t53 := Tryd.underlying64
  a53 := Tryd.isAgg64
  z53 := Tryd.sizeOf64
  v53 := Tryd.zeroValue64
  t171 := Tryd.underlying63
  a171 := Tryd.isAgg63
  z171 := Tryd.sizeOf63
  v171 := Tryd.zeroValue63
  t173 := Tryd.underlying67
  a173 := Tryd.isAgg67
  z173 := Tryd.sizeOf67
  v173 := Tryd.zeroValue67
  t212 := Tryd.underlying82
  a212 := Tryd.isAgg82
  z212 := Tryd.sizeOf82
  v212 := Tryd.zeroValue82
  t213 := Tryd.underlying84
  a213 := Tryd.isAgg84
  z213 := Tryd.sizeOf84
  t232 := Tryd.underlying103
  a232 := Tryd.isAgg103
  z232 := Tryd.sizeOf103
  v232 := Tryd.zeroValue103
  t233 := Tryd.underlying104
  a233 := Tryd.isAgg104
  z233 := Tryd.sizeOf104
  v233 := Tryd.zeroValue104
  g17 := by kernel_rfl
  g18 := by kernel_rfl
  g19 := by kernel_rfl
  i0 := by kernel_rfl
  i2 := by kernel_rfl
  i3 := by kernel_rfl
  i4 := by kernel_rfl
  i5 := by kernel_rfl
  i9 := by kernel_rfl
  i20 := by kernel_rfl
  i37 := by kernel_rfl
  i46 := by kernel_rfl
  i51 := by kernel_rfl
  i53 := by kernel_rfl
  i171 := by kernel_rfl
  i173 := by kernel_rfl
  i212 := by kernel_rfl
  i232 := by kernel_rfl
  i233 := by kernel_rfl
  m17 := by kernel_rfl
  m18 := by kernel_rfl
  m19 := by kernel_rfl }
/-- The digits that are still to be laid in front. -/
def decMid (n n0 : Int) (ds : List UInt8) : Prop := (n = 0 ∧ ((n0 ≠ 0 ∧ ds = Lib.decDigits n0.natAbs) ∨ (n0 = 0 ∧ ds = []))) ∨ (n ≠ 0 ∧ n0 ≠ 0 ∧ Lib.decDigits n0.natAbs = Lib.decDigits n.natAbs ++ ds)
theorem decMid_start (n : Int) : decMid n n [] := by
  by_cases h : n = 0
  · exact .inl ⟨h, .inr ⟨h, rfl⟩⟩
  · exact .inr ⟨h, h, by simp⟩
theorem decMid_next {n n0 : Int} {ds : List UInt8} (h : decMid n n0 ds) (hn : n ≠ 0) : decMid (n.tdiv 10) n0 (UInt8.ofNat (48 + n.natAbs % 10) :: ds) := by
  rcases h with ⟨h, _⟩ | ⟨_, h1, h⟩
  · exact absurd h hn
  · have e1 : (n.tdiv 10).natAbs = n.natAbs / 10 := by rw [Int.natAbs_tdiv]; rfl
    by_cases hs : n.natAbs < 10
    · left
      refine ⟨by omega, .inl ⟨h1, ?_⟩⟩
      rw [h, Lib.decDigits, dif_pos hs, Nat.mod_eq_of_lt hs]; rfl
    · right
      refine ⟨by omega, h1, ?_⟩
      rw [h, Lib.decDigits, dif_neg hs, e1, List.append_assoc]
      rfl
theorem decMid_end {n0 : Int} {ds : List UInt8} (h : decMid 0 n0 ds) : (n0 ≠ 0 ∧ ds = Lib.decDigits n0.natAbs) ∨ (n0 = 0 ∧ ds = []) := by
  rcases h with ⟨_, h⟩ | ⟨h, _⟩
  · exact h
  · exact absurd rfl h
theorem dec_ne (u : Nat) : Lib.decDigits u ≠ [] := by
  rw [Lib.decDigits]; split <;> simp
theorem wp_cons {ops : Array Oper} {rest : List Oper} {o : Oper} {a : Act} {Q : Exit → Act → World → Prop} (wr : World) (hgd : o.guard = none) (s x : Operand)
    (ho : o.op = .call { callee := .builtin .append, args := #[s, x], argTypes := #[51, 51] }) (lo : Nat) (g n c : Nat) (ys : List UInt8) (hx : a.eval x = .slice (some ⟨g, 0, none⟩) n c) (hown : OwnY wr lo (.slice (some ⟨g, 0, none⟩) n c) ys)
    (y : UInt8) (k : Int) (hky : (y.toNat : Int) = k) (hs : a.eval s = .slice (some ⟨wr.heap.size, 0, none⟩) 1 1) (hlen : ys.length ≤ 1000000) (hlo : lo ≤ wr.heap.size)
    (h : ∀ g' c' w', OwnY w' lo (.slice (some ⟨g', 0, none⟩) (1 + n) c') (y :: ys) → Ext wr w' → wpList Tryd.prog ops Q rest (a.put o.dst (.slice (some ⟨g', 0, none⟩) (1 + n) c')) w') : wpList Tryd.prog ops Q (o :: rest) a (wr.alloc (.cells #[.int .u8 k] 5)) := by
  subst hky
  obtain ⟨i, hi, hz, h1, h8⟩ := info_u8
  have hn : n = ys.length := by
    obtain ⟨a', c', he, _⟩ := hown.form
    cases he; simp
  subst hn
  have hg : g < wr.heap.size := (hown.lt g rfl).2
  have o1 : (wr.alloc (.cells #[.int .u8 (y.toNat : Int)] 5)).ownsRow wr.heap.size 5 1 (.slice (some ⟨wr.heap.size, 0, none⟩) 1 1) 1 [.int .u8 (y.toNat : Int)] :=
    World.ownsRow_lit wr #[.int .u8 (y.toNat : Int)] 1 (Nat.le_refl _) (by simp [maxLen]) rfl
  refine wpList_append_own _ hgd s x 51 ho wr.heap.size 5 i (.int .u8 0) 1 1 Tryd.underlying51 hi hz h1 h8 rfl (by decide) _ 1 [.int .u8 (y.toNat : Int)] hs o1 ⟨g, 0, none⟩ ys.length c (ys.map fun y => Value.int .u8 (y.toNat : Int)) hx (by simp)
    ?_ (by intro u hu; obtain ⟨y, _, rfl⟩ := List.mem_map.1 hu; rfl) (by unfold maxLen; omega) (by omega) (by simp) (fun v' w' ho' hgr _ => ?_)
  · intro j u hj
    have hj' : j < (ys.map fun y => Value.int .u8 (y.toNat : Int)).length := (List.getElem?_eq_some_iff.1 hj).1
    have hc := (hown.ext (ext_alloc wr (.cells #[.int .u8 (y.toNat : Int)] 5))).cell j hj'
    have e : (⟨g, 0, none⟩ : Addr).add j = ⟨g, j, none⟩ := by
      unfold Addr.add; split
      · rename_i h; subst h; rfl
      · simp
    rw [e, hc]
    rw [List.getElem?_eq_getElem hj'] at hj
    exact hj
  · have ho2 : OwnY w' wr.heap.size v' (y :: ys) := by
      unfold OwnY OwnV
      simp only [List.map_cons, List.length_cons, List.length_map]
      rw [Nat.add_comm ys.length 1]
      simpa using ho'
    obtain ⟨g', c', hv, _⟩ := ho2.head (by simp)
    simp only [List.map_cons, List.length_cons, List.length_map] at hv
    rw [Nat.add_comm ys.length 1] at hv
    subst hv
    exact h g' c' w' (ho2.mono hlo) (Below.grown (ext_alloc _ _) hgr (by simp) (fun k hk => by cases hk; exact Nat.le_refl _))
theorem str_cons (ds : List UInt8) : (⟨#[45]⟩ ++ ⟨ds.toArray⟩ : ByteArray) = ⟨(45 :: ds).toArray⟩ := by
  apply ByteArray.ext
  simp [ByteArray.data_append]
theorem u8_dig (m : Nat) (h : m < 10) : ((UInt8.ofNat (48 + m)).toNat : Int) = 48 + (m : Int) := by
  rw [UInt8.toNat_ofNat', Nat.mod_eq_of_lt (by omega)]; omega
theorem decMid_len {z n : Int} {ds : List UInt8} (h : decMid z n ds) (z0 : -9223372036854775808 ≤ z) (z1 : z ≤ 9223372036854775807) (h0 : -9223372036854775808 ≤ n) (h1 : n ≤ 9223372036854775807) : ds.length < 100 := by
  have h3 : (Lib.decDigits n.natAbs).length ≤ 20 := by rw [Lib.decDigits_length]; exact Lib.nDigits_le20 _ (by omega)
  rcases h with ⟨_, ⟨_, h⟩ | ⟨_, h⟩⟩ | ⟨_, _, h⟩
  · rw [h]; omega
  · rw [h]; simp
  · rw [h, List.length_append] at h3; omega
set_option maxRecDepth 100000 in
theorem s_dec (n : Int) (w : World) (h0 : -9223372036854775808 ≤ n) (h1 : n ≤ 9223372036854775807) : Calls Tryd.prog 25 #[.int .i64 n] w fun e w' => e = .returned (.string ⟨(Lib.itoa n).toArray⟩) ∧ Ext w w' := by
  have HM0 := Lib.hid (decMid_start n)
  go_enter Tryd.func25, Tryd.ntmps25
  go_wp2
  go_loopw [3, 4] (fun v q wr => ∃ (z : Int) (ds : List UInt8) (g c : Nat), q = .int .i64 z ∧ -9223372036854775808 ≤ z ∧ z ≤ 9223372036854775807 ∧ v = .slice (some ⟨g, 0, none⟩) ds.length c ∧ Hid (decMid z n ds) ∧ Hid (ds.length ≤ 1000) ∧ Hid (OwnY wr w.heap.size (.slice (some ⟨g, 0, none⟩) ds.length c) ds) ∧ Hid (Ext w wr)) (fun _ q _ => (intOf q).natAbs)
  case atStart => exact ⟨n, [], w.heap.size, 0, rfl, h0, h1, rfl, HM0, Lib.hid (by simp), Lib.hid (OwnV.empty _ _), Lib.hid (ext_alloc _ _)⟩
  case round =>
    obtain ⟨z, ds, g, c, rfl, z0, z1, rfl, hmid, hdl, hown, hext⟩ := hrel
    have HDL : Hid (ds.length < 100) := Lib.hid (decMid_len hmid.out z0 z1 h0 h1)
    by_cases hz : z = 0
    · subst hz
      have HE := decMid_end hmid.out
      clear hmid
      rcases HE with ⟨hn, hds⟩ | ⟨hn, hds⟩
      · have hne : ((ds.length : Int) == 0) = false := beq_eq_false_iff_ne.2 (by
          intro h
          have h2 : ds = [] := List.eq_nil_of_length_eq_zero (by omega)
          rw [hds] at h2
          exact dec_ne _ h2)
        have HDS := Lib.hid hds
        have hlen : ds.length < 100 := HDL.out
        have hconv : (convert 51 9 (.slice (some ⟨g, 0, none⟩) ds.length c)).run Tryd.prog wr = .ok (.string ⟨ds.toArray⟩) wr := run_convert_bytes_back wr _ _ 5 ⟨g, 0, none⟩ c ds Tryd.underlying51 Tryd.underlying5 Tryd.underlying9 (fun j hj => by
          have hc := hown.out.cell j (by simpa using hj)
          have e : (⟨g, 0, none⟩ : Addr).add j = ⟨g, j, none⟩ := by
            unfold Addr.add; split
            · rename_i h; subst h; rfl
            · simp
          rw [e, hc]; simp)
        clear hds
        by_cases hneg : n < 0
        · have HR : Hid (Lib.itoa n = 45 :: ds) := Lib.hid (by rw [Lib.itoa, if_pos hneg, HDS.out])
          go_wp2
          go_ret
          exact ⟨by rw [HR.out]; exact congrArg (fun b => Ending.returned (Value.string b)) (str_cons ds), hext.out⟩
        · have HR : Hid (Lib.itoa n = ds) := Lib.hid (by rw [Lib.itoa, if_neg hneg, HDS.out, show n.toNat = n.natAbs from by omega])
          go_wp2
          go_ret
          exact ⟨by rw [HR.out]; rfl, hext.out⟩
      · have hne : ((ds.length : Int) == 0) = true := by rw [hds]; rfl
        have HR : Hid (Lib.itoa n = [48]) := Lib.hid (by rw [hn, Lib.itoa, if_neg (by omega)]; show Lib.decDigits 0 = _; rw [Lib.decDigits, dif_pos (by omega)]; rfl)
        clear hds
        go_wp2
        go_ret
        exact ⟨by rw [HR.out]; rfl, hext.out⟩
    · have hzz : (z != 0) = true := by simp [hz]
      obtain ⟨m, HM⟩ : ∃ m : Nat, Hid (m = z.natAbs % 10) := ⟨_, Lib.hid rfl⟩
      have hm10 : m < 10 := by rw [HM.out]; exact Nat.mod_lt _ (by omega)
      obtain ⟨y, HY⟩ : ∃ y : UInt8, Hid (y = UInt8.ofNat (48 + m)) := ⟨_, Lib.hid rfl⟩
      have HYN : Hid ((y.toNat : Int) = 48 + (m : Int)) := Lib.hid (by rw [HY.out]; exact u8_dig m hm10)
      have HN := Lib.hid (decMid_next hmid.out hz)
      rw [← HM.out, ← HY.out] at HN
      have hsz := hext.out.size
      have hdl2 : ds.length ≤ 1000000 := by have := HDL.out; omega
      have HL2 : Hid ((y :: ds).length ≤ 1000) := Lib.hid (by rw [List.length_cons]; have := HDL.out; omega)
      have hlc : (y :: ds).length = 1 + ds.length := by rw [List.length_cons, Nat.add_comm]
      have hmz : z.natAbs / 10 < z.natAbs := by omega
      clear hmid
      by_cases hp : 0 ≤ z
      · have hmod : z % 10 = (m : Int) := by rw [HM.out]; omega
        have hdiv : z.tdiv 10 = z / 10 := Int.tdiv_eq_ediv_of_nonneg hp
        rw [hdiv] at HN
        go_wp2_with (at_builtin; refine wp_cons wr rfl _ _ rfl w.heap.size g ds.length c ds rfl hown.out y _ HYN.out rfl hdl2 hsz ?_; intro g' c' w' hown2 hext2)
        have hdv0 : (z / 10).natAbs = z.natAbs / 10 := by rw [← hdiv, Int.natAbs_tdiv]; rfl
        exact ⟨⟨z / 10, y :: ds, g', c', rfl, by omega, by omega, by rw [hlc], HN, HL2, Lib.hid (by rw [hlc]; exact hown2), Lib.hid (hext.out.trans hext2)⟩, by simp only [intOf]; rw [hdv0]; exact hmz⟩
      · have hmod : z.tmod 10 = -(m : Int) := by
          have hk : -((z.natAbs : Nat) : Int) = z := by omega
          have e : (-((z.natAbs : Nat) : Int)).tmod 10 = -(((z.natAbs % 10 : Nat)) : Int) := by rw [Int.neg_tmod]; rfl
          rw [hk] at e
          rw [HM.out]; exact e
        have hdv : (z.tdiv 10).natAbs = z.natAbs / 10 := by rw [Int.natAbs_tdiv]; rfl
        by_cases hm0 : m = 0
        · subst hm0
          go_wp2_with (at_builtin; refine wp_cons wr rfl _ _ rfl w.heap.size g ds.length c ds rfl hown.out y _ HYN.out rfl hdl2 hsz ?_; intro g' c' w' hown2 hext2)
          exact ⟨⟨z.tdiv 10, y :: ds, g', c', rfl, by omega, by omega, by rw [hlc], HN, HL2, Lib.hid (by rw [hlc]; exact hown2), Lib.hid (hext.out.trans hext2)⟩, by simp only [intOf]; rw [hdv]; exact hmz⟩
        · go_wp2_with (at_builtin; refine wp_cons wr rfl _ _ rfl w.heap.size g ds.length c ds rfl hown.out y _ HYN.out rfl hdl2 hsz ?_; intro g' c' w' hown2 hext2)
          exact ⟨⟨z.tdiv 10, y :: ds, g', c', rfl, by omega, by omega, by rw [hlc], HN, HL2, Lib.hid (by rw [hlc]; exact hown2), Lib.hid (hext.out.trans hext2)⟩, by simp only [intOf]; rw [hdv]; exact hmz⟩
theorem s_Decimal (n : Int) (w : World) (h0 : -9223372036854775808 ≤ n) (h1 : n ≤ 9223372036854775807) : Calls Tryd.prog 8 #[.int .i64 n] w fun e w' => e = .returned (.string ⟨(Lib.itoa n).toArray⟩) ∧ Ext w w' := by
  obtain ⟨R, HR⟩ : ∃ R : ByteArray, Hid (R = ⟨(Lib.itoa n).toArray⟩) := ⟨_, Lib.hid rfl⟩
  rw [← HR.out]
  go_enter Tryd.func8, Tryd.ntmps8
  go_wp2_with (go_at_call 25; refine (s_dec n _ h0 h1).mono ?_; rintro e w' ⟨rfl, hext⟩; rw [← HR.out])
  go_ret
  exact ⟨rfl, hext⟩
theorem ext_grow {w : World} {k : Nat} {os : Array Obj} : Ext w (Sort.grow (w.drewN k) os) := by
  refine ⟨rfl, rfl, rfl, ?_, fun j hj => ?_⟩
  · show w.heap.size ≤ (w.heap ++ os).size
    simp
  · show (w.heap ++ os)[j]? = w.heap[j]?
    rw [Array.getElem?_append_left hj]
theorem i_Decimal (n : Int) (w : World) (h0 : -9223372036854775808 ≤ n) (h1 : n ≤ 9223372036854775807) (htab : Lib.TabIs Tryd.prog w "internal/strconv.uint64pow10" .u64 Lib.pow10Tab) : Calls Tryd.prog 9 #[.int .i64 n] w fun e w' => e = .returned (.string ⟨(Lib.itoa n).toArray⟩) ∧ Ext w w' := by
  obtain ⟨R, HR⟩ : ∃ R : ByteArray, Hid (R = ⟨(Lib.itoa n).toArray⟩) := ⟨_, Lib.hid rfl⟩
  have HT := Lib.hid htab
  clear htab
  rw [← HR.out]
  go_enter Tryd.func9, Tryd.ntmps9
  go_wp2_with (go_at_call 26; refine (Any.strconv_FormatInt_10 laidFormatInt n h0 h1 _ HT.out).mono ?_; rintro e w' ⟨rfl, k, os, rfl⟩; rw [← HR.out])
  go_ret
  exact ⟨rfl, ext_grow⟩
theorem tab_ext {w w' : World} {name : String} {k : IntKind} {zs : List Int} (h : Lib.TabIs Tryd.prog w name k zs) (he : Ext w w') : Lib.TabIs Tryd.prog w' name k zs := by
  unfold Lib.TabIs World.var? at *
  cases hg : Tryd.prog.globalNamed name with
  | none => rw [hg] at h; cases h
  | some g =>
    simp only [hg, Option.bind_some] at h ⊢
    cases hb : w.heap[g]? with
    | none => rw [hb] at h; cases h
    | some b =>
      have hlt : g < w.heap.size := (Array.getElem?_eq_some_iff.1 hb).1
      rw [he.block g hlt]
      exact h
theorem l_Decimal (n : Int) (w : World) (h0 : -9223372036854775808 ≤ n) (h1 : n ≤ 9223372036854775807) (htab : Lib.TabIs Tryd.prog w "internal/strconv.uint64pow10" .u64 Lib.pow10Tab) : Calls Tryd.prog 3 #[.int .i64 n] w fun e w' => e = .returned (.bool true) ∧ Ext w w' := by
  obtain ⟨R, HR⟩ : ∃ R : ByteArray, Hid (R = ⟨(Lib.itoa n).toArray⟩) := ⟨_, Lib.hid rfl⟩
  have HT := Lib.hid htab
  clear htab
  go_enter Tryd.func3, Tryd.ntmps3
  go_wp2_with fail
  refine (s_Decimal n _ h0 h1).mono ?_
  rintro e w1 ⟨rfl, x1⟩
  rw [← HR.out]
  go_wp2_with fail
  refine (i_Decimal n _ h0 h1 (tab_ext HT.out x1)).mono ?_
  rintro e w2 ⟨rfl, x2⟩
  rw [← HR.out]
  go_wp2
  go_ret
  exact ⟨rfl, x1.trans x2⟩
end Go.Proofs.YthibddfcjnljfaaDoor
