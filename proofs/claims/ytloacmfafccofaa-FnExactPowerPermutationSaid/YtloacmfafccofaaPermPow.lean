/- PowerPermutation: the walks of the program and of the reference, and the law. No condition. -/
import Derived.Test.YtloacmfafccofaaPermMul
import Derived.Test.YtloacmfafccofaaCycLaw
import Derived.Test.YtloacmfafccofaaPowMath
import Derived.Test.YtloacmfafccofaaIdent
import Derived.Test.YtloacmfafccofaaOwnCp
namespace Go.Proofs.Ytloacmfafccofaa
open Go.RowKit

theorem isP_perm {ns : List Nat} (hp : IsP ns) : ∀ y, y < ns.length → ∃ x, ∃ h : x < ns.length, ns[x] = y := by
  intro y hy
  have hok : okP (casN ns).length [] (casN ns) = true := by
    refine okP_iff.2 ⟨fun z hz => ?_, ?_⟩
    · obtain ⟨a, ha, rfl⟩ := List.mem_map.1 hz
      obtain ⟨i, hi, rfl⟩ := List.mem_iff_getElem.1 ha
      have := hp.2.1 i hi
      rw [List.length_map]
      exact ⟨by omega, by omega, by simp⟩
    · rw [List.Nodup, List.pairwise_map]
      exact hp.2.2.imp (by intro a b h e; exact h (by exact_mod_cast e))
  have h := perm_of_ok hok
  have hm : (y : Int) ∈ casN ns := h.mem_iff.2 (iota_mem.2 (by rw [List.length_map]; omega))
  obtain ⟨a, ha, e⟩ := List.mem_map.1 hm
  obtain ⟨i, hi, rfl⟩ := List.mem_iff_getElem.1 ha
  exact ⟨i, hi, by omega⟩
theorem backTo_at {ns : List Nat} (hp : IsP ns) : ∀ k, (hk : k ≤ ns.length) → ∀ x (h : x < k), (backTo ns k)[ns[x]'(Nat.lt_of_lt_of_le h hk)]? = some (x : Int)
  | 0, _, x, h => by omega
  | k + 1, hk, x, h => by
    have hkn : k < ns.length := by omega
    have hg : ns.getD k 0 = ns[k] := by rw [List.getD, List.getElem?_eq_getElem hkn]; rfl
    rw [backTo, hg]
    by_cases e : x = k
    · subst e
      rw [List.getElem?_set_self (by rw [backTo_len]; exact hp.2.1 x hkn)]
    · rw [List.getElem?_set_ne (fun h2 => e (nod_inj hp.2.2 _ hkn h2.symm))]
      exact backTo_at hp k (by omega) x (by omega)
def invN (ns : List Nat) : List Nat := (backTo ns ns.length).map Int.toNat
theorem invN_len (ns : List Nat) : (invN ns).length = ns.length := by rw [invN, List.length_map, backTo_len]
theorem invN_at {ns : List Nat} (hp : IsP ns) {x : Nat} (hx : x < ns.length) : (invN ns).getD ns[x] 0 = x := by
  rw [invN, List.getD, List.getElem?_map, backTo_at hp _ (Nat.le_refl _) x hx]; simp
theorem invN_cas {ns : List Nat} (hp : IsP ns) : casN (invN ns) = backTo ns ns.length := by
  apply List.ext_getElem? 
  intro y
  by_cases hy : y < ns.length
  · obtain ⟨x, hx, rfl⟩ := isP_perm hp y hy
    have := backTo_at hp _ (Nat.le_refl _) x hx
    simp only [casN, invN, List.getElem?_map, this]; simp
  · rw [List.getElem?_eq_none (by rw [List.length_map, invN_len]; omega), List.getElem?_eq_none (by rw [backTo_len]; omega)]
theorem invN_ok {ns : List Nat} (hp : IsP ns) : IsP (invN ns) := by
  have key : ∀ y, y < ns.length → ∃ x, ∃ h : x < ns.length, ns[x] = y ∧ (invN ns).getD y 0 = x := fun y hy => by
    obtain ⟨x, hx, rfl⟩ := isP_perm hp y hy
    exact ⟨x, hx, rfl, invN_at hp hx⟩
  refine ⟨by rw [invN_len]; exact hp.1, fun i hi => ?_, ?_⟩
  · rw [invN_len] at hi ⊢
    obtain ⟨x, hx, e1, e2⟩ := key i hi
    rw [List.getD, List.getElem?_eq_getElem (by rw [invN_len]; exact hi)] at e2
    simp only [Option.getD_some] at e2
    rw [e2]; exact hx
  · refine List.pairwise_iff_getElem.2 fun i j hi hj hij e => ?_
    rw [invN_len] at hi hj
    obtain ⟨x, hx, e1, e2⟩ := key i hi
    obtain ⟨y, hy, e3, e4⟩ := key j hj
    rw [List.getD, List.getElem?_eq_getElem (by rw [invN_len]; exact hi)] at e2
    rw [List.getD, List.getElem?_eq_getElem (by rw [invN_len]; exact hj)] at e4
    simp only [Option.getD_some] at e2 e4
    have : x = y := by rw [← e2, ← e4]; exact e
    subst this
    omega
/-- What is raised. -/
def baseP (ns : List Nat) (e : Int) : List Nat := if e < 0 then invN ns else ns
theorem baseP_ok {ns : List Nat} (hp : IsP ns) (e : Int) : IsP (baseP ns e) ∧ (baseP ns e).length = ns.length := by
  unfold baseP
  split
  · exact ⟨invN_ok hp, invN_len ns⟩
  · exact ⟨hp, rfl⟩
theorem powN_ok {ns : List Nat} (hp : IsP ns) (m : Nat) : IsP (powN ns m) := by
  refine ⟨by rw [powN_len]; exact hp.1, fun i hi => ?_, powN_nodup hp.2.1 hp.2.2 m⟩
  rw [powN_len] at hi ⊢
  have : (powN ns m)[i]'(by rw [powN_len]; exact hi) = pIt ns m i := by simp [powN]
  rw [this]
  exact pIt_lt hp.2.1 m i hi
theorem stepOn_base {ns c : List Nat} (hp : IsP ns) (hc : c ≠ []) (hl : ∀ i ∈ c, i < ns.length) (h : ∀ j (h : j < c.length), ns.getD c[j] 0 = c[(j + 1) % c.length]'(Nat.mod_lt _ (by omega))) (e : Int) :
    stepOn (fun x => (baseP ns e).getD x 0) c (if e < 0 then -1 else 1) := by
  have hpos : 0 < c.length := List.length_pos_iff.2 hc
  intro j hj h2
  by_cases he : e < 0
  · simp only [baseP, if_pos he] at h2 ⊢
    have h3 := h _ h2
    have e0 := Int.emod_nonneg ((j : Int) + -1) (show (c.length : Int) ≠ 0 by omega)
    have ej : ((((j : Int) + -1) % (c.length : Int)).toNat + 1) % c.length = j := by
      have : (((((((j : Int) + -1) % (c.length : Int)).toNat + 1) % c.length : Nat)) : Int) = (j : Int) := by
        push_cast
        rw [Int.toNat_of_nonneg e0, Int.emod_add_emod, show (j : Int) + -1 + 1 = j from by omega, Int.emod_eq_of_lt (by omega) (by omega)]
      omega
    simp only [ej] at h3
    have hz := hl _ (List.getElem_mem h2)
    rw [List.getD, List.getElem?_eq_getElem hz] at h3
    simp only [Option.getD_some] at h3
    rw [← h3]
    exact invN_at hp hz
  · simp only [baseP, if_neg he] at h2 ⊢
    have h3 := h j hj
    rw [h3]
    congr 1
/-- Where e places on from place j of a cycle lies what the e-th power gives. -/
theorem pow_cyc {ns c : List Nat} (hp : IsP ns) (hc : c ≠ []) (hl : ∀ i ∈ c, i < ns.length) (h : ∀ j (h : j < c.length), ns.getD c[j] 0 = c[(j + 1) % c.length]'(Nat.mod_lt _ (by omega))) (e : Int) (j : Nat) (hj : j < c.length) (t : Nat) (ht : (t : Int) = ((j : Int) + e) % (c.length : Int)) :
    ∃ h2 : t < c.length, pIt (baseP ns e) e.natAbs c[j] = c[t] := by
  have hpos : 0 < c.length := List.length_pos_iff.2 hc
  have h1 := stepOn_it (stepOn_base hp hc hl h e) e.natAbs j hj (mod_lt' _ hpos)
  have es : (if e < 0 then (-1 : Int) else 1) * (e.natAbs : Int) = e := by split <;> omega
  have et : (((j : Int) + (if e < 0 then (-1 : Int) else 1) * (e.natAbs : Int)) % (c.length : Int)).toNat = t := by rw [es, ← ht]; omega
  have hlt := mod_lt' ((j : Int) + (if e < 0 then (-1 : Int) else 1) * (e.natAbs : Int)) hpos
  rw [et] at hlt
  refine ⟨hlt, ?_⟩
  rw [h1]
  simp only [et]
def powOut (xs : List Int) (e : Int) : List Int := if validP xs then (if inB e (-1000000) 1000000 then casN (powN (baseP (xs.map Int.toNat) e) e.natAbs) else []) else []
def powCode (xs : List Int) (e : Int) : Int := if validP xs then (if inB e (-1000000) 1000000 then 0 else 2) else 1
theorem powOut_len (xs : List Int) (e : Int) : (powOut xs e).length ≤ 3000000 := by
  unfold powOut
  cases hv : validP xs
  · simp
  · obtain ⟨ns, hxs, hp⟩ := isP_of_valid hv
    rw [if_pos rfl]
    split
    · rw [hxs, casN_toNat, List.length_map, powN_len, (baseP_ok hp e).2]; have := hp.1; omega
    · simp
theorem timesN_cas (os qs : List Nat) : timesN os qs = casN (os.map (fun x => qs.getD x 0)) := by
  simp [timesN, casN, List.map_map, Function.comp_def]
theorem iota_cas (n : Nat) : iota 0 n = casN (List.range n) := by
  simp [iota, casN]
theorem inB_two {e : Int} (h : inB e (-1000000) 1000000 = true) : -1000000 ≤ e ∧ e ≤ 1000000 := inB_iff.1 h
set_option maxRecDepth 100000 in
set_option maxHeartbeats 1000000 in
theorem s_PowerPermutation (v : Value) (xs : List Int) (e : Int) (w : World) (h : Rd w v xs) (hsn : Sane v) : Calls Try.prog 30 #[v, .int .i64 e] w (RetIntsI w (powOut xs e) (powCode xs e)) := by
  have HRD := Lib.hid h
  obtain ⟨a, cap, rfl, hc, hm, _⟩ := h
  obtain ⟨N, HN⟩ : ∃ N, Hid (N = xs.length) := ⟨_, Lib.hid rfl⟩
  rw [← HN.out] at hc HRD hsn ⊢
  cases hv : validP xs
  · have G : Hid (powOut xs e = []) := Lib.hid (by simp [powOut, hv])
    have G2 : Hid (powCode xs e = 1) := Lib.hid (by simp [powCode, hv])
    go_enter Try.func30, Try.ntmps30
    go_wp2_with fail
    refine (s_l04Ok _ xs _ HRD.out).mono ?_
    rintro e w1 ⟨rfl, hd⟩
    rw [hv]
    go_wp2
    go_ret2
    exact ⟨_, by rw [G2.out]; rfl, by rw [G.out]; exact OwnV.nil _ _ _, hd.ext⟩
  · have HV := Lib.hid hv
    cases hi : inB e (-1000000) 1000000
    · have G : Hid (powOut xs e = []) := Lib.hid (by simp [powOut, hv, hi])
      have G2 : Hid (powCode xs e = 2) := Lib.hid (by simp [powCode, hv, hi])
      have HI := Lib.hid hi
      clear hv hi
      go_enter Try.func30, Try.ntmps30
      go_wp2_with fail
      refine (s_l04Ok _ xs _ HRD.out).mono ?_
      rintro e' w1 ⟨rfl, hd⟩
      rw [HV.out]
      go_wp2_with fail
      refine (s_in _ _ _ _).mono ?_
      rintro e' _ ⟨rfl, rfl⟩
      rw [HI.out]
      go_wp2
      go_ret2
      exact ⟨_, by rw [G2.out]; rfl, by rw [G.out]; exact OwnV.nil _ _ _, hd.ext⟩
    · obtain ⟨ns, hxs, hp⟩ := isP_of_valid hv
      obtain ⟨e1, e2⟩ := inB_two hi
      obtain ⟨B, HB⟩ : ∃ B, Hid (B = baseP ns e) := ⟨_, Lib.hid rfl⟩
      have G : Hid (powOut xs e = casN (powN B e.natAbs)) := Lib.hid (by rw [powOut, hv, hi, if_pos rfl, if_pos rfl, hxs, casN_toNat, HB.out])
      have G2 : Hid (powCode xs e = 0) := Lib.hid (by simp [powCode, hv, hi])
      have HBP : Hid (IsP B) := Lib.hid (by rw [HB.out]; exact (baseP_ok hp e).1)
      have HK : Hid (N = ns.length) := Lib.hid (by rw [HN.out, hxs, List.length_map])
      have HBN : Hid (B.length = N) := Lib.hid (by rw [HB.out, (baseP_ok hp e).2, HK.out])
      have HXS := Lib.hid hxs
      have HP := Lib.hid hp
      have HI := Lib.hid hi
      have hN32 : N ≤ 32 := by rw [HK.out]; exact hp.1
      rw [G2.out]
      clear hv hi hxs hp
      by_cases he : e < 0
      all_goals
        go_enter Try.func30, Try.ntmps30
        go_wp2_with fail
        refine (s_l04Ok _ xs _ HRD.out).mono ?_
        rintro e' w1 ⟨rfl, hd⟩
        rw [HV.out]
        have HX := Lib.hid hd.ext
        clear hd
        go_wp2_with fail
        refine (s_in _ _ _ _).mono ?_
        rintro e' _ ⟨rfl, rfl⟩
        rw [HI.out]
        go_wp2_with fail
        refine (s_l00Own _ xs _ (by rw [← HN.out]; omega) (HRD.out.ext HX.out) hsn).mono ?_
        rintro e' w2 ⟨v2, rfl, o2, x2⟩
        have HX2 := Lib.hid (HX.out.trans x2)
        have HO2 := Lib.hid (o2.mono HX.out.size)
        clear o2 x2
      · have HBI : Hid (casN B = backTo ns ns.length) := Lib.hid (by rw [HB.out, baseP, if_pos (by omega), invN_cas HP.out])
        go_wp2_with fail
        refine (s_back _ ns _ HP.out (by rw [← HXS.out]; exact HRD.out.ext HX2.out)).mono ?_
        rintro e' w3 ⟨v3, rfl, o3, x3⟩
        rw [← HBI.out] at o3
        have HO3 := Lib.hid (o3.mono HX2.out.size)
        have HX3 := Lib.hid (HX2.out.trans x3)
        obtain ⟨E, HE⟩ : ∃ E, Hid (-e = E) := ⟨_, Lib.hid rfl⟩
        have hE0 : 0 ≤ E := by have := HE.out; omega
        have hE1 : E ≤ 1000000 := by have := HE.out; omega
        have HEN : Hid (E.toNat = e.natAbs) := Lib.hid (by have := HE.out; omega)
        have hEe : -e = E := HE.out
        clear o3 x3
        go_wp2_with fail
        clear hEe
        refine (s_l04One _ _ (by omega)).mono ?_
        rintro e' w4 ⟨v4, rfl, o4, x4⟩
        rw [Int.toNat_natCast, iota_cas] at o4
        have HO4 : Hid (Own w4 w.heap.size v4 (casN (powN B 0))) := Lib.hid (by rw [powN_zero, HBN.out]; exact o4.mono HX3.out.size)
        have HO3' := Lib.hid (HO3.out.ext x4)
        have HX4 := Lib.hid (HX3.out.trans x4)
        clear o4 x4
        go_wp2
        go_loopw [1, 6, 7] (fun n' q' o' wr => ∃ (os qs : List Nat) (F : Int), n' = .int .i64 F ∧ 0 ≤ F ∧ F ≤ 1000000 ∧ Hid (ppMid B E.toNat os qs F.toNat) ∧ Hid (Own wr w.heap.size q' (casN qs)) ∧ Hid (Own wr w.heap.size o' (casN os)) ∧ Hid (Ext w wr)) (fun n' _ _ _ => (intOf n').toNat)
        case atStart => exact ⟨_, _, E, rfl, hE0, hE1, Lib.hid ⟨0, 1, rfl, powN_one.symm, by omega⟩, HO3', HO4, HX4⟩
        case round =>
          obtain ⟨os, qs, F, rfl, hF0, hF1, hmid, hq, ho, hext⟩ := hrel
          have HPQ : Hid (IsP os ∧ IsP qs ∧ os.length = N ∧ qs.length = N) := Lib.hid (by
            obtain ⟨a, b, r1, r2, _⟩ := hmid.out
            rw [r1, r2]
            exact ⟨powN_ok HBP.out a, powN_ok HBP.out b, by rw [powN_len, HBN.out], by rw [powN_len, HBN.out]⟩)
          by_cases hlt : 0 < F
          · by_cases hod : F % 2 = 1
            · have hb : (F % 2 == 1) = true := by rw [beq_iff_eq]; exact hod
              have HM := Lib.hid (ppMid_odd HBP.out.2.1 hmid.out (show F.toNat % 2 = 1 by omega))
              rw [show F.toNat / 2 = (F / 2).toNat from by omega] at HM
              clear hmid hod
              go_wp2_with fail
              refine (s_times _ _ os qs _ HPQ.out.1 (by rw [HPQ.out.2.2.1, HPQ.out.2.2.2]) ho.out.rd hq.out.rd).mono ?_
              rintro e' w5 ⟨v5, rfl, o5, x5⟩
              rw [timesN_cas] at o5
              have HO5 := Lib.hid (o5.mono hext.out.size)
              have HQ5 := Lib.hid (hq.out.ext x5)
              have HX5 := Lib.hid (hext.out.trans x5)
              clear o5 x5
              go_wp2_with fail
              refine (s_times _ _ qs qs _ HPQ.out.2.1 rfl HQ5.out.rd HQ5.out.rd).mono ?_
              rintro e' w6 ⟨v6, rfl, o6, x6⟩
              rw [timesN_cas] at o6
              have HQ6 := Lib.hid (o6.mono HX5.out.size)
              have HO6 := Lib.hid (HO5.out.ext x6)
              have HX6 := Lib.hid (HX5.out.trans x6)
              clear o6 x6
              go_wp2
              exact ⟨⟨_, _, F / 2, rfl, by omega, by omega, HM, HQ6, HO6, HX6⟩, by simp only [intOf]; omega⟩
            · have hb : (F % 2 == 1) = false := by rw [beq_eq_false_iff_ne]; exact hod
              have HM := Lib.hid (ppMid_even HBP.out.2.1 hmid.out (show F.toNat % 2 = 0 by omega))
              rw [show F.toNat / 2 = (F / 2).toNat from by omega] at HM
              clear hmid hod
              go_wp2_with fail
              refine (s_times _ _ qs qs _ HPQ.out.2.1 rfl hq.out.rd hq.out.rd).mono ?_
              rintro e' w6 ⟨v6, rfl, o6, x6⟩
              rw [timesN_cas] at o6
              have HQ6 := Lib.hid (o6.mono hext.out.size)
              have HO6 := Lib.hid (ho.out.ext x6)
              have HX6 := Lib.hid (hext.out.trans x6)
              clear o6 x6
              go_wp2
              exact ⟨⟨_, _, F / 2, rfl, by omega, by omega, HM, HQ6, HO6, HX6⟩, by simp only [intOf]; omega⟩
          · obtain rfl : F = 0 := by omega
            have HF := Lib.hid (ppMid_end hmid.out)
            rw [HEN.out] at HF
            clear hmid
            go_wp2
            go_ret2
            exact ⟨_, rfl, by rw [G.out, ← HF.out]; exact ho.out, hext.out⟩
      · have HO3 : Hid (Own w2 w.heap.size v2 (casN B)) := Lib.hid (by rw [HB.out, baseP, if_neg (by omega), ← HXS.out]; exact HO2.out)
        have HX3 := HX2
        have hE0 : 0 ≤ e := by omega
        obtain ⟨E, rfl⟩ : ∃ E : Int, E = e := ⟨_, rfl⟩
        have hE1 := e2
        have HEN : Hid (E.toNat = E.natAbs) := Lib.hid (by omega)
        go_wp2_with fail
        refine (s_l04One _ _ (by omega)).mono ?_
        rintro e' w4 ⟨v4, rfl, o4, x4⟩
        rw [Int.toNat_natCast, iota_cas] at o4
        have HO4 : Hid (Own w4 w.heap.size v4 (casN (powN B 0))) := Lib.hid (by rw [powN_zero, HBN.out]; exact o4.mono HX3.out.size)
        have HO3' := Lib.hid (HO3.out.ext x4)
        have HX4 := Lib.hid (HX3.out.trans x4)
        clear o4 x4
        go_wp2
        go_loopw [1, 6, 7] (fun n' q' o' wr => ∃ (os qs : List Nat) (F : Int), n' = .int .i64 F ∧ 0 ≤ F ∧ F ≤ 1000000 ∧ Hid (ppMid B E.toNat os qs F.toNat) ∧ Hid (Own wr w.heap.size q' (casN qs)) ∧ Hid (Own wr w.heap.size o' (casN os)) ∧ Hid (Ext w wr)) (fun n' _ _ _ => (intOf n').toNat)
        case atStart => exact ⟨_, _, E, rfl, hE0, hE1, Lib.hid ⟨0, 1, rfl, powN_one.symm, by omega⟩, HO3', HO4, HX4⟩
        case round =>
          obtain ⟨os, qs, F, rfl, hF0, hF1, hmid, hq, ho, hext⟩ := hrel
          have HPQ : Hid (IsP os ∧ IsP qs ∧ os.length = N ∧ qs.length = N) := Lib.hid (by
            obtain ⟨a, b, r1, r2, _⟩ := hmid.out
            rw [r1, r2]
            exact ⟨powN_ok HBP.out a, powN_ok HBP.out b, by rw [powN_len, HBN.out], by rw [powN_len, HBN.out]⟩)
          by_cases hlt : 0 < F
          · by_cases hod : F % 2 = 1
            · have hb : (F % 2 == 1) = true := by rw [beq_iff_eq]; exact hod
              have HM := Lib.hid (ppMid_odd HBP.out.2.1 hmid.out (show F.toNat % 2 = 1 by omega))
              rw [show F.toNat / 2 = (F / 2).toNat from by omega] at HM
              clear hmid hod
              go_wp2_with fail
              refine (s_times _ _ os qs _ HPQ.out.1 (by rw [HPQ.out.2.2.1, HPQ.out.2.2.2]) ho.out.rd hq.out.rd).mono ?_
              rintro e' w5 ⟨v5, rfl, o5, x5⟩
              rw [timesN_cas] at o5
              have HO5 := Lib.hid (o5.mono hext.out.size)
              have HQ5 := Lib.hid (hq.out.ext x5)
              have HX5 := Lib.hid (hext.out.trans x5)
              clear o5 x5
              go_wp2_with fail
              refine (s_times _ _ qs qs _ HPQ.out.2.1 rfl HQ5.out.rd HQ5.out.rd).mono ?_
              rintro e' w6 ⟨v6, rfl, o6, x6⟩
              rw [timesN_cas] at o6
              have HQ6 := Lib.hid (o6.mono HX5.out.size)
              have HO6 := Lib.hid (HO5.out.ext x6)
              have HX6 := Lib.hid (HX5.out.trans x6)
              clear o6 x6
              go_wp2
              exact ⟨⟨_, _, F / 2, rfl, by omega, by omega, HM, HQ6, HO6, HX6⟩, by simp only [intOf]; omega⟩
            · have hb : (F % 2 == 1) = false := by rw [beq_eq_false_iff_ne]; exact hod
              have HM := Lib.hid (ppMid_even HBP.out.2.1 hmid.out (show F.toNat % 2 = 0 by omega))
              rw [show F.toNat / 2 = (F / 2).toNat from by omega] at HM
              clear hmid hod
              go_wp2_with fail
              refine (s_times _ _ qs qs _ HPQ.out.2.1 rfl hq.out.rd hq.out.rd).mono ?_
              rintro e' w6 ⟨v6, rfl, o6, x6⟩
              rw [timesN_cas] at o6
              have HQ6 := Lib.hid (o6.mono hext.out.size)
              have HO6 := Lib.hid (ho.out.ext x6)
              have HX6 := Lib.hid (hext.out.trans x6)
              clear o6 x6
              go_wp2
              exact ⟨⟨_, _, F / 2, rfl, by omega, by omega, HM, HQ6, HO6, HX6⟩, by simp only [intOf]; omega⟩
          · obtain rfl : F = 0 := by omega
            have HF := Lib.hid (ppMid_end hmid.out)
            rw [HEN.out] at HF
            clear hmid
            go_wp2
            go_ret2
            exact ⟨_, rfl, by rw [G.out, ← HF.out]; exact ho.out, hext.out⟩
theorem tmod_fixn {x : Int} {n : Int} : (x.tmod n + n) % n = x % n := by
  rw [Int.add_emod_right, Int.tmod_def, Int.sub_mul_emod_self_left]
/-- The places x that are as they shall be. -/
def okAt (R rs : List Int) (x : Nat) : Prop := rs[x]? = R[x]?
theorem okAt_set {R rs : List Int} {x y : Nat} {z : Int} (h : okAt R rs x) (hz : R[y]? = some z) : okAt R (rs.set y z) x := by
  unfold okAt at *
  by_cases e : y = x
  · subst e
    by_cases hl : y < rs.length
    · rw [List.getElem?_set_self hl, hz]
    · rw [List.getElem?_eq_none (by rw [List.length_set]; omega)]
      rw [List.getElem?_eq_none (by omega)] at h
      exact h
  · rw [List.getElem?_set_ne e]; exact h
theorem okAt_new {R rs : List Int} {y : Nat} {z : Int} (hl : y < rs.length) (hz : R[y]? = some z) : okAt R (rs.set y z) y := by
  unfold okAt
  rw [List.getElem?_set_self hl, hz]
set_option maxRecDepth 100000 in
set_option maxHeartbeats 2000000 in
theorem i_PowerPermutation (v : Value) (xs : List Int) (e : Int) (w : World) (h : Rd w v xs) (hn : xs.length ≤ 100000000) : Calls Try.prog 31 #[v, .int .i64 e] w (RetIntsI w (powOut xs e) (powCode xs e)) := by
  have HRD := Lib.hid h
  obtain ⟨a, cap, rfl, hc, hm, _⟩ := h
  obtain ⟨N, HN⟩ : ∃ N, Hid (N = xs.length) := ⟨_, Lib.hid rfl⟩
  have HNN : Hid (xs.length ≤ 100000000) := Lib.hid hn
  rw [← HN.out] at hc HRD ⊢
  clear hn
  cases hv : validP xs
  · have G : Hid (powOut xs e = []) := Lib.hid (by simp [powOut, hv])
    have G2 : Hid (powCode xs e = 1) := Lib.hid (by simp [powCode, hv])
    go_enter Try.func31, Try.ntmps31
    go_wp2_with fail
    refine (i_ValidPermutation _ xs _ HRD.out HNN.out).mono ?_
    rintro e' w1 ⟨rfl, hd⟩
    rw [hv]
    go_wp2
    go_ret2
    exact ⟨_, by rw [G2.out]; rfl, by rw [G.out]; exact OwnV.nil _ _ _, hd⟩
  · have HV := Lib.hid hv
    cases hi : inB e (-1000000) 1000000
    · have G : Hid (powOut xs e = []) := Lib.hid (by simp [powOut, hv, hi])
      have G2 : Hid (powCode xs e = 2) := Lib.hid (by simp [powCode, hv, hi])
      have HI := Lib.hid hi
      clear hv hi
      go_enter Try.func31, Try.ntmps31
      go_wp2_with fail
      refine (i_ValidPermutation _ xs _ HRD.out HNN.out).mono ?_
      rintro e' w1 ⟨rfl, hd⟩
      rw [HV.out]
      go_wp2_with fail
      refine (i_in _ _ _ _).mono ?_
      rintro e' _ ⟨rfl, rfl⟩
      rw [HI.out]
      go_wp2
      go_ret2
      exact ⟨_, by rw [G2.out]; rfl, by rw [G.out]; exact OwnV.nil _ _ _, hd⟩
    · obtain ⟨ns, hxs, hp⟩ := isP_of_valid hv
      obtain ⟨e1, e2⟩ := inB_two hi
      obtain ⟨R, HR⟩ : ∃ R, Hid (R = casN (powN (baseP ns e) e.natAbs)) := ⟨_, Lib.hid rfl⟩
      have G : Hid (powOut xs e = R) := Lib.hid (by rw [powOut, hv, hi, if_pos rfl, if_pos rfl, hxs, casN_toNat, HR.out])
      have G2 : Hid (powCode xs e = 0) := Lib.hid (by simp [powCode, hv, hi])
      have HK : Hid (N = ns.length) := Lib.hid (by rw [HN.out, hxs, List.length_map])
      have HRL : Hid (R.length = N) := Lib.hid (by rw [HR.out, List.length_map, powN_len, (baseP_ok hp e).2, HK.out])
      have HXS := Lib.hid hxs
      have HP := Lib.hid hp
      have HI := Lib.hid hi
      have hN32 : N ≤ 32 := by rw [HK.out]; exact hp.1
      have HOK := Lib.hid (cyOk hp.2.1 hp.2.2 hp.1 ns.length (Nat.le_refl _))
      have hL32 := (isP_len hp).1
      rw [G2.out]
      clear hv hi hxs hp
      go_enter Try.func31, Try.ntmps31
      go_wp2_with fail
      refine (i_ValidPermutation _ xs _ HRD.out HNN.out).mono ?_
      rintro e' w1 ⟨rfl, hd⟩
      rw [HV.out]
      have HX := Lib.hid hd
      clear hd
      go_wp2_with fail
      refine (i_in _ _ _ _).mono ?_
      rintro e' _ ⟨rfl, rfl⟩
      rw [HI.out]
      go_wp2_with (at_make; refine wp_make _ rfl _ _ rfl w1.heap.size .i64 .i64 _ _ N rfl rfl rfl rfl (by omega) (Nat.le_refl _) ?_; intro w2 hown2 hext2)
      have HO2 := Lib.hid hown2
      have HX2 := Lib.hid (HX.out.trans hext2)
      have HG12 : Hid (w1.heap.size < w2.heap.size) := Lib.hid ((hown2.lt w1.heap.size rfl).2)
      have hsz0 := HX.out.size
      clear hown2 hext2
      refine (i_cycles _ ns _ HP.out (by rw [← HXS.out]; exact HRD.out.ext HX2.out)).mono ?_
      rintro e' w3 ⟨v3, rfl, hL3, hext3⟩
      have HL3 := Lib.hid hL3
      have HO3 := Lib.hid (HO2.out.ext hext3)
      have HX3 := Lib.hid (HX2.out.trans hext3)
      obtain ⟨av, capv, hve, hve1, hve2, _⟩ := hL3.form
      subst hve
      clear hL3 hext3
      obtain ⟨L, HL⟩ : ∃ L, Hid (L = (cycN ns).length) := ⟨_, Lib.hid rfl⟩
      rw [List.length_map, ← HL.out] at HL3 hve1 ⊢
      rw [← HL.out] at hL32
      obtain ⟨S, HS⟩ : ∃ S, Hid (S = w2.heap.size) := ⟨_, Lib.hid rfl⟩
      rw [← HS.out] at HL3 HG12
      have hS := HG12.out
      go_wp2
      go_loopw [24] (fun i wr => ∃ (ci : Nat) (rs : List Int), ci ≤ L ∧ i = .int .i64 ci ∧ Hid (rs.length = N) ∧ Hid (∀ i (h : i < (cycN ns).length), i < ci → ∀ x ∈ (cycN ns)[i], okAt R rs x) ∧ Hid (Own wr w1.heap.size (.slice (some ⟨w1.heap.size, 0, none⟩) N N) rs) ∧ Hid (OwnL wr S wr.heap.size (.slice av L capv) ((cycN ns).map casN)) ∧ Hid (Ext w wr)) (fun i _ => L - (intOf i).toNat)
      case atStart => exact ⟨0, List.replicate N 0, by omega, rfl, Lib.hid (by simp), Lib.hid (fun i h h2 => by omega), HO3, HL3, HX3⟩
      case round =>
        obtain ⟨ci, rs, hci, rfl, hrl, hdone, hown, hLL, hext⟩ := hrel
        by_cases hlt : ci < L
        · have hci' : ci < (cycN ns).length := by rw [← HL.out]; exact hlt
          obtain ⟨c, HCC⟩ : ∃ c, Hid (c = (cycN ns)[ci]) := ⟨_, Lib.hid rfl⟩
          obtain ⟨f1, f2, f3⟩ := HOK.out.2.1 c (by rw [HCC.out]; exact List.getElem_mem hci')
          have HF1 := Lib.hid f1
          have HF2 := Lib.hid f2
          have HF3 := Lib.hid f3
          obtain ⟨M, HM⟩ : ∃ M, Hid (M = c.length) := ⟨_, Lib.hid rfl⟩
          have hM1 : 1 ≤ M := by rw [HM.out]; exact List.length_pos_iff.2 f1
          have hM32 : M ≤ 32 := by
            have h1 := cycSum_mem hci'
            have h2 := (cycN_ok HP.out).1
            have h3 := HCC.out
            have h4 := HM.out
            have h5 := HK.out
            rw [h4, h3]; omega
          obtain ⟨ap, cp, hpe, _, _, hcells⟩ := hLL.out.form
          rw [List.length_map] at hpe
          obtain ⟨g, hga, hg0, hg1, hall⟩ := hcells (by rw [List.length_map]; omega)
          obtain ⟨b, n, cc, hcell, hin, hnl, hcc⟩ := hall ci (by rw [List.length_map]; exact hci')
          have hav : av = some ⟨g, 0, none⟩ := by
            rw [← hga]; injection hpe
          subst hav
          have hget : ((cycN ns).map casN)[ci]'(by rw [List.length_map]; exact hci') = casN c := by rw [List.getElem_map, ← HCC.out]
          rw [hget] at hin hnl
          rw [List.length_map, ← HM.out] at hnl
          have hnl2 := hnl.symm
          subst hnl2
          have HIN := Lib.hid hin
          clear f1 f2 f3 hin hall hcells hpe hga hget
          go_wp2_with fail
          refine (i_size _ _ _ _ (by omega)).mono ?_
          rintro e' wr ⟨rfl, rfl⟩
          go_wp2
          go_loopw [32] (fun i wr => ∃ (k : Nat) (rs : List Int), k ≤ M ∧ i = .int .i64 k ∧ Hid (rs.length = N) ∧ Hid (∀ i (h : i < (cycN ns).length), i < ci → ∀ x ∈ (cycN ns)[i], okAt R rs x) ∧ Hid (∀ j (h : j < c.length), j < k → okAt R rs c[j]) ∧ Hid (Own wr w1.heap.size (.slice (some ⟨w1.heap.size, 0, none⟩) N N) rs) ∧ Hid (OwnL wr S wr.heap.size (.slice (some ⟨g, 0, none⟩) L capv) ((cycN ns).map casN)) ∧ Hid (Own wr S (.slice b M cc) (casN c)) ∧ Hid (Ext w wr)) (fun i _ => M - (intOf i).toNat)
          case atStart => exact ⟨0, rs, by omega, rfl, hrl, hdone, Lib.hid (fun j h h2 => by omega), hown, hLL, HIN, hext⟩
          case round =>
            clear hrl hdone hown hLL hext HIN hcell
            obtain ⟨k, rs, hk, rfl, hrl, hdone, hdk, hown, hLL, hin, hext⟩ := hrel
            by_cases hlt2 : k < M
            · have hkc : k < c.length := by rw [← HM.out]; exact hlt2
              obtain ⟨gb, rfl, hgb0, hgb1⟩ : ∃ gb, b = some ⟨gb, 0, none⟩ ∧ S ≤ gb ∧ gb < wr.heap.size := by
                obtain ⟨g', c', h1, _, h3, h4⟩ := hin.out.head (by rw [List.length_map, List.length_map]; omega)
                cases h1
                exact ⟨g', rfl, h3, h4⟩
              obtain ⟨x, HXX⟩ : ∃ x, Hid (x = c[k]) := ⟨_, Lib.hid rfl⟩
              have hxN : x < N := by rw [HXX.out, HK.out]; exact HF2.out _ (List.getElem_mem hkc)
              have hcx := hin.out.cell k (by rw [List.length_map, List.length_map]; exact hkc)
              have e3 : ((casN c).map (Value.int .i64))[k]'(by rw [List.length_map, List.length_map]; exact hkc) = .int .i64 (x : Int) := by rw [List.getElem_map, List.getElem_map, HXX.out]
              rw [e3] at hcx
              obtain ⟨t, HT⟩ : ∃ t : Nat, Hid ((t : Int) = ((k : Int) + e) % (M : Int)) := ⟨(((k : Int) + e) % (M : Int)).toNat, Lib.hid (by
                have := Int.emod_nonneg ((k : Int) + e) (show (M : Int) ≠ 0 by omega)
                omega)⟩
              obtain ⟨htc, hpw⟩ := pow_cyc HP.out HF1.out HF2.out HF3.out e k hkc t (by rw [HT.out, HM.out])
              have htM : t < M := by rw [HM.out]; exact htc
              obtain ⟨y, HYY⟩ : ∃ y, Hid (y = c[t]) := ⟨_, Lib.hid rfl⟩
              have hct := hin.out.cell t (by rw [List.length_map, List.length_map]; exact htc)
              have e4 : ((casN c).map (Value.int .i64))[t]'(by rw [List.length_map, List.length_map]; exact htc) = .int .i64 (y : Int) := by rw [List.getElem_map, List.getElem_map, HYY.out]
              rw [e4] at hct
              have HRX : Hid (R[x]? = some (y : Int)) := Lib.hid (by
                have h1 : x < (baseP ns e).length := by rw [(baseP_ok HP.out e).2, ← HK.out]; exact hxN
                have h2 := powN_getD (ns := baseP ns e) e.natAbs x h1
                rw [HXX.out, hpw, ← HYY.out] at h2
                have h3 : x < (powN (baseP ns e) e.natAbs).length := by rw [powN_len]; exact h1
                rw [← HXX.out, List.getD, List.getElem?_eq_getElem h3] at h2
                simp only [Option.getD_some] at h2
                rw [HR.out, List.getElem?_map, List.getElem?_eq_getElem h3, h2]; rfl)
              have hmod : (((k : Int) + e).tmod (M : Int) + (M : Int)) % (M : Int) = (t : Int) := by rw [tmod_fixn, HT.out]
              have ht1 : -(M : Int) < ((k : Int) + e).tmod (M : Int) := Int.lt_tmod_of_pos _ (by omega)
              have ht2 : ((k : Int) + e).tmod (M : Int) < (M : Int) := Int.tmod_lt_of_pos _ (by omega)
              have hrx := hown.out.cell x (by rw [List.length_map, hrl.out]; exact hxN)
              have hfx := hown.out.frozen x
              obtain ⟨hs1, hs2⟩ := hown.out.stored x (.int .i64 (y : Int))
              have HOS : Hid (Own (wr.setCell ⟨w1.heap.size, x, none⟩ (.int .i64 (y : Int))) w1.heap.size (.slice (some ⟨w1.heap.size, 0, none⟩) N N) (rs.set x (y : Int))) := Lib.hid (by
                unfold Own; rw [List.map_set]; exact hs1)
              have HLS : Hid (OwnL (wr.setCell ⟨w1.heap.size, x, none⟩ (.int .i64 (y : Int))) S (wr.setCell ⟨w1.heap.size, x, none⟩ (.int .i64 (y : Int))).heap.size (.slice (some ⟨g, 0, none⟩) L capv) ((cycN ns).map casN)) := Lib.hid ((hLL.out.keptOld hs2 (fun q hq => by cases hq; exact hS)).size)
              have HIS : Hid (Own (wr.setCell ⟨w1.heap.size, x, none⟩ (.int .i64 (y : Int))) S (.slice (some ⟨gb, 0, none⟩) M cc) (casN c)) := Lib.hid (hin.out.kept hs2 (.inr (by simp [Value.ownBlock]; omega)))
              have HXS2 : Hid (Ext w (wr.setCell ⟨w1.heap.size, x, none⟩ (.int .i64 (y : Int)))) := Lib.hid (ext_app (e := 2) (v := .slice (some ⟨w1.heap.size, 0, none⟩) N N) hext.out (hown.out.mono hsz0) hs2)
              have HRL2 : Hid ((rs.set x (y : Int)).length = N) := Lib.hid (by rw [List.length_set]; exact hrl.out)
              have HD2 : Hid (∀ i (h : i < (cycN ns).length), i < ci → ∀ z ∈ (cycN ns)[i], okAt R (rs.set x (y : Int)) z) := Lib.hid (fun i h h2 z hz => okAt_set (hdone.out i h h2 z hz) HRX.out)
              have HDK2 : Hid (∀ j (h : j < c.length), j < k + 1 → okAt R (rs.set x (y : Int)) c[j]) := Lib.hid (fun j h h2 => by
                by_cases e : j = k
                · subst e; rw [← HXX.out]; exact okAt_new (by rw [hrl.out]; exact hxN) HRX.out
                · exact okAt_set (hdk.out j h (by omega)) HRX.out)
              have hne1 : gb ≠ w1.heap.size := by omega
              generalize (rs.map (Value.int .i64))[x]'(by rw [List.length_map, hrl.out]; exact hxN) = old at hrx
              clear hs1 hs2 hown hLL hin hext hrl hdone hdk e3 e4 hpw
              go_wp2
              exact ⟨⟨k + 1, _, by omega, by go_num, HRL2, HD2, HDK2, HOS, HLS, HIS, HXS2⟩, by simp only [intOf]; omega⟩
            · obtain rfl : k = M := by omega
              have HD2 : Hid (∀ i (h : i < (cycN ns).length), i < ci + 1 → ∀ z ∈ (cycN ns)[i], okAt R rs z) := Lib.hid (fun i h h2 z hz => by
                by_cases e : i = ci
                · subst e
                  rw [← HCC.out] at hz
                  obtain ⟨j, hj, rfl⟩ := List.mem_iff_getElem.1 hz
                  exact hdk.out j hj (by rw [HM.out]; exact hj)
                · exact hdone.out i h (by omega) z hz)
              clear hdone hdk
              go_wp2
              exact ⟨⟨ci + 1, rs, by omega, by go_num, hrl, HD2, hown, hLL, hext⟩, by simp only [intOf]; omega⟩
        · obtain rfl : ci = L := by omega
          have HF : Hid (rs = R) := Lib.hid (by
            apply List.ext_getElem?
            intro x
            by_cases hx : x < N
            · obtain ⟨c, hc1, hc2⟩ := HOK.out.2.2.1 x (by rw [← HK.out]; exact hx) (HOK.out.2.2.2.1 x (by rw [← HK.out]; exact hx))
              obtain ⟨i, hi, rfl⟩ := List.mem_iff_getElem.1 hc1
              exact hdone.out i hi (by have := HL.out; unfold cycN at this; omega) x hc2
            · rw [List.getElem?_eq_none (by rw [hrl.out]; omega), List.getElem?_eq_none (by rw [HRL.out]; omega)])
          clear hdone
          go_wp2
          go_ret2
          exact ⟨_, rfl, by rw [G.out, ← HF.out]; exact hown.out.mono hsz0, hext.out⟩
theorem l_PowerPermutation (w : World) (v0 : Value) (xs0 : List Int) (h0 : Rd w v0 xs0) (a1 : Int) :
    Calls Try.prog 8 #[v0, .int .i64 a1] w fun e w' => e = .returned (.bool true) ∧ Ext w w' := by
  have r0_0 := h0
  obtain ⟨ad0, cap0, rfl, hc0, hm0, _⟩ := h0
  by_cases hl0 : 1048576 < xs0.length
  · go_enter Try.func8, Try.ntmps8
    go_wp2
    go_ret
    exact ⟨rfl, Ext.refl _⟩
  have hbd := Lib.hid (show (powOut xs0 a1).length ≤ 3000000 from powOut_len xs0 a1)
  obtain ⟨R, HR⟩ : ∃ R : List Int, Hid (R = powOut xs0 a1) := ⟨_, Lib.hid rfl⟩
  have hb : R.length ≤ 3000000 := by rw [HR.out]; exact hbd.out
  clear hbd
  have X0 : Ext w w := Ext.refl w
  go_enter Try.func8, Try.ntmps8
  go_wp2_with fail
  refine (l_toInt64S _ xs0 _ (by omega) r0_0).mono ?_
  rintro e w1 ⟨u_s0, rfl, s0_1, x1⟩
  have z1 := x1.size
  have X1 : Ext w w1 := X0.trans x1
  have r0_1 := r0_0.ext X1
  go_wp2_with fail
  refine (s_PowerPermutation _ xs0 a1 _ s0_1.rd s0_1.sane).mono ?_
  rintro e w2 ⟨u_wt, rfl, wt_2, x2⟩
  rw [← HR.out] at wt_2
  have z2 := x2.size
  have X2 : Ext w w2 := X1.trans x2
  have s0_2 := s0_1.ext x2
  have r0_2 := r0_0.ext X2
  go_wp2_with fail
  refine (l_toInt64S _ xs0 _ (by omega) r0_2).mono ?_
  rintro e w3 ⟨u_x0x, rfl, x0x_3, x3⟩
  have z3 := x3.size
  have X3 : Ext w w3 := X2.trans x3
  have s0_3 := s0_2.ext x3
  have wt_3 := wt_2.ext x3
  have r0_3 := r0_0.ext X3
  go_wp2_with fail
  refine (i_PowerPermutation _ xs0 a1 _ x0x_3.rd (by omega)).mono ?_
  rintro e w4 ⟨u_gt, rfl, gt_4, x4⟩
  rw [← HR.out] at gt_4
  have z4 := x4.size
  have X4 : Ext w w4 := X3.trans x4
  have s0_4 := s0_3.ext x4
  have wt_4 := wt_3.ext x4
  have x0x_4 := x0x_3.ext x4
  have r0_4 := r0_0.ext X4
  go_wp2_with fail
  refine (l_eqInt64S_t _ _ R _ gt_4.rd wt_4.rd).mono ?_
  rintro e w5 ⟨rfl, d5⟩
  have x5 := d5.ext
  have z5 := x5.size
  have X5 : Ext w w5 := X4.trans x5
  have s0_5 := s0_4.ext x5
  have wt_5 := wt_4.ext x5
  have x0x_5 := x0x_4.ext x5
  have gt_5 := gt_4.ext x5
  have r0_5 := r0_0.ext X5
  go_wp2_with fail
  refine (l_toInt64S _ xs0 _ (by omega) r0_5).mono ?_
  rintro e w6 ⟨u_t0, rfl, t0_6, x6⟩
  have z6 := x6.size
  have X6 : Ext w w6 := X5.trans x6
  have s0_6 := s0_5.ext x6
  have wt_6 := wt_5.ext x6
  have x0x_6 := x0x_5.ext x6
  have gt_6 := gt_5.ext x6
  have r0_6 := r0_0.ext X6
  go_wp2_with fail
  refine (l_eqInt64S_t _ _ xs0 _ x0x_6.rd t0_6.rd).mono ?_
  rintro e w7 ⟨rfl, d7⟩
  have x7 := d7.ext
  have z7 := x7.size
  have X7 : Ext w w7 := X6.trans x7
  have s0_7 := s0_6.ext x7
  have wt_7 := wt_6.ext x7
  have x0x_7 := x0x_6.ext x7
  have gt_7 := gt_6.ext x7
  have t0_7 := t0_6.ext x7
  have r0_7 := r0_0.ext X7
  go_wp2_with fail
  refine (l_markInt64S _ (1) xs0 _ _ (by omega) x0x_7).mono ?_
  rintro e w8 ⟨rfl, x0x_8, g8⟩
  have z8 := g8.size
  have X8 : Ext w w8 := Below.grown X7 g8 X7.size (fun j hj => Nat.le_trans (X2.size) (x0x_7.lt j hj).1)
  have s0_8 := s0_7.kept g8 (s0_1.apart x0x_7 (by omega))
  have wt_8 := wt_7.kept g8 (wt_2.apart x0x_7 (by omega))
  have gt_8 := gt_7.kept g8 (x0x_3.apart' gt_7 (by omega))
  have t0_8 := t0_7.kept g8 (x0x_3.apart' t0_7 (by omega))
  have r0_8 := r0_0.ext X8
  go_wp2_with fail
  refine (l_eqInt64S_t _ _ R _ gt_8.rd wt_8.rd).mono ?_
  rintro e w9 ⟨rfl, d9⟩
  have x9 := d9.ext
  have z9 := x9.size
  have X9 : Ext w w9 := X8.trans x9
  have s0_9 := s0_8.ext x9
  have wt_9 := wt_8.ext x9
  have x0x_9 := x0x_8.ext x9
  have gt_9 := gt_8.ext x9
  have t0_9 := t0_8.ext x9
  have r0_9 := r0_0.ext X9
  go_wp2_with fail
  refine (l_markInt64S _ (1) R _ _ (by omega) gt_9).mono ?_
  rintro e w10 ⟨rfl, gt_10, g10⟩
  have z10 := g10.size
  have X10 : Ext w w10 := Below.grown X9 g10 X9.size (fun j hj => Nat.le_trans (X3.size) (gt_9.lt j hj).1)
  have s0_10 := s0_9.kept g10 (s0_1.apart gt_9 (by omega))
  have wt_10 := wt_9.kept g10 (wt_2.apart gt_9 (by omega))
  have x0x_10 := x0x_9.kept g10 (x0x_3.apart gt_9 (by omega))
  have t0_10 := t0_9.kept g10 (gt_4.apart' t0_9 (by omega))
  have r0_10 := r0_0.ext X10
  go_wp2_with fail
  refine (l_heldInt64S _ 1 R.length _ (by omega) gt_10.rd).mono ?_
  rintro e _ ⟨rfl, rfl⟩
  go_wp2_with fail
  refine (l_toInt64S _ xs0 _ (by omega) r0_10).mono ?_
  rintro e w11 ⟨u_y0, rfl, y0_11, x11⟩
  have z11 := x11.size
  have X11 : Ext w w11 := X10.trans x11
  have s0_11 := s0_10.ext x11
  have wt_11 := wt_10.ext x11
  have x0x_11 := x0x_10.ext x11
  have gt_11 := gt_10.ext x11
  have t0_11 := t0_10.ext x11
  have r0_11 := r0_0.ext X11
  go_wp2_with fail
  refine (i_PowerPermutation _ xs0 a1 _ y0_11.rd (by omega)).mono ?_
  rintro e w12 ⟨u_ht, rfl, ht_12, x12⟩
  rw [← HR.out] at ht_12
  have z12 := x12.size
  have X12 : Ext w w12 := X11.trans x12
  have s0_12 := s0_11.ext x12
  have wt_12 := wt_11.ext x12
  have x0x_12 := x0x_11.ext x12
  have gt_12 := gt_11.ext x12
  have t0_12 := t0_11.ext x12
  have y0_12 := y0_11.ext x12
  have r0_12 := r0_0.ext X12
  go_wp2_with fail
  refine (l_eqInt64S_t _ _ R _ ht_12.rd wt_12.rd).mono ?_
  rintro e w13 ⟨rfl, d13⟩
  have x13 := d13.ext
  have z13 := x13.size
  have X13 : Ext w w13 := X12.trans x13
  have s0_13 := s0_12.ext x13
  have wt_13 := wt_12.ext x13
  have x0x_13 := x0x_12.ext x13
  have gt_13 := gt_12.ext x13
  have t0_13 := t0_12.ext x13
  have y0_13 := y0_12.ext x13
  have ht_13 := ht_12.ext x13
  have r0_13 := r0_0.ext X13
  go_wp2_with fail
  refine (l_heldInt64S _ 1 R.length _ (by omega) gt_13.rd).mono ?_
  rintro e _ ⟨rfl, rfl⟩
  go_wp2
  go_ret
  exact ⟨rfl, X13⟩

end Go.Proofs.Ytloacmfafccofaa
