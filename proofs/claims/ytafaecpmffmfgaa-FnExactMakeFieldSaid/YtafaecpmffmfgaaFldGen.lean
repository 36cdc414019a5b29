/- Every valid field of degree two or more has a generator: how certificates are checked. Plain Lean; no condition. -/
import Derived.Test.YtafaecpmffmfgaaFldGrp
namespace Go.Proofs.Ytafaecpmffmfgaa

/-! every valid field of degree two or more has a generator: certificates for the kernel -/
def shl (p : Int) (cs v : List Int) : List Int := List.zipWith (fun a c => (a - v.getD (cs.length - 1) 0 * c) % p) (0 :: v) cs
def hmul (p : Int) (cs : List Int) : List Int → List Int → List Int
  | [], _ => List.replicate cs.length 0
  | a :: x, y => List.zipWith (fun u v => (a * u + v) % p) y (shl p cs (hmul p cs x y))
section
variable {p : Int} {cs : List Int}
theorem shl_len (v : List Int) (hv : v.length = cs.length) : (shl p cs v).length = cs.length := by
  simp [shl, hv]
theorem hmul_len (y : List Int) (hy : y.length = cs.length) : ∀ x, (hmul p cs x y).length = cs.length
  | [] => by simp [hmul]
  | a :: x => by rw [hmul, List.length_zipWith, shl_len _ (hmul_len y hy x), hy]; omega
theorem hmul_mod (hp : 0 < p) (y : List Int) : ∀ x, InMod p (hmul p cs x y)
  | [] => InMod_repl hp _
  | a :: x => by
    intro z hz
    rw [hmul] at hz
    obtain ⟨i, hi, e⟩ := List.mem_iff_getElem.1 hz
    rw [List.getElem_zipWith] at e
    rw [← e]
    exact ⟨Int.emod_nonneg _ (by omega), Int.emod_lt_of_pos _ hp⟩
theorem toV_shl (v : List Int) (hv : v.length = cs.length) : veq p (toV (shl p cs v)) (vX cs.length (toV cs) (toV v)) := by
  intro i
  by_cases hi : i < cs.length
  · have hl := shl_len (p := p) (cs := cs) v hv
    simp only [toV, vX, if_pos hi]
    rw [getD_get _ _ (by rw [hl]; exact hi)]
    simp only [shl, List.getElem_zipWith]
    rw [Int.emod_emod, getD_get cs i hi]
    cases i with
    | zero => simp
    | succ i => simp only [List.getElem_cons_succ, Nat.succ_ne_zero, if_false, Nat.add_sub_cancel]; rw [getD_get v i (by omega)]
  · simp only [toV, vX, if_neg hi]
    rw [List.getD, List.getElem?_eq_none (by rw [shl_len _ hv]; omega)]; rfl
theorem hmul_H (hp : 0 < p) (y : List Int) (hy : y.length = cs.length) : ∀ x, veq p (toV (hmul p cs x y)) (vH cs.length (toV cs) x (toV y))
  | [] => by intro i; rw [hmul, vH, toV, repl_getD]; rfl
  | a :: x => by
    have ih := hmul_H hp y hy x
    have h1 := (toV_shl (p := p) _ (hmul_len (p := p) y hy x)).trans' (veq_X ih)
    rw [vH]
    refine veq.trans' ?_ (veq_add (veq.rfl' _) h1)
    intro i
    rw [hmul]
    have hl := shl_len (p := p) _ (hmul_len (p := p) y hy x)
    by_cases hi : i < cs.length
    · simp only [toV, vadd, vsmul]
      rw [getD_get _ _ (by rw [List.length_zipWith, hl, hy]; omega), List.getElem_zipWith, Int.emod_emod, getD_get y i (by omega), getD_get _ _ (by omega)]
    · simp only [toV, vadd, vsmul, List.getD]
      rw [List.getElem?_eq_none (by rw [List.length_zipWith, hl, hy]; omega), List.getElem?_eq_none (by omega), List.getElem?_eq_none (by rw [hl]; omega)]
      simp
theorem hmul_eq (hp : 0 < p) (hD : 1 ≤ cs.length) (x y : List Int) (hx : x.length = cs.length) (hy : y.length = cs.length) : mulL p cs x y = hmul p cs x y :=
  toV_inj (by rw [mulL_len, hmul_len y hy]) (mulL_mod hp _ _ _) (hmul_mod hp y x) ((mulL_H cs x y hD hx hy).trans' (hmul_H hp y hy x).symm')
end
/-- l: the powers of its first number, from the first power on to 1. -/
def chkG (p : Int) (cs : List Int) (g : Int) : Int → List Int → Bool
  | _, [] => true
  | x, y :: l => numL p (hmul p cs (digL p cs.length x) (digL p cs.length g)) == y && chkG p cs g y l
def chkGen (p : Int) (cs : List Int) (q : Nat) (l : List Int) : Bool :=
  (l.length == q - 1) && chkG p cs (l.getD 0 0) 1 l && (l.getD (q - 2) 0 == 1) && (l.take (q - 2)).all (fun x => !(x == 1)) && ((List.range (q - 1)).all fun a => l.any fun x => x == (a : Int) + 1)
def chkOne (p : Int) (D n : Nat) : (Nat × Nat) ⊕ List Int → Bool
  | .inl (d, m) => decide (2 * d ≤ D) && decide (1 ≤ d) && decide ((m : Int) < p ^ d) && divB p (digL p D n ++ [1]) d m
  | .inr l => chkGen p (digL p D n) (p ^ D).toNat l
def chkFrom (p : Int) (D : Nat) : Nat → List ((Nat × Nat) ⊕ List Int) → Bool
  | _, [] => true
  | n, c :: r => chkOne p D n c && chkFrom p D (n + 1) r
def chkAll (p : Int) (D : Nat) (l : List ((Nat × Nat) ⊕ List Int)) : Bool := (l.length == (p ^ D).toNat) && chkFrom p D 0 l
section
variable {p : Int} {cs : List Int}
theorem chkG_pw (hp : 0 < p) (hD : 1 ≤ cs.length) (g : Int) : ∀ (l : List Int) (x : Int) (k : Nat), chkG p cs g x l = true → x = pwN p cs g k → ∀ j (h : j < l.length), l[j] = pwN p cs g (k + 1 + j)
  | [], _, _, _, _, j, h => by simp at h
  | y :: l, x, k, hc, hx, j, h => by
    rw [chkG, Bool.and_eq_true, beq_iff_eq, ← hmul_eq hp hD _ _ (digL_len _ _) (digL_len _ _)] at hc
    have hy : y = pwN p cs g (k + 1) := by rw [pwN, ← hx, ← hc.1]; rfl
    cases j with
    | zero => simpa using hy
    | succ j =>
      have := chkG_pw hp hD g l y (k + 1) hc.2 hy j (by simpa using h)
      rw [List.getElem_cons_succ, this]
      congr 1; omega
theorem chkGen_ok (hp : 2 ≤ p) (hD : 1 ≤ cs.length) {l : List Int} (h : chkGen p cs (p ^ cs.length).toNat l = true) : ∃ g : Int, 1 ≤ g ∧ g < p ^ cs.length ∧ Gen p cs (p ^ cs.length).toNat g := by
  have hq := q_ge hp hD
  simp only [chkGen, Bool.and_eq_true, beq_iff_eq] at h
  obtain ⟨⟨⟨⟨h1, h2⟩, h3⟩, h4⟩, h5⟩ := h
  have hpw := chkG_pw (by omega) hD (l.getD 0 0) l 1 0 h2 rfl
  generalize hg : l.getD 0 0 = g at *
  generalize hqq : (p ^ cs.length).toNat = q at *
  have hq2 : 2 ≤ q := by omega
  have e1 : pwN p cs g (q - 1) = 1 := by
    rw [getD_get _ _ (by omega)] at h3
    have := hpw (q - 2) (by omega)
    rw [h3, show 0 + 1 + (q - 2) = q - 1 from by omega] at this
    exact this.symm
  have e0 : g = mulN p cs 1 g := by
    have := hpw 0 (by omega)
    rw [getD_get _ _ (by omega)] at hg
    rw [hg] at this
    exact this
  have hb := mulN_bd (cs := cs) (show 0 < p by omega) 1 g
  rw [← e0] at hb
  refine ⟨g, ?_, hb.2, e1, fun i i1 i2 i3 => ?_, fun a a1 a2 => ?_⟩
  · by_cases h0 : g = 0
    · subst h0
      obtain ⟨m, hm⟩ : ∃ m, q - 1 = m + 1 := ⟨q - 2, by omega⟩
      rw [hm, pwN, mulN_zero (by omega) hD] at e1
      omega
    · omega
  · have hl : i - 1 < (l.take (q - 2)).length := by rw [List.length_take]; omega
    have h7 := List.all_eq_true.1 h4 _ (List.getElem_mem hl)
    have h8 := hpw (i - 1) (by omega)
    rw [show 0 + 1 + (i - 1) = i from by omega, i3] at h8
    rw [List.getElem_take, h8] at h7
    simp at h7
  · have h7 := List.all_eq_true.1 h5 (a - 1).toNat (by rw [List.mem_range]; omega)
    obtain ⟨x, hx, h8⟩ := List.any_eq_true.1 h7
    obtain ⟨j, hj, e⟩ := List.mem_iff_getElem.1 hx
    refine ⟨0 + 1 + j, ?_⟩
    rw [← hpw j hj, e]
    simp only [beq_iff_eq] at h8
    omega
theorem chkFrom_at (D : Nat) : ∀ (l : List ((Nat × Nat) ⊕ List Int)) (n : Nat), chkFrom p D n l = true → ∀ j (h : j < l.length), chkOne p D (n + j) l[j] = true
  | [], _, _, j, h => by simp at h
  | c :: r, n, hc, j, h => by
    rw [chkFrom, Bool.and_eq_true] at hc
    cases j with
    | zero => exact hc.1
    | succ j =>
      have := chkFrom_at D r (n + 1) hc.2 j (by simpa using h)
      rw [show n + (j + 1) = n + 1 + j from by omega]
      exact this
theorem chkAll_gen (hp : 2 ≤ p) (hD : 1 ≤ cs.length) (hc : InMod p cs) (hi : irrB p (cs ++ [1]) = true) {l : List ((Nat × Nat) ⊕ List Int)} (h : chkAll p cs.length l = true) :
    ∃ g : Int, 1 ≤ g ∧ g < p ^ cs.length ∧ Gen p cs (p ^ cs.length).toNat g := by
  rw [chkAll, Bool.and_eq_true, beq_iff_eq] at h
  have hb := numL_nonneg (show 0 < p by omega) cs hc
  have h1 := chkFrom_at cs.length l 0 h.2 (numL p cs).toNat (by omega)
  have e : (((0 + (numL p cs).toNat : Nat) : Nat) : Int) = numL p cs := by omega
  generalize l[(numL p cs).toNat]'(by omega) = c at h1
  cases c with
  | inl dm =>
    obtain ⟨d, m⟩ := dm
    simp only [chkOne, Bool.and_eq_true, decide_eq_true_eq] at h1
    obtain ⟨⟨⟨a1, a2⟩, a3⟩, a4⟩ := h1
    rw [e, dig_num (by omega) cs hc] at a4
    have := irrMid_hit (p := p) (by omega) (poly := cs ++ [1]) (d := d - 1) (n := m) (by simp; omega) (by rw [show d - 1 + 1 = d from by omega]; exact a3) (by rw [show d - 1 + 1 = d from by omega]; exact a4)
    rw [hi] at this; cases this
  | inr l =>
    simp only [chkOne] at h1
    rw [e, dig_num (by omega) cs hc] at h1
    exact chkGen_ok hp hD h1
end

end Go.Proofs.Ytafaecpmffmfgaa
