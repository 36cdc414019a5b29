/- Powers of a permutation. Plain Lean; no condition. -/
import Derived.Test.YtloacmfafccofaaCycMath
namespace Go.Proofs.Ytloacmfafccofaa

/-! powers of a permutation -/
def pIt (ns : List Nat) : Nat → Nat → Nat
  | 0, x => x
  | m + 1, x => ns.getD (pIt ns m x) 0
def powN (ns : List Nat) (m : Nat) : List Nat := (List.range ns.length).map (pIt ns m)
theorem powN_len (ns : List Nat) (m : Nat) : (powN ns m).length = ns.length := by simp [powN]
theorem pIt_lt {ns : List Nat} (hp : ∀ i (h : i < ns.length), ns[i] < ns.length) (m : Nat) : ∀ x, x < ns.length → pIt ns m x < ns.length := by
  induction m with
  | zero => intro x hx; exact hx
  | succ m ih =>
    intro x hx
    have := ih x hx
    rw [pIt, List.getD, List.getElem?_eq_getElem this]
    exact hp _ this
theorem powN_getD {ns : List Nat} (m x : Nat) (hx : x < ns.length) : (powN ns m).getD x 0 = pIt ns m x := by
  rw [List.getD, List.getElem?_eq_getElem (by rw [powN_len]; exact hx)]
  simp [powN]
theorem pIt_add (ns : List Nat) (m : Nat) : ∀ n x, pIt ns (m + n) x = pIt ns n (pIt ns m x)
  | 0, _ => rfl
  | n + 1, x => by rw [← Nat.add_assoc, pIt, pIt, pIt_add ns m n x]
theorem pIt_inj {ns : List Nat} (hp : ∀ i (h : i < ns.length), ns[i] < ns.length) (hn : ns.Nodup) (m : Nat) : ∀ x y, x < ns.length → y < ns.length → pIt ns m x = pIt ns m y → x = y := by
  induction m with
  | zero => intro x y _ _ h; exact h
  | succ m ih =>
    intro x y hx hy h
    exact ih x y hx hy (p_inj hn (pIt_lt hp m x hx) (pIt_lt hp m y hy) h)
theorem powN_nodup {ns : List Nat} (hp : ∀ i (h : i < ns.length), ns[i] < ns.length) (hn : ns.Nodup) (m : Nat) : (powN ns m).Nodup := by
  unfold powN
  rw [List.Nodup, List.pairwise_map]
  refine List.Pairwise.imp_of_mem (R := fun a b => a ≠ b) (fun {a b} ha hb hne e => ?_) List.nodup_range
  rw [List.mem_range] at ha hb
  exact hne (pIt_inj hp hn m a b ha hb e)
/-- The list of the powers' product. -/
theorem powN_mul {ns : List Nat} (hp : ∀ i (h : i < ns.length), ns[i] < ns.length) (a b : Nat) : (powN ns a).map (fun x => (powN ns b).getD x 0) = powN ns (a + b) := by
  apply List.ext_getElem (by simp [powN])
  intro i h1 h2
  have hi : i < ns.length := by simpa [powN] using h1
  rw [List.getElem_map]
  have e1 : (powN ns a)[i]'(by rw [powN_len]; exact hi) = pIt ns a i := by simp [powN]
  have e2 : (powN ns (a + b))[i] = pIt ns (a + b) i := by simp [powN]
  rw [e1, e2, powN_getD _ _ (pIt_lt hp a i hi), pIt_add]
theorem powN_zero (ns : List Nat) : powN ns 0 = List.range ns.length := by
  unfold powN
  conv => rhs; rw [← List.map_id (List.range ns.length)]
  rfl
theorem powN_one {ns : List Nat} : powN ns 1 = ns := by
  apply List.ext_getElem (by rw [powN_len])
  intro i h1 h2
  simp [powN, pIt, h2]
/-- Half way in the fast power. -/
def ppMid (ns : List Nat) (T : Nat) (os qs : List Nat) (e : Nat) : Prop := ∃ a b, os = powN ns a ∧ qs = powN ns b ∧ a + b * e = T
theorem ppMid_odd {ns : List Nat} (hp : ∀ i (h : i < ns.length), ns[i] < ns.length) {T : Nat} {os qs : List Nat} {e : Nat} (h : ppMid ns T os qs e) (ho : e % 2 = 1) :
    ppMid ns T (os.map (fun x => qs.getD x 0)) (qs.map (fun x => qs.getD x 0)) (e / 2) := by
  obtain ⟨a, b, rfl, rfl, h3⟩ := h
  refine ⟨a + b, b + b, powN_mul hp a b, powN_mul hp b b, ?_⟩
  have he : e = 2 * (e / 2) + 1 := by omega
  generalize e / 2 = f at *
  subst he
  rw [Nat.mul_add, Nat.mul_one] at h3
  rw [Nat.add_mul]
  have : b * (2 * f) = b * f + b * f := by rw [Nat.two_mul, Nat.mul_add]
  omega
theorem ppMid_even {ns : List Nat} (hp : ∀ i (h : i < ns.length), ns[i] < ns.length) {T : Nat} {os qs : List Nat} {e : Nat} (h : ppMid ns T os qs e) (ho : e % 2 = 0) :
    ppMid ns T os (qs.map (fun x => qs.getD x 0)) (e / 2) := by
  obtain ⟨a, b, rfl, rfl, h3⟩ := h
  refine ⟨a, b + b, rfl, powN_mul hp b b, ?_⟩
  have he : e = 2 * (e / 2) := by omega
  generalize e / 2 = f at *
  subst he
  rw [Nat.add_mul]
  have : b * (2 * f) = b * f + b * f := by rw [Nat.two_mul, Nat.mul_add]
  omega
theorem ppMid_end {ns : List Nat} {T : Nat} {os qs : List Nat} (h : ppMid ns T os qs 0) : os = powN ns T := by
  obtain ⟨a, b, rfl, rfl, h3⟩ := h
  rw [← h3]; rfl
/-- One cycle, stepped through. -/
def stepOn (f : Nat → Nat) (c : List Nat) (s : Int) : Prop := ∀ j (h : j < c.length) (h2 : (((j : Int) + s) % (c.length : Int)).toNat < c.length), f c[j] = c[(((j : Int) + s) % (c.length : Int)).toNat]
theorem mod_lt' (x : Int) {n : Nat} (h : 0 < n) : (x % (n : Int)).toNat < n := by
  have h1 := Int.emod_nonneg x (show (n : Int) ≠ 0 by omega)
  have h2 := Int.emod_lt_of_pos x (show (0 : Int) < n by omega)
  omega
theorem stepOn_it {ns c : List Nat} {s : Int} (h : stepOn (fun x => ns.getD x 0) c s) : ∀ m : Nat, stepOn (pIt ns m) c (s * m)
  | 0 => by
    intro j hj h2
    have e : (((j : Int) + s * ((0 : Nat) : Int)) % (c.length : Int)).toNat = j := by
      rw [show s * ((0 : Nat) : Int) = 0 from Int.mul_zero s, Int.add_zero, Int.emod_eq_of_lt (by omega) (by omega)]; omega
    simp only [e]
    rfl
  | m + 1 => by
    intro j hj h2
    have ih := stepOn_it h m j hj (mod_lt' _ (by omega))
    have hk := mod_lt' ((j : Int) + s * m) (show 0 < c.length by omega)
    have h3 := h _ hk (mod_lt' _ (by omega))
    rw [pIt, ih]
    refine h3.trans ?_
    congr 2
    have e0 := Int.emod_nonneg ((j : Int) + s * m) (show (c.length : Int) ≠ 0 by omega)
    rw [Int.toNat_of_nonneg e0, Int.emod_add_emod]
    congr 1
    push_cast
    rw [Int.mul_add, Int.mul_one]
    omega

end Go.Proofs.Ytloacmfafccofaa
