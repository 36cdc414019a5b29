/- slices.SortFunc at []int64 with the program's closure 'b - a': the shelf's contract, laid over this program, at small values. No condition. -/
import Derived.Test.YtloacmfafccofaaSortLay
import Derived.Shelf.SlSortCmp.NoneTotal
import Derived.Lib.OwnBridge
namespace Go.Proofs.Ytloacmfafccofaa
open Go.RowKit Go.Shelf Go.Sort
def laidSortFunc_ren : Go.Shelf.Ren := ⟨fun | 6 => 65 | 15 => 80 | 14 => 79 | 28 => 90 | 29 => 91 | 20 => 82 | 21 => 83 | 22 => 84 | 23 => 85 | 24 => 86 | 25 => 87 | 26 => 88 | 27 => 89 | 46 => 101 | 47 => 102 | 48 => 103 | 49 => 104 | 50 => 105 | 57 => 110 | n => n, fun | 22 => 22 | 24 => 2 | 25 => 56 | 3 => 3 | 39 => 65 | 0 => 0 | 53 => 76 | 55 => 78 | 4 => 4 | 46 => 69 | 45 => 68 | 50 => 73 | 5 => 5 | 9 => 9 | 66 => 84 | 70 => 88 | 76 => 93 | 77 => 94 | n => n, fun | n => n⟩
theorem laidSortFunc : Go.Proofs.SlLaysF.n6 Try.prog laidSortFunc_ren := {
  mixed := by kernel_rfl
  f6 := ⟨Try.f65.name, by decide, Try.func65.trans (congrArg some (by kernel_rfl))⟩
  f14 := ⟨Try.f79.name, by decide, Try.func79.trans (congrArg some (by kernel_rfl))⟩
  f15 := Try.func80.trans (congrArg some (by kernel_rfl))
  f20 := ⟨Try.f82.name, by decide, Try.func82.trans (congrArg some (by kernel_rfl))⟩
  f21 := ⟨Try.f83.name, by decide, Try.func83.trans (congrArg some (by kernel_rfl))⟩
  f22 := ⟨Try.f84.name, by decide, Try.func84.trans (congrArg some (by kernel_rfl))⟩
  f23 := ⟨Try.f85.name, by decide, Try.func85.trans (congrArg some (by kernel_rfl))⟩
  f24 := ⟨Try.f86.name, by decide, Try.func86.trans (congrArg some (by kernel_rfl))⟩
  f25 := ⟨Try.f87.name, by decide, Try.func87.trans (congrArg some (by kernel_rfl))⟩
  f26 := ⟨Try.f88.name, by decide, Try.func88.trans (congrArg some (by kernel_rfl))⟩
  f27 := ⟨Try.f89.name, by decide, Try.func89.trans (congrArg some (by kernel_rfl))⟩
  f28 := Try.func90.trans (congrArg some (by kernel_rfl))
  f29 := Try.func91.trans (congrArg some (by kernel_rfl))
  f46 := ⟨Try.f101.name, by decide, Try.func101.trans (congrArg some (by kernel_rfl))⟩
  f47 := Try.func102.trans (congrArg some (by kernel_rfl))
  f48 := Try.func103.trans (congrArg some (by kernel_rfl))
  f49 := ⟨Try.f104.name, by decide, Try.func104.trans (congrArg some (by kernel_rfl))⟩
  f50 := ⟨Try.f105.name, by decide, Try.func105.trans (congrArg some (by kernel_rfl))⟩
  f57 := ⟨Try.f110.name, by decide, Try.func110.trans (congrArg some (by kernel_rfl))⟩
  t0 := Try.underlying0
  a0 := Try.isAgg0
  z0 := Try.sizeOf0
  v0 := Try.zeroValue0
  t3 := Try.underlying3
  a3 := Try.isAgg3
  z3 := Try.sizeOf3
  v3 := Try.zeroValue3
  t4 := Try.underlying4
  a4 := Try.isAgg4
  z4 := Try.sizeOf4
  v4 := Try.zeroValue4
  t5 := Try.underlying5
  a5 := Try.isAgg5
  z5 := Try.sizeOf5
  v5 := Try.zeroValue5
  t9 := Try.underlying9
  a9 := Try.isAgg9
  z9 := Try.sizeOf9
  v9 := Try.zeroValue9
  t22 := Try.underlying22
  a22 := Try.isAgg22
  z22 := Try.sizeOf22
  v22 := Try.zeroValue22
  a24 := Try.isAgg2
  z24 := Try.sizeOf2
  t25 := Try.underlying56
  a25 := Try.isAgg56
  z25 := Try.sizeOf56
  v25 := Try.zeroValue56
  t39 := Try.underlying65
  a39 := Try.isAgg65
  z39 := Try.sizeOf65
  v39 := Try.zeroValue65
  t45 := Try.underlying68
  a45 := Try.isAgg68
  z45 := Try.sizeOf68
  v45 := Try.zeroValue68
  t46 := Try.underlying69
  a46 := Try.isAgg69
  z46 := Try.sizeOf69
  v46 := Try.zeroValue69
  t50 := Try.underlying73
  a50 := Try.isAgg73
  z50 := Try.sizeOf73
  v50 := Try.zeroValue73
  t53 := Try.underlying76
  a53 := Try.isAgg76
  z53 := Try.sizeOf76
  v53 := Try.zeroValue76
  t55 := Try.underlying78
  a55 := Try.isAgg78
  z55 := Try.sizeOf78
  v55 := Try.zeroValue78
  t66 := Try.underlying84
  a66 := Try.isAgg84
  z66 := Try.sizeOf84
  v66 := Try.zeroValue84
  t70 := Try.underlying88
  a70 := Try.isAgg88
  z70 := Try.sizeOf88
  v70 := Try.zeroValue88
  t76 := Try.underlying93
  a76 := Try.isAgg93
  z76 := Try.sizeOf93
  v76 := Try.zeroValue93
  t77 := Try.underlying94
  a77 := Try.isAgg94
  z77 := Try.sizeOf94
  v77 := Try.zeroValue94 }

/-- The longest first. -/
def dn (xs : List Int) : List Int := xs.mergeSort fun x y => decide (y ≤ x)
theorem dn_perm (xs : List Int) : (dn xs).Perm xs := List.mergeSort_perm _ _
theorem dn_len (xs : List Int) : (dn xs).length = xs.length := (dn_perm xs).length_eq
theorem dn_sorted (xs : List Int) : (dn xs).Pairwise (fun x y => y ≤ x) :=
  (List.pairwise_mergeSort (le := fun x y : Int => decide (y ≤ x)) (by intro a b c; simp; omega) (by intro a b; simp; omega) xs).imp (by intro a b h; simpa using h)
theorem dn_unique : ∀ {ys zs : List Int}, ys.Perm zs → ys.Pairwise (fun x y => y ≤ x) → zs.Pairwise (fun x y => y ≤ x) → ys = zs
  | [], zs, h, _, _ => (List.nil_perm.1 h).symm
  | y :: ys, [], h, _, _ => (List.perm_nil.1 h)
  | y :: ys, z :: zs, h, h1, h2 => by
    rw [List.pairwise_cons] at h1 h2
    have e : y = z := by
      have hy : y ∈ z :: zs := h.mem_iff.1 (List.mem_cons_self ..)
      have hz : z ∈ y :: ys := h.mem_iff.2 (List.mem_cons_self ..)
      rcases List.mem_cons.1 hy with e | hy
      · exact e
      · rcases List.mem_cons.1 hz with e | hz
        · exact e.symm
        · exact Int.le_antisymm (h2.1 y hy) (h1.1 z hz)
    subst e
    rw [dn_unique h.cons_inv h1.2 h2.2]
theorem dn_of {xs ys : List Int} (h : ys.Perm xs) (hs : ys.Pairwise (fun x y => y ≤ x)) : ys = dn xs := dn_unique (h.trans (dn_perm xs).symm) hs (dn_sorted xs)
def encF (x : Fin 64) : Value := .int .i64 (x.val : Int)
def cfF (x y : Fin 64) : Int := (y.val : Int) - (x.val : Int)
theorem ltF (x y : Fin 64) : ltOf cfF x y = decide (y.val < x.val) := by
  unfold ltOf cfF
  rw [decide_eq_decide]
  omega
theorem swoF : SWO (ltOf cfF) where
  irrefl x := by rw [ltF]; simp
  trans x y z h1 h2 := by rw [ltF] at *; simp at *; omega
  ntrans x y z h1 h2 := by rw [ltF] at *; simp at *; omega
theorem totF (x y : Fin 64) (h1 : ltOf cfF x y = false) (h2 : ltOf cfF y x = false) : x = y := by rw [ltF] at *; simp at *; apply Fin.ext; omega
def unF (d : List (Fin 64)) : List Int := d.map fun x => (x.val : Int)
theorem exF : ∀ {xs : List Int}, (∀ x ∈ xs, 0 ≤ x ∧ x < 64) → ∃ d, unF d = xs
  | [], _ => ⟨[], rfl⟩
  | x :: xs, h => by
    obtain ⟨d, hd⟩ := exF (fun y hy => h y (List.mem_cons_of_mem _ hy))
    have hx := h x (List.mem_cons_self ..)
    refine ⟨(⟨x.toNat, by omega⟩ : Fin 64) :: d, ?_⟩
    unfold unF at *
    rw [List.map_cons, hd]
    congr 1
    show ((x.toNat : Nat) : Int) = x
    omega
theorem putRowF (w : World) (g : Nat) (d : List (Fin 64)) : putRow encF w g 0 d.toArray = putRow (Value.int .i64) w g 0 (unF d).toArray := by
  unfold putRow
  congr 1
  funext c
  unfold putCells
  congr 1
  funext k x
  simp only [List.size_toArray, unF, List.length_map]
  split
  · rename_i h
    rw [getElem!_pos _ _ (by simp; omega), getElem!_pos _ _ (by simp; omega)]
    simp [encF]
  · rfl
theorem sortedF (d : List (Fin 64)) : unF (d.mergeSort fun x y => !(ltOf cfF) y x) = dn (unF d) := by
  have h1 : (d.mergeSort fun x y => !(ltOf cfF) y x).Pairwise (fun x y => y.val ≤ x.val) :=
    (List.pairwise_mergeSort (le := fun x y : Fin 64 => !(ltOf cfF) y x) (by intro a b c; rw [ltF, ltF, ltF]; simp; omega) (by intro a b; rw [ltF, ltF]; simp; omega) d).imp (by intro a b h; rw [ltF] at h; simpa using h)
  refine dn_of ((List.mergeSort_perm _ _).map _) ?_
  unfold unF
  rw [List.pairwise_map]
  exact h1.imp (by intro a b h; omega)
theorem closF (x y : Fin 64) (w : World) : Calls Try.prog 66 #[encF x, encF y] w fun e w' => e = .returned (.int .i64 (cfF x y)) ∧ ∃ q, w' = w.drewN q := by
  have hx := x.isLt
  have hy := y.isLt
  unfold encF cfF
  generalize (x.val : Nat) = a at *
  generalize (y.val : Nat) = b at *
  go_enter Try.func66, Try.ntmps66
  go_wp2
  go_ret
  exact ⟨rfl, 0, rfl⟩
theorem c_SortD (v : Value) (xs : List Int) (lo : Nat) (w : World) (hn : xs.length ≤ 1000000000) (hx : ∀ x ∈ xs, 0 ≤ x ∧ x < 64) (h : Own w lo v xs) :
    Calls Try.prog 65 #[v, .func (.func 66) #[] #[]] w fun e w' => e = .returned (.tuple #[]) ∧ Own w' lo v (dn xs) ∧ w.grownBy w' v.ownBlock := by
  by_cases h0 : xs.length = 0
  · have hx : xs = [] := List.eq_nil_of_length_eq_zero h0
    subst hx
    obtain ⟨a, cap, hv, _⟩ := h.form
    simp only [List.map_nil, List.length_nil] at hv
    subst hv
    have key := AnyF.slices_SortFunc_none (P := Try.prog) (ρ := laidSortFunc_ren) { laidSortFunc with } a cap (.func (.func 66) #[] #[]) w
    refine Calls.mono (P := Try.prog) key ?_
    rintro e w' ⟨rfl, rfl⟩
    exact ⟨rfl, by simpa [dn] using h, World.grownBy.refl _ _⟩
  · obtain ⟨d, hd⟩ := exF hx
    obtain ⟨h1, h2⟩ := h
    rcases h2 with ⟨h3, h4⟩ | ⟨g, cap, cur, h3, h4, h5, h6, h7, h8, h9⟩
    · simp at h4; exact absurd (by simp [h4]) h0
    · subst h3
      have hsz : g < w.heap.size := (Array.getElem?_eq_some_iff.1 h5).1
      have hdl : d.length = xs.length := by rw [← hd]; simp [unF]
      have hH : Holds (Value.int .i64) w g 0 xs.toArray := holds_of_blockI h5 (by simpa using h9)
      have hHF : Holds encF w g 0 d.toArray := by
        intro j hj
        have hj1 : j < d.length := by simpa using hj
        have := hH j (by simp; omega)
        refine ⟨?_, this.2⟩
        rw [this.1, getElem!_pos _ _ (by simp; omega), getElem!_pos _ _ (by simpa using hj1)]
        simp only [List.getElem_toArray, ← hd]
        simp [encF, unF]
      have eg : ∀ args w, (callFunc 66 args).run Try.prog w = .ok (.enter 66 args) w := enters_of Try.func66 (by kernel_rfl) rfl
      have hcm : CmpReads Try.prog 66 #[] encF cfF g 0 d.toArray.size w := fun _ _ _ _ x y => closF x y _
      have key := Any.slices_SortFunc_total laidSortFunc encF (fun _ => rfl) cfF swoF 66 #[] g 0 cap d.toArray w eg hcm.lays hHF hsz (by simp; omega) totF
      simp only [List.length_map]
      rw [List.size_toArray, hdl] at key
      refine Calls.mono (P := Try.prog) key ?_
      rintro e w' ⟨rfl, n, os, rfl⟩
      refine ⟨rfl, ?_, ?_⟩
      · unfold sortWorld
        rw [putRowF, sortedF, hd]
        have := ownsRow_sortedI (n := n) (os := os) (ts := dn xs) (ss := xs) (dn_len xs) h4 h5 (by simpa using h6) h7 h8
        unfold Own OwnV
        rw [List.length_map, dn_len]
        exact this
      · unfold sortWorld
        rw [putRowF]
        exact grownBy_sortedI _
end Go.Proofs.Ytloacmfafccofaa
