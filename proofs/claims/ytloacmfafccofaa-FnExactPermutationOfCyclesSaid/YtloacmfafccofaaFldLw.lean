/- Fields among the arguments: their cells; the laws' own helpers szField, toField, eqField; without the fields' theory (a turn of FldLaw for a seat that lacks it). No condition. -/
import Derived.Test.YtloacmfafccofaaSlices
namespace Go.Proofs.Ytloacmfafccofaa
open Go.RowKit

/-- Field's three cells, in block b. -/
def FldAt (w : World) (b : Nat) (P D : Int) (v : Value) : Prop := b < w.heap.size ∧ w.cell? ⟨b, 0, none⟩ = some (.int .i64 P) ∧ w.cell? ⟨b, 1, none⟩ = some (.int .i64 D) ∧ w.cell? ⟨b, 2, none⟩ = some v
theorem FldAt.ext {w w' : World} {b : Nat} {P D : Int} {v : Value} (h : FldAt w b P D v) (he : Ext w w') : FldAt w' b P D v := by
  obtain ⟨h0, h1, h2, h3⟩ := h
  exact ⟨Nat.lt_of_lt_of_le h0 he.size, by rw [he.cell (p := ⟨b, 0, none⟩) h0]; exact h1, by rw [he.cell (p := ⟨b, 1, none⟩) h0]; exact h2, by rw [he.cell (p := ⟨b, 2, none⟩) h0]; exact h3⟩
theorem FldAt.new (w : World) (P D : Int) (v : Value) (t : TypeId) : FldAt (w.alloc (.cells #[.int .i64 P, .int .i64 D, v] t)) w.heap.size P D v := by
  refine ⟨by simp, ?_, ?_, ?_⟩ <;> · simp only [World.cell?, heap_alloc_new]; rfl
theorem l_szInt64S (v : Value) (xs : List Int) (l : Int) (w : World) (h : Rd w v xs) (hl : 0 ≤ l) (hl2 : l ≤ 1048576) :
    Calls Try.prog 71 #[v, .int .i64 l] w fun e w' => e = .returned (.int .i64 (if (xs.length : Int) ≤ l then l - xs.length else -1)) ∧ w = w' := by
  obtain ⟨a, cap, rfl, hc, hm, _⟩ := h
  obtain ⟨N, HN⟩ : ∃ N, Hid (N = xs.length) := ⟨_, Lib.hid rfl⟩
  rw [← HN.out] at hc ⊢
  by_cases hlt : (N : Int) ≤ l
  · have G : Hid ((if (N : Int) ≤ l then l - (N : Int) else -1) = l - N) := Lib.hid (if_pos hlt)
    rw [G.out]
    go_enter Try.func71, Try.ntmps71
    go_wp2
    go_ret
    exact ⟨rfl, rfl⟩
  · have G : Hid ((if (N : Int) ≤ l then l - (N : Int) else -1) = -1) := Lib.hid (if_neg hlt)
    rw [G.out]
    go_enter Try.func71, Try.ntmps71
    go_wp2
    go_ret
    exact ⟨rfl, rfl⟩
theorem l_szField (P D : Int) (v : Value) (xs : List Int) (l : Int) (w : World) (h : Rd w v xs) (hl : 0 ≤ l) (hl2 : l ≤ 1048576) :
    Calls Try.prog 40 #[.agg #[.int .i64 P, .int .i64 D, v], .int .i64 l] w fun e w' => e = .returned (.int .i64 (if (xs.length : Int) ≤ l then l - xs.length else -1)) ∧ Ext w w' := by
  have HRD := Lib.hid h
  have HE0 := Lib.hid (ext_alloc w (.cells #[.int .i64 P, .int .i64 D, v] 44))
  obtain ⟨N, HN⟩ : ∃ N, Hid (N = xs.length) := ⟨_, Lib.hid rfl⟩
  have hN0 : (0 : Int) ≤ N := by omega
  rw [← HN.out]
  clear h
  by_cases hlt : (N : Int) ≤ l
  · have G : Hid ((if (xs.length : Int) ≤ l then l - (xs.length : Int) else -1) = l - N) := Lib.hid (by rw [← HN.out]; exact if_pos hlt)
    have G2 : Hid ((if (N : Int) ≤ l then l - (N : Int) else -1) = l - N) := Lib.hid (if_pos hlt)
    rw [G2.out]
    go_enter Try.func40, Try.ntmps40
    go_wp2_with fail
    refine (l_szInt64S _ xs _ _ (HRD.out.ext HE0.out) hl hl2).mono ?_
    rintro e _ ⟨rfl, rfl⟩
    rw [G.out]
    go_wp2
    go_ret
    exact ⟨rfl, HE0.out⟩
  · have G : Hid ((if (xs.length : Int) ≤ l then l - (xs.length : Int) else -1) = -1) := Lib.hid (by rw [← HN.out]; exact if_neg hlt)
    have G2 : Hid ((if (N : Int) ≤ l then l - (N : Int) else -1) = -1) := Lib.hid (if_neg hlt)
    rw [G2.out]
    go_enter Try.func40, Try.ntmps40
    go_wp2_with fail
    refine (l_szInt64S _ xs _ _ (HRD.out.ext HE0.out) hl hl2).mono ?_
    rintro e _ ⟨rfl, rfl⟩
    rw [G.out]
    go_wp2
    go_ret
    exact ⟨rfl, HE0.out⟩
/-- The call hands back a field whose list is new. -/
def RetFld (w : World) (P D : Int) (xs : List Int) (e : Ending) (w' : World) : Prop := ∃ v, e = .returned (.agg #[.int .i64 P, .int .i64 D, v]) ∧ Own w' w.heap.size v xs ∧ Ext w w'
theorem l_toField (P D : Int) (v : Value) (xs : List Int) (w : World) (hn : xs.length ≤ 1048576) (h : Rd w v xs) : Calls Try.prog 42 #[.agg #[.int .i64 P, .int .i64 D, v]] w (RetFld w P D xs) := by
  have HRD := Lib.hid h
  clear h
  go_enter Try.func42, Try.ntmps42
  go_wp2_with fail
  refine (l_toInt64S _ xs _ hn (HRD.out.ext ?hx)).mono ?_
  case hx => exact ((ext_alloc _ _).trans (ext_alloc _ _)).trans (ext_alloc _ _)
  rintro e w2 ⟨v2, rfl, hown, hext⟩
  have c0 : w2.cell? ⟨w.heap.size + 1 + 1, 0, none⟩ = some (.int .i64 P) := (hext.cell (by simp)).trans (by go_simp)
  have c1 : w2.cell? ⟨w.heap.size + 1 + 1, 1, none⟩ = some (.int .i64 D) := (hext.cell (by simp)).trans (by go_simp)
  have c2 : w2.cell? ⟨w.heap.size + 1 + 1, 2, none⟩ = some (.slice none 0 0) := (hext.cell (by simp)).trans (by go_simp)
  have d0 : w2.cell? ⟨w.heap.size + 1, 0, none⟩ = some (.int .i64 0) := (hext.cell (by simp)).trans (by go_simp)
  have d1 : w2.cell? ⟨w.heap.size + 1, 1, none⟩ = some (.int .i64 0) := (hext.cell (by simp)).trans (by go_simp)
  have d2 : w2.cell? ⟨w.heap.size + 1, 2, none⟩ = some (.slice none 0 0) := (hext.cell (by simp)).trans (by go_simp)
  have f0 := hext.frozen (p := ⟨w.heap.size + 1 + 1, 2, none⟩) (by simp)
  have f1 := hext.frozen (p := ⟨w.heap.size + 1, 0, none⟩) (by simp)
  have f2 := hext.frozen (p := ⟨w.heap.size + 1, 1, none⟩) (by simp)
  have f3 := hext.frozen (p := ⟨w.heap.size + 1, 2, none⟩) (by simp)
  have HX := Lib.hid hext
  have HO := Lib.hid hown
  obtain ⟨A, cap, hv2, _⟩ := hown.form
  subst hv2
  clear hext hown
  go_wp2
  refine bodyPost_ret (v := .agg #[.int .i64 P, .int .i64 D, .slice A xs.length cap]) (by simp [results, Try.results42, go_sem, d0, d1, d2]) rfl ⟨_, rfl, OwnV.mono (lo := w.heap.size + 1 + 1 + 1) ?_ (by omega), ?_⟩
  · exact ownsRow_setCell_below (ownsRow_setCell_below (ownsRow_setCell_below (ownsRow_setCell_below (by simpa [Own, OwnV] using HO.out) (a := ⟨w.heap.size + 1 + 1, 2, none⟩) (by simp) _) (a := ⟨w.heap.size + 1, 0, none⟩) (by simp) _) (a := ⟨w.heap.size + 1, 1, none⟩) (by simp) _) (a := ⟨w.heap.size + 1, 2, none⟩) (by simp) _
  · exact ((((((ext_alloc _ _).trans (ext_alloc _ _)).trans (ext_alloc _ _)).trans HX.out).setCell (by simp; omega) _).setCell (by simp) _ |>.setCell (by simp) _).setCell (by simp) _
theorem l_eqField_t (P D : Int) (v v' : Value) (xs : List Int) (w : World) (h : Rd w v xs) (h' : Rd w v' xs) :
    Calls Try.prog 44 #[.agg #[.int .i64 P, .int .i64 D, v], .agg #[.int .i64 P, .int .i64 D, v']] w fun e w' => e = .returned (.bool true) ∧ Ext w w' := by
  have HRD := Lib.hid h
  have HRD' := Lib.hid h'
  have HE0 := Lib.hid ((ext_alloc w (.cells #[.int .i64 P, .int .i64 D, v] 47)).trans (ext_alloc _ (.cells #[.int .i64 P, .int .i64 D, v'] 47)))
  have hPP : (P != P) = false := by simp
  have hDD : (D != D) = false := by simp
  clear h h'
  go_enter Try.func44, Try.ntmps44
  go_wp2_with fail
  refine (l_eqInt64S_t _ _ xs _ (HRD.out.ext HE0.out) (HRD'.out.ext HE0.out)).mono ?_
  rintro e w2 ⟨rfl, hd⟩
  go_wp2
  go_ret
  exact ⟨rfl, HE0.out.drawn hd⟩
end Go.Proofs.Ytloacmfafccofaa
