/- Slices in memory: 'Rd': a slice that reads as a list of integers; 'OwnV', 'Own': a slice in a block of the call's own; 'Ext': nothing that was there has turned. No condition. -/
import Derived.Test.YthibddfcjnljfaaDoorBase
import Derived.ProofKit
namespace Go.Proofs.YthibddfcjnljfaaDoor
open Go.RowKit

/-- Nothing that was there has turned. -/
abbrev Ext (w w' : World) : Prop := Below w.heap.size w w'
theorem Ext.refl (w : World) : Ext w w := Below.refl _ _
theorem Ext.trans {a b c : World} (h : Ext a b) (k : Ext b c) : Ext a c := Below.trans h (k.mono h.size)
theorem Ext.le {a b : World} (h : Ext a b) : a.heap.size ≤ b.heap.size := h.size
theorem Ext.drewN {a b : World} (h : Ext a b) (n : Nat) : Ext a (b.drewN n) := below_drewN h n
theorem Ext.drawn {a b c : World} (h : Ext a b) (k : Drawn b c) : Ext a c := by
  obtain ⟨n, rfl⟩ := k
  exact h.drewN n
theorem Drawn.ext {a b : World} (h : Drawn a b) : Ext a b := (Ext.refl a).drawn h
theorem Ext.grown {w w' : World} {row : Option Nat} {B : Nat} (h : Below B w w') (k : World) (hg : w'.grownBy k row) (hB : B ≤ w'.heap.size) (hr : ∀ j, row = some j → B ≤ j) : Below B w k := h.grown hg hB hr
theorem grownBy_of_ext {w w' : World} (h : Ext w w') (row : Option Nat) : w.grownBy w' row := ⟨h.os, h.tape, h.output, h.size, fun k hk _ => h.block k hk⟩
theorem grownBy_none {w w' : World} (h : w.grownBy w' none) : Ext w w' := ⟨h.os, h.tape, h.output, h.size, fun k hk => h.block k hk (by simp)⟩
theorem grownBy_trans {a b c : World} {row : Option Nat} (h : a.grownBy b row) (k : b.grownBy c row) : a.grownBy c row :=
  ⟨k.os.trans h.os, k.tape.trans h.tape, k.output.trans h.output, Nat.le_trans h.size k.size, fun i hi hne => (k.block i (Nat.lt_of_lt_of_le hi h.size) hne).trans (h.block i hi hne)⟩

/-! ### slices of the call's own -/

/-- v lies in a block from lo on (or is nil), and reads as ys; e: the element's type (one cell each). -/
def OwnV (e : TypeId) (w : World) (lo : Nat) (v : Value) (ys : List Value) : Prop := w.ownsRow lo e 1 v ys.length ys
abbrev Own (w : World) (lo : Nat) (v : Value) (xs : List Int) : Prop := OwnV 2 w lo v (xs.map (Value.int .i64))

theorem OwnV.nil (e : TypeId) (w : World) (lo : Nat) : OwnV e w lo (.slice none 0 0) [] := World.ownsRow_nil w lo e 1
theorem OwnV.empty (e : TypeId) (w : World) : OwnV e (w.alloc (.cells #[] e)) w.heap.size (.slice (some ⟨w.heap.size, 0, none⟩) 0 0) [] := World.ownsRow_lit w #[] 0 (Nat.le_refl _) (by simp [maxLen]) rfl
theorem ext_alloc (w : World) (o : Obj) : Ext w (w.alloc o) := (Below.refl _ _).alloc (Nat.le_refl _) _
theorem OwnV.kept {e : TypeId} {w w' : World} {lo : Nat} {v : Value} {ys : List Value} {row : Option Nat} (h : OwnV e w lo v ys) (hg : w.grownBy w' row) (hne : v.ownBlock = none ∨ v.ownBlock ≠ row) : OwnV e w' lo v ys :=
  World.ownsRow.kept h hg hne
theorem OwnV.ext {e : TypeId} {w w' : World} {lo : Nat} {v : Value} {ys : List Value} (h : OwnV e w lo v ys) (hb : Ext w w') : OwnV e w' lo v ys :=
  h.kept (grownBy_of_ext hb none) (by cases v.ownBlock <;> simp)
theorem OwnV.drawn {e : TypeId} {w w' : World} {lo : Nat} {v : Value} {ys : List Value} (h : OwnV e w lo v ys) (hb : Drawn w w') : OwnV e w' lo v ys := h.ext hb.ext
theorem OwnV.mono {e : TypeId} {w : World} {lo lo' : Nat} {v : Value} {ys : List Value} (h : OwnV e w lo v ys) (hl : lo' ≤ lo) : OwnV e w lo' v ys := by
  obtain ⟨h1, h2⟩ := h
  refine ⟨h1, ?_⟩
  rcases h2 with h2 | ⟨g, cap, cur, h3, h4, h5⟩
  · exact .inl h2
  · exact .inr ⟨g, cap, cur, h3, Nat.le_trans hl h4, h5⟩
theorem OwnV.lt {e : TypeId} {w : World} {lo : Nat} {v : Value} {ys : List Value} (h : OwnV e w lo v ys) : ∀ k, v.ownBlock = some k → lo ≤ k ∧ k < w.heap.size := World.ownsRow.lt h
/-- A younger slice lies in another block. -/
theorem OwnV.apart {e e' : TypeId} {w w' : World} {lo lo' : Nat} {v v' : Value} {ys ys' : List Value} (h : OwnV e w lo v ys) (h' : OwnV e' w' lo' v' ys') (hl : w.heap.size ≤ lo') : v.ownBlock = none ∨ v.ownBlock ≠ v'.ownBlock := by
  cases hv : v.ownBlock with
  | none => exact .inl rfl
  | some k =>
    refine .inr fun he => ?_
    have h1 := (h.lt k hv).2
    have h2 := (h'.lt k he.symm).1
    omega
theorem OwnV.apart' {e e' : TypeId} {w w' : World} {lo lo' : Nat} {v v' : Value} {ys ys' : List Value} (h : OwnV e w lo v ys) (h' : OwnV e' w' lo' v' ys') (hl : w.heap.size ≤ lo') : v'.ownBlock = none ∨ v'.ownBlock ≠ v.ownBlock := by
  cases hv : v'.ownBlock with
  | none => exact .inl rfl
  | some k =>
    refine .inr fun he => ?_
    have h1 := (h.lt k he.symm).2
    have h2 := (h'.lt k hv).1
    omega
/-- What it is: nil, or a row's head. -/
theorem OwnV.form {e : TypeId} {w : World} {lo : Nat} {v : Value} {ys : List Value} (h : OwnV e w lo v ys) : ∃ a cap, v = .slice a ys.length cap ∧ ys.length ≤ cap ∧ cap ≤ maxLen ∧ (0 < cap → ∃ g, a = some ⟨g, 0, none⟩ ∧ lo ≤ g ∧ g < w.heap.size) ∧ (a = none ∨ ∃ g, a = some ⟨g, 0, none⟩) := by
  obtain ⟨h1, h2⟩ := h
  rcases h2 with ⟨h2, h3⟩ | ⟨g, cap, cur, h3, h4, h5, h6, h7, h8⟩
  · exact ⟨none, 0, by rw [h2, h3], by omega, by simp [maxLen], fun h => by omega, .inl rfl⟩
  · exact ⟨_, cap, h3, h6, h7, fun _ => ⟨g, rfl, h4, (Array.getElem?_eq_some_iff.1 h5).1⟩, .inr ⟨g, rfl⟩⟩
theorem OwnV.head {e : TypeId} {w : World} {lo : Nat} {v : Value} {ys : List Value} (h : OwnV e w lo v ys) (hn : 0 < ys.length) : ∃ g cap, v = .slice (some ⟨g, 0, none⟩) ys.length cap ∧ ys.length ≤ cap ∧ lo ≤ g ∧ g < w.heap.size := by
  obtain ⟨a, cap, h1, h2, h3, h4, h5⟩ := h.form
  obtain ⟨g, rfl, hg, hl⟩ := h4 (by omega)
  exact ⟨g, cap, h1, h2, hg, hl⟩
theorem OwnV.cell {e : TypeId} {w : World} {lo g n cap : Nat} {ys : List Value} (h : OwnV e w lo (.slice (some ⟨g, 0, none⟩) n cap) ys) (j : Nat) (hj : j < ys.length) : w.cell? ⟨g, j, none⟩ = some ys[j] := by
  have hn : n = ys.length := by
    obtain ⟨a, c, he, _⟩ := h.form
    cases he; rfl
  subst hn
  rw [World.ownsRow.cellAt h j (by omega)]
  simp [hj]
theorem OwnV.frozen {e : TypeId} {w : World} {lo g n cap : Nat} {ys : List Value} (h : OwnV e w lo (.slice (some ⟨g, 0, none⟩) n cap) ys) (j : Nat) : w.frozen? ⟨g, j, none⟩ = false := by
  have hn : n = ys.length := by
    obtain ⟨a, c, he, _⟩ := h.form
    cases he; rfl
  subst hn
  exact World.ownsRow.frozenAt h j
theorem OwnV.stored {e : TypeId} {w : World} {lo g n cap : Nat} {ys : List Value} (h : OwnV e w lo (.slice (some ⟨g, 0, none⟩) n cap) ys) (j : Nat) (u : Value) :
    OwnV e (w.setCell ⟨g, j, none⟩ u) lo (.slice (some ⟨g, 0, none⟩) n cap) (ys.set j u) ∧ w.grownBy (w.setCell ⟨g, j, none⟩ u) (some g) := by
  have hn : n = ys.length := by
    obtain ⟨a, c, he, _⟩ := h.form
    cases he; rfl
  subst hn
  obtain ⟨h1, h2⟩ := World.ownsRow.stored h j u
  refine ⟨?_, h2⟩
  unfold OwnV
  rw [List.length_set]
  exact h1
theorem OwnV.le {e : TypeId} {w : World} {lo : Nat} {v : Value} {ys : List Value} (h : OwnV e w lo v ys) : ys.length ≤ 9223372036854775807 := by
  obtain ⟨a, cap, h1, h2, h3, h4, h5⟩ := h.form
  unfold maxLen at h3
  omega

/-! ### slices of integers that are read -/

/-- v reads as the integers xs. -/
def Rd (w : World) (v : Value) (xs : List Int) : Prop :=
  ∃ a cap, v = .slice a xs.length cap ∧ xs.length ≤ cap ∧ cap ≤ 9223372036854775807 ∧
    (0 < xs.length → ∃ b o, a = some ⟨b, o, none⟩ ∧ b < w.heap.size ∧ ∀ i (h : i < xs.length), w.cell? ⟨b, o + i, none⟩ = some (.int .i64 xs[i]))
theorem Rd.ext {w w' : World} {v : Value} {xs : List Int} (h : Rd w v xs) (hb : Ext w w') : Rd w' v xs := by
  obtain ⟨a, cap, h1, h2, h3, h4⟩ := h
  refine ⟨a, cap, h1, h2, h3, fun hn => ?_⟩
  obtain ⟨b, o, h5, h6, h7⟩ := h4 hn
  exact ⟨b, o, h5, Nat.lt_of_lt_of_le h6 hb.size, fun i hi => by rw [hb.cell (p := ⟨b, o + i, none⟩) h6]; exact h7 i hi⟩
theorem Rd.drawn {w w' : World} {v : Value} {xs : List Int} (h : Rd w v xs) (hb : Drawn w w') : Rd w' v xs := h.ext hb.ext
theorem OwnV.rd {w : World} {lo : Nat} {v : Value} {xs : List Int} (h : Own w lo v xs) : Rd w v xs := by
  obtain ⟨a, cap, h1, h2, h3, h4, h5⟩ := h.form
  rw [List.length_map] at h1 h2
  refine ⟨a, cap, h1, h2, by unfold maxLen at h3; omega, fun hn => ?_⟩
  obtain ⟨g, rfl, hg, hl⟩ := h4 (by omega)
  subst h1
  refine ⟨g, 0, rfl, hl, fun i hi => ?_⟩
  rw [Nat.zero_add, h.cell i (by simpa using hi)]
  simp
theorem Rd.nil (w : World) : Rd w (.slice none 0 0) [] := ⟨none, 0, rfl, by simp, by omega, fun h => by simp at h⟩
theorem Rd.len {w : World} {v : Value} {xs : List Int} (h : Rd w v xs) : xs.length ≤ 9223372036854775807 := by
  obtain ⟨a, cap, h1, h2, h3, h4⟩ := h
  omega

/-- The call hands back new integers xs; nothing that was there has turned. -/
def RetInts (w : World) (xs : List Int) (e : Ending) (w' : World) : Prop := ∃ v, e = .returned v ∧ Own w' w.heap.size v xs ∧ Ext w w'
def RetIntsI (w : World) (xs : List Int) (c : Int) (e : Ending) (w' : World) : Prop := ∃ v, e = .returned (.tuple #[v, .int .i64 c]) ∧ Own w' w.heap.size v xs ∧ Ext w w'
def RetIntsB (w : World) (xs : List Int) (c : Bool) (e : Ending) (w' : World) : Prop := ∃ v, e = .returned (.tuple #[v, .bool c]) ∧ Own w' w.heap.size v xs ∧ Ext w w'

/-! ### the element type's row of the table -/
theorem info_int : (Tryd.prog.info? 2).map (fun i => (i.zero, i.size, i.bytes)) = some (some (.int .i64 0), 1, 8) := by kernel_rfl
theorem info_i64 : ∃ i, Tryd.prog.info? 2 = some i ∧ i.zero = some (.int .i64 0) ∧ i.size = 1 ∧ i.bytes = 8 := by
  have h := info_int
  cases hi : Tryd.prog.info? 2 with
  | none => rw [hi] at h; cases h
  | some i =>
    rw [hi] at h
    simp only [Option.map_some, Option.some.injEq, Prod.mk.injEq] at h
    exact ⟨i, rfl, h.1, h.2.1, h.2.2⟩

end Go.Proofs.YthibddfcjnljfaaDoor
