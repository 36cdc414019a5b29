/- The reference's copy of a list; a cut slice reads as the list's head. No condition. -/
import Derived.Test.YtloacmfafccofaaClone
namespace Go.Proofs.Ytloacmfafccofaa
open Go.RowKit

theorem OwnV.sane {e : TypeId} {w : World} {lo : Nat} {v : Value} {ys : List Value} (h : OwnV e w lo v ys) : v = .slice none 0 0 ∨ ∃ ad n c, v = .slice (some ad) n c := by
  obtain ⟨h1, h2⟩ := h
  rcases h2 with ⟨h2, h3⟩ | ⟨g, cap, cur, h3, _⟩
  · exact .inl h2
  · exact .inr ⟨_, _, _, h3⟩
theorem s_l00Own (v : Value) (xs : List Int) (w : World) (hn : xs.length ≤ 1000000000) (h : Rd w v xs) (hv : v = .slice none 0 0 ∨ ∃ ad n c, v = .slice (some ad) n c) : Calls Try.prog 59 #[v] w (RetInts w xs) := by
  have HRD := Lib.hid h
  rcases hv with rfl | ⟨ad, n, cap, rfl⟩
  · obtain ⟨a, cap, hva, hc, hm, hr⟩ := h
    have hx : xs = [] := by
      cases xs with
      | nil => rfl
      | cons x r => cases hva
    subst hx
    clear hr hc hm hva
    obtain ⟨i, hi, hz, h1, h8⟩ := info_i64
    go_enter Try.func59, Try.ntmps59
    go_wp2_with (at_builtin; refine wpList_append_own_none rfl _ _ 22 rfl w.heap.size 2 i 1 Try.underlying22 hi _ 0 [] rfl (OwnV.empty 2 w) rfl ?_)
    go_ret
    exact ⟨_, rfl, OwnV.empty _ _, ext_alloc _ _⟩
  · clear h
    go_enter Try.func59, Try.ntmps59
    go_wp2_with (at_builtin; refine wp_appRd _ rfl _ _ rfl _ _ [] rfl (OwnV.empty _ _) _ xs rfl (by intro n c h; cases h) (HRD.out.ext (ext_alloc _ _)) (by simp; omega) (by simp) ?_; intro v' w' hown hgr)
    go_ret
    exact ⟨_, rfl, by simpa using hown, ext_app (e := 2) (ext_alloc _ _) (OwnV.empty _ _) hgr⟩
/-- A slice that was not laid by hand: nil, or an address. -/
def Sane (v : Value) : Prop := v = .slice none 0 0 ∨ ∃ ad n c, v = .slice (some ad) n c
theorem rd_take {w : World} {a : Option Addr} {n cap : Nat} {xs : List Int} (h : Rd w (.slice a n cap) xs) (k : Nat) (hk : k ≤ xs.length) : Rd w (.slice a k cap) (xs.take k) := by
  obtain ⟨a', cap', he, hc, hm, hr⟩ := h
  cases he
  have hl : (xs.take k).length = k := by rw [List.length_take]; omega
  refine ⟨_, cap, by rw [hl], by omega, hm, fun h => ?_⟩
  obtain ⟨b, o, h1, h2, h3⟩ := hr (by omega)
  refine ⟨b, o, h1, h2, fun i hi => ?_⟩
  rw [h3 i (by omega), List.getElem_take]
/-- The call hands back a slice that reads as xs; nothing that was there has turned. -/
def RetRd (w : World) (xs : List Int) (e : Ending) (w' : World) : Prop := ∃ v, e = .returned v ∧ Rd w' v xs ∧ Ext w w'
end Go.Proofs.Ytloacmfafccofaa
