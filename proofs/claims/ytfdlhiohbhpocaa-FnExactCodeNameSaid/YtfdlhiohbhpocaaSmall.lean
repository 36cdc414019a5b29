/- Constants and CodeName: the walks and the laws. No condition. -/
import Derived.Test.YtfdlhiohbhpocaaInts
import Derived.Test.YtfdlhiohbhpocaaMem
namespace Go.Proofs.Ytfdlhiohbhpocaa
open Go.RowKit

theorem l_Constants (w : World) :
    Calls Try.prog 3 #[] w fun e w' => e = .returned (.bool true) ∧ Ext w w' := by
  go_enter Try.func3, Try.ntmps3
  go_wp2
  go_ret
  exact ⟨rfl, Ext.refl _⟩
theorem code_cases {c : Int} (h : 0 ≤ c) (h' : c ≤ 11) : c = 0 ∨ c = 1 ∨ c = 2 ∨ c = 3 ∨ c = 4 ∨ c = 5 ∨ c = 6 ∨ c = 7 ∨ c = 8 ∨ c = 9 ∨ c = 10 ∨ c = 11 := by omega
theorem ext_two (w : World) (o o' : Obj) : Ext w ((w.alloc o).alloc o') := ((Below.refl _ _).alloc (Nat.le_refl _) _).alloc (by simp) _
theorem l_code_0 (w : World) : Calls Try.prog 4 #[.int .i64 0] w fun e w' => e = .returned (.bool true) ∧ Ext w w' := by
  go_enter Try.func4, Try.ntmps4
  go_wp2
  go_ret
  exact ⟨rfl, ext_two _ _ _⟩
theorem l_code_1 (w : World) : Calls Try.prog 4 #[.int .i64 1] w fun e w' => e = .returned (.bool true) ∧ Ext w w' := by
  go_enter Try.func4, Try.ntmps4
  go_wp2
  go_ret
  exact ⟨rfl, ext_two _ _ _⟩
theorem l_code_2 (w : World) : Calls Try.prog 4 #[.int .i64 2] w fun e w' => e = .returned (.bool true) ∧ Ext w w' := by
  go_enter Try.func4, Try.ntmps4
  go_wp2
  go_ret
  exact ⟨rfl, ext_two _ _ _⟩
theorem l_code_3 (w : World) : Calls Try.prog 4 #[.int .i64 3] w fun e w' => e = .returned (.bool true) ∧ Ext w w' := by
  go_enter Try.func4, Try.ntmps4
  go_wp2
  go_ret
  exact ⟨rfl, ext_two _ _ _⟩
theorem l_code_4 (w : World) : Calls Try.prog 4 #[.int .i64 4] w fun e w' => e = .returned (.bool true) ∧ Ext w w' := by
  go_enter Try.func4, Try.ntmps4
  go_wp2
  go_ret
  exact ⟨rfl, ext_two _ _ _⟩
theorem l_code_5 (w : World) : Calls Try.prog 4 #[.int .i64 5] w fun e w' => e = .returned (.bool true) ∧ Ext w w' := by
  go_enter Try.func4, Try.ntmps4
  go_wp2
  go_ret
  exact ⟨rfl, ext_two _ _ _⟩
theorem l_code_6 (w : World) : Calls Try.prog 4 #[.int .i64 6] w fun e w' => e = .returned (.bool true) ∧ Ext w w' := by
  go_enter Try.func4, Try.ntmps4
  go_wp2
  go_ret
  exact ⟨rfl, ext_two _ _ _⟩
theorem l_code_7 (w : World) : Calls Try.prog 4 #[.int .i64 7] w fun e w' => e = .returned (.bool true) ∧ Ext w w' := by
  go_enter Try.func4, Try.ntmps4
  go_wp2
  go_ret
  exact ⟨rfl, ext_two _ _ _⟩
theorem l_code_8 (w : World) : Calls Try.prog 4 #[.int .i64 8] w fun e w' => e = .returned (.bool true) ∧ Ext w w' := by
  go_enter Try.func4, Try.ntmps4
  go_wp2
  go_ret
  exact ⟨rfl, ext_two _ _ _⟩
theorem l_code_9 (w : World) : Calls Try.prog 4 #[.int .i64 9] w fun e w' => e = .returned (.bool true) ∧ Ext w w' := by
  go_enter Try.func4, Try.ntmps4
  go_wp2
  go_ret
  exact ⟨rfl, ext_two _ _ _⟩
theorem l_code_10 (w : World) : Calls Try.prog 4 #[.int .i64 10] w fun e w' => e = .returned (.bool true) ∧ Ext w w' := by
  go_enter Try.func4, Try.ntmps4
  go_wp2
  go_ret
  exact ⟨rfl, ext_two _ _ _⟩
theorem l_code_11 (w : World) : Calls Try.prog 4 #[.int .i64 11] w fun e w' => e = .returned (.bool true) ∧ Ext w w' := by
  go_enter Try.func4, Try.ntmps4
  go_wp2
  go_ret
  exact ⟨rfl, ext_two _ _ _⟩
theorem l_CodeName (c : Int) (w : World) :
    Calls Try.prog 4 #[.int .i64 c] w fun e w' => e = .returned (.bool true) ∧ Ext w w' := by
  by_cases h1 : 0 ≤ c
  · by_cases h2 : c ≤ 11
    · rcases code_cases h1 h2 with rfl | rfl | rfl | rfl | rfl | rfl | rfl | rfl | rfl | rfl | rfl | rfl
      · exact l_code_0 w
      · exact l_code_1 w
      · exact l_code_2 w
      · exact l_code_3 w
      · exact l_code_4 w
      · exact l_code_5 w
      · exact l_code_6 w
      · exact l_code_7 w
      · exact l_code_8 w
      · exact l_code_9 w
      · exact l_code_10 w
      · exact l_code_11 w
    · have h3 : 12 ≤ c := by omega
      go_enter Try.func4, Try.ntmps4
      go_wp2
      go_ret
      exact ⟨rfl, ext_two _ _ _⟩
  · have h3 : c < 0 := by omega
    go_enter Try.func4, Try.ntmps4
    go_wp2
    go_ret
    exact ⟨rfl, ext_two _ _ _⟩
end Go.Proofs.Ytfdlhiohbhpocaa
