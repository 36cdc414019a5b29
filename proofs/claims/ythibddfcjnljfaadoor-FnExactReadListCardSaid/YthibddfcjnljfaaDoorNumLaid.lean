/- What a row's cell 'laid' gives the readings of numbers: the table of powers, the two sentinels. No condition. -/
import Derived.Test.YthibddfcjnljfaaDoorNumW
import Derived.LaidLaws
import Derived.Stop.LaidErr
namespace Go.Proofs.YthibddfcjnljfaaDoor
open Go.RowKit

theorem star : "*" ++ "errors.errorString" = "*errors.errorString" := by decide
theorem rowES (u : TypeId) (h : Tryd.prog.typeName? 3 u = some "*errors.errorString") : u = 100 :=
  typeName_ptr_named (nm := "errors.errorString") (by rw [star]; kernel_rfl) (by kernel_rfl) (by decide) u (by rw [star]; exact h)
theorem gRange : Tryd.prog.globalNamed "strconv.ErrRange" = some 2 := by kernel_rfl
theorem gSyntax : Tryd.prog.globalNamed "strconv.ErrSyntax" = some 1 := by kernel_rfl
theorem gRangeT : (Tryd.prog.globals[2]?).map (·.type) = some 48 := by kernel_rfl
theorem gSyntaxT : (Tryd.prog.globals[1]?).map (·.type) = some 48 := by kernel_rfl
theorem gPow : Tryd.prog.globalNamed "internal/strconv.uint64pow10" = some 0 := by kernel_rfl
theorem gPowT : (Tryd.prog.globals[0]?).map (·.type) = some 82 := by kernel_rfl
theorem pow_of {r : List (String × DataW Unit)} {W : World} (h : laidMet Tryd.prog (("internal/strconv.uint64pow10", Rows.laid_internal_strconv_uint64pow10) :: r) W) : Lib.TabIs Tryd.prog W "internal/strconv.uint64pow10" .u64 Lib.pow10Tab :=
  Lib.tabIs_of_head gPow gPowT Tryd.underlying82 Tryd.underlying64 (by kernel_rfl) (by kernel_rfl) (rest := r) (show laidMet Tryd.prog (("internal/strconv.uint64pow10", Lib.tabData .u64 Lib.pow10Tab) :: r) W from h)
theorem range_of {r : List (String × DataW Unit)} {W : World} (h : laidMet Tryd.prog (("strconv.ErrRange", Rows.laid_strconv_ErrRange) :: r) W) : ErrCell 2 W := by
  obtain ⟨a, s, hv, _, _, _⟩ := laid_sentinel h gRange gRangeT Tryd.underlying48 rowES Tryd.underlying100 Tryd.underlying102 rfl rfl Tryd.underlying9 (by kernel_rfl) (by kernel_rfl)
  exact ⟨_, _, by have h0 := World.var?_cell gRange hv 0; simpa using h0⟩
theorem syntax_of {r : List (String × DataW Unit)} {W : World} (h : laidMet Tryd.prog (("strconv.ErrSyntax", Rows.laid_strconv_ErrSyntax) :: r) W) : ErrCell 1 W := by
  obtain ⟨a, s, hv, _, _, _⟩ := laid_sentinel h gSyntax gSyntaxT Tryd.underlying48 rowES Tryd.underlying100 Tryd.underlying102 rfl rfl Tryd.underlying9 (by kernel_rfl) (by kernel_rfl)
  exact ⟨_, _, by have h0 := World.var?_cell gSyntax hv 0; simpa using h0⟩
end Go.Proofs.YthibddfcjnljfaaDoor
