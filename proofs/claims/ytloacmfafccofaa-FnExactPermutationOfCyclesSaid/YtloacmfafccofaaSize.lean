/- The generic 'size' at integers: the length of a slice. No condition. -/
import Derived.Test.YtloacmfafccofaaMem
namespace Go.Proofs.Ytloacmfafccofaa
open Go.RowKit

theorem i_size (a : Option Addr) (n cap : Nat) (w : World) (_h : n ≤ 9223372036854775807) :
    Calls Try.prog 51 #[.slice a n cap] w fun e w' => e = .returned (.int .i64 (n : Int)) ∧ w' = w := by
  go_enter Try.func51, Try.ntmps51
  go_wp2
  go_ret
  exact ⟨rfl, rfl⟩
end Go.Proofs.Ytloacmfafccofaa
