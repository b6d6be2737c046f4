/- The call of KickOrder. -/
import Derived.Test.YtlbgcjpkegpmlaaXO
import Derived.Test.YtlbgcjpkegpmlaaXA
import Derived.Test.YtlbgcjpkegpmlaaXN
namespace Go.Proofs.Ytlbgcjpkegpmlaa
open Go.RowKit
theorem walk_KickOrder (A : Option Addr) (n k : Nat) (p : Int) (W : World) (hN : NumsAt W W.heap.size A n) (hp : -9223372036854775808 ≤ p ∧ p ≤ 9223372036854775807) :
    Calls Try.prog 9 #[.slice A n k, .int .i64 p] W fun e w' => e = .returned (.bool true) ∧ Below W.heap.size W w' := by
  obtain ⟨rows, hr⟩ := rep_nums (c := k) hN
  exact law_walk (order_ok awake_ok) rfl (rep_arr hr (rep_lf hp rfl))
end Go.Proofs.Ytlbgcjpkegpmlaa
