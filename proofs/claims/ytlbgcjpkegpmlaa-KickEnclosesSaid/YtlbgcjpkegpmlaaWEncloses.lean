/- The call of KickEncloses. -/
import Derived.Test.YtlbgcjpkegpmlaaXE
import Derived.Test.YtlbgcjpkegpmlaaXN
namespace Go.Proofs.Ytlbgcjpkegpmlaa
open Go.RowKit
theorem walk_KickEncloses (A : Option Addr) (n k : Nat) (p c g : Int) (W : World) (hN : NumsAt W W.heap.size A n) (hp : -9223372036854775808 ≤ p ∧ p ≤ 9223372036854775807) (hc : -9223372036854775808 ≤ c ∧ c ≤ 9223372036854775807) (hg : -9223372036854775808 ≤ g ∧ g ≤ 9223372036854775807) :
    Calls Try.prog 7 #[.slice A n k, .int .i64 p, .int .i64 c, .int .i64 g] W fun e w' => e = .returned (.bool true) ∧ Below W.heap.size W w' := by
  obtain ⟨rows, hr⟩ := rep_nums (c := k) hN
  exact law_walk (encloses_ok awake_ok) rfl (rep_arr hr (rep_lf hp (rep_lf hc (rep_lf hg rfl))))
end Go.Proofs.Ytlbgcjpkegpmlaa
