/- The call of KickFinds. -/
import Derived.Test.YtlbgcjpkegpmlaaXQ
import Derived.Test.YtlbgcjpkegpmlaaXA
namespace Go.Proofs.Ytlbgcjpkegpmlaa
open Go.RowKit
theorem walk_KickFinds (a b c d e f g h i : Int) (w : World) (hb : ∀ n ∈ [a, b, c, d, e, f, g, h, i], -9223372036854775808 ≤ n ∧ n ≤ 9223372036854775807) :
    Calls Try.prog 6 #[.agg #[.int .i64 a, .int .i64 b, .int .i64 c, .int .i64 d, .int .i64 e, .int .i64 f, .int .i64 g, .int .i64 h, .int .i64 i]] w fun e w' => e = .returned (.bool true) ∧ Below w.heap.size w w' :=
  law_walk (finds_ok awake_ok) (rep_agg [a, b, c, d, e, f, g, h, i] hb rfl)
end Go.Proofs.Ytlbgcjpkegpmlaa
