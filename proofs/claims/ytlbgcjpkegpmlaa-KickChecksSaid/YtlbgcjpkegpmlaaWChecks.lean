/- The call of KickChecks. -/
import Derived.Test.YtlbgcjpkegpmlaaXY
import Derived.Test.YtlbgcjpkegpmlaaXR
import Derived.Test.YtlbgcjpkegpmlaaXA
namespace Go.Proofs.Ytlbgcjpkegpmlaa
open Go.RowKit
theorem kinds_sensor : kinds Try.prog 23 = some (List.replicate 8 .int) := by kernel_rfl
theorem walk_KickChecks (r g xa xb xc xd s0 s1 s2 s3 s4 s5 s6 s7 : Int) (A : Option Addr) (n k : Nat) (m e : Int) (W : World) (hk : ∀ n ∈ [r, g], -9223372036854775808 ≤ n ∧ n ≤ 9223372036854775807)
    (hx : ∀ n ∈ [xa, xb, xc, xd], -9223372036854775808 ≤ n ∧ n ≤ 9223372036854775807) (hs : ∀ n ∈ [s0, s1, s2, s3, s4, s5, s6, s7], -9223372036854775808 ≤ n ∧ n ≤ 9223372036854775807) (hl : RowsAt W W.heap.size A n 8)
    (hm : -9223372036854775808 ≤ m ∧ m ≤ 9223372036854775807) (he : -9223372036854775808 ≤ e ∧ e ≤ 9223372036854775807) :
    Calls Try.prog 8 #[.agg #[.int .i64 r, .int .i64 g], .agg #[.int .i64 xa, .int .i64 xb, .int .i64 xc, .int .i64 xd], .agg #[.int .i64 s0, .int .i64 s1, .int .i64 s2, .int .i64 s3, .int .i64 s4, .int .i64 s5, .int .i64 s6, .int .i64 s7], .slice A n k, .int .i64 m, .int .i64 e] W
      fun e w' => e = .returned (.bool true) ∧ Below W.heap.size W w' := by
  obtain ⟨rows, hr⟩ := rep_rows (c := k) kinds_sensor hl
  exact law_walk (checks_ok awake_ok) rfl (rep_agg [r, g] hk (rep_agg [xa, xb, xc, xd] hx (rep_agg [s0, s1, s2, s3, s4, s5, s6, s7] hs (rep_arr hr (rep_lf hm (rep_lf he rfl))))))
end Go.Proofs.Ytlbgcjpkegpmlaa
