/- KickOrder: the tree is what the executor says. -/
import Derived.Test.YtlbgcjpkegpmlaaX5
namespace Go.Proofs.Ytlbgcjpkegpmlaa
theorem order_tree : execFn corder Try.f9 (ctLaw [.lf (.arr 3), .lf .int]) [] = some torder := by kernel_rfl
end Go.Proofs.Ytlbgcjpkegpmlaa
