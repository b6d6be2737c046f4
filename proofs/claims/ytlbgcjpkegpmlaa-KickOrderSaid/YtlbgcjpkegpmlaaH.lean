/- The contract of awake: the chapter's examples hold. -/
import Derived.Test.YtlbgcjpkegpmlaaF
import Derived.Test.YtlbgcjpkegpmlaaG
namespace Go.Proofs.Ytlbgcjpkegpmlaa
open Go.RowKit

theorem shown_any (w : World) : Calls Try.prog 63 #[] w fun e w' => e = .returned (kickV 1000 100) ∧ Below w.heap.size w w' := by
  go_enter Try.func63, Try.ntmps63
  go_wp2
  go_returns
  refine ⟨rfl, ?_⟩
  repeat' (first | with_reducible exact Below.refl _ _ | with_reducible refine bstep ?_ (by with_reducible assumption) | with_reducible refine balloc ?_ | with_reducible refine bdrew ?_ | with_reducible refine bdrewN ?_ _ | with_reducible refine bset ?_ (by go_size))
theorem pit_any (w : World) : Calls Try.prog 64 #[] w fun e w' => e = .returned (Sen.v ⟨1, 10, 5, 2, 1000, 1, 20000, 2⟩) ∧ Below w.heap.size w w' := by
  go_enter Try.func64, Try.ntmps64
  go_wp2
  go_returns
  refine ⟨rfl, ?_⟩
  repeat' (first | with_reducible exact Below.refl _ _ | with_reducible refine bstep ?_ (by with_reducible assumption) | with_reducible refine balloc ?_ | with_reducible refine bdrew ?_ | with_reducible refine bdrewN ?_ _ | with_reducible refine bset ?_ (by go_size))
theorem flow_any' (w : World) : Calls Try.prog 65 #[] w fun e w' => e = .returned (Sen.v ⟨2, 1, 0, 0, 1, 0, 3000, 1⟩) ∧ Below w.heap.size w w' := by
  go_enter Try.func65, Try.ntmps65
  go_wp2
  go_returns
  refine ⟨rfl, ?_⟩
  repeat' (first | with_reducible exact Below.refl _ _ | with_reducible refine bstep ?_ (by with_reducible assumption) | with_reducible refine balloc ?_ | with_reducible refine bdrew ?_ | with_reducible refine bdrewN ?_ _ | with_reducible refine bset ?_ (by go_size))

theorem late_ex : lateRV ⟨1, 10, 5, 2, 1000, 1, 20000, 2⟩ 1000 100 = .tuple #[.int .i64 58, .bool true] := by
  have h : lateF ⟨1, 10, 5, 2, 1000, 1, 20000, 2⟩ 1000 100 = some (58, 3, 2) := by decide +kernel
  have hs : SenOK ⟨1, 10, 5, 2, 1000, 1, 20000, 2⟩ := by decide
  have hk : KickOK 1000 100 := by decide
  simp [lateRV, lateR, h, hs, hk]
theorem false_ex : falseP ⟨1, 1, 0, 2, 1000, 0, 1000, 2⟩ 3 = (32, 125) := by decide +kernel
theorem gain_ex : gainF 1000 100 3 = 3300 := by decide +kernel

theorem awake_any (w : World) : Calls Try.prog 19 #[] w fun e w' => e = .returned (.bool true) ∧ Below w.heap.size w w' := by
  go_enter Try.func19, Try.ntmps19
  go_wp2_with fail
  refine (pit_any _).mono ?_
  rintro e w1 ⟨rfl, hb1⟩
  go_wp2_with fail
  refine (shown_any _).mono ?_
  rintro e w2 ⟨rfl, hb2⟩
  go_wp2_with fail
  refine (Late_any ⟨1, 10, 5, 2, 1000, 1, 20000, 2⟩ 1000 100 _).mono ?_
  rw [late_ex]
  rintro e w3 ⟨rfl, hb3⟩
  go_wp2_with fail
  refine (False_ok 1 1 0 2 1000 0 1000 3 2 _ (by decide) (by decide) (by omega) (by omega)).mono ?_
  rw [show (3 : Int).toNat = 3 from rfl, show ((2 : Nat) : Int) = 2 from rfl, false_ex]
  rintro e w4 ⟨rfl, hb4⟩
  go_wp2_with fail
  refine (shown_any _).mono ?_
  rintro e w5 ⟨rfl, hb5⟩
  go_wp2_with fail
  refine (Gain_any 1000 100 3 _).mono ?_
  rw [gain_ex]
  rintro e w6 ⟨rfl, hb6⟩
  go_wp2_with fail
  go_ret
  refine ⟨rfl, ?_⟩
  repeat' (first | with_reducible exact Below.refl _ _ | with_reducible refine bstep ?_ (by with_reducible assumption) | with_reducible refine balloc ?_ | with_reducible refine bdrew ?_ | with_reducible refine bdrewN ?_ _ | with_reducible refine bset ?_ (by go_size))
end Go.Proofs.Ytlbgcjpkegpmlaa
