/- The walk of KickFalse. -/
import Derived.Test.YtlbgcjpkegpmlaaH
import Derived.Test.YtlbgcjpkegpmlaaJ
namespace Go.Proofs.Ytlbgcjpkegpmlaa
open Go.RowKit
set_option maxRecDepth 100000 in
theorem walk_KickFalse (ch pe de no st lo li ho d : Int) (w : World) (_ : ∀ n ∈ [ch, pe, de, no, st, lo, li, ho], -9223372036854775808 ≤ n ∧ n ≤ 9223372036854775807) (_ : -9223372036854775808 ≤ d ∧ d ≤ 9223372036854775807) :
    Calls Try.prog 3 #[.agg #[.int .i64 ch, .int .i64 pe, .int .i64 de, .int .i64 no, .int .i64 st, .int .i64 lo, .int .i64 li, .int .i64 ho], .int .i64 d] w fun e w' => e = .returned (.bool true) ∧ Below w.heap.size w w' := by
  obtain ⟨x, y, z, hv⟩ : ∃ x y z : Int, falseV ⟨ch, pe, de, no, st, lo, li, ho⟩ d = .tuple #[.int .i64 x, .int .i64 y, .int .i64 z] := ⟨_, _, _, rfl⟩
  have HV := Lib.hid hv
  clear hv
  go_enter Try.func3, Try.ntmps3
  go_wp2_with fail
  refine (False_any ⟨ch, pe, de, no, st, lo, li, ho⟩ d _).mono ?_
  rw [HV.out]
  rintro e w1 ⟨rfl, hb1⟩
  have B := (Blk.new w 23 #[.int .i64 ch, .int .i64 pe, .int .i64 de, .int .i64 no, .int .i64 st, .int .i64 lo, .int .i64 li, .int .i64 ho]).below hb1
  have c0 := B.cell 0 rfl
  have c1 := B.cell 1 rfl
  have c2 := B.cell 2 rfl
  have c3 := B.cell 3 rfl
  have c4 := B.cell 4 rfl
  have c5 := B.cell 5 rfl
  have c6 := B.cell 6 rfl
  have c7 := B.cell 7 rfl
  go_wp2_with fail
  refine (rFalse_any ⟨ch, pe, de, no, st, lo, li, ho⟩ d _).mono ?_
  rw [HV.out]
  rintro e w2 ⟨rfl, hb2⟩
  go_wp2_with fail
  refine (awake_any _).mono ?_
  rintro e w3 ⟨rfl, hb3⟩
  go_wp2_with fail
  go_ret
  refine ⟨rfl, ?_⟩
  repeat' (first | with_reducible exact Below.refl _ _ | with_reducible refine bstep ?_ (by with_reducible assumption) | with_reducible refine balloc ?_ | with_reducible refine bdrew ?_ | with_reducible refine bdrewN ?_ _ | with_reducible refine bset ?_ (by go_size))
end Go.Proofs.Ytlbgcjpkegpmlaa
