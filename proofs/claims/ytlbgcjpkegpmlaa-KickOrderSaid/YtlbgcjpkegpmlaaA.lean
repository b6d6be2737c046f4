/- Contracts of small functions: kick.within, moonpoolref06.between, CheckKick, flows and gains. -/
import Derived.Test.YtlbgcjpkegpmlaaProg
import Derived.Test.YtlbgcjpkegpmlaaS
import Derived.Test.YtlbgcjpkegpmlaaM
import Derived.WalkKit
import Derived.WalkLawsBesides
import Derived.Lib.Hide
import Derived.Deep.QuietTactic
import Derived.BigQuiet
import Derived.Handy
namespace Go.Proofs.Ytlbgcjpkegpmlaa
open Go.RowKit

/-- kick.within -/
theorem within_any (n lo hi : Int) (w : World) :
    Calls Try.prog 68 #[.int .i64 n, .int .i64 lo, .int .i64 hi] w fun e w' => e = .returned (.bool (decide (lo ≤ n ∧ n ≤ hi))) ∧ w = w' := by
  go_enter Try.func68, Try.ntmps68
  go_wp2
  all_goals go_ret
  all_goals (refine ⟨ret_bool ?_, rfl⟩; simp; omega)
/-- moonpoolref06.between -/
theorem between_any (n lo hi : Int) (w : World) :
    Calls Try.prog 69 #[.int .i64 n, .int .i64 lo, .int .i64 hi] w fun e w' => e = .returned (.bool (decide (lo ≤ n ∧ n ≤ hi))) ∧ w = w' := by
  go_enter Try.func69, Try.ntmps69
  go_wp2
  all_goals go_ret
  all_goals (refine ⟨ret_bool ?_, rfl⟩; simp; omega)
theorem within_yes (n lo hi : Int) (w : World) (h : lo ≤ n) (h' : n ≤ hi) :
    Calls Try.prog 68 #[.int .i64 n, .int .i64 lo, .int .i64 hi] w fun e w' => e = .returned (.bool true) ∧ w = w' :=
  (within_any n lo hi w).mono fun _ _ ⟨he, hw⟩ => ⟨he.trans (ret_bool (by simp [h, h'])), hw⟩
theorem within_no (n lo hi : Int) (w : World) (h : n < lo ∨ hi < n) :
    Calls Try.prog 68 #[.int .i64 n, .int .i64 lo, .int .i64 hi] w fun e w' => e = .returned (.bool false) ∧ w = w' :=
  (within_any n lo hi w).mono fun _ _ ⟨he, hw⟩ => ⟨he.trans (ret_bool (by simp; omega)), hw⟩
theorem between_yes (n lo hi : Int) (w : World) (h : lo ≤ n) (h' : n ≤ hi) :
    Calls Try.prog 69 #[.int .i64 n, .int .i64 lo, .int .i64 hi] w fun e w' => e = .returned (.bool true) ∧ w = w' :=
  (between_any n lo hi w).mono fun _ _ ⟨he, hw⟩ => ⟨he.trans (ret_bool (by simp [h, h'])), hw⟩
theorem between_no (n lo hi : Int) (w : World) (h : n < lo ∨ hi < n) :
    Calls Try.prog 69 #[.int .i64 n, .int .i64 lo, .int .i64 hi] w fun e w' => e = .returned (.bool false) ∧ w = w' :=
  (between_any n lo hi w).mono fun _ _ ⟨he, hw⟩ => ⟨he.trans (ret_bool (by simp; omega)), hw⟩



abbrev kickV (r g : Int) : Value := .agg #[.int .i64 r, .int .i64 g]
abbrev Sen.v (s : Sen) : Value := .agg #[.int .i64 s.ch, .int .i64 s.pe, .int .i64 s.de, .int .i64 s.no, .int .i64 s.st, .int .i64 s.lo, .int .i64 s.li, .int .i64 s.ho]

theorem notKick {r g : Int} (h : ¬ KickOK r g) : r < 0 ∨ (0 ≤ r ∧ 16777216 < r) ∨ (0 ≤ r ∧ r ≤ 16777216 ∧ g < 0) ∨ (0 ≤ r ∧ r ≤ 16777216 ∧ 0 ≤ g ∧ 4096 < g) := by unfold KickOK at h; omega
theorem checkKick_yes (r g : Int) (w : World) (h : KickOK r g) :
    Calls Try.prog 36 #[kickV r g] w fun e w' => e = .returned (.int .i64 0) ∧ Below w.heap.size w w' := by
  obtain ⟨h1, h2, h3, h4⟩ := h
  go_enter Try.func36, Try.ntmps36
  go_wp2
  all_goals go_returns
  all_goals (refine ⟨rfl, ?_⟩; go_grown)
theorem checkKick_no (r g : Int) (w : World) (h : ¬ KickOK r g) :
    Calls Try.prog 36 #[kickV r g] w fun e w' => e = .returned (.int .i64 2) ∧ Below w.heap.size w w' := by
  rcases notKick h with h1 | ⟨h1, h2⟩ | ⟨h1, h2, h3⟩ | ⟨h1, h2, h3, h4⟩
  all_goals
    clear h
    go_enter Try.func36, Try.ntmps36
    go_wp2
    go_returns
    refine ⟨rfl, ?_⟩
    go_grown
theorem rcheckKick_yes (r g : Int) (w : World) (h : KickOK r g) :
    Calls Try.prog 37 #[kickV r g] w fun e w' => e = .returned (.int .i64 0) ∧ Below w.heap.size w w' := by
  obtain ⟨h1, h2, h3, h4⟩ := h
  go_enter Try.func37, Try.ntmps37
  go_wp2
  all_goals go_returns
  all_goals (refine ⟨rfl, ?_⟩; go_grown)
theorem rcheckKick_no (r g : Int) (w : World) (h : ¬ KickOK r g) :
    Calls Try.prog 37 #[kickV r g] w fun e w' => e = .returned (.int .i64 2) ∧ Below w.heap.size w w' := by
  rcases notKick h with h1 | ⟨h1, h2⟩ | ⟨h1, h2, h3⟩ | ⟨h1, h2, h3, h4⟩
  all_goals
    clear h
    go_enter Try.func37, Try.ntmps37
    go_wp2_with (go_at_call 69; first | (refine (between_yes _ _ _ _ (by omega) (by omega)).mono ?_; rintro e w' ⟨rfl, rfl⟩) | (refine (between_no _ _ _ _ (by omega)).mono ?_; rintro e w' ⟨rfl, rfl⟩))
    go_returns
    refine ⟨rfl, ?_⟩
    go_grown

end Go.Proofs.Ytlbgcjpkegpmlaa
