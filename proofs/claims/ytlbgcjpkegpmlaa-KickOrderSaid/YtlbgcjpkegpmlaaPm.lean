/- Plain arithmetic. -/
namespace Go.Proofs.Ytlbgcjpkegpmlaa
theorem ediv_bd {a b : Int} (hb : 0 < b) : (0 ≤ a → 0 ≤ a / b ∧ a / b ≤ a) ∧ (a < 0 → a ≤ a / b ∧ a / b < 0) := by
  have h1 := Int.mul_ediv_add_emod a b
  have h2 := Int.emod_nonneg a (by omega : b ≠ 0)
  have h3 := Int.emod_lt_of_pos a hb
  refine ⟨fun h => ⟨Int.ediv_nonneg h (by omega), Int.ediv_le_self _ h⟩, fun h => ⟨?_, Int.ediv_neg_of_neg_of_pos h hb⟩⟩
  have h4 : a / b < 0 := Int.ediv_neg_of_neg_of_pos h hb
  have h5 : (b - 1) * (a / b) ≤ (b - 1) * (-1) := Int.mul_le_mul_of_nonneg_left (by omega) (by omega)
  rw [Int.sub_mul] at h5
  omega
theorem tdiv_floor {a b : Int} (hb : 0 < b) : (a.tmod b < 0 → a.tdiv b = a / b + 1) ∧ (0 ≤ a.tmod b → a.tdiv b = a / b) := by
  have h1 := Int.mul_tdiv_add_tmod a b
  have h2 := Int.mul_ediv_add_emod a b
  have h3 := Int.emod_nonneg a (by omega : b ≠ 0)
  have h4 := Int.emod_lt_of_pos a hb
  have h5 : (a.tmod b).natAbs < b.natAbs := by rw [Int.natAbs_tmod]; exact Nat.mod_lt _ (by omega)
  have e : b * (a.tdiv b) - b * (a / b) = b * (a.tdiv b - a / b) := by rw [Int.mul_sub]
  constructor
  · intro h
    have h6 : b * (a.tdiv b - a / b) = a % b - a.tmod b := by omega
    have h7 : 0 < b * (a.tdiv b - a / b) := by omega
    have h8 : b * (a.tdiv b - a / b) < b * 2 := by omega
    have h9 : 0 < a.tdiv b - a / b := by
      rcases Int.lt_or_le 0 (a.tdiv b - a / b) with h | h
      · exact h
      · have := Int.mul_le_mul_of_nonneg_left h (by omega : 0 ≤ b); omega
    have h10 := Int.lt_of_mul_lt_mul_left h8 (by omega)
    omega
  · intro h
    have h6 : b * (a.tdiv b - a / b) = a % b - a.tmod b := by omega
    have h8 : b * (a.tdiv b - a / b) < b * 1 := by omega
    have h9 : b * (-1) < b * (a.tdiv b - a / b) := by omega
    have h10 := Int.lt_of_mul_lt_mul_left h8 (by omega)
    have h11 := Int.lt_of_mul_lt_mul_left h9 (by omega)
    omega
theorem mul_bd {a b A B : Int} (h1 : 0 ≤ a) (h2 : a ≤ A) (h3 : 0 ≤ b) (h4 : b ≤ B) : 0 ≤ a * b ∧ a * b ≤ A * B :=
  ⟨Int.mul_nonneg h1 h3, Int.mul_le_mul h2 h4 h3 (by omega)⟩
end Go.Proofs.Ytlbgcjpkegpmlaa
