/- KickOrder: what is behind the second Late. -/
import Derived.Test.YtlbgcjpkegpmlaaXM
namespace Go.Proofs.Ytlbgcjpkegpmlaa
open Go.RowKit
set_option linter.unusedSimpArgs false
set_option linter.unusedVariables false

theorem caught_end {k G : Int} {K : List C} {n : Int} (hn : n = k) (hC : K = [.i k, .i G, .i 0]) {n3 n4 n5 : Int} (h : [C.i n3, C.i n4, C.i n5] = K) {g : Int} (hg : g = G) :
    (n5 = 0 → (n3 = n → (n4 = g → ∀ (t : Bool), t = true → t = true) ∧ (n4 ≠ g → false = true)) ∧ (n3 ≠ n → false = true)) ∧ (n5 ≠ 0 → false = true) := by
  subst hn hg
  rw [hC] at h
  cases h
  exact ⟨fun _ => ⟨fun _ => ⟨fun _ t h => h, fun h => absurd rfl h⟩, fun h => absurd rfl h⟩, fun h => absurd rfl h⟩
def bd64 (n : Int) : Prop := -9223372036854775808 ≤ n ∧ n ≤ 9223372036854775807
def Caught_ (L K : List C) (G : Int → Int) (k : Int) (n : Int) : Prop :=
  ∀ (n_3 : Int), -9223372036854775808 ≤ n_3 → n_3 ≤ 9223372036854775807 → ∀ (n_4 : Int), -9223372036854775808 ≤ n_4 → n_4 ≤ 9223372036854775807 → ∀ (n_5 : Int), -9223372036854775808 ≤ n_5 → n_5 ≤ 9223372036854775807 →
    [C.i n_3, C.i n_4, C.i n_5] = K →
      (n_5 = 0 → (n_3 = n → ∀ (n_6 : Int), -9223372036854775808 ≤ n_6 → n_6 ≤ 9223372036854775807 → n_6 = G n → (n_4 = n_6 → ∀ (t : Bool), t = true → t = true) ∧ (n_4 ≠ n_6 → false = true)) ∧ (n_3 ≠ n → false = true)) ∧ (n_5 ≠ 0 → false = true)
theorem caught_ {L K : List C} {G : Int → Int} {k n : Int} (hn : n = k) (hC : K = [.i k, .i (G k), .i 0]) : Caught_ L K G k n := by
  intro n3 _ _ n4 _ _ n5 _ _ h
  subst hn
  rw [hC] at h
  cases h
  exact ⟨fun _ => ⟨fun _ m _ _ hm => ⟨fun _ t h => h, fun h => absurd hm.symm h⟩, fun h => absurd rfl h⟩, fun h => absurd rfl h⟩
def Tail_ (L K : List C) (G : Int → Int) (k : Int) (is are : Bool) : Prop :=
  ∀ (n : Int), -9223372036854775808 ≤ n → n ≤ 9223372036854775807 → ∀ (n_2 : Int), -9223372036854775808 ≤ n_2 → n_2 ≤ 9223372036854775807 → [C.i n, C.i n_2] = L →
    (is = false → (are = false → (n_2 = 13 → ∀ (t : Bool), t = true → t = true) ∧ (n_2 ≠ 13 → false = true)) ∧ (are = true → (n_2 ≠ 0 → false = true) ∧ (n_2 = 0 → (n ≠ k → false = true) ∧ (n = k → Caught_ L K G k n)))) ∧
    (is = true → (n_2 ≠ 0 → false = true) ∧ (n_2 = 0 → (n ≠ k → false = true) ∧ (n = k → Caught_ L K G k n)))
theorem tail_ {L K : List C} {G : Int → Int} {k : Int} {is are : Bool} (h1 : is = true → are = true) (hL0 : are = false → L = [.i 0, .i 13]) (hL1 : are = true → L = [.i k, .i 0]) (hC : are = true → K = [.i k, .i (G k), .i 0]) : Tail_ L K G k is are := by
  intro n _ _ n2 _ _ h
  cases are with
  | false =>
    rw [hL0 rfl] at h
    cases h
    cases is with
    | true => exact absurd (h1 rfl) (by decide)
    | false => exact ⟨fun _ => ⟨fun _ => ⟨fun _ t h => h, fun h => absurd rfl h⟩, fun h => absurd h (by decide)⟩, fun h => absurd h (by decide)⟩
  | true =>
    rw [hL1 rfl] at h
    cases h
    have e : (0 ≠ (0 : Int) → false = true) ∧ ((0 : Int) = 0 → (k ≠ k → false = true) ∧ (k = k → Caught_ L K G k k)) := ⟨fun h => absurd rfl h, fun _ => ⟨fun h => absurd rfl h, fun _ => caught_ rfl (hC rfl)⟩⟩
    exact ⟨fun _ => ⟨fun h => absurd h (by decide), fun _ => e⟩, fun _ => e⟩
theorem both_ {L K : List C} {G : Int → Int} {n k : Int} {is are : Bool} (h1 : is = true → are = true ∧ k ≤ n) (hL0 : are = false → L = [.i 0, .i 13]) (hL1 : are = true → L = [.i k, .i 0]) (hC : are = true → K = [.i k, .i (G k), .i 0]) :
    (is = true → (are = false → false = true) ∧ (are = true → (n < k → false = true) ∧ (k ≤ n → Tail_ L K G k is are))) ∧ (is = false → Tail_ L K G k is are) :=
  ⟨fun h => ⟨fun h' => (by rw [(h1 h).1] at h'; cases h'), fun _ => ⟨fun h' => absurd (h1 h).2 (by omega), fun _ => tail_ (fun h => (h1 h).1) hL0 hL1 hC⟩⟩, fun _ => tail_ (fun h => (h1 h).1) hL0 hL1 hC⟩
theorem atsL_two {r g : Int} {x y : List C} : atsL r g [x, y] = (match atO (latV (skR r g x)) with | some o => [[C.i o]] | none => []) ++ (match atO (latV (skR r g y)) with | some o => [[C.i o]] | none => []) := by
  rw [atsL, atsL, atsL]
  cases atO (latV (skR r g x)) <;> cases atO (latV (skR r g y)) <;> rfl
/-- A sensor and a better one: the latest alarm is the better one's. -/
theorem two_sensors {x y : List C} {a b c e n k : Int} {is are : Bool} (hx : sensRow x = 0) (hy : sensRow y = 0) (hk : kicksE a b c e = 0) (hb : Better (skR a c x) (skR a c y))
    (hn : [C.i n, .b is] = latE (skR a c x)) (hm : [C.i k, .b are] = latE (skR a c y)) :
    (is = true → are = true ∧ k ≤ n) ∧ (are = false → latestC [x, y] a b c e = [.i 0, .i 13]) ∧ (are = true → latestC [x, y] a b c e = [.i k, .i 0]) ∧ (are = true → caughtC [x, y] a c = [.i k, .i (gainV a c k), .i 0]) := by
  have k1 := (kicksE_zero hk).1
  obtain ⟨n1, n2⟩ := latE_out (x := skR a c x) ⟨hx, k1⟩ hn
  obtain ⟨m1, m2⟩ := latE_out (x := skR a c y) ⟨hy, k1⟩ hm
  have hs : sensorsE [x, y] = 0 := by
    unfold sensorsE
    simp [firstE, hx, hy]
  have hke : kickE a c = 0 := kickE_iff.2 k1
  have f1 : is = true → are = true ∧ k ≤ n := fun h => by
    obtain ⟨o', h1, h2⟩ := latV_mono hb (n1 h)
    cases are with
    | false => rw [m2 rfl] at h1; cases h1
    | true => rw [m1 rfl] at h1; cases h1; exact ⟨rfl, h2⟩
  have ats0 : are = false → atsL a c [x, y] = [] := fun h => by
    have : is = false := by cases is with | false => rfl | true => rw [(f1 rfl).1] at h; cases h
    rw [atsL_two, m2 h, n2 this]; rfl
  have ats1 : are = true → atsL a c [x, y] ≠ [] ∧ minR (atsL a c [x, y]) = k := fun h => by
    rw [atsL_two, m1 h]
    cases is with
    | false => rw [n2 rfl]; exact ⟨by simp, rfl⟩
    | true =>
      rw [n1 rfl]
      refine ⟨by simp, ?_⟩
      have := (f1 rfl).2
      show min n k = k
      omega
  refine ⟨f1, fun h => ?_, fun h => ?_, fun h => ?_⟩
  · unfold latestC earlC; rw [if_pos hs, if_pos hk, if_pos (ats0 h)]
  · unfold latestC earlC; rw [if_pos hs, if_pos hk, if_neg (ats1 h).1, (ats1 h).2]
  · unfold caughtC; rw [if_pos hs, if_pos hke, if_neg (ats1 h).1, (ats1 h).2]
end Go.Proofs.Ytlbgcjpkegpmlaa
