/- A greater kick is never noticed later, nor any one by a better sensor. -/
import Derived.Test.YtlbgcjpkegpmlaaXL
namespace Go.Proofs.Ytlbgcjpkegpmlaa
open Go.RowKit
set_option linter.unusedSimpArgs false
set_option linter.unusedVariables false

theorem flowV_mono {r g r' g' n : Int} (h : KOk r g) (h' : KOk r' g') (hr : r ≤ r') (hg : g ≤ g') : flowV r g n ≤ flowV r' g' n := by
  unfold flowV
  by_cases hn : 0 ≤ n ∧ n ≤ 20000
  · rw [if_pos ⟨h, hn⟩, if_pos ⟨h', hn⟩]
    have := Int.mul_le_mul_of_nonneg_left hg hn.1
    omega
  · rw [if_neg (fun h => hn h.2), if_neg (fun h => hn h.2)]; exact Int.le_refl _
theorem gainV_mono {r g r' g' n : Int} (h : KOk r g) (h' : KOk r' g') (hr : r ≤ r') (hg : g ≤ g') : gainV r g n ≤ gainV r' g' n := by
  unfold gainV
  by_cases hn : 0 ≤ n ∧ n ≤ 20000
  · rw [if_pos ⟨h, hn⟩, if_pos ⟨h', hn⟩]
    have h1 := Int.mul_le_mul_of_nonneg_left hr hn.1
    obtain ⟨-, -, -, h2, -⟩ := gain_facts h hn.1 hn.2
    have h3 := Int.mul_le_mul_of_nonneg_right hg h2.1
    omega
  · rw [if_neg (fun h => hn h.2), if_neg (fun h => hn h.2)]; exact Int.le_refl _
theorem saysV_mono {ch r g r' g' n : Int} (h : KOk r g) (h' : KOk r' g') (hr : r ≤ r') (hg : g ≤ g') : saysV ch r g n ≤ saysV ch r' g' n := by
  unfold saysV
  split
  · exact gainV_mono h h' hr hg
  · exact flowV_mono h h' hr hg
/-- One that notices no later. -/
structure Better (x y : SK) : Prop where
  pe : y.pe = x.pe
  pos : 0 ≤ x.pe
  says : ∀ n, saysV x.ch x.r x.g n ≤ saysV y.ch y.r y.g n
  noise : y.no * y.st ≤ x.no * x.st
  li : y.li ≤ x.li
  row : y.ho * (y.lo + 1) ≤ x.ho * (x.lo + 1)
  de : y.de ≤ x.de
theorem firA_mono {x y : SK} (h : Better x y) {f : Int} : ∀ {n : Nat} {a b : Int}, firA x f n a = some b → ∃ b', firA y f n a = some b' ∧ b' ≤ b
  | 0, a, b, hx => by cases hx
  | n + 1, a, b, hx => by
    rw [firA] at hx ⊢
    rw [h.pe]
    split at hx
    · rename_i h1
      rw [if_pos h1]
      have s := h.says (f + a * x.pe)
      have s1 := h.noise
      have s2 := h.li
      split at hx
      · rename_i h2
        cases hx
        rw [if_pos (by omega)]
        exact ⟨_, rfl, Int.le_refl _⟩
      · split
        · have : a ≤ b := firA_le hx
          exact ⟨_, rfl, this⟩
        · exact firA_mono h hx
    · cases hx
where
  firA_le {x : SK} {f : Int} : ∀ {n : Nat} {a b : Int}, firA x f n (a + 1) = some b → a ≤ b
    | 0, a, b, hx => by cases hx
    | n + 1, a, b, hx => by
      rw [firA] at hx
      split at hx
      · split at hx
        · cases hx; omega
        · have := firA_le hx; omega
      · cases hx
theorem tickV_mono {x y : SK} (h : Better x y) {f a b : Int} (hab : b ≤ a) : tickV y f b ≤ tickV x f a := by
  unfold tickV
  have h1 := h.row
  have h2 := h.de
  rw [h.pe]
  have h3 := Int.mul_le_mul_of_nonneg_right (show b + y.ho * (y.lo + 1) - 1 ≤ a + x.ho * (x.lo + 1) - 1 by omega) h.pos
  omega
theorem latL_mono {x y : SK} (h : Better x y) : ∀ {k : Nat} {f o p q o' p' q' O P Q : Int}, o' ≤ o → latL x k f o p q = some (O, P, Q) → ∃ O' P' Q', latL y k f o' p' q' = some (O', P', Q') ∧ O' ≤ O
  | 0, f, o, p, q, o', p', q', O, P, Q, ho, hx => by cases hx; exact ⟨_, _, _, rfl, ho⟩
  | k + 1, f, o, p, q, o', p', q', O, P, Q, ho, hx => by
    rw [latL] at hx ⊢
    split at hx
    · cases hx
    · rename_i a ha
      obtain ⟨b, hb, hba⟩ := firA_mono h ha
      have ht := tickV_mono h (f := f) hba
      rw [hb]
      simp only []
      split at hx
      · cases hx
      · rename_i h1
        rw [if_neg (by omega)]
        split at hx
        · split
          · exact latL_mono h ht hx
          · exact latL_mono h (by omega) hx
        · split
          · exact latL_mono h (by omega) hx
          · exact latL_mono h ho hx
theorem latV_mono {x y : SK} (h : Better x y) {o : Int} (hx : atO (latV x) = some o) : ∃ o', atO (latV y) = some o' ∧ o' ≤ o := by
  cases hv : latV x with
  | none => rw [hv] at hx; cases hx
  | some v =>
    obtain ⟨a, b, c⟩ := v
    rw [hv] at hx
    cases hx
    unfold latV at hv
    obtain ⟨O, P, Q, h1, h2⟩ := latL_mono h (o' := -1) (p' := 0) (q' := 0) (Int.le_refl _) hv
    refine ⟨O, ?_, h2⟩
    unfold latV
    rw [h.pe, h1]; rfl
theorem latE_out {x : SK} {n : Int} {is : Bool} (hx : SKOk x) (h : [C.i n, .b is] = latE x) : (is = true → atO (latV x) = some n) ∧ (is = false → atO (latV x) = none) := by
  unfold latE at h
  rw [if_pos hx] at h
  cases ha : atO (latV x) with
  | none => rw [ha] at h; cases h; exact ⟨fun h => (by cases h), fun _ => rfl⟩
  | some o => rw [ha] at h; cases h; exact ⟨fun _ => rfl, fun h => (by cases h)⟩
end Go.Proofs.Ytlbgcjpkegpmlaa
