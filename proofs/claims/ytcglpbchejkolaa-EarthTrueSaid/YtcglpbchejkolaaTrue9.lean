/- The law EarthTrue: for every input the call returns true, and each argument reads afterwards as it read before. The frame is printed by frame.py. -/
import Derived.Test.YtcglpbchejkolaaTrue8
import Derived.Test.YtcglpbchejkolaaRows
import Derived.ShutString
import Derived.ChangeOld
/- Earth: lines compared everywhere: plain laws. -/
namespace Go.Proofs.Ytcglpbchejkolaa
open Go.RowKit
set_option linter.unusedSimpArgs false
set_option linter.unusedVariables false

theorem geP_iff {p q : Int × Int × Int} (p0 : 0 ≤ p.2.1) (p1 : p.2.1 < p.2.2) (q0 : 0 ≤ q.2.1) (q1 : q.2.1 < q.2.2) : geP p q = true ↔ (q.1 * q.2.2 + q.2.1) * p.2.2 ≤ (p.1 * p.2.2 + p.2.1) * q.2.2 := by
  obtain ⟨a, n, d⟩ := p
  obtain ⟨b, m, f⟩ := q
  simp only [] at p0 p1 q0 q1
  unfold geP
  simp only [Bool.or_eq_true, Bool.and_eq_true, decide_eq_true_eq, beq_iff_eq]
  have e1 : (b * f + m) * d = b * (d * f) + m * d := by rw [Int.add_mul, Int.mul_assoc, Int.mul_comm f d]
  have e2 : (a * d + n) * f = a * (d * f) + n * f := by rw [Int.add_mul, Int.mul_assoc]
  rw [e1, e2]
  have m0 : 0 ≤ m * d := Int.mul_nonneg q0 (by omega)
  have m1 : m * d < f * d := Int.mul_lt_mul_of_pos_right q1 (by omega)
  have n0 : 0 ≤ n * f := Int.mul_nonneg p0 (by omega)
  have n1 : n * f < d * f := Int.mul_lt_mul_of_pos_right p1 (by omega)
  have c : f * d = d * f := Int.mul_comm _ _
  have hdf : 0 ≤ d * f := Int.mul_nonneg (by omega) (by omega)
  rcases Int.lt_trichotomy b a with h | h | h
  · have := Int.mul_le_mul_of_nonneg_right (show b + 1 ≤ a by omega) hdf
    rw [Int.add_mul, Int.one_mul] at this
    exact ⟨fun _ => by omega, fun _ => .inl h⟩
  · subst h
    exact ⟨fun hh => by omega, fun hh => .inr ⟨rfl, by omega⟩⟩
  · have := Int.mul_le_mul_of_nonneg_right (show a + 1 ≤ b by omega) hdf
    rw [Int.add_mul, Int.one_mul] at this
    exact ⟨fun hh => by omega, fun hh => by omega⟩
/-- The value of a place is A / D. -/
def Is (t : Int × Int × Int) (A D : Int) : Prop := 0 < D ∧ 0 ≤ t.2.1 ∧ t.2.1 < t.2.2 ∧ (t.1 * t.2.2 + t.2.1) * D = A * t.2.2
theorem Is.ge {p q : Int × Int × Int} {A D B E : Int} (hp : Is p A D) (hq : Is q B E) : geP p q = true ↔ B * D ≤ A * E := by
  obtain ⟨d0, p0, p1, hp⟩ := hp
  obtain ⟨e0, q0, q1, hq⟩ := hq
  rw [geP_iff p0 p1 q0 q1]
  generalize p.1 * p.2.2 + p.2.1 = N at *
  generalize q.1 * q.2.2 + q.2.1 = M at *
  generalize p.2.2 = d at *
  generalize q.2.2 = f at *
  have k1 : M * d * (D * E) = B * D * (d * f) := by
    rw [show M * d * (D * E) = M * E * (D * d) by ac_rfl, hq]; ac_rfl
  have k2 : N * f * (D * E) = A * E * (d * f) := by
    rw [show N * f * (D * E) = N * D * (E * f) by ac_rfl, hp]; ac_rfl
  have p1 : 0 < D * E := Int.mul_pos d0 e0
  have p2 : 0 < d * f := Int.mul_pos (by omega) (by omega)
  constructor
  · intro h
    have := Int.mul_le_mul_of_nonneg_right h (Int.le_of_lt p1)
    rw [k1, k2] at this
    exact Int.le_of_mul_le_mul_right this p2
  · intro h
    have := Int.mul_le_mul_of_nonneg_right h (Int.le_of_lt p2)
    rw [← k1, ← k2] at this
    exact Int.le_of_mul_le_mul_right this p1
/-- What is at least another one has its ends at least there, too. -/
theorem geP_range {p q : Int × Int × Int} (hp : 0 ≤ p.2.1 ∧ p.2.1 < p.2.2) (hq : 0 ≤ q.2.1 ∧ q.2.1 < q.2.2) (h : geP p q = true) : q.1 ≤ p.1 ∧ q.1 + min q.2.1 1 ≤ p.1 + min p.2.1 1 := by
  unfold geP at h
  simp only [Bool.or_eq_true, Bool.and_eq_true, decide_eq_true_eq, beq_iff_eq] at h
  rcases h with h | ⟨h, h2⟩
  · omega
  · by_cases e : q.2.1 = 0
    · omega
    · have := Int.mul_pos (show 0 < q.2.1 by omega) (show 0 < p.2.2 by omega)
      have : 0 < p.2.1 := by
        rcases Int.lt_or_le 0 p.2.1 with h3 | h3
        · exact h3
        · have h4 : p.2.1 = 0 := by omega
          rw [h4, Int.zero_mul] at h2
          omega
      omega
/-! Values of a line, part by part, as fractions -/
theorem valP_low {ks : List Kn} (ha : Asc ks) (h0 : 0 < ks.length) {y : Int} (hy : y ≤ (ks.getD 0 (0, 0)).1) : valP ks y = ((ks.getD 0 (0, 0)).2, 0, 1) := by
  have hf := findV_at (ks := ks) (by intro e; rw [e] at h0; simp at h0) (x := y) (i := 0) (by omega) (fun k hk => by omega) (fun k _ h4 => by
    rcases Nat.eq_zero_or_pos k with h5 | h5
    · rw [h5]; exact hy
    · have := ha.lt (i := 0) (j := k) h5 h4; omega)
  have hf : findV ks y = (ks.getD 0 (0, 0), ks.getD 0 (0, 0)) := by rw [hf]; split <;> simp
  unfold valP partAt
  rw [hf, if_pos rfl]
theorem valP_high {ks : List Kn} (ha : Asc ks) (h0 : 0 < ks.length) {y : Int} (hy : (ks.getD (ks.length - 1) (0, 0)).1 ≤ y) : valP ks y = ((ks.getD (ks.length - 1) (0, 0)).2, 0, 1) := by
  by_cases e : (ks.getD (ks.length - 1) (0, 0)).1 = y
  · rw [← e, valP_knot ha (getD_mem (by omega) _)]
  have hf := findV_at (ks := ks) (by intro e; rw [e] at h0; simp at h0) (x := y) (i := ks.length) (by omega) (fun k hk => by
    rcases Nat.lt_or_ge k (ks.length - 1) with h5 | h5
    · have := ha.lt (i := k) (j := ks.length - 1) h5 (by omega); omega
    · rw [show k = ks.length - 1 by omega]; omega) (fun k h3 h4 => by omega)
  rw [if_neg (fun h => by omega), show min ks.length (ks.length - 1) = ks.length - 1 by omega] at hf
  unfold valP partAt
  rw [hf, if_pos rfl]
theorem Is.const (v x : Int) : Is (v, 0, 1) (v + 0 * x) 1 := by
  refine ⟨by decide, Int.le_refl _, by show (0 : Int) < 1; decide, ?_⟩
  simp
theorem Is_mid {ks : List Kn} (ha : Asc ks) {i : Nat} (h1 : 0 < i) (h2 : i < ks.length) {y : Int} (hy : (ks.getD (i - 1) (0, 0)).1 ≤ y) (hy2 : y ≤ (ks.getD i (0, 0)).1) :
    Is (valP ks y) ((ks.getD (i - 1) (0, 0)).2 * ((ks.getD i (0, 0)).1 - (ks.getD (i - 1) (0, 0)).1) - ((ks.getD i (0, 0)).2 - (ks.getD (i - 1) (0, 0)).2) * (ks.getD (i - 1) (0, 0)).1 + ((ks.getD i (0, 0)).2 - (ks.getD (i - 1) (0, 0)).2) * y) ((ks.getD i (0, 0)).1 - (ks.getD (i - 1) (0, 0)).1) := by
  have hlt := ha.lt (i := i - 1) (j := i) (by omega) h2
  have hp := getD_mem (l := ks) (i := i - 1) (by omega) (0, 0)
  have hq := getD_mem (l := ks) (i := i) h2 (0, 0)
  have hbefore : ∀ k < i, (ks.getD (i - 1) (0, 0)).1 < y → (ks.getD k (0, 0)).1 < y := fun k hk h => by
    rcases Nat.lt_or_ge k (i - 1) with h3 | h3
    · have := ha.lt (i := k) (j := i - 1) h3 (by omega); omega
    · rw [show k = i - 1 by omega]; exact h
  have hafter : ∀ k, i ≤ k → k < ks.length → y ≤ (ks.getD k (0, 0)).1 := fun k h3 h4 => by
    rcases Nat.lt_or_ge i k with h5 | h5
    · have := ha.lt (i := i) (j := k) h5 h4; omega
    · rw [show k = i by omega]; exact hy2
  by_cases e1 : (ks.getD (i - 1) (0, 0)).1 = y
  · rw [← e1, valP_knot ha hp]
    refine ⟨by omega, Int.le_refl _, by show (0 : Int) < 1; decide, ?_⟩
    simp only [Int.mul_one, Int.add_zero]
    omega
  by_cases e2 : (ks.getD i (0, 0)).1 = y
  · rw [← e2, valP_knot ha hq]
    refine ⟨by omega, Int.le_refl _, by show (0 : Int) < 1; decide, ?_⟩
    simp only [Int.mul_one, Int.add_zero]
    simp only [Int.mul_sub, Int.sub_mul]
    omega
  have hf := findV_at (ks := ks) (by intro e; rw [e] at h2; simp at h2) (x := y) (i := i) (by omega) (fun k hk => hbefore k hk (by omega)) hafter
  rw [if_neg (fun h => e2 h.2), show min i (ks.length - 1) = i by omega] at hf
  unfold valP partAt
  rw [hf]
  generalize ks.getD (i - 1) (0, 0) = p at *
  generalize ks.getD i (0, 0) = q at *
  rw [if_neg (fun h : p = q => by rw [h] at hlt; omega)]
  unfold segP
  have hL : 0 < q.1 - p.1 := by omega
  refine ⟨hL, Int.emod_nonneg _ (show q.1 - p.1 ≠ 0 by omega), Int.emod_lt_of_pos _ hL, ?_⟩
  simp only []
  refine congrArg (· * (q.1 - p.1)) ?_
  have e := Int.mul_ediv_add_emod ((q.2 - p.2) * (y - p.1)) (q.1 - p.1)
  have e3 : (q.2 - p.2) * (y - p.1) = (q.2 - p.2) * y - (q.2 - p.2) * p.1 := Int.mul_sub _ _ _
  rw [Int.add_mul, Int.mul_comm ((q.2 - p.2) * (y - p.1) / (q.1 - p.1)) (q.1 - p.1)]
  omega
/-- A part on which a line is straight. -/
def Aff (ks : List Kn) (a b : Int) : Prop := ∃ A M D : Int, ∀ x, a ≤ x → x ≤ b → Is (valP ks x) (A + M * x) D
theorem Aff.part {ks : List Kn} {a b a' b' : Int} (h : Aff ks a b) (h1 : a ≤ a') (h2 : b' ≤ b) : Aff ks a' b' := by
  obtain ⟨A, M, D, h⟩ := h
  exact ⟨A, M, D, fun x k1 k2 => h x (by omega) (by omega)⟩
theorem ge_between {u l : List Kn} {a b x : Int} (hu : Aff u a b) (hl : Aff l a b) (h1 : a ≤ x) (h2 : x ≤ b) (g1 : geP (valP u a) (valP l a) = true) (g2 : geP (valP u b) (valP l b) = true) : geP (valP u x) (valP l x) = true := by
  obtain ⟨A, M, D, hu⟩ := hu
  obtain ⟨B, N, E, hl⟩ := hl
  rw [(hu a (Int.le_refl _) (by omega)).ge (hl a (Int.le_refl _) (by omega))] at g1
  rw [(hu b (by omega) (Int.le_refl _)).ge (hl b (by omega) (Int.le_refl _))] at g2
  rw [(hu x h1 h2).ge (hl x h1 h2)]
  have e : ∀ y : Int, (A + M * y) * E - (B + N * y) * D = (A * E - B * D) + (M * E - N * D) * y := fun y => by
    rw [Int.add_mul, Int.add_mul, Int.sub_mul, show M * y * E = M * E * y by ac_rfl, show N * y * D = N * D * y by ac_rfl]; omega
  have ea := e a
  have eb := e b
  have ex := e x
  generalize A * E - B * D = F at *
  generalize M * E - N * D = S at *
  rcases Int.le_total 0 S with hs | hs
  · have := Int.mul_le_mul_of_nonneg_left h1 hs
    omega
  · have := Int.mul_le_mul_of_nonpos_left hs h2
    omega
/-- Within a part each place lies in a smaller one, between knots or the part's ends, on which the line is straight. -/
theorem pieceA {ks : List Kn} (ha : Asc ks) (h0 : 0 < ks.length) {u w x : Int} (hu : u ≤ x) (hw : x ≤ w) : ∃ a b, u ≤ a ∧ a ≤ x ∧ x ≤ b ∧ b ≤ w ∧ Aff ks a b ∧ (a = u ∨ ∃ k ∈ ks, k.1 = a) ∧ (b = w ∨ ∃ k ∈ ks, k.1 = b) := by
  obtain ⟨i, hi, h1, h2⟩ := split_at ha x
  by_cases e0 : i = 0
  · subst e0
    have hx := h2 0 (Nat.le_refl _) h0
    by_cases hb : (ks.getD 0 (0, 0)).1 ≤ w
    · exact ⟨u, (ks.getD 0 (0, 0)).1, Int.le_refl _, hu, hx, hb, ⟨_, _, _, fun y _ h5 => by rw [valP_low ha h0 h5]; exact Is.const _ _⟩, .inl rfl, .inr ⟨_, getD_mem h0 _, rfl⟩⟩
    · exact ⟨u, w, Int.le_refl _, hu, hw, Int.le_refl _, ⟨_, _, _, fun y _ h5 => by rw [valP_low ha h0 (by omega)]; exact Is.const _ _⟩, .inl rfl, .inl rfl⟩
  have hp := h1 (i - 1) (by omega)
  have lo : ∃ a, u ≤ a ∧ a ≤ x ∧ (ks.getD (i - 1) (0, 0)).1 ≤ a ∧ (a = u ∨ ∃ k ∈ ks, k.1 = a) := by
    by_cases h : u ≤ (ks.getD (i - 1) (0, 0)).1
    · exact ⟨_, h, by omega, Int.le_refl _, .inr ⟨_, getD_mem (by omega) _, rfl⟩⟩
    · exact ⟨u, Int.le_refl _, hu, by omega, .inl rfl⟩
  obtain ⟨a, a1, a2, a3, a4⟩ := lo
  by_cases e1 : i = ks.length
  · subst e1
    exact ⟨a, w, a1, a2, hw, Int.le_refl _, ⟨_, _, _, fun y h3 _ => by rw [valP_high ha h0 (by omega)]; exact Is.const _ _⟩, a4, .inl rfl⟩
  have hq := h2 i (Nat.le_refl _) (by omega)
  have hlt := ha.lt (i := i - 1) (j := i) (by omega) (by omega)
  have hi' : ∃ b, x ≤ b ∧ b ≤ w ∧ b ≤ (ks.getD i (0, 0)).1 ∧ (b = w ∨ ∃ k ∈ ks, k.1 = b) := by
    by_cases h : (ks.getD i (0, 0)).1 ≤ w
    · exact ⟨_, hq, h, Int.le_refl _, .inr ⟨_, getD_mem (by omega) _, rfl⟩⟩
    · exact ⟨w, hw, Int.le_refl _, by omega, .inl rfl⟩
  obtain ⟨b, b1, b2, b3, b4⟩ := hi'
  have hA : Aff ks a b := ⟨_, _, _, fun y h3 h4 => Is_mid ha (i := i) (y := y) (Nat.pos_of_ne_zero e0) (Nat.lt_of_le_of_ne hi e1) (Int.le_trans a3 h3) (Int.le_trans h4 b3)⟩
  exact ⟨a, b, a1, a2, b1, b2, hA, a4, b4⟩
/-- A line that is at least another one at a part's ends and at the knots of both is so in the part. -/
theorem ge_in {u l : List Kn} (hu : Asc u) (u0 : 0 < u.length) (hl : Asc l) (l0 : 0 < l.length) {lo hi x : Int} (h1 : lo ≤ x) (h2 : x ≤ hi) (g1 : geP (valP u lo) (valP l lo) = true) (g2 : geP (valP u hi) (valP l hi) = true) (g : ∀ k, k ∈ u ∨ k ∈ l → lo ≤ k.1 → k.1 ≤ hi → geP (valP u k.1) (valP l k.1) = true) : geP (valP u x) (valP l x) = true := by
  obtain ⟨a, b, a1, a2, b1, b2, hA, ea, eb⟩ := pieceA hu u0 h1 h2
  obtain ⟨a', b', a3, a4, b3, b4, hB, ea', eb'⟩ := pieceA hl l0 a2 b1
  have ga : geP (valP u a) (valP l a) = true := by
    rcases ea with rfl | ⟨k, hk, rfl⟩
    · exact g1
    · exact g k (.inl hk) a1 (by omega)
  have gb : geP (valP u b) (valP l b) = true := by
    rcases eb with rfl | ⟨k, hk, rfl⟩
    · exact g2
    · exact g k (.inl hk) (by omega) b2
  refine ge_between (hA.part a3 b4) hB a4 b3 ?_ ?_
  · rcases ea' with rfl | ⟨k, hk, rfl⟩
    · exact ga
    · exact g k (.inr hk) (by omega) (by omega)
  · rcases eb' with rfl | ⟨k, hk, rfl⟩
    · exact gb
    · exact g k (.inr hk) (by omega) (by omega)
theorem first_last {ks : List Kn} (ha : Asc ks) (h0 : 0 < ks.length) {k : Kn} (hk : k ∈ ks) : (ks.getD 0 (0, 0)).1 ≤ k.1 ∧ k.1 ≤ (ks.getD (ks.length - 1) (0, 0)).1 := by
  obtain ⟨i, hi, rfl⟩ := List.getElem_of_mem hk
  have e : ks[i] = ks.getD i (0, 0) := by rw [List.getD_eq_getElem?_getD, List.getElem?_eq_getElem hi]; rfl
  rw [e]
  constructor
  · rcases Nat.eq_zero_or_pos i with h | h
    · rw [h]; exact Int.le_refl _
    · exact Int.le_of_lt (ha.lt h hi)
  · rcases Nat.lt_or_ge i (ks.length - 1) with h | h
    · exact Int.le_of_lt (ha.lt h (by omega))
    · rw [show i = ks.length - 1 by omega]; exact Int.le_refl _
/-- .. at the knots of both: everywhere. -/
theorem ge_all {u l : List Kn} (hu : Asc u) (u0 : 0 < u.length) (hl : Asc l) (l0 : 0 < l.length) (g : ∀ k, k ∈ u ∨ k ∈ l → geP (valP u k.1) (valP l k.1) = true) (x : Int) : geP (valP u x) (valP l x) = true := by
  have mu := getD_mem u0 (0, 0)
  have ml := getD_mem l0 (0, 0)
  have nu := getD_mem (l := u) (i := u.length - 1) (by omega) (0, 0)
  have nl := getD_mem (l := l) (i := l.length - 1) (by omega) (0, 0)
  -- below the first knots
  have low : ∀ y, y ≤ (u.getD 0 (0, 0)).1 → y ≤ (l.getD 0 (0, 0)).1 → geP (valP u y) (valP l y) = true := fun y h1 h2 => by
    rcases Int.le_total (u.getD 0 (0, 0)).1 (l.getD 0 (0, 0)).1 with h | h
    · have := g _ (.inl mu)
      rw [valP_low hu u0 (Int.le_refl _), valP_low hl l0 h] at this
      rw [valP_low hu u0 h1, valP_low hl l0 h2]; exact this
    · have := g _ (.inr ml)
      rw [valP_low hu u0 h, valP_low hl l0 (Int.le_refl _)] at this
      rw [valP_low hu u0 h1, valP_low hl l0 h2]; exact this
  have high : ∀ y, (u.getD (u.length - 1) (0, 0)).1 ≤ y → (l.getD (l.length - 1) (0, 0)).1 ≤ y → geP (valP u y) (valP l y) = true := fun y h1 h2 => by
    rcases Int.le_total (u.getD (u.length - 1) (0, 0)).1 (l.getD (l.length - 1) (0, 0)).1 with h | h
    · have := g _ (.inr nl)
      rw [valP_high hu u0 h, valP_high hl l0 (Int.le_refl _)] at this
      rw [valP_high hu u0 h1, valP_high hl l0 h2]; exact this
    · have := g _ (.inl nu)
      rw [valP_high hu u0 (Int.le_refl _), valP_high hl l0 h] at this
      rw [valP_high hu u0 h1, valP_high hl l0 h2]; exact this
  have g1 := low (min x (min (u.getD 0 (0, 0)).1 (l.getD 0 (0, 0)).1)) (by omega) (by omega)
  have g2 := high (max x (max (u.getD (u.length - 1) (0, 0)).1 (l.getD (l.length - 1) (0, 0)).1)) (by omega) (by omega)
  exact ge_in hu u0 hl l0 (by omega) (by omega) g1 g2 fun k hk _ _ => g k hk
theorem Good.pos {ks : List Kn} (h : Good ks) : 0 < ks.length := List.length_pos_iff.2 h.ne
theorem above_all {u l : List Kn} (hu : Good u) (hl : Good l) (h : ab u l = true) (x : Int) : geP (valP u x) (valP l x) = true := by
  refine ge_all hu.asc hu.pos hl.asc hl.pos (fun k hk => ?_) x
  unfold ab aboveV at h
  rw [List.all_eq_true] at h
  have h2 := h k (List.mem_append.2 hk)
  have hb : k.1 ≤ 1099511627776 := by
    rcases hk with hk | hk
    · exact (hu.bd hk).2.1
    · exact (hl.bd hk).2.1
  rw [decide_eq_false (by omega), Bool.false_or] at h2
  exact h2
theorem Good.wf {ks : List Kn} (h : Good ks) (x : Int) : 0 ≤ (valP ks x).2.1 ∧ (valP ks x).2.1 < (valP ks x).2.2 := ⟨(h.val x).1, (h.val x).2.1⟩
theorem above_range {u l : List Kn} (hu : Good u) (hl : Good l) {x : Int} (h : geP (valP u x) (valP l x) = true) : le2 (rangeP l x) (rangeP u x) := geP_range (hu.wf _) (hl.wf _) h
end Go.Proofs.Ytcglpbchejkolaa
/- Earth: a truth that fits lies in the ranges: plain laws. -/
namespace Go.Proofs.Ytcglpbchejkolaa
open Go.RowKit
set_option linter.unusedSimpArgs false
set_option linter.unusedVariables false

theorem Rise.len_pos {gl gh B : Int} {l : List Kn} (h : Rise gl gh B l) : 0 < l.length := List.length_pos_iff.2 h.ne
theorem Rise.last {gl gh B : Int} {l : List Kn} (h : Rise gl gh B l) : (l.getD (l.length - 1) (0, 0)).1 = B := h.end
/-- One cm's step within a line: how much it rises at least, too. -/
theorem Rise.stepIn {gl gh B : Int} {l : List Kn} (h : Rise gl gh B l) {z : Int} (h1 : (l.getD 0 (0, 0)).1 ≤ z) (h2 : z + 1 ≤ B) : ((rangeP l z).1 + gl ≤ (rangeP l (z + 1)).1 ∧ (rangeP l (z + 1)).1 ≤ (rangeP l z).1 + gh) ∧ (rangeP l z).2 + gl ≤ (rangeP l (z + 1)).2 ∧ (rangeP l (z + 1)).2 ≤ (rangeP l z).2 + gh := by
  have ha := h.asc
  have hl := h.len_pos
  have he := h.last
  obtain ⟨i, hi, g1, g2⟩ := split_at ha (z + 1)
  by_cases e0 : i = 0
  · subst e0
    have := g2 0 (Nat.le_refl _) hl
    omega
  have hp := g1 (i - 1) (by omega)
  by_cases e1 : i = l.length
  · rw [e1, he] at hp
    omega
  have hq := g2 i (Nat.le_refl _) (by omega)
  have hlt := ha.lt (i := i - 1) (j := i) (by omega) (by omega)
  obtain ⟨s1, s2⟩ := h.slope (i := i) (by omega) (by omega)
  rw [val_mid ha (i := i) (y := z) (by omega) (by omega) (by omega) (by omega), val_mid ha (i := i) (y := z + 1) (by omega) (by omega) (by omega) (by omega)]
  exact segR_step (z := z) hlt s1 s2
/-- .. and from place to place. -/
theorem Rise.far {gl gh B : Int} {l : List Kn} (h : Rise gl gh B l) {x : Int} (h1 : (l.getD 0 (0, 0)).1 ≤ x) : ∀ (n : Nat), x + n ≤ B → ((rangeP l x).1 + gl * n ≤ (rangeP l (x + n)).1 ∧ (rangeP l (x + n)).1 ≤ (rangeP l x).1 + gh * n) ∧ (rangeP l x).2 + gl * n ≤ (rangeP l (x + n)).2 ∧ (rangeP l (x + n)).2 ≤ (rangeP l x).2 + gh * n
  | 0, _ => by simp
  | n + 1, hn => by
    have ih := h.far h1 n (by omega)
    have st := h.stepIn (z := x + n) (by omega) (by omega)
    rw [show x + ((n + 1 : Nat) : Int) = x + n + 1 by omega, show ((n + 1 : Nat) : Int) = (n : Int) + 1 by omega, Int.mul_add, Int.mul_add, Int.mul_one, Int.mul_one]
    omega
theorem Rise.far2 {gl gh B : Int} {l : List Kn} (h : Rise gl gh B l) {x y : Int} (h1 : (l.getD 0 (0, 0)).1 ≤ x) (h2 : x ≤ y) (h3 : y ≤ B) : ((rangeP l x).1 + gl * (y - x) ≤ (rangeP l y).1 ∧ (rangeP l y).1 ≤ (rangeP l x).1 + gh * (y - x)) ∧ (rangeP l x).2 + gl * (y - x) ≤ (rangeP l y).2 ∧ (rangeP l y).2 ≤ (rangeP l x).2 + gh * (y - x) := by
  have := h.far h1 (y - x).toNat (by omega)
  rw [show x + ((y - x).toNat : Int) = y by omega, show ((y - x).toNat : Int) = y - x by omega] at this
  exact this
theorem Rise.of_grows {gl gh B : Int} : ∀ {l : List Kn}, l ≠ [] → Asc l → growsV gl gh l = true → (∀ k ∈ l, k.1 ≤ B) → endV l = B → Rise gl gh B l
  | [], h, _, _, _, _ => absurd rfl h
  | [(a, v)], _, _, _, _, he => by
    have : a = B := he
    subst this; exact .one v
  | (a, v) :: (a', v') :: l, _, .cons hlt ht, hg, hb, he => by
    rw [growsV, Bool.and_eq_true, inV_iff] at hg
    exact .cons hlt (hb (a', v') (by simp)) hg.1.1 hg.1.2 (Rise.of_grows (by simp) ht hg.2 (fun k hk => hb k (by simp [hk])) (by
      unfold endV at he ⊢; simpa using he))
theorem Rise.grows {gl gh B : Int} : ∀ {l : List Kn}, Rise gl gh B l → growsV gl gh l = true
  | [], _ => rfl
  | [k], _ => rfl
  | k :: k' :: l, .cons ha hB h1 h2 ht => by
    rw [growsV, Bool.and_eq_true, inV_iff]
    exact ⟨⟨h1, h2⟩, ht.grows⟩
theorem Asc.le_end {l : List Kn} (ha : Asc l) (h0 : 0 < l.length) {k : Kn} (hk : k ∈ l) : k.1 ≤ endV l := (first_last ha h0 hk).2
/-! Lines over lines from 0 to a bottom -/
theorem spans_ge {u l : List Kn} {B : Int} (hu : Good u) (hl : Good l) (h : spansV u l B = true) {x : Int} (x0 : 0 ≤ x) (x1 : x ≤ B) : geP (valP u x) (valP l x) = true := by
  unfold spansV at h
  simp only [Bool.and_eq_true] at h
  refine ge_in hu.asc hu.pos hl.asc hl.pos x0 x1 h.1.1 h.1.2 fun k hk h1 h2 => ?_
  have h3 := h.2
  unfold aboveV at h3
  rw [List.all_eq_true] at h3
  have h4 := h3 k (List.mem_append.2 hk)
  rw [decide_eq_false (by omega), Bool.false_or] at h4
  exact h4
theorem spans_of {u l : List Kn} {B : Int} (h : ∀ x, geP (valP u x) (valP l x) = true) : spansV u l B = true := by
  unfold spansV aboveV
  rw [h 0, h B]
  simp only [Bool.true_and]
  rw [List.all_eq_true]
  intro k hk
  rw [h k.1, Bool.or_true]
/-- A truth that fits. -/
structure Fit (e : Ear) (tp tf : List Kn) : Prop where
  v : Valid e
  ltp : lineE tp = 0
  ltf : lineE tf = 0
  rp : Rise e.gl e.gh e.bottom tp
  rf : Rise e.gl e.gh e.bottom tf
  zp : (tp.getD 0 (0, 0)).1 = 0
  zf : (tf.getD 0 (0, 0)).1 = 0
  s1 : ∀ x, 0 ≤ x → x ≤ e.bottom → geP (valP tp x) (valP e.pl x) = true
  s2 : ∀ x, 0 ≤ x → x ≤ e.bottom → geP (valP e.ph x) (valP tp x) = true
  s3 : ∀ x, 0 ≤ x → x ≤ e.bottom → geP (valP tf x) (valP e.fl x) = true
  s4 : ∀ x, 0 ≤ x → x ≤ e.bottom → geP (valP e.fh x) (valP tf x) = true
  s5 : ∀ x, 0 ≤ x → x ≤ e.bottom → geP (valP tf x) (valP tp x) = true
  reps : ∀ r ∈ e.reps, trueV tp tf r = true
theorem truthV_ok {tp tf : List Kn} {b : Int} (h : truthV tp tf b = 0) : lineE tp = 0 ∧ lineE tf = 0 ∧ endsB tp b = true ∧ endsB tf b = true := by
  unfold truthV at h
  obtain ⟨h1, h⟩ := orE_zero h
  obtain ⟨h2, h⟩ := orE_zero h
  split at h
  · rename_i h3
    rw [Bool.and_eq_true] at h3
    exact ⟨h1, h2, h3.1, h3.2⟩
  · omega
theorem lineE_good {ks : List Kn} (h : lineE ks = 0) : Good ks := good (rightB_of h)
theorem fit {e : Ear} {tp tf : List Kn} (h : fitsV e tp tf = true) : Fit e tp tf := by
  obtain ⟨h1, h2, h3, h4, h5, h6, h7, h8, h9, h10⟩ := fitsV_iff.1 h
  have v := valid h1
  obtain ⟨lp, lf, ep, ef⟩ := truthV_ok h2
  have gp := lineE_good lp
  have gf := lineE_good lf
  rw [ends_iff] at ep ef
  exact {
    v := v
    ltp := lp
    ltf := lf
    rp := Rise.of_grows gp.ne gp.asc h3 (fun k hk => by have := gp.asc.le_end gp.pos hk; have h2 : endV tp = e.bottom := ep.2; omega) ep.2
    rf := Rise.of_grows gf.ne gf.asc h4 (fun k hk => by have := gf.asc.le_end gf.pos hk; have h2 : endV tf = e.bottom := ef.2; omega) ef.2
    zp := ep.1
    zf := ef.1
    s1 := fun x x0 x1 => spans_ge gp (lineE_good v.pl) h5 x0 x1
    s2 := fun x x0 x1 => spans_ge (lineE_good v.ph) gp h6 x0 x1
    s3 := fun x x0 x1 => spans_ge gf (lineE_good v.fl) h7 x0 x1
    s4 := fun x x0 x1 => spans_ge (lineE_good v.fh) gf h8 x0 x1
    s5 := fun x x0 x1 => spans_ge gf gp h9 x0 x1
    reps := List.all_eq_true.1 h10 }
/-! What points ask for and allow -/
theorem loP_le {gl gh B : Int} {l : List Kn} (h : Rise gl gh B l) (z0 : (l.getD 0 (0, 0)).1 = 0) {z : Int} (h0 : 0 ≤ z) (h1 : z ≤ B) {k : Kn} (k0 : 0 ≤ k.1) (k1 : k.1 ≤ B) (hk : k.2 ≤ (rangeP l k.1).1) : loP gl gh z k ≤ (rangeP l z).1 := by
  by_cases hz : z < k.1
  · rw [loP_lt hz]
    have := (h.far2 (x := z) (y := k.1) (by omega) (by omega) k1).1
    have e : gh * (z - k.1) = -(gh * (k.1 - z)) := by rw [show z - k.1 = -(k.1 - z) by omega, Int.mul_neg]
    omega
  · rw [loP_ge (by omega)]
    have := (h.far2 (x := k.1) (y := z) (by omega) (by omega) h1).1
    omega
theorem upP_ge2 {gl gh B : Int} {l : List Kn} (h : Rise gl gh B l) (z0 : (l.getD 0 (0, 0)).1 = 0) {z : Int} (h0 : 0 ≤ z) (h1 : z ≤ B) {k : Kn} (k0 : 0 ≤ k.1) (k1 : k.1 ≤ B) (hk : (rangeP l k.1).2 ≤ k.2) : (rangeP l z).2 ≤ upP gl gh z k := by
  by_cases hz : z < k.1
  · rw [upP_lt hz]
    have := (h.far2 (x := z) (y := k.1) (by omega) (by omega) k1).2
    have e : gl * (z - k.1) = -(gl * (k.1 - z)) := by rw [show z - k.1 = -(k.1 - z) by omega, Int.mul_neg]
    omega
  · rw [upP_ge (by omega)]
    have := (h.far2 (x := k.1) (y := z) (by omega) (by omega) h1).2
    omega
theorem loV_le {gl gh z c : Int} : ∀ (l : List Kn) (s : Int), (∀ k ∈ l, loP gl gh z k ≤ c) → s ≤ c → loV gl gh l z s ≤ c
  | [], s, _, h => h
  | k :: l, s, hl, h => by
    have h1 := hl k (by simp)
    exact loV_le l (max s (loP gl gh z k)) (fun x hx => hl x (by simp [hx])) (by omega)
theorem upV_ge {gl gh z c : Int} : ∀ (l : List Kn) (s : Int), (∀ k ∈ l, c ≤ upP gl gh z k) → c ≤ s → c ≤ upV gl gh l z s
  | [], s, _, h => h
  | k :: l, s, hl, h => by
    have h1 := hl k (by simp)
    exact upV_ge l (min s (upP gl gh z k)) (fun x hx => hl x (by simp [hx])) (by omega)
theorem points_mem {b : Int} {reps : List Rep} {l : List Kn} {kind : Int} {k : Kn} (h : k ∈ pointsV b reps l kind) : (k ∈ l ∧ k.1 ≤ b) ∨ ∃ r ∈ reps, r.kind = kind ∧ k = (r.z, r.p) := by
  unfold pointsV at h
  rcases List.mem_append.1 h with h | h
  · obtain ⟨h1, h2⟩ := List.mem_filter.1 h
    exact .inl ⟨h1, of_decide_eq_true h2⟩
  · obtain ⟨r, hr, rfl⟩ := List.mem_map.1 h
    obtain ⟨h1, h2⟩ := List.mem_filter.1 hr
    exact .inr ⟨r, h1, by simpa using h2, rfl⟩
theorem knot_le {u l : List Kn} (hu : Good u) (hl : Good l) {k : Kn} (hk : k ∈ l) (h : geP (valP u k.1) (valP l k.1) = true) : k.2 ≤ (rangeP u k.1).1 := by
  have := (above_range hu hl h).1
  rw [rangeP_knot hl.asc hk] at this
  exact this
theorem knot_ge {u l : List Kn} (hu : Good u) (hl : Good l) {k : Kn} (hk : k ∈ u) (h : geP (valP u k.1) (valP l k.1) = true) : (rangeP l k.1).2 ≤ k.2 := by
  have := (above_range hu hl h).2
  rw [rangeP_knot hu.asc hk] at this
  exact this
/-- The pressures of a truth that fits lie in the ranges. -/
theorem Fit.encl {e : Ear} {tp tf : List Kn} (h : Fit e tp tf) {z : Int} (z0 : 0 ≤ z) (z1 : z ≤ e.bottom) : (plV e z ≤ (rangeP tp z).1 ∧ (rangeP tp z).2 ≤ phV e z) ∧ flV e z ≤ (rangeP tf z).1 ∧ (rangeP tf z).2 ≤ fhV e z := by
  have gp := lineE_good h.ltp
  have gf := lineE_good h.ltf
  have npl := lineE_good h.v.pl
  have nph := lineE_good h.v.ph
  have nfl := lineE_good h.v.fl
  have nfh := lineE_good h.v.fh
  have a1 := above_range gp npl (h.s1 z z0 z1)
  have a2 := above_range nph gp (h.s2 z z0 z1)
  have a3 := above_range gf nfl (h.s3 z z0 z1)
  have a4 := above_range nfh gf (h.s4 z z0 z1)
  have a5 := above_range gf gp (h.s5 z z0 z1)
  have pos : 0 ≤ (rangeP tp z).1 := (gp.val z).2.2.2.1
  have l1 : loV e.gl e.gh (pointsV e.bottom e.reps e.pl 1) z (rangeP e.pl z).1 ≤ (rangeP tp z).1 := loV_le _ _ (fun k hk => by
    rcases points_mem hk with ⟨hk, hb⟩ | ⟨r, hr, hkind, rfl⟩
    · have := npl.bd hk
      exact loP_le h.rp h.zp z0 z1 this.1 hb (knot_le gp npl hk (h.s1 _ this.1 hb))
    · have hv := h.v.rep r hr
      have ht := h.reps r hr
      rw [true1 hkind] at ht
      exact loP_le h.rp h.zp z0 z1 hv.2.2.1 hv.2.2.2.1 (of_decide_eq_true ht)) a1.1
  have l2 : loV e.gl e.gh (pointsV e.bottom e.reps e.fl 3) z (rangeP e.fl z).1 ≤ (rangeP tf z).1 := loV_le _ _ (fun k hk => by
    rcases points_mem hk with ⟨hk, hb⟩ | ⟨r, hr, hkind, rfl⟩
    · have := nfl.bd hk
      exact loP_le h.rf h.zf z0 z1 this.1 hb (knot_le gf nfl hk (h.s3 _ this.1 hb))
    · have hv := h.v.rep r hr
      have ht := h.reps r hr
      rw [true3 hkind] at ht
      exact loP_le h.rf h.zf z0 z1 hv.2.2.1 hv.2.2.2.1 (of_decide_eq_true ht)) a3.1
  have u1 : (rangeP tp z).2 ≤ upV e.gl e.gh (pointsV e.bottom e.reps e.ph 2) z (rangeP e.ph z).2 := upV_ge _ _ (fun k hk => by
    rcases points_mem hk with ⟨hk, hb⟩ | ⟨r, hr, hkind, rfl⟩
    · have := nph.bd hk
      exact upP_ge2 h.rp h.zp z0 z1 this.1 hb (knot_ge nph gp hk (h.s2 _ this.1 hb))
    · have hv := h.v.rep r hr
      have ht := h.reps r hr
      rw [true2 (by omega) (by omega)] at ht
      exact upP_ge2 h.rp h.zp z0 z1 hv.2.2.1 hv.2.2.2.1 (of_decide_eq_true ht)) a2.2
  have u2 : (rangeP tf z).2 ≤ upV e.gl e.gh (pointsV e.bottom e.reps e.fh 4) z (rangeP e.fh z).2 := upV_ge _ _ (fun k hk => by
    rcases points_mem hk with ⟨hk, hb⟩ | ⟨r, hr, hkind, rfl⟩
    · have := nfh.bd hk
      exact upP_ge2 h.rf h.zf z0 z1 this.1 hb (knot_ge nfh gf hk (h.s4 _ this.1 hb))
    · have hv := h.v.rep r hr
      have ht := h.reps r hr
      rw [true4 (by omega)] at ht
      exact upP_ge2 h.rf h.zf z0 z1 hv.2.2.1 hv.2.2.2.1 (of_decide_eq_true ht)) a4.2
  obtain ⟨b1, b2⟩ := a5
  have P : plV e z ≤ (rangeP tp z).1 := by unfold plV; omega
  have F : (rangeP tf z).2 ≤ fhV e z := by unfold fhV; exact u2
  exact ⟨⟨P, by unfold phV; omega⟩, by unfold flV; omega, F⟩
/-! The earth and the truth of some numbers -/
/-- A line over another one with the same places. -/
def Dom (u l : List Kn) : Prop := (∀ k ∈ u, ∃ k' ∈ l, k'.1 = k.1 ∧ k'.2 ≤ k.2) ∧ ∀ k ∈ l, ∃ k' ∈ u, k'.1 = k.1 ∧ k.2 ≤ k'.2
theorem Dom.trans {u m l : List Kn} (h1 : Dom u m) (h2 : Dom m l) : Dom u l := by
  refine ⟨fun k hk => ?_, fun k hk => ?_⟩
  · obtain ⟨a, ha, e1, e2⟩ := h1.1 k hk
    obtain ⟨b, hb, e3, e4⟩ := h2.1 a ha
    exact ⟨b, hb, by omega, by omega⟩
  · obtain ⟨a, ha, e1, e2⟩ := h2.2 k hk
    obtain ⟨b, hb, e3, e4⟩ := h1.2 a ha
    exact ⟨b, hb, by omega, by omega⟩
theorem Dom.ab {u l : List Kn} (hu : Good u) (hl : Good l) (h : Dom u l) : ab u l = true := same_ab hu hl h.1 h.2 _
theorem Dom.ge {u l : List Kn} (hu : Good u) (hl : Good l) (h : Dom u l) (x : Int) : geP (valP u x) (valP l x) = true := above_all hu hl (h.ab hu hl) x
theorem Dom.cons {a b : Kn} {u l : List Kn} (h1 : b.1 = a.1) (h2 : b.2 ≤ a.2) (h : Dom u l) : Dom (a :: u) (b :: l) := by
  refine ⟨fun k hk => ?_, fun k hk => ?_⟩
  · rcases List.mem_cons.1 hk with rfl | hk
    · exact ⟨b, by simp, h1, h2⟩
    · obtain ⟨x, hx, e⟩ := h.1 k hk; exact ⟨x, by simp [hx], e⟩
  · rcases List.mem_cons.1 hk with rfl | hk
    · exact ⟨a, by simp, h1.symm, h2⟩
    · obtain ⟨x, hx, e⟩ := h.2 k hk; exact ⟨x, by simp [hx], e⟩
theorem Dom.nil : Dom [] [] := ⟨fun k hk => (nomatch hk), fun k hk => (nomatch hk)⟩
theorem shift_up (off : List Int) : ∀ (l : List Kn) (i : Int), Dom (shiftGo off true i l) l
  | [], i => Dom.nil
  | k :: l, i => by
    rw [shiftGo, if_pos rfl]
    have := Int.emod_nonneg (pickV off i) (b := 40000000) (by decide)
    exact Dom.cons rfl (by show k.2 ≤ k.2 + _; omega) (shift_up off l (i + 1))
theorem shift_down (off : List Int) : ∀ (l : List Kn) (i : Int), (∀ k ∈ l, 0 ≤ k.2) → Dom l (shiftGo off false i l)
  | [], i, _ => Dom.nil
  | k :: l, i, h => by
    rw [shiftGo, if_neg (by simp)]
    have := Int.emod_nonneg (pickV off i) (b := 40000000) (by decide)
    have := h k (by simp)
    exact Dom.cons rfl (by show max 0 (k.2 - _) ≤ k.2; omega) (shift_down off l (i + 1) fun x hx => h x (by simp [hx]))
theorem tf_tp (g : Gr) : Dom (tfV g) (tpV g) := ⟨tf_over g, tp_under g⟩
theorem tp_down (g : Gr) : Dom (tpV g) (knownV g).pl := shift_down _ _ _ fun k hk => (tp_box g k hk).2.2.1
theorem tp_upw (g : Gr) : Dom (knownV g).ph (tpV g) := shift_up _ _ _
theorem tf_down (g : Gr) : Dom (tfV g) (knownV g).fl := shift_down _ _ _ fun k hk => (tf_box g k hk).2.2.1
theorem tf_upw (g : Gr) : Dom (knownV g).fh (tfV g) := shift_up _ _ _
theorem known_valid (g : Gr) : Valid (knownV g) where
  b := by show 1 ≤ endV (tpV g) ∧ endV (tpV g) ≤ 1048576; rw [tp_end]; have := bottomV_bd g; omega
  g := by
    show 0 ≤ pickV g.off 1 % 2001 ∧ pickV g.off 1 % 2001 ≤ 30000 + pickV g.off 2 % 10001 ∧ 30000 + pickV g.off 2 % 10001 ≤ 40000
    omega
  pl := known_pl g
  ph := known_ph g
  fl := known_fl g
  fh := known_fh g
  ab1 := ((tp_upw g).trans (tp_down g)).ab (lineE_good (known_ph g)) (lineE_good (known_pl g))
  ab2 := ((tf_upw g).trans (tf_down g)).ab (lineE_good (known_fh g)) (lineE_good (known_fl g))
  ab3 := (((tf_upw g).trans (tf_tp g)).trans (tp_down g)).ab (lineE_good (known_fh g)) (lineE_good (known_pl g))
  reps := by
    show ((g.marks.take 8).map (repV (tpV g) (tfV g))).length ≤ 24
    rw [List.length_map, List.length_take]; omega
  rep := fun r hr => by
    obtain ⟨n, -, rfl⟩ := List.mem_map.1 (show r ∈ (g.marks.take 8).map (repV (tpV g) (tfV g)) from hr)
    have := repV_in g n
    show _ ∧ _ ∧ _ ∧ _ ≤ endV (tpV g) ∧ _
    rw [tp_end]; exact this
theorem rep_true (g : Gr) (n : Int) : trueV (tpV g) (tfV g) (repV (tpV g) (tfV g) n) = true := by
  have n0 := Int.emod_nonneg n (b := 1099511627776) (by decide)
  unfold repV
  generalize n % 1099511627776 = m at *
  generalize m / 4 % (endV (tpV g) + 1) = z at *
  have o0 := Int.emod_nonneg (m / 4096) (b := 1000000) (by decide)
  have bp := ((lineE_good (tp_line g)).val z).2.2.2.1
  have bf := ((lineE_good (tf_line g)).val z).2.2.2.1
  have bp : 0 ≤ (rangeP (tpV g) z).1 := bp
  have bf : 0 ≤ (rangeP (tfV g) z).1 := bf
  by_cases h0 : m % 4 = 0
  · rw [true1 (by show 1 + m % 4 = 1; omega)]
    refine decide_eq_true ?_
    simp only []
    rw [if_pos h0]
    omega
  by_cases h1 : m % 4 = 1
  · rw [true2 (by show 1 + m % 4 ≠ 1; omega) (by show 1 + m % 4 < 3; omega)]
    refine decide_eq_true ?_
    simp only []
    rw [if_neg h0, if_pos h1]
    omega
  by_cases h2 : m % 4 = 2
  · rw [true3 (by show 1 + m % 4 = 3; omega)]
    refine decide_eq_true ?_
    simp only []
    rw [if_neg h0, if_neg h1, if_pos h2]
    omega
  · rw [true4 (by show 4 ≤ 1 + m % 4; omega)]
    refine decide_eq_true ?_
    simp only []
    rw [if_neg h0, if_neg h1, if_neg h2]
    omega
theorem tp_first (g : Gr) : ((tpV g).getD 0 (0, 0)).1 = 0 := by unfold tpV truthL; rw [truthGo]; rfl
theorem tf_first (g : Gr) : ((tfV g).getD 0 (0, 0)).1 = 0 := by unfold tfV truthL; rw [truthGo]; rfl
theorem known_fits (g : Gr) : fitsV (knownV g) (tpV g) (tfV g) = true := by
  have hv := known_valid g
  have gg : pickV g.off 1 % 2001 ≤ 2000 ∧ 30000 ≤ 30000 + pickV g.off 2 % 10001 := by omega
  have gp := lineE_good (tp_line g)
  have gf := lineE_good (tf_line g)
  have he : (knownV g).bottom = bottomV g := tp_end g
  refine fitsV_iff.2 ⟨valid_iff.2 hv, ?_, ((tp_rise g).wide gg.1 gg.2).grows, ((tf_rise g).wide gg.1 gg.2).grows, spans_of ((tp_down g).ge gp (lineE_good hv.pl)), spans_of ((tp_upw g).ge (lineE_good hv.ph) gp), spans_of ((tf_down g).ge gf (lineE_good hv.fl)), spans_of ((tf_upw g).ge (lineE_good hv.fh) gf), spans_of ((tf_tp g).ge gf gp), ?_⟩
  · rw [truth_ends (tp_line g) (tf_line g), if_pos]
    rw [Bool.and_eq_true, ends_iff, ends_iff, he]
    exact ⟨⟨tp_first g, tp_end g⟩, tf_first g, (tf_rise g).end⟩
  · rw [List.all_eq_true]
    intro r hr
    obtain ⟨n, -, rfl⟩ := List.mem_map.1 (show r ∈ (g.marks.take 8).map (repV (tpV g) (tfV g)) from hr)
    exact rep_true g n
end Go.Proofs.Ytcglpbchejkolaa
/- Earth: the depths, by the table: the program's. -/
namespace Go.Proofs.Ytcglpbchejkolaa
open Go.RowKit
set_option linter.unusedSimpArgs false
set_option linter.unusedVariables false

theorem ints_snoc (rows : List (List C)) (n : Int) : ints (rows ++ [[.i n]]) = ints rows ++ [n] := by rw [ints_app]; rfl
theorem dep_split : bodyOf Try.f86 = pre (heads 4 (bodyOf Try.f86)) (nav [1, 1, 1, 1] (bodyOf Try.f86)) := by kernel_rfl
theorem dep_tree1 : execL cdep1 (heads 4 (bodyOf Try.f86)) { startOf Try.f86 ctDepthsI [] [] with lvl := (startOf Try.f86 ctDepthsI [] []).lvl + 1 } (joinK (startOf Try.f86 ctDepthsI [] []) depSt1 [.slot 3] [.vec 2] (endK cdep1 Try.f86 ctDepthsI)) = some tdep1 := by kernel_rfl
theorem dep_cx : CxOK cdep1 := Tab.cx_ok all_nil fxdep1
theorem dep_vc {R : List C → Prop} {b gl gh : Int} {v1 v2 v3 v4 v7 : Value} {r1 r2 r3 r4 r7 : List (List C)} {I : List C → Prop} (h : checkV ⟨b, knots r1, knots r2, knots r3, knots r4, gl, gh, repsOf r7⟩ = 0) (hI : ∀ v rows, ints rows = rawP ⟨b, knots r1, knots r2, knots r3, knots r4, gl, gh, repsOf r7⟩ → I [.s v rows]) :
    VC cdep1 R tdep1 [.i b, .s v1 r1, .s v2 r2, .s v3 r3, .s v4 r4, .i gl, .i gh, .s v7 r7] [I] := by
  unfold tdep1
  simp only [VC, allC, List.map_cons, List.map_nil, List.length_cons, List.length_nil, List.getElem?_cons_zero, List.getElem?_cons_succ, List.cons.injEq, C.i.injEq, C.b.injEq, and_true, true_and, forall_const, kindsOf_nil, kindsOf_lf, kindsOf_agg, kindsOf_box, boxKinds_nil, boxKinds_lf, boxKinds_agg, boxKinds_box, List.append_nil, List.cons_append, List.nil_append, den_cmp_le, den_cmp_lt, den_cmp_eq, den_cmp_ne, den_cmp_le', den_cmp_lt', den_cmp_eq', den_cmp_ne', den_and, den_and', den_or, den_or', den_not, den_not', den_blit, den_of, ev_var, at_0, at_1, at_2, at_3, at_4, at_5, at_6, at_7, at_skip, c_int, c_bool, c_arr, c_cnt, c_vec, ev_nil, ev_join, ev_sub3, loc_s, int_i, bool_b, rows_s, cs_nil, cs_cons, E.den_lit, E.den_var, E.den_add, E.den_sub, E.den_mul, E.den_quo, E.den_rem, E.den_max, E.den_min, E.den_len, E.den_wr, E.den_cell, ev_cell, kn1]
  have hv := valid h
  have l1 : (knots r1).length ≤ 24 := (lineE_box hv.pl).1
  have l2 : (knots r2).length ≤ 24 := (lineE_box hv.ph).1
  have l3 : (knots r3).length ≤ 24 := (lineE_box hv.fl).1
  have l4 : (knots r4).length ≤ 24 := (lineE_box hv.fh).1
  have l7 : (repsOf r7).length ≤ 24 := hv.reps
  have e7 : (repsOf r7).length = r7.length := by simp [repsOf]
  rw [← knots_len r1, ← knots_len r2, ← knots_len r3, ← knots_len r4, ← e7]
  simp only [rp1 v7 r7]
  generalize knots r1 = q1 at *
  generalize knots r2 = q2 at *
  generalize knots r3 = q3 at *
  generalize knots r4 = q4 at *
  generalize repsOf r7 = q7 at *
  have step : ∀ {A : List Int} {rows : List (List C)} {l : List Kn} {i : Int}, 0 ≤ i → i < l.length → ints rows = A ++ minAt b (l.take i.toNat) → ints (rows ++ [[.i (min (l.getD i.toNat (0, 0)).1 b)]]) = A ++ minAt b (l.take (i + 1).toNat) := fun {A rows l i} i0 i1 hr => by
    rw [ints_snoc, hr, show (i + 1).toNat = i.toNat + 1 by omega, take_snoc (by omega) (0, 0)]
    unfold minAt
    rw [List.map_append, List.append_assoc]; rfl
  have len : ∀ {A : List Int} {rows : List (List C)} {l : List Kn} {n : Nat}, A.length ≤ 200 → l.length ≤ 24 → ints rows = A ++ minAt b (l.take n) → rows.length ≤ 300 := fun {A rows l n} hA hl hr => by
    have := congrArg List.length hr
    rw [ints_len, List.length_append] at this
    unfold minAt at this
    rw [List.length_map, List.length_take] at this
    omega
  have all : ∀ {A : List Int} {rows : List (List C)} {l : List Kn} {i : Int}, (l.length : Int) ≤ i → ints rows = A ++ minAt b (l.take i.toNat) → ints rows = A ++ minAt b l := fun {A rows l i} hi hr => by
    rw [hr, List.take_of_length_le (by omega)]
  have z0 : ∀ {A : List Int} {rows : List (List C)} {l : List Kn}, ints rows = A → ints rows = A ++ minAt b (l.take (0 : Int).toNat) := fun {A rows l} hr => by
    rw [hr]; simp [minAt]
  have m1 : (minAt b q1).length ≤ 24 := by simp [minAt]; omega
  have m2 : (minAt b q2).length ≤ 24 := by simp [minAt]; omega
  have m3 : (minAt b q3).length ≤ 24 := by simp [minAt]; omega
  have m4 : (minAt b q4).length ≤ 24 := by simp [minAt]; omega
  intro v
  refine ⟨fun xs => match xs with | [.s _ rows, .i i] => 0 ≤ i ∧ i ≤ q1.length ∧ ints rows = [0, b] ++ minAt b (q1.take i.toNat) | _ => False, fun xs => match xs with | [_, .i i] => ((q1.length : Int) - i).toNat | _ => 0, ⟨by omega, by omega, z0 rfl⟩, ?_⟩
  rintro _ rows _ _ _ i _ _ ⟨i0, i1, hr⟩
  refine ⟨fun hlt => ⟨i0, hlt, by have := len (A := [0, b]) (by simp) l1 hr; omega, fun _ => ⟨⟨by omega, by omega, step i0 hlt hr⟩, (show ((q1.length : Int) - (i + 1)).toNat < ((q1.length : Int) - i).toNat by omega)⟩⟩, fun hge => ?_⟩
  replace hr := all hge hr
  generalize hA1 : [0, b] ++ minAt b q1 = A1 at hr
  have a1 : A1.length ≤ 26 := by rw [← hA1, List.length_append]; simp; omega
  refine ⟨fun xs => match xs with | [.s _ rows, .i i, _] => 0 ≤ i ∧ i ≤ q2.length ∧ ints rows = A1 ++ minAt b (q2.take i.toNat) | _ => False, fun xs => match xs with | [_, .i i, _] => ((q2.length : Int) - i).toNat | _ => 0, ⟨by omega, by omega, z0 hr⟩, ?_⟩
  rintro _ rows2 _ _ _ j _ _ _ ⟨j0, j1, hr2⟩
  refine ⟨fun hlt => ⟨j0, hlt, fun _ => ⟨by have := len (by omega) l2 hr2; omega, fun _ => ⟨⟨by omega, by omega, step j0 hlt hr2⟩, (show ((q2.length : Int) - (j + 1)).toNat < ((q2.length : Int) - j).toNat by omega)⟩⟩⟩, fun hge2 => ?_⟩
  replace hr2 := all hge2 hr2
  generalize hA2 : A1 ++ minAt b q2 = A2 at hr2
  have a2 : A2.length ≤ 50 := by rw [← hA2, List.length_append]; omega
  refine ⟨fun xs => match xs with | [.s _ rows, .i i, _] => 0 ≤ i ∧ i ≤ q3.length ∧ ints rows = A2 ++ minAt b (q3.take i.toNat) | _ => False, fun xs => match xs with | [_, .i i, _] => ((q3.length : Int) - i).toNat | _ => 0, ⟨by omega, by omega, z0 hr2⟩, ?_⟩
  rintro _ rows3 _ _ _ k _ _ _ ⟨k0, k1, hr3⟩
  refine ⟨fun hlt => ⟨k0, hlt, fun _ => ⟨by have := len (by omega) l3 hr3; omega, fun _ => ⟨⟨by omega, by omega, step k0 hlt hr3⟩, (show ((q3.length : Int) - (k + 1)).toNat < ((q3.length : Int) - k).toNat by omega)⟩⟩⟩, fun hge3 => ?_⟩
  replace hr3 := all hge3 hr3
  generalize hA3 : A2 ++ minAt b q3 = A3 at hr3
  have a3 : A3.length ≤ 74 := by rw [← hA3, List.length_append]; omega
  refine ⟨fun xs => match xs with | [.s _ rows, .i i, _] => 0 ≤ i ∧ i ≤ q4.length ∧ ints rows = A3 ++ minAt b (q4.take i.toNat) | _ => False, fun xs => match xs with | [_, .i i, _] => ((q4.length : Int) - i).toNat | _ => 0, ⟨by omega, by omega, z0 hr3⟩, ?_⟩
  rintro _ rows4 _ _ _ m _ _ _ ⟨m0, m1', hr4⟩
  refine ⟨fun hlt => ⟨m0, hlt, fun _ => ⟨by have := len (by omega) l4 hr4; omega, fun _ => ⟨⟨by omega, by omega, step m0 hlt hr4⟩, (show ((q4.length : Int) - (m + 1)).toNat < ((q4.length : Int) - m).toNat by omega)⟩⟩⟩, fun hge4 => ?_⟩
  replace hr4 := all hge4 hr4
  generalize hA4 : A3 ++ minAt b q4 = A4 at hr4
  have a4 : A4.length ≤ 98 := by rw [← hA4, List.length_append]; omega
  refine ⟨fun xs => match xs with | [.s _ rows, .i i] => 0 ≤ i ∧ i ≤ q7.length ∧ ints rows = A4 ++ (q7.take i.toNat).map (·.z) | _ => False, fun xs => match xs with | [_, .i i] => ((q7.length : Int) - i).toNat | _ => 0, ⟨by omega, by omega, by rw [hr4]; simp⟩, ?_⟩
  rintro v5 rows5 _ _ _ n _ _ ⟨n0, n1, hr5⟩
  refine ⟨fun hlt => ⟨n0, hlt, ?_, fun _ => ⟨⟨by omega, by omega, ?_⟩, (show ((q7.length : Int) - (n + 1)).toNat < ((q7.length : Int) - n).toNat by omega)⟩⟩, fun hge5 => ?_⟩
  · have := congrArg List.length hr5
    rw [ints_len, List.length_append, List.length_map, List.length_take] at this
    omega
  · rw [ints_snoc, hr5, show (n + 1).toNat = n.toNat + 1 by omega, take_snoc (by omega) ⟨0, 0, 0⟩, List.map_append, List.append_assoc]; rfl
  · refine hI v5 rows5 ?_
    rw [hr5, List.take_of_length_le (by omega), ← hA4, ← hA3, ← hA2, ← hA1]
    simp [rawP, minAll, Ear.lines, List.append_assoc]
theorem rawP_len {e : Ear} (h : Valid e) : 2 ≤ (rawP e).length ∧ (rawP e).length ≤ 122 := by
  have l1 := (lineE_box h.pl).1
  have l2 := (lineE_box h.ph).1
  have l3 := (lineE_box h.fl).1
  have l4 := (lineE_box h.fh).1
  have l7 := h.reps
  simp only [rawP, minAll, Ear.lines, minAt, List.flatMap_cons, List.flatMap_nil, List.length_append, List.length_map, List.length_cons, List.length_nil]
  omega
theorem callable_sort : Callable Try.prog 107 := ⟨_, Try.func107, by decide, rfl⟩
theorem callable_compact : Callable Try.prog 108 := ⟨_, Try.func108, by decide, rfl⟩
theorem of_ints {rows : List (List C)} {d : Nat} (h : TyN Try.prog d 2 rows) : rows = intRows (ints rows) := by
  cases d with
  | zero => exact h.elim
  | succ d =>
    obtain ⟨ks, hk, hh⟩ := h
    rw [show kinds Try.prog 2 = some [.int] by kernel_rfl] at hk
    cases hk
    unfold intRows ints
    rw [List.map_map]
    refine (List.map_congr_left (g := id) fun r hr => ?_).trans (List.map_id _) |>.symm
    obtain ⟨hl, hc⟩ := hh r hr
    obtain ⟨c0, h0, n0, rfl⟩ := hc 0 .int rfl
    match r, hl, h0 with
    | [a], _, h0 => simp at h0; subst h0; rfl
theorem ints_intRows (l : List Int) : ints (intRows l) = l := by
  unfold ints intRows
  rw [List.map_map]
  exact (List.map_congr_left (g := id) fun r _ => rfl).trans (List.map_id _)
def depStA : St := { depSt1 with sl := (48, none) :: depSt1.sl }
def depStA' : St := { depStA with nx := depStA.nx + 1, vec := (8, some (2, .var depStA.nx)) :: depStA.vec }
def depStB : St := { depStA' with sl := (49, none) :: depStA'.sl }
def depStC : St := { depStB with sl := (50, none) :: depStB.sl }
def depStC' : St := { depStC with nx := depStC.nx + 1, vec := (depStC.nx, some (2, .var depStC.nx)) :: dropV (some 8) depStC.vec }
def depStD : St := { depStC' with sl := (51, none) :: depStC'.sl }
def depStE : St := { depStD with sl := (2, some (.one (.lf (.vec 2 10)))) :: depStD.sl }
set_option maxRecDepth 100000 in
theorem depths_ok : tab7.ok 86 := by
  refine Tab.of_ct rfl rfl ⟨_, Try.func86, by decide, rfl⟩ ?_ (fun h => by cases h)
  refine ct_ok_open (cx := cdep1) (bds := []) dep_cx Try.func86 (c := bodyOf Try.f86) rfl ⟨by decide, by decide, by decide⟩ fun cs hcs hpre => ⟨bds_nil _, fun F w0 Γ a w Q hρ hs hk => ?_⟩
  obtain ⟨b, v1, r1, v2, r2, v3, r3, v4, r4, gl, gh, v7, r7, rfl⟩ : ∃ b v1 r1 v2 r2 v3 r3 v4 r4 gl gh v7 r7, cs = [.i b, .s v1 r1, .s v2 r2, .s v3 r3, .s v4 r4, .i gl, .i gh, .s v7 r7] := by
    match cs, hcs with
    | [c0, c1, c2, c3, c4, c5, c6, c7], ⟨⟨_, n0, e0⟩, ⟨_, v1, r1, d1, e1, _⟩, ⟨_, v2, r2, d2, e2, _⟩, ⟨_, v3, r3, d3, e3, _⟩, ⟨_, v4, r4, d4, e4, _⟩, ⟨_, n5, e5⟩, ⟨_, n6, e6⟩, ⟨_, v7, r7, d7, e7, _⟩, _⟩ =>
      exact ⟨n0, v1, r1, v2, r2, v3, r3, v4, r4, n5, n6, v7, r7, by rw [e0, e1, e2, e3, e4, e5, e6, e7]⟩
  have hpre : checkV ⟨b, knots r1, knots r2, knots r3, knots r4, gl, gh, repsOf r7⟩ = 0 := hpre
  have hval := valid hpre
  have hlen := rawP_len hval
  have hbot := hval.b
  rw [dep_split]
  refine pre_seg (R := ctDepthsI.post [.i b, .s v1 r1, .s v2 r2, .s v3 r3, .s v4 r4, .i gl, .i gh, .s v7 r7]) dep_cx (Ls := []) dep_tree1 (by kernel_rfl) rfl (I := fun xs => match xs with | [.s _ rows] => ints rows = rawP ⟨b, knots r1, knots r2, knots r3, knots r4, gl, gh, repsOf r7⟩ | _ => False) (by rw [hρ]; exact dep_vc hpre fun v rows hr => hr) hs ?_ ?_
  · intro xs Γx a' wp hxs hI hρ' he hs'
    obtain ⟨v8, r8, d8, rfl, hty⟩ : ∃ v8 r8 d8, xs = [.s v8 r8] ∧ TyN Try.prog d8 2 r8 := by
      match xs, hxs with
      | [c], ⟨⟨_, v8, r8, d8, e8, ht⟩, _⟩ => exact ⟨v8, r8, d8, by rw [e8], ht⟩
    have hI : ints r8 = rawP ⟨b, knots r1, knots r2, knots r3, knots r4, gl, gh, repsOf r7⟩ := hI
    have hr8 := of_ints hty
    rw [hI] at hr8
    generalize hraw : rawP ⟨b, knots r1, knots r2, knots r3, knots r4, gl, gh, repsOf r7⟩ = zs at *
    have hat8 : at_ Γx.ρ 8 = .s v8 r8 := by rw [hρ', hρ]; rfl
    have hlook : look depSt1.vec 8 = some (2, .var 8) := rfl
    have e3 : a'.eval (.tmp 3) = (at_ Γx.ρ 8).loc := by
      have := (hs'.slots 3 (.one (.lf (.vec 2 8))) rfl).1
      unfold slotV at this
      rwa [if_pos (by decide)] at this
    have hsz : a'.tmps.size = 52 := hs'.size
    have hzne : zs ≠ [] := fun e => by rw [e] at hlen; simp at hlen
    have hwf1 : depSt1.wf = true := by decide
    have hev : ((E.var 8).ev Γx.ρ).rows = intRows zs := by rw [ev_var, hat8]; exact hr8
    show (Code.seq (Code.region 16 _ _) (Code.seq (Code.region 17 _ _) Code.ret)).wp _ _ _ _
    refine wp_seq (wp_region_list (list_val rfl (v := (at_ Γx.ρ 8).loc) (w' := wp) (by simp [execOp, e3]) (list_call rfl (f := 107) (args := #[(at_ Γx.ρ 8).loc]) (by
      simp [execOp, resolve, invoke, eval_same, put_size, hsz]
      exact run_callFunc' callable_sort _ _) ?_)))
    have hs1 := hs'.drop (dst := some 48) (st' := depStA) rfl (at_ Γx.ρ 8).loc
    refine Calls.mono (sort_vec (st := depStA) hs1 (by decide) (i := 8) (e := .var 8) rfl hev hzne (by omega)) fun x w2 hx => ?_
    obtain ⟨rfl, hs2⟩ := hx
    refine ⟨_, rfl, ?_⟩
    have hs3 := hs2.drop (dst := some 49) (st' := depStB) rfl (.tuple #[])
    generalize hΓ2 : ({ Γx with ρ := Γx.ρ ++ [C.s (at_ Γx.ρ 8).loc (intRows (zs.mergeSort fun x y => decide (x ≤ y)))] } : Env) = Γ2 at *
    have hρ2 : Γ2.ρ = Γx.ρ ++ [C.s (at_ Γx.ρ 8).loc (intRows (zs.mergeSort fun x y => decide (x ≤ y)))] := by rw [← hΓ2]
    have hat2 : at_ Γ2.ρ 8 = .s v8 r8 := by rw [hρ2, hρ', hρ]; rfl
    have hat9 : at_ Γ2.ρ 9 = C.s (at_ Γx.ρ 8).loc (intRows (zs.mergeSort fun x y => decide (x ≤ y))) := by rw [hρ2, hρ', hρ]; rfl
    have hx2 : Ext Γx Γ2 := by rw [← hΓ2]; exact ⟨⟨_, rfl⟩, fun _ _ => rfl, Nat.le_refl _, rfl, rfl⟩
    generalize hacc : (a'.put (some 48) (at_ Γx.ρ 8).loc).put (some 49) (.tuple #[]) = a2 at *
    have hsz2 : a2.tmps.size = 52 := hs3.size
    have e32 : a2.eval (.tmp 3) = (at_ Γ2.ρ 8).loc := by
      have := (hs3.slots 3 (.one (.lf (.vec 2 8))) rfl).1
      unfold slotV at this
      rwa [if_pos (by decide)] at this
    show (Code.seq (Code.region 17 _ _) Code.ret).wp _ _ _ _
    refine wp_seq (wp_region_list (list_val rfl (v := (at_ Γ2.ρ 8).loc) (w' := w2) (by simp [execOp, e32]) (list_call rfl (f := 108) (args := #[(at_ Γ2.ρ 8).loc]) (by
      simp [execOp, resolve, invoke, eval_same, put_size, hsz2]
      exact run_callFunc' callable_compact _ _) ?_)))
    have hs4 := hs3.drop (dst := some 50) (st' := depStC) rfl (at_ Γ2.ρ 8).loc
    have hml : (zs.mergeSort fun x y => decide (x ≤ y)).length = zs.length := List.length_mergeSort _
    refine Calls.mono (compact_vec (st := depStC) hs4 (by decide) (i := 8) (e := .var 9) rfl (zs := zs.mergeSort fun x y => decide (x ≤ y)) (by rw [ev_var, hat9]; rfl) (fun e => hzne (List.length_eq_zero_iff.1 (by rw [← hml, e]; rfl))) (by omega)) fun x w3 hx => ?_
    obtain ⟨v', rfl, hs5⟩ := hx
    refine ⟨_, rfl, ?_⟩
    have hs6 := hs5.drop (dst := some 51) (st' := depStD) rfl v'
    generalize hΓ3 : ({ Γ2 with ρ := Γ2.ρ ++ [C.s v' (intRows (Lib.compact (zs.mergeSort fun x y => decide (x ≤ y))))] } : Env) = Γ3 at *
    have hat10 : at_ Γ3.ρ 10 = C.s v' (intRows (Lib.compact (zs.mergeSort fun x y => decide (x ≤ y)))) := by rw [← hΓ3]; show at_ (Γ2.ρ ++ _) 10 = _; rw [hρ2, hρ', hρ]; rfl
    have hx3 : Ext Γ2 Γ3 := by rw [← hΓ3]; exact ⟨⟨_, rfl⟩, fun _ _ => rfl, Nat.le_refl _, rfl, rfl⟩
    generalize hacc3 : (a2.put (some 50) (at_ Γ2.ρ 8).loc).put (some 51) v' = a3 at *
    have hsz3 : a3.tmps.size = 52 := hs6.size
    have e51 : a3.eval (.tmp 51) = v' := by rw [← hacc3]; exact eval_same (by rw [put_size, hsz2]; decide)
    refine list_val rfl (v := v') (w' := w3) (by simp [execOp, e51]) ?_
    have hok : (SV.one (.lf (.vec 2 10))).ok Try.prog w3 (Own Γ3 depStD) Γ3 := fun l hl => by
      simp only [S0.cells, List.mem_cons, List.not_mem_nil, or_false] at hl
      subst hl
      obtain ⟨ks, us, -, -, -, -, ho⟩ := (hs6.vec 10 (2, .var 10) rfl).1
      show ∃ a n cap, (at_ Γ3.ρ 10).loc = .slice a n cap
      rcases ho.2 with ⟨h, -⟩ | ⟨g, cap, cur, h, -⟩
      · exact ⟨_, _, _, h⟩
      · exact ⟨_, _, _, h⟩
    have hs7 := hs6.put (dst := some 2) (st' := depStE) rfl hok
    have hden : (SV.one (.lf (.vec 2 10))).den Γ3 = v' := by show (at_ Γ3.ρ 10).loc = v'; rw [hat10]; rfl
    rw [hden] at hs7
    show Code.ret.wp _ _ _ _
    refine wp_ret (hk .ret depStE (.ret [.cnt 2 (.var 10)]) Γ3 [fun _ => True] (show endOf cdep1 Try.f86 ctDepthsI depStE = _ by kernel_rfl) ((he.trans hx2).trans hx3) List.nil_prefix rfl ?_ _ _ hs7)
    show ∃ v rows, [(E.var 10).ev Γ3.ρ] = [.s v rows] ∧ ints rows = depthsV ⟨b, knots r1, knots r2, knots r3, knots r4, gl, gh, repsOf r7⟩
    refine ⟨v', intRows (Lib.compact (zs.mergeSort fun x y => decide (x ≤ y))), by rw [ev_var, hat10], ?_⟩
    rw [ints_intRows]
    unfold depthsV
    refine compact_merge fun y => ?_
    rw [← hraw]
    exact raw_same (by show 0 ≤ b; have : 1 ≤ b ∧ b ≤ 1048576 := hbot; omega) _ y
  · intro x st' T' Γ' Ls' hx hk' he hlen' hv' a' w' hs'
    exact hk x st' T' Γ' Ls' hk' he (List.nil_prefix) hlen' hv' a' w' hs'
end Go.Proofs.Ytcglpbchejkolaa
/- Earth: the depths, by the table: the document's, and both from outside. -/
namespace Go.Proofs.Ytcglpbchejkolaa
open Go.RowKit
set_option linter.unusedSimpArgs false
set_option linter.unusedVariables false

end Go.Proofs.Ytcglpbchejkolaa
/- Earth: an earth that a truth fits has no conflicts; a true report more: plain laws. -/
namespace Go.Proofs.Ytcglpbchejkolaa
open Go.RowKit
set_option linter.unusedSimpArgs false
set_option linter.unusedVariables false

theorem Valid.only {e : Ear} (h : Valid e) {l : List Rep} (hl : ∀ r ∈ l, r ∈ e.reps) (hn : l.length ≤ 24) : Valid (e.only l) where
  b := h.b
  g := h.g
  pl := h.pl
  ph := h.ph
  fl := h.fl
  fh := h.fh
  ab1 := h.ab1
  ab2 := h.ab2
  ab3 := h.ab3
  reps := hn
  rep := fun r hr => h.rep r (hl r hr)
theorem Fit.only {e : Ear} {tp tf : List Kn} (h : Fit e tp tf) {l : List Rep} (hl : ∀ r ∈ l, r ∈ e.reps) (hn : l.length ≤ 24) : Fit (e.only l) tp tf where
  v := h.v.only hl hn
  ltp := h.ltp
  ltf := h.ltf
  rp := h.rp
  rf := h.rf
  zp := h.zp
  zf := h.zf
  s1 := h.s1
  s2 := h.s2
  s3 := h.s3
  s4 := h.s4
  s5 := h.s5
  reps := fun r hr => h.reps r (hl r hr)
theorem depths_in {e : Ear} (h : Valid e) {z : Int} (hz : z ∈ depthsV e) : 0 ≤ z ∧ z ≤ e.bottom := by
  have hb := h.b
  rcases depths_mem.1 hz with rfl | rfl | ⟨q, hq, k, hk, h1, rfl⟩ | ⟨r, hr, rfl⟩
  · omega
  · omega
  · refine ⟨?_, h1⟩
    unfold Ear.lines at hq
    simp only [List.mem_cons, List.not_mem_nil, or_false] at hq
    rcases hq with rfl | rfl | rfl | rfl
    · exact ((lineE_good h.pl).bd hk).1
    · exact ((lineE_good h.ph).bd hk).1
    · exact ((lineE_good h.fl).bd hk).1
    · exact ((lineE_good h.fh).bd hk).1
  · have := h.rep r hr; omega
theorem Fit.quiet {e : Ear} {tp tf : List Kn} (h : Fit e tp tf) {z : Int} (z0 : 0 ≤ z) (z1 : z ≤ e.bottom) : badAt e z = false := by
  obtain ⟨⟨a1, a2⟩, a3, a4⟩ := h.encl z0 z1
  have gp : (rangeP tp z).1 ≤ (rangeP tp z).2 := by have := ((lineE_good h.ltp).val z).1; unfold rangeP; show (valP tp z).1 ≤ (valP tp z).1 + min _ 1; omega
  have gf : (rangeP tf z).1 ≤ (rangeP tf z).2 := by have := ((lineE_good h.ltf).val z).1; unfold rangeP; show (valP tf z).1 ≤ (valP tf z).1 + min _ 1; omega
  unfold badAt
  rw [decide_eq_false (by omega), decide_eq_false (by omega)]; rfl
theorem Fit.calm {e : Ear} {tp tf : List Kn} (h : Fit e tp tf) : crossV e = false := by
  unfold crossV
  rw [List.any_eq_false]
  intro z hz
  have := depths_in h.v hz
  rw [h.quiet this.1 this.2]; exact Bool.false_ne_true
theorem rep_mem {e : Ear} {i : Nat} (h : i < e.reps.length) : e.reps.getD i rep0 ∈ e.reps := getD_mem h rep0
theorem Fit.alone {e : Ear} {tp tf : List Kn} (h : Fit e tp tf) {i : Nat} (hi : i < e.reps.length) : alone e i = false :=
  (h.only (l := [e.reps.getD i rep0]) (fun r hr => by rw [List.mem_singleton] at hr; subst hr; exact rep_mem hi) (by simp)).calm
theorem Fit.pairX {e : Ear} {tp tf : List Kn} (h : Fit e tp tf) {i k : Nat} (hi : i < e.reps.length) (hk : k < e.reps.length) : pairX e i k = false :=
  (h.only (l := [e.reps.getD i rep0, e.reps.getD k rep0]) (fun r hr => by
    simp only [List.mem_cons, List.not_mem_nil, or_false] at hr
    rcases hr with rfl | rfl
    · exact rep_mem hi
    · exact rep_mem hk) (by simp)).calm
theorem conf_none {e : Ear} (h0 : crossV (e.only []) = false) (h1 : ∀ i, i < e.reps.length → alone e i = false) (h2 : ∀ i k, i < k → k < e.reps.length → pairX e i k = false) : conflictsV e = [] := by
  unfold conflictsV
  split
  · rw [h0, if_neg Bool.false_ne_true]
    have e1 : singles e e.reps.length = [] := by
      unfold singles
      rw [List.map_eq_nil_iff, List.filter_eq_nil_iff]
      intro i hi
      rw [h1 i (List.mem_range.1 hi)]; exact Bool.false_ne_true
    have e2 : pairsOf e e.reps.length = [] := by
      unfold pairsOf
      rw [List.flatMap_eq_nil_iff]
      intro i hi
      have hi := List.mem_range.1 hi
      rw [h1 i hi, if_neg Bool.false_ne_true]
      unfold pairsAt
      rw [List.map_eq_nil_iff, List.filter_eq_nil_iff]
      intro k hk
      have hk := List.mem_range.1 hk
      by_cases hik : i < k
      · rw [h2 i k hik hk, Bool.and_false]; exact Bool.false_ne_true
      · rw [decide_eq_false hik]; exact Bool.false_ne_true
    rw [e1, e2]; rfl
  · rfl
theorem Fit.noConf {e : Ear} {tp tf : List Kn} (h : Fit e tp tf) : conflictsV e = [] :=
  conf_none (h.only (l := []) (fun r hr => nomatch hr) (by simp)).calm (fun i hi => h.alone hi) fun i k hik hk => h.pairX (by omega) hk
/-! A report more -/
theorem loV_self {gl gh z : Int} : ∀ (l : List Kn) (s : Int), s ≤ loV gl gh l z s
  | [], s => Int.le_refl _
  | k :: l, s => Int.le_trans (Int.le_max_left s (loP gl gh z k)) (loV_self l _)
theorem upV_self {gl gh z : Int} : ∀ (l : List Kn) (s : Int), upV gl gh l z s ≤ s
  | [], s => Int.le_refl _
  | k :: l, s => Int.le_trans (upV_self l _) (Int.min_le_left s (upP gl gh z k))
theorem loV_append {gl gh z : Int} (l m : List Kn) (s : Int) : loV gl gh (l ++ m) z s = loV gl gh m z (loV gl gh l z s) := by
  unfold loV; rw [List.foldl_append]
theorem upV_append {gl gh z : Int} (l m : List Kn) (s : Int) : upV gl gh (l ++ m) z s = upV gl gh m z (upV gl gh l z s) := by
  unfold upV; rw [List.foldl_append]
theorem points_more {b : Int} {reps : List Rep} {l : List Kn} {kind : Int} (r : Rep) : ∃ m, pointsV b (reps ++ [r]) l kind = pointsV b reps l kind ++ m := by
  unfold pointsV
  rw [List.filter_append, List.map_append, ← List.append_assoc]
  exact ⟨_, rfl⟩
theorem loMore {gl gh z b s : Int} {reps : List Rep} {l : List Kn} {kind : Int} (r : Rep) : loV gl gh (pointsV b reps l kind) z s ≤ loV gl gh (pointsV b (reps ++ [r]) l kind) z s := by
  obtain ⟨m, hm⟩ := points_more (b := b) (reps := reps) (l := l) (kind := kind) r
  rw [hm, loV_append]; exact loV_self _ _
theorem upMore {gl gh z b s : Int} {reps : List Rep} {l : List Kn} {kind : Int} (r : Rep) : upV gl gh (pointsV b (reps ++ [r]) l kind) z s ≤ upV gl gh (pointsV b reps l kind) z s := by
  obtain ⟨m, hm⟩ := points_more (b := b) (reps := reps) (l := l) (kind := kind) r
  rw [hm, upV_append]; exact upV_self _ _
theorem narrower (e : Ear) (r : Rep) (z : Int) : (plV e z ≤ plV (e.more r) z ∧ phV (e.more r) z ≤ phV e z) ∧ flV e z ≤ flV (e.more r) z ∧ fhV (e.more r) z ≤ fhV e z := by
  have f : fhV (e.more r) z ≤ fhV e z := upMore r
  have p : plV e z ≤ plV (e.more r) z := by
    have := loMore (gl := e.gl) (gh := e.gh) (z := z) (b := e.bottom) (s := (rangeP e.pl z).1) (reps := e.reps) (l := e.pl) (kind := 1) r
    unfold plV Ear.more
    simp only []
    omega
  refine ⟨⟨p, ?_⟩, ?_, f⟩
  · have := upMore (gl := e.gl) (gh := e.gh) (z := z) (b := e.bottom) (s := (rangeP e.ph z).2) (reps := e.reps) (l := e.ph) (kind := 2) r
    unfold phV
    unfold Ear.more at *
    simp only [] at *
    omega
  · have := loMore (gl := e.gl) (gh := e.gh) (z := z) (b := e.bottom) (s := (rangeP e.fl z).1) (reps := e.reps) (l := e.fl) (kind := 3) r
    unfold flV
    unfold Ear.more at *
    simp only [] at *
    omega
theorem known_reps (g : Gr) : (knownV g).reps.length ≤ 8 := by
  show ((g.marks.take 8).map (repV (tpV g) (tfV g))).length ≤ 8
  rw [List.length_map, List.length_take]; omega
theorem more_valid (g : Gr) (n : Int) : Valid ((knownV g).more (repV (tpV g) (tfV g) n)) where
  b := (known_valid g).b
  g := (known_valid g).g
  pl := (known_valid g).pl
  ph := (known_valid g).ph
  fl := (known_valid g).fl
  fh := (known_valid g).fh
  ab1 := (known_valid g).ab1
  ab2 := (known_valid g).ab2
  ab3 := (known_valid g).ab3
  reps := by
    have := known_reps g
    show ((knownV g).reps ++ [_]).length ≤ 24
    rw [List.length_append, List.length_singleton]; omega
  rep := fun r hr => by
    rcases List.mem_append.1 (show r ∈ (knownV g).reps ++ [_] from hr) with hr | hr
    · exact (known_valid g).rep r hr
    · rw [List.mem_singleton] at hr
      subst hr
      have := repV_in g n
      show _ ∧ _ ∧ _ ∧ _ ≤ endV (tpV g) ∧ _
      rw [tp_end]; exact this
theorem more_fit (g : Gr) (n : Int) : Fit ((knownV g).more (repV (tpV g) (tfV g) n)) (tpV g) (tfV g) :=
  have h := fit (known_fits g)
  { v := more_valid g n
    ltp := h.ltp
    ltf := h.ltf
    rp := h.rp
    rf := h.rf
    zp := h.zp
    zf := h.zf
    s1 := h.s1
    s2 := h.s2
    s3 := h.s3
    s4 := h.s4
    s5 := h.s5
    reps := fun r hr => by
      rcases List.mem_append.1 (show r ∈ (knownV g).reps ++ [_] from hr) with hr | hr
      · exact h.reps r hr
      · rw [List.mem_singleton] at hr
        subst hr
        exact rep_true g n }
theorem more_fits (g : Gr) (n : Int) : fitsV ((knownV g).more (repV (tpV g) (tfV g) n)) (tpV g) (tfV g) = true := by
  obtain ⟨h1, h2, h3, h4, h5, h6, h7, h8, h9, h10⟩ := fitsV_iff.1 (known_fits g)
  exact fitsV_iff.2 ⟨valid_iff.2 (more_valid g n), h2, h3, h4, h5, h6, h7, h8, h9, List.all_eq_true.2 (more_fit g n).reps⟩
/-- What EarthTrue says. -/
theorem true_law (g : Gr) (n : Int) : addV (knownV g) (repV (tpV g) (tfV g) n) = ((knownV g).more (repV (tpV g) (tfV g) n), 0) ∧ conflictsV (knownV g) = [] ∧ fitsV ((knownV g).more (repV (tpV g) (tfV g) n)) (tpV g) (tfV g) = true ∧ conflictsV ((knownV g).more (repV (tpV g) (tfV g) n)) = [] := by
  refine ⟨?_, (fit (known_fits g)).noConf, more_fits g n, (more_fit g n).noConf⟩
  unfold addV
  rw [if_pos (valid_iff.2 (known_valid g)), if_pos (valid_iff.2 (more_valid g n))]
theorem true_at (g : Gr) (n : Int) {z : Int} (z0 : 0 ≤ z) (z1 : z ≤ (knownV g).bottom) :
    (poreV (knownV g) z = (plV (knownV g) z, phV (knownV g) z) ∧ fracV (knownV g) z = (flV (knownV g) z, fhV (knownV g) z)) ∧
    (poreV ((knownV g).more (repV (tpV g) (tfV g) n)) z = (plV ((knownV g).more (repV (tpV g) (tfV g) n)) z, phV ((knownV g).more (repV (tpV g) (tfV g) n)) z) ∧ fracV ((knownV g).more (repV (tpV g) (tfV g) n)) z = (flV ((knownV g).more (repV (tpV g) (tfV g) n)) z, fhV ((knownV g).more (repV (tpV g) (tfV g) n)) z)) ∧
    plV ((knownV g).more (repV (tpV g) (tfV g) n)) z ≤ phV ((knownV g).more (repV (tpV g) (tfV g) n)) z ∧ flV ((knownV g).more (repV (tpV g) (tfV g) n)) z ≤ fhV ((knownV g).more (repV (tpV g) (tfV g) n)) z := by
  have hk : okE (knownV g) z = true := okE_iff.2 ⟨valid_iff.2 (known_valid g), z0, z1⟩
  have hm : okE ((knownV g).more (repV (tpV g) (tfV g) n)) z = true := okE_iff.2 ⟨valid_iff.2 (more_valid g n), z0, z1⟩
  have hb := (more_fit g n).quiet (z := z) z0 z1
  unfold badAt at hb
  rw [Bool.or_eq_false_iff] at hb
  have h1 := of_decide_eq_false hb.1
  have h2 := of_decide_eq_false hb.2
  refine ⟨⟨by unfold poreV; rw [if_pos hk], by unfold fracV; rw [if_pos hk]⟩, ⟨by unfold poreV; rw [if_pos hm], by unfold fracV; rw [if_pos hm]⟩, by omega, by omega⟩
end Go.Proofs.Ytcglpbchejkolaa
/- Earth: an earth of whose reports no two conflict has none that do: plain laws. -/
namespace Go.Proofs.Ytcglpbchejkolaa
open Go.RowKit
set_option linter.unusedSimpArgs false
set_option linter.unusedVariables false

/-- Straight on a part; the floor, the ceiling of what is straight. -/
def Str (f : Int → Int) (a b : Int) : Prop := ∃ A M : Int, ∀ x, a ≤ x → x ≤ b → f x = A + M * x
def FlS (f : Int → Int) (a b : Int) : Prop := ∃ A M D : Int, 0 < D ∧ ∀ x, a ≤ x → x ≤ b → D * f x ≤ A + M * x ∧ A + M * x < D * (f x + 1)
theorem Str.fl {f : Int → Int} {a b : Int} (h : Str f a b) : FlS f a b := by
  obtain ⟨A, M, h⟩ := h
  exact ⟨A, M, 1, by decide, fun x h1 h2 => by have := h x h1 h2; omega⟩
theorem Str.part {f : Int → Int} {a b a' b' : Int} (h : Str f a b) (h1 : a ≤ a') (h2 : b' ≤ b) : Str f a' b' := by
  obtain ⟨A, M, h⟩ := h
  exact ⟨A, M, fun x k1 k2 => h x (by omega) (by omega)⟩
theorem FlS.part {f : Int → Int} {a b a' b' : Int} (h : FlS f a b) (h1 : a ≤ a') (h2 : b' ≤ b) : FlS f a' b' := by
  obtain ⟨A, M, D, d0, h⟩ := h
  exact ⟨A, M, D, d0, fun x k1 k2 => h x (by omega) (by omega)⟩
/-- Piece by piece; the pieces end at places. -/
def Pw (S : Int → Int → Prop) (pl : Int → Prop) : Prop := ∀ u w x : Int, u ≤ x → x ≤ w → ∃ a b, u ≤ a ∧ a ≤ x ∧ x ≤ b ∧ b ≤ w ∧ S a b ∧ (a = u ∨ pl a) ∧ (b = w ∨ pl b)
theorem meet {S T : Int → Int → Prop} {pl : Int → Prop} {f g : Int → Int} (hS : ∀ a b a' b', S a b → a ≤ a' → b' ≤ b → S a' b') (hf : Pw S pl) (hg : Pw T pl)
    (bt : ∀ a b x, S a b → T a b → a ≤ x → x ≤ b → f a ≤ g a → f b ≤ g b → f x ≤ g x) {u w x : Int} (h1 : u ≤ x) (h2 : x ≤ w) (hx : g x < f x) : ∃ p, u ≤ p ∧ p ≤ w ∧ (p = u ∨ p = w ∨ pl p) ∧ g p < f p := by
  obtain ⟨a, b, a1, a2, b1, b2, hA, ea, eb⟩ := hf u w x h1 h2
  obtain ⟨a', b', a3, a4, b3, b4, hB, ea', eb'⟩ := hg a b x a2 b1
  have pa : a' = u ∨ a' = w ∨ pl a' := by
    rcases ea' with rfl | h
    · rcases ea with h | h
      · exact .inl h
      · exact .inr (.inr h)
    · exact .inr (.inr h)
  have pb : b' = u ∨ b' = w ∨ pl b' := by
    rcases eb' with rfl | h
    · rcases eb with h | h
      · exact .inr (.inl h)
      · exact .inr (.inr h)
    · exact .inr (.inr h)
  by_cases g1 : g a' < f a'
  · exact ⟨a', by omega, by omega, pa, g1⟩
  by_cases g2 : g b' < f b'
  · exact ⟨b', by omega, by omega, pb, g2⟩
  have := bt a' b' x (hS _ _ _ _ hA a3 b4) hB a4 b3 (by omega) (by omega)
  omega
/-! What the ends of the ranges are made of -/
inductive LT (e : Ear) : Bool → List Rep → (Int → Int) → Prop
  | zero (s) : LT e s [] fun _ => 0
  | pl (s) : LT e s [] fun z => (rangeP e.pl z).1
  | plk (s) {k : Kn} (h : k ∈ e.pl) (hb : k.1 ≤ e.bottom) : LT e s [] fun z => loP e.gl e.gh z k
  | plr (s) {r : Rep} (h : r.kind = 1) : LT e s [r] fun z => loP e.gl e.gh z (r.z, r.p)
  | fl : LT e true [] fun z => (rangeP e.fl z).1
  | flk {k : Kn} (h : k ∈ e.fl) (hb : k.1 ≤ e.bottom) : LT e true [] fun z => loP e.gl e.gh z k
  | flr {r : Rep} (h : r.kind = 3) : LT e true [r] fun z => loP e.gl e.gh z (r.z, r.p)
inductive UT (e : Ear) : Bool → List Rep → (Int → Int) → Prop
  | fh (s) : UT e s [] fun z => (rangeP e.fh z).2
  | fhk (s) {k : Kn} (h : k ∈ e.fh) (hb : k.1 ≤ e.bottom) : UT e s [] fun z => upP e.gl e.gh z k
  | fhr (s) {r : Rep} (h : r.kind = 4) : UT e s [r] fun z => upP e.gl e.gh z (r.z, r.p)
  | ph : UT e false [] fun z => (rangeP e.ph z).2
  | phk {k : Kn} (h : k ∈ e.ph) (hb : k.1 ≤ e.bottom) : UT e false [] fun z => upP e.gl e.gh z k
  | phr {r : Rep} (h : r.kind = 2) : UT e false [r] fun z => upP e.gl e.gh z (r.z, r.p)
def lowE (e : Ear) (s : Bool) (z : Int) : Int := if s = true then flV e z else plV e z
def upE (e : Ear) (s : Bool) (z : Int) : Int := if s = true then fhV e z else phV e z
theorem loV_ge {gl gh z : Int} : ∀ (l : List Kn) (s : Int) {k : Kn}, k ∈ l → loP gl gh z k ≤ loV gl gh l z s
  | k' :: l, s, k, hk => by
    rcases List.mem_cons.1 hk with rfl | hk
    · exact Int.le_trans (Int.le_max_right s _) (loV_self l _)
    · exact loV_ge l _ hk
theorem upV_le {gl gh z : Int} : ∀ (l : List Kn) (s : Int) {k : Kn}, k ∈ l → upV gl gh l z s ≤ upP gl gh z k
  | k' :: l, s, k, hk => by
    rcases List.mem_cons.1 hk with rfl | hk
    · exact Int.le_trans (upV_self l _) (Int.min_le_right s _)
    · exact upV_le l _ hk
theorem mem_points {b : Int} {reps : List Rep} {l : List Kn} {kind : Int} {k : Kn} (h : k ∈ l) (hb : k.1 ≤ b) : k ∈ pointsV b reps l kind :=
  List.mem_append.2 (.inl (List.mem_filter.2 ⟨h, decide_eq_true hb⟩))
theorem rep_points {b : Int} {reps : List Rep} {l : List Kn} {kind : Int} {r : Rep} (h : r ∈ reps) (hk : r.kind = kind) : (r.z, r.p) ∈ pointsV b reps l kind :=
  List.mem_append.2 (.inr (List.mem_map.2 ⟨r, List.mem_filter.2 ⟨h, by simp [hk]⟩, rfl⟩))
theorem LT.le {e : Ear} {s : Bool} {l : List Rep} {f : Int → Int} (h : LT e s l f) {m : List Rep} (hm : ∀ r ∈ l, r ∈ m) (z : Int) : f z ≤ lowE (e.only m) s z := by
  have p1 : ∀ {v : Int}, v ≤ plV (e.only m) z → v ≤ lowE (e.only m) s z := fun {v} hv => by
    unfold lowE
    split
    · unfold flV; omega
    · exact hv
  have self1 := loV_self (gl := e.gl) (gh := e.gh) (z := z) (pointsV e.bottom m e.pl 1) (rangeP e.pl z).1
  have self2 := loV_self (gl := e.gl) (gh := e.gh) (z := z) (pointsV e.bottom m e.fl 3) (rangeP e.fl z).1
  cases h with
  | zero => exact p1 (Int.le_max_left _ _)
  | pl => exact p1 (Int.le_trans self1 (Int.le_max_right _ _))
  | plk _ hk hb => exact p1 (Int.le_trans (loV_ge _ _ (mem_points hk hb)) (Int.le_max_right _ _))
  | plr _ hk => exact p1 (Int.le_trans (loV_ge _ _ (rep_points (hm _ (by simp)) hk)) (Int.le_max_right _ _))
  | fl => exact Int.le_trans self2 (Int.le_max_right _ _)
  | flk hk hb => exact Int.le_trans (loV_ge _ _ (mem_points hk hb)) (Int.le_max_right _ _)
  | flr hk => exact Int.le_trans (loV_ge _ _ (rep_points (hm _ (by simp)) hk)) (Int.le_max_right _ _)
theorem UT.ge {e : Ear} {s : Bool} {l : List Rep} {f : Int → Int} (h : UT e s l f) {m : List Rep} (hm : ∀ r ∈ l, r ∈ m) (z : Int) : upE (e.only m) s z ≤ f z := by
  have p1 : ∀ {v : Int}, fhV (e.only m) z ≤ v → upE (e.only m) s z ≤ v := fun {v} hv => by
    unfold upE
    split
    · exact hv
    · unfold phV; omega
  have self1 := upV_self (gl := e.gl) (gh := e.gh) (z := z) (pointsV e.bottom m e.fh 4) (rangeP e.fh z).2
  have self2 := upV_self (gl := e.gl) (gh := e.gh) (z := z) (pointsV e.bottom m e.ph 2) (rangeP e.ph z).2
  cases h with
  | fh => exact p1 self1
  | fhk _ hk hb => exact p1 (upV_le _ _ (mem_points hk hb))
  | fhr _ hk => exact p1 (upV_le _ _ (rep_points (hm _ (by simp)) hk))
  | ph => exact Int.le_trans (Int.min_le_right _ _) self2
  | phk hk hb => exact Int.le_trans (Int.min_le_right _ _) (upV_le _ _ (mem_points hk hb))
  | phr hk => exact Int.le_trans (Int.min_le_right _ _) (upV_le _ _ (rep_points (hm _ (by simp)) hk))
end Go.Proofs.Ytcglpbchejkolaa
/- Earth: each report of a conflict is needed; without one of each none is left: plain laws. -/
namespace Go.Proofs.Ytcglpbchejkolaa
open Go.RowKit
set_option linter.unusedSimpArgs false
set_option linter.unusedVariables false

theorem conf_eq {e : Ear} (hv : Valid e) (h0 : crossV (e.only []) = false) : conflictsV e = singles e e.reps.length ++ pairsOf e e.reps.length := by
  unfold conflictsV
  rw [if_pos (valid_iff.2 hv), h0, if_neg Bool.false_ne_true]
end Go.Proofs.Ytcglpbchejkolaa
/- Earth: which reports conflict, by the table: the program's. -/
namespace Go.Proofs.Ytcglpbchejkolaa
open Go.RowKit
set_option linter.unusedSimpArgs false
set_option linter.unusedVariables false

theorem crosses_ok : tab7.ok 88 := by
  refine Tab.of_ct rfl rfl ⟨_, Try.func88, by decide, rfl⟩ ?_ ctF_det
  refine ct_ok (cx := ccrosses) (Tab.cx_ok (all_cons depths_ok (all_cons (up7_ok (up6_ok (up5_ok (up4_ok (up3_ok both_ok))))) all_nil)) fxcrosses) Try.func88 (bds := []) (T := tcrosses) (by kernel_rfl) ?_
  have h1 : ccrosses.ct 86 = some ctDepthsI := rfl
  have h2 : ccrosses.ct 95 = some ctBoth := rfl
  unfold tcrosses
  simp only [VC, allC, List.map_cons, List.map_nil, List.length_cons, List.length_nil, List.getElem?_cons_zero, List.getElem?_cons_succ, List.cons.injEq, C.i.injEq, C.b.injEq, and_true, true_and, forall_const, kindsOf_nil, kindsOf_lf, kindsOf_agg, kindsOf_box, boxKinds_nil, boxKinds_lf, boxKinds_agg, boxKinds_box, List.append_nil, List.cons_append, List.nil_append, den_cmp_le, den_cmp_lt, den_cmp_eq, den_cmp_ne, den_cmp_le', den_cmp_lt', den_cmp_eq', den_cmp_ne', den_and, den_and', den_or, den_or', den_not, den_not', den_blit, den_of, ev_var, at_0, at_1, at_2, at_3, at_4, at_5, at_6, at_7, at_skip, c_int, c_bool, c_arr, c_cnt, c_vec, ev_nil, ev_join, ev_sub3, loc_s, int_i, bool_b, rows_s, cs_nil, cs_cons, E.den_lit, E.den_var, E.den_add, E.den_sub, E.den_mul, E.den_quo, E.den_rem, E.den_max, E.den_min, E.den_len, E.den_wr, E.den_cell, ev_cell, in1, h1, h2, ctDepthsI, ctBoth, ctCrosses, ctF, earthSh, earthKs, rangeSh, n_, k_, earOf, Ear.only]
  intro b _ _ u1 r1 _ _ _ u2 r2 _ _ _ u3 r3 _ _ _ u4 r4 _ _ _ gl _ _ gh _ _ u7 r7 _ _ _ u8 r8 _ _ _ hp
  have hv := valid hp
  generalize hE : (⟨b, knots r1, knots r2, knots r3, knots r4, gl, gh, repsOf r8⟩ : Ear) = E at *
  refine ⟨bds_nil _, hp, ?_⟩
  rintro v rows _ _ _ ⟨_, _, e, hr⟩
  cases e
  rw [← ints_len rows, hr]
  have hin : ∀ j, j < (depthsV E).length → 0 ≤ (depthsV E).getD j 0 ∧ (depthsV E).getD j 0 ≤ E.bottom := fun j hj => depths_in hv (getD_mem hj 0)
  generalize hL : depthsV E = L at *
  refine ⟨fun xs => match xs with | [.i _, .i i] => 0 ≤ i ∧ i ≤ L.length ∧ ∀ j : Nat, j < i.toNat → badAt E (L.getD j 0) = false | _ => False, fun xs => match xs with | [_, .i i] => ((L.length : Int) - i).toNat | _ => 0, ⟨by omega, by omega, fun j hj => by omega⟩, ?_⟩
  rintro m _ _ i _ _ ⟨i0, i1, hI⟩
  refine ⟨fun hlt => ?_, fun hge => ?_⟩
  · obtain ⟨z0, z1⟩ := hin i.toNat (by omega)
    have hz := getD_mem (l := L) (i := i.toNat) (by omega) 0
    refine ⟨i0, hlt, okE_iff.2 ⟨hp, z0, z1⟩, ?_⟩
    rintro n2 _ _ n3 _ _ n4 _ _ n5 _ _ ⟨rfl, rfl, rfl, rfl⟩
    have bad : (phV E (L.getD i.toNat 0) < plV E (L.getD i.toNat 0) ∨ fhV E (L.getD i.toNat 0) < flV E (L.getD i.toNat 0)) → true = crossV E := fun h => by
      symm
      unfold crossV
      rw [hL, List.any_eq_true]
      exact ⟨_, hz, by unfold badAt; rw [Bool.or_eq_true, decide_eq_true_eq, decide_eq_true_eq]; exact h⟩
    refine ⟨fun h => bad (.inl h), fun h => ⟨fun h' => bad (.inr h'), fun h' => ⟨⟨by omega, by omega, fun j hj => ?_⟩, ?_⟩⟩⟩
    · by_cases e : j = i.toNat
      · subst e; unfold badAt; rw [decide_eq_false (by omega), decide_eq_false (by omega)]; rfl
      · exact hI j (by omega)
    · show ((L.length : Int) - (i + 1)).toNat < ((L.length : Int) - i).toNat
      omega
  · symm
    unfold crossV
    rw [hL, List.any_eq_false]
    intro z hz
    obtain ⟨j, hj, e⟩ := List.getElem_of_mem hz
    have := hI j (by omega)
    rw [List.getD_eq_getElem?_getD, List.getElem?_eq_getElem hj] at this
    rw [← e]
    simpa using this
/-- A list of truth values, by place. -/
def bl (rows : List (List C)) (j : Nat) : Bool := ((C.s (.slice none 0 0) rows).at j 0).bool
theorem bl_at (v : Value) (rows : List (List C)) (j : Nat) : ((C.s v rows).at j 0).bool = bl rows j := by
  unfold bl; simp only [cell_at]
theorem bl_rep {n j : Nat} : bl (List.replicate n [C.b false]) j = false := by
  unfold bl
  simp only [cell_at, List.getD_eq_getElem?_getD, List.getElem?_replicate]
  split <;> rfl
theorem bl_upd {rows : List (List C)} {i j : Nat} {t : Bool} (hi : i < rows.length) : bl (updRow rows i 0 [C.b t]) j = if j = i then t else bl rows j := by
  unfold bl updRow
  simp only [cell_at, List.getD_eq_getElem?_getD, List.getElem?_set]
  by_cases h : j = i
  · subst h; rw [if_pos rfl, if_pos hi, if_pos rfl]; rfl
  · rw [if_neg (fun e => h e.symm), if_neg h]
theorem upd_len (rows : List (List C)) (i o : Nat) (l : List C) : (updRow rows i o l).length = rows.length := by simp [updRow]
theorem lists_snoc (rows : List (List C)) (v : Value) (l : List (List C)) : lists (rows ++ [[C.s v l]]) = lists rows ++ [ints l] := by simp [lists, C.rows]
theorem lists_len (rows : List (List C)) : (lists rows).length = rows.length := by simp [lists]
theorem singles_succ (e : Ear) (i : Nat) : singles e (i + 1) = singles e i ++ (if alone e i = true then [[(i : Int)]] else []) := by
  unfold singles
  rw [List.range_succ, List.filter_append, List.map_append]
  split
  · rename_i h; rw [List.filter_cons_of_pos h]; rfl
  · rename_i h; rw [List.filter_cons_of_neg h]; rfl
theorem pairsAt_succ (e : Ear) (i k : Nat) : pairsAt e i (k + 1) = pairsAt e i k ++ (if i < k ∧ alone e k = false ∧ pairX e i k = true then [[(i : Int), (k : Int)]] else []) := by
  unfold pairsAt
  rw [List.range_succ, List.filter_append, List.map_append]
  split
  · rename_i h; rw [List.filter_cons_of_pos (by simp [h.1, h.2.1, h.2.2])]; rfl
  · rename_i h
    rw [List.filter_cons_of_neg]
    · rfl
    · intro h2
      simp only [Bool.and_eq_true, decide_eq_true_eq, Bool.not_eq_true'] at h2
      exact h ⟨h2.1.1, h2.1.2, h2.2⟩
theorem pairsOf_succ (e : Ear) (i : Nat) : pairsOf e (i + 1) = pairsOf e i ++ (if alone e i = true then [] else pairsAt e i e.reps.length) := by
  unfold pairsOf
  rw [List.range_succ, List.flatMap_append]; simp
theorem pairsAt_start (e : Ear) (i : Nat) : ∀ k, k ≤ i + 1 → pairsAt e i k = []
  | 0, _ => rfl
  | k + 1, h => by rw [pairsAt_succ, pairsAt_start e i k (by omega), if_neg (by omega)]; rfl
theorem singles_len (e : Ear) (n : Nat) : (singles e n).length ≤ n := by
  unfold singles
  rw [List.length_map]
  have := List.length_filter_le (alone e) (List.range n)
  rwa [List.length_range] at this
theorem pairsAt_len (e : Ear) (i n : Nat) : (pairsAt e i n).length ≤ n := by
  unfold pairsAt
  rw [List.length_map]
  refine Nat.le_trans (List.length_filter_le _ _) ?_
  rw [List.length_range]; exact Nat.le_refl _
theorem pairsOf_len (e : Ear) : ∀ n, (pairsOf e n).length ≤ n * e.reps.length
  | 0 => by simp [pairsOf]
  | n + 1 => by
    have h1 := pairsOf_len e n
    have h2 := pairsAt_len e n e.reps.length
    rw [pairsOf_succ, List.length_append, Nat.add_mul]
    split
    · simp; omega
    · omega
theorem repl_one (x : Rep) : repsOf [[.i x.kind, .i x.z, .i x.p]] = [x] := rfl
theorem repl_two (x y : Rep) : repsOf [[.i x.kind, .i x.z, .i x.p], [.i y.kind, .i y.z, .i y.p]] = [x, y] := rfl
theorem repl_none : repsOf [] = [] := rfl
set_option maxRecDepth 100000 in
theorem conflicts_ok : tab7.ok 54 := by
  refine Tab.of_ct rfl rfl ⟨_, Try.func54, by decide, rfl⟩ ?_ (fun h => by cases h)
  refine ct_ok (cx := cconflicts) (Tab.cx_ok (all_cons (up7_ok (up6_ok (up5_ok (up4_ok (up3_ok check_ok))))) (all_cons crosses_ok all_nil))) Try.func54 (bds := []) (T := tconflicts) (by kernel_rfl) ?_
  have h1 : cconflicts.ct 35 = some ctCheck := rfl
  have h2 : cconflicts.ct 88 = some ctCrosses := rfl
  unfold tconflicts
  simp only [VC, allC, List.map_cons, List.map_nil, List.length_cons, List.length_nil, List.getElem?_cons_zero, List.getElem?_cons_succ, List.cons.injEq, C.i.injEq, C.b.injEq, and_true, true_and, forall_const, kindsOf_nil, kindsOf_lf, kindsOf_agg, kindsOf_box, boxKinds_nil, boxKinds_lf, boxKinds_agg, boxKinds_box, List.append_nil, List.cons_append, List.nil_append, den_cmp_le, den_cmp_lt, den_cmp_eq, den_cmp_ne, den_cmp_le', den_cmp_lt', den_cmp_eq', den_cmp_ne', den_and, den_and', den_or, den_or', den_not, den_not', den_blit, den_of, ev_var, at_0, at_1, at_2, at_3, at_4, at_5, at_6, at_7, at_skip, c_int, c_bool, c_arr, c_cnt, c_vec, ev_nil, ev_join, ev_sub3, loc_s, int_i, bool_b, rows_s, cs_nil, cs_cons, E.den_lit, E.den_var, E.den_add, E.den_sub, E.den_mul, E.den_quo, E.den_rem, E.den_max, E.den_min, E.den_len, E.den_wr, E.den_cell, ev_cell, rp0, rp1, rp2, h1, h2, ctCheck, ctCrosses, ctConflicts, ctF, earthSh, earthKs, n_, k_, earOf, Ear.only]
  intro b _ _ u1 r1 _ _ _ u2 r2 _ _ _ u3 r3 _ _ _ u4 r4 _ _ _ gl _ _ gh _ _ u7 r7 _ _ _
  refine ⟨bds_nil _, ?_⟩
  rintro n _ _ hn
  refine ⟨fun h => ⟨_, _, rfl, ?_⟩, fun h => ?_⟩
  · show [] = conflictsV _
    symm
    unfold conflictsV
    rw [if_neg (by rw [← hn]; exact h)]
  rw [h] at hn
  have hv := valid hn.symm
  have e7 : (r7.length : Int) = ((repsOf r7).length : Int) := by simp [repsOf]
  have e7' : (r7.length : Int).toNat = (repsOf r7).length := by rw [e7]; omega
  rw [e7', e7]
  clear e7 e7'
  have hr0 : repsOf r7 = (⟨b, knots r1, knots r2, knots r3, knots r4, gl, gh, repsOf r7⟩ : Ear).reps := rfl
  generalize hE : (⟨b, knots r1, knots r2, knots r3, knots r4, gl, gh, repsOf r7⟩ : Ear) = E at *
  have hA : ∀ l : List Rep, (⟨b, knots r1, knots r2, knots r3, knots r4, gl, gh, l⟩ : Ear) = E.only l := fun l => by rw [← hE]; rfl
  simp only [hA, hr0, repl_one, repl_two, repl_none, bl_at]
  have hN : E.reps.length ≤ 24 := hv.reps
  refine ⟨valid_iff.2 (hv.only (fun r hr => nomatch hr) (by simp)), ?_⟩
  rintro t ht
  refine ⟨fun e => ?_, fun e => ?_⟩
  · intro v v1
    refine ⟨_, _, rfl, ?_⟩
    rw [e] at ht
    unfold conflictsV
    rw [if_pos hn.symm, if_pos ht.symm]; rfl
  rw [e] at ht
  have hC : conflictsV E = singles E E.reps.length ++ pairsOf E E.reps.length := conf_eq hv ht.symm
  rw [hC]
  refine ⟨by omega, fun v => ⟨fun xs => match xs with | [.s _ out, .i i, .s _ al] => 0 ≤ i ∧ i ≤ E.reps.length ∧ lists out = singles E i.toNat ∧ al.length = E.reps.length ∧ ∀ j : Nat, bl al j = (decide (j < i.toNat) && alone E j) | _ => False, fun xs => match xs with | [_, .i i, _] => ((E.reps.length : Int) - i).toNat | _ => 0, ⟨by omega, by omega, rfl, by simp, fun j => by rw [bl_rep]; simp⟩, ?_⟩⟩
  rintro v1 out _ _ _ i _ _ v2 al _ _ _ ⟨i0, i1, hout, hal, hbl⟩
  refine ⟨fun hlt => ?_, fun hge => ?_⟩
  · have hmem := rep_mem (e := E) (i := i.toNat) (by omega)
    have hol : out.length ≤ 24 := by
      have := singles_len E i.toNat
      rw [← hout, lists_len] at this; omega
    refine ⟨i0, hlt, valid_iff.2 (hv.only (fun r hr => by rw [List.mem_singleton] at hr; subst hr; exact hmem) (by simp)), ?_⟩
    rintro t ht
    have ht : t = alone E i.toNat := ht
    have hbl' : ∀ j, bl (updRow al i.toNat 0 [C.b t]) j = (decide (j < (i + 1).toNat) && alone E j) := fun j => by
      rw [bl_upd (by omega), hbl]
      by_cases hj : j = i.toNat
      · subst hj; rw [if_pos rfl, ht, decide_eq_true (by omega)]; rfl
      · rw [if_neg hj]
        congr 1
        exact decide_eq_decide.2 (by omega)
    have hii : (i.toNat : Int) = i := by omega
    have hs := singles_succ E i.toNat
    rw [← ht] at hs
    rw [bl_upd (by omega), if_pos rfl]
    refine ⟨by omega, fun v3 => ⟨by rw [upd_len]; omega, fun h => fun v4 => ⟨by simp only [Nat.zero_add]; omega, fun v5 => ⟨⟨by omega, by omega, ?_, by rw [upd_len]; exact hal, hbl'⟩, ?_⟩⟩, fun h => ⟨⟨by omega, by omega, ?_, by rw [upd_len]; exact hal, hbl'⟩, ?_⟩⟩⟩
    · rw [lists_snoc, hout, show (i + 1).toNat = i.toNat + 1 by omega, hs, if_pos h, hii]; rfl
    · show ((E.reps.length : Int) - (i + 1)).toNat < ((E.reps.length : Int) - i).toNat
      omega
    · rw [hout, show (i + 1).toNat = i.toNat + 1 by omega, hs, if_neg (by rw [h]; exact Bool.false_ne_true), List.append_nil]
    · show ((E.reps.length : Int) - (i + 1)).toNat < ((E.reps.length : Int) - i).toNat
      omega
  have hin : i.toNat = E.reps.length := by omega
  rw [hin] at hout hbl
  have hbl : ∀ j, j < E.reps.length → bl al j = alone E j := fun j hj => by rw [hbl, decide_eq_true hj, Bool.true_and]
  generalize hNN : E.reps.length = N at *
  have hsl := singles_len E N
  have hpl : ∀ j, j ≤ N → (pairsOf E j).length ≤ 576 := fun j hj => by
    have h1 := pairsOf_len E j
    rw [hNN] at h1
    have h2 : j * N ≤ 24 * 24 := Nat.mul_le_mul (by omega) hN
    omega
  refine ⟨fun xs => match xs with | [.s _ out, .i i] => 0 ≤ i ∧ i ≤ N ∧ lists out = singles E N ++ pairsOf E i.toNat | _ => False, fun xs => match xs with | [_, .i i] => ((N : Int) - i).toNat | _ => 0, ⟨by omega, by omega, by rw [hout]; simp [pairsOf]⟩, ?_⟩
  rintro v3 out3 _ _ _ k _ _ ⟨k0, k1, hout3⟩
  refine ⟨fun hlt => ?_, fun hge => ⟨_, _, rfl, by rw [hout3, show k.toNat = N by omega]⟩⟩
  have hps := pairsOf_succ E k.toNat
  rw [hbl k.toNat (by omega)]
  refine ⟨k0, hlt, by omega, fun h => ⟨⟨by omega, by omega, ?_⟩, ?_⟩, fun h => ?_⟩
  · rw [hout3, show (k + 1).toNat = k.toNat + 1 by omega, hps, if_pos h, List.append_nil]
  · show ((N : Int) - (k + 1)).toNat < ((N : Int) - k).toNat
    omega
  rw [if_neg (by rw [h]; exact Bool.false_ne_true), hNN] at hps
  refine ⟨fun xs => match xs with | [.s _ out, .i m] => k + 1 ≤ m ∧ m ≤ N ∧ lists out = singles E N ++ pairsOf E k.toNat ++ pairsAt E k.toNat m.toNat | _ => False, fun xs => match xs with | [_, .i m] => ((N : Int) - m).toNat | _ => 0, ⟨by omega, by omega, by rw [hout3, pairsAt_start E k.toNat _ (by omega), List.append_nil]⟩, ?_⟩
  rintro v4 out4 _ _ _ m _ _ ⟨m0, m1, hout4⟩
  have hol : out4.length ≤ 700 := by
    have h1 := congrArg List.length hout4
    have h2 := pairsAt_len E k.toNat m.toNat
    have h3 := hpl k.toNat (by omega)
    rw [lists_len, List.length_append, List.length_append] at h1
    omega
  refine ⟨fun hlt2 => ?_, fun hge2 => ⟨⟨by omega, by omega, ?_⟩, ?_⟩⟩
  rotate_left
  · rw [hout4, show (k + 1).toNat = k.toNat + 1 by omega, hps, show m.toNat = N by omega, List.append_assoc]
  · show ((N : Int) - (k + 1)).toNat < ((N : Int) - k).toNat
    omega
  have hpa := pairsAt_succ E k.toNat m.toNat
  have hmm : (m.toNat : Int) = m := by omega
  have hkk : (k.toNat : Int) = k := by omega
  have hmu : ((N : Int) - (m + 1)).toNat < ((N : Int) - m).toNat := by omega
  rw [hbl m.toNat (by omega)]
  refine ⟨by omega, by omega, fun hm => ⟨hlt2, ?_⟩, fun hm => ⟨⟨by omega, by omega, ?_⟩, hmu⟩⟩
  rotate_left
  · rw [hout4, show (m + 1).toNat = m.toNat + 1 by omega, hpa, if_neg (fun hx => by rw [hm] at hx; cases hx.2.1), List.append_nil]
  refine ⟨valid_iff.2 (hv.only (fun r hr => by
    simp only [List.mem_cons, List.not_mem_nil, or_false] at hr
    rcases hr with rfl | rfl
    · exact rep_mem (by omega)
    · exact rep_mem (by omega)) (by simp)), ?_⟩
  rintro t ht
  have ht : t = pairX E k.toNat m.toNat := ht
  refine ⟨fun ht1 => fun v7 => ⟨by simp only [Nat.zero_add]; omega, fun v8 => ⟨⟨by omega, by omega, ?_⟩, hmu⟩⟩, fun ht1 => ⟨⟨by omega, by omega, ?_⟩, hmu⟩⟩
  · rw [lists_snoc, hout4, show (m + 1).toNat = m.toNat + 1 by omega, hpa, if_pos ⟨by omega, hm, ht.symm.trans ht1⟩, hmm, hkk, List.append_assoc _ _ [_]]; rfl
  · rw [hout4, show (m + 1).toNat = m.toNat + 1 by omega, hpa, if_neg (fun hx => by rw [← ht, ht1] at hx; cases hx.2.2), List.append_nil]
end Go.Proofs.Ytcglpbchejkolaa
/- Earth: EarthTrue by the table. -/
namespace Go.Proofs.Ytcglpbchejkolaa
open Go.RowKit
set_option linter.unusedSimpArgs false
set_option linter.unusedVariables false

set_option maxRecDepth 100000 in
theorem ltrue_ok : CtOK Try.prog 15 (ctLaw [groundSh, .lf .int, .lf .int]) := by
  refine ct_ok (cx := cltrue) (Tab.cx_ok (all_cons (up7_ok (up6_ok (up5_ok (up4_ok mod64_ok)))) (all_cons (up7_ok knownA_ok) (all_cons (up7_ok trueA_ok) (all_cons (up7_ok (up6_ok report_ok)) (all_cons (up7_ok (up6_ok (up5_ok add_ok))) (all_cons conflicts_ok (all_cons (up7_ok (up6_ok (up5_ok fits_ok))) (all_cons (up7_ok (up6_ok (up5_ok (up4_ok (up3_ok pore_ok))))) (all_cons (up7_ok (up6_ok (up5_ok (up4_ok (up3_ok frac_ok))))) (all_cons (up7_ok (up6_ok (up5_ok (up4_ok (up3_ok awake_ok))))) all_nil))))))))))) Try.func15 (bds := []) (T := tltrue) (by kernel_rfl) ?_
  have h1 : cltrue.ct 22 = some ctMod := rfl
  have h2 : cltrue.ct 20 = some ctKnownA := rfl
  have h3 : cltrue.ct 34 = some ctTrueA := rfl
  have h4 : cltrue.ct 59 = some ctReport := rfl
  have h5 : cltrue.ct 36 = some ctAdd := rfl
  have h6 : cltrue.ct 54 = some ctConflicts := rfl
  have h7 : cltrue.ct 45 = some ctFits := rfl
  have h8 : cltrue.ct 27 = some (ctRange poreV) := rfl
  have h9 : cltrue.ct 29 = some (ctRange fracV) := rfl
  have h10 : cltrue.ct 17 = some ctAwake := rfl
  unfold tltrue
  simp (maxSteps := 10000000) only [VC, allC, List.map_cons, List.map_nil, List.length_cons, List.length_nil, List.getElem?_cons_zero, List.getElem?_cons_succ, List.cons.injEq, C.i.injEq, C.b.injEq, and_true, true_and, forall_const, kindsOf_nil, kindsOf_lf, kindsOf_agg, kindsOf_box, boxKinds_nil, boxKinds_lf, boxKinds_agg, boxKinds_box, List.append_nil, List.cons_append, List.nil_append, den_cmp_le, den_cmp_lt, den_cmp_eq, den_cmp_ne, den_cmp_le', den_cmp_lt', den_cmp_eq', den_cmp_ne', den_and, den_and', den_or, den_or', den_not, den_not', den_blit, den_of, ev_var, at_0, at_1, at_2, at_3, at_4, at_5, at_6, at_7, at_skip, c_int, c_bool, c_arr, c_cnt, c_vec, ev_nil, ev_join, ev_sub3, loc_s, int_i, bool_b, rows_s, cs_nil, cs_cons, E.den_lit, E.den_var, E.den_add, E.den_sub, E.den_mul, E.den_quo, E.den_rem, E.den_max, E.den_min, E.den_len, E.den_wr, E.den_cell, ev_cell, kn2, h1, h2, h3, h4, h5, h6, h7, h8, h9, h10, ctMod, ctKnownA, ctTrueA, ctReport, ctAdd, ctConflicts, ctFits, ctRange, ctAwake, ctLaw, ctF, lineSh, rangeSh, groundSh, earthSh, vecEarth, reportSh, earthKs, truthSh, ofKn, n_, k_, earOf, grOf, shortE]
  intro b _ _ u1 r1 _ _ _ u2 r2 _ _ _ u3 r3 _ _ _ m _ _ x _ _
  generalize hg : (⟨b, ints r1, ints r2, ints r3⟩ : Gr) = g at *
  refine ⟨bds_nil _, fun xs => match xs with | [.i b, .s _ a1, .s _ a2, .s _ a3, .s _ a4, .i gl, .i gh, .s _ rr, .s _ p, .s _ f] => (⟨b, knots a1, knots a2, knots a3, knots a4, gl, gh, repsOf rr⟩ : Ear) = knownV g ∧ knots p = tpV g ∧ knots f = tfV g | _ => False, ?_, ?_⟩
  · rintro bt _ _ v11 r11 _ _ _ v12 r12 _ _ _ v13 r13 _ _ _ v14 r14 _ _ _ gl _ _ gh _ _ v17 r17 _ _ _ hk v18 r18 _ _ _ v19 r19 _ _ _ ⟨hp, hf⟩
    exact ⟨hk, hp, hf⟩
  rintro bt _ _ v11 r11 _ _ _ v12 r12 _ _ _ v13 r13 _ _ _ v14 r14 _ _ _ gl _ _ gh _ _ v17 r17 _ _ _ v18 r18 _ _ _ v19 r19 _ _ _ ⟨hk, hp, hf⟩
  have hB : bt = bottomV g := (congrArg Ear.bottom hk).trans (tp_end g)
  have bb := bottomV_bd g
  rw [hk, hp, hf]
  obtain ⟨L1, L2, L3, L4⟩ := true_law g m
  refine ⟨fun xs => match xs with | [.i b, .s _ a1, .s _ a2, .s _ a3, .s _ a4, .i gl, .i gh, .s _ rr, .i f] => (⟨b, knots a1, knots a2, knots a3, knots a4, gl, gh, repsOf rr⟩ : Ear) = (knownV g).more (repV (tpV g) (tfV g) m) ∧ f = 0 | _ => False, ?_, ?_⟩
  · have v := known_valid g
    have k1 : r11.length ≤ 24 := by rw [← knots_len, show knots r11 = (knownV g).pl from congrArg Ear.pl hk]; exact (lineE_box v.pl).1
    have k2 : r12.length ≤ 24 := by rw [← knots_len, show knots r12 = (knownV g).ph from congrArg Ear.ph hk]; exact (lineE_box v.ph).1
    have k3 : r13.length ≤ 24 := by rw [← knots_len, show knots r13 = (knownV g).fl from congrArg Ear.fl hk]; exact (lineE_box v.fl).1
    have k4 : r14.length ≤ 24 := by rw [← knots_len, show knots r14 = (knownV g).fh from congrArg Ear.fh hk]; exact (lineE_box v.fh).1
    have k7 : r17.length ≤ 8 := by
      have h1 : repsOf r17 = (knownV g).reps := congrArg Ear.reps hk
      have h2 : (repsOf r17).length = r17.length := by simp [repsOf]
      rw [← h2, h1]; exact known_reps g
    refine ⟨⟨tp_line g, tf_line g⟩, ?_⟩
    rintro n _ _ n1 _ _ n2 _ _ ⟨rfl, rfl, rfl⟩
    refine ⟨⟨by omega, by omega, by omega, by omega, by omega⟩, ?_⟩
    rintro n3 _ _ va ra _ _ _ vb rb _ _ _ vc rc _ _ _ vd rd _ _ _ n4 _ _ n5 _ _ ve re _ _ _ n6 _ _ ⟨e1, e2⟩
    exact ⟨e1.trans (congrArg Prod.fst L1), e2.trans (congrArg Prod.snd L1)⟩
  rintro bt' _ _ v21 r21 _ _ _ v22 r22 _ _ _ v23 r23 _ _ _ v24 r24 _ _ _ gl' _ _ gh' _ _ v27 r27 _ _ _ er _ _ ⟨hm, h0⟩
  rw [hm, L3]
  refine ⟨fun h => absurd h0 h, fun _ => ?_⟩
  rintro v rows _ _ _ ⟨_, _, e, hr⟩
  cases e
  rw [L2] at hr
  have hl : (rows.length : Int) = 0 := by rw [← lists_len, hr]; rfl
  refine ⟨fun h => absurd hl h, fun _ => ?_⟩
  rintro t ht
  refine ⟨fun h => (by rw [ht] at h; cases h), fun _ => ?_⟩
  rintro v' rows' _ _ _ ⟨_, _, e, hr'⟩
  cases e
  rw [L4] at hr'
  have hl' : (rows'.length : Int) = 0 := by rw [← lists_len, hr']; rfl
  refine ⟨fun h => absurd hl' h, fun _ => ⟨⟨by omega, by omega⟩, ⟨by omega, by omega⟩, by omega, ?_⟩⟩
  rintro z _ _ hz
  have z0 := Int.emod_nonneg x (b := bt + 1) (by omega)
  have z1 := Int.emod_lt_of_pos x (b := bt + 1) (by omega)
  rw [← hz] at z0 z1
  have hbot : (knownV g).bottom = bottomV g := tp_end g
  obtain ⟨⟨P, F⟩, ⟨P', F'⟩, q1, q2⟩ := true_at g m z0 (show z ≤ (knownV g).bottom by omega)
  obtain ⟨⟨w1, w2⟩, w3, w4⟩ := narrower (knownV g) (repV (tpV g) (tfV g) m) z
  rw [P, F, P', F']
  rintro a1 _ _ a2 _ _ ⟨ea1, ea2⟩ b1 _ _ b2 _ _ ⟨eb1, eb2⟩ c1 _ _ c2 _ _ ⟨ec1, ec2⟩ d1 _ _ d2 _ _ ⟨ed1, ed2⟩
  have ea1 : a1 = plV (knownV g) z := ea1
  have ea2 : a2 = phV (knownV g) z := ea2
  have eb1 : b1 = plV ((knownV g).more (repV (tpV g) (tfV g) m)) z := eb1
  have eb2 : b2 = phV ((knownV g).more (repV (tpV g) (tfV g) m)) z := eb2
  have ec1 : c1 = flV (knownV g) z := ec1
  have ec2 : c2 = fhV (knownV g) z := ec2
  have ed1 : d1 = flV ((knownV g).more (repV (tpV g) (tfV g) m)) z := ed1
  have ed2 : d2 = fhV ((knownV g).more (repV (tpV g) (tfV g) m)) z := ed2
  exact ⟨fun _ => ⟨fun _ => ⟨fun _ => ⟨fun _ => ⟨fun _ => ⟨fun _ t ht => ht, fun h => (by exfalso; omega)⟩, fun h => (by exfalso; omega)⟩, fun h => (by exfalso; omega)⟩, fun h => (by exfalso; omega)⟩, fun h => (by exfalso; omega)⟩, fun h => (by exfalso; omega)⟩
end Go.Proofs.Ytcglpbchejkolaa
/- Arguments of any shape that the engine knows, opened: structs, and slices within slices. -/
namespace Go.Proofs.Ytcglpbchejkolaa
open Go.ChangeShapes Go.WideShapes Go.RowKit
set_option linter.unusedVariables false
/-- A type of integers, truth values and slices, without arrays. -/
def flatB (P : Program) : Nat → TypeId → Bool
  | 0, _ => false
  | d + 1, t => match P.underlying t with
    | some (.int .i64) => true
    | some .bool => true
    | some (.slice _) => true
    | some (.struct fs) => fs.toList.all fun f => flatB P d f.type
    | _ => false
/-- What a slice of this kind holds is known, to depth n. -/
def deepB (P : Program) : Nat → Lk → Bool
  | _, .int => true
  | _, .bool => true
  | n + 1, .arr e => match kinds P e with
    | some ks => ks.all (deepB P n) && (P.cellsOf e == ks.length) && flatB P 6 e
    | none => false
  | _, _ => false
def CellN (P : Program) (w : World) (n : Nat) (k : Lk) (u : Value) (c : C) : Prop := (∀ m, c.small m) ∧ match k with
  | .int => ∃ n, u = .int .i64 n ∧ c = .i n
  | .bool => ∃ t, u = .bool t ∧ c = .b t
  | .arr t => ∃ rows', c = .s u rows' ∧ ArrN P (fun b _ => b < w.heap.size) w n t u rows'
  | .vec _ => False
def kStep (P : Program) (d : Nat) (acc : Option (List Lk)) (f : Field) : Option (List Lk) := match acc, kindsF P d f.type with
  | some l, some m => if l.length = f.offset then some (l ++ m) else none
  | _, _ => none
theorem kStep_none {P : Program} {d : Nat} : ∀ {fs : List Field}, fs.foldl (kStep P d) none = none
  | [] => rfl
  | f :: fs => by rw [List.foldl_cons]; exact kStep_none
theorem kStep_at {P : Program} {d : Nat} : ∀ {fs : List Field} {a ks : List Lk}, fs.foldl (kStep P d) (some a) = some ks → ∀ (j : Nat) (k : Lk), ks[j]? = some k →
    a[j]? = some k ∨ ∃ f ∈ fs, ∃ m, kindsF P d f.type = some m ∧ f.offset ≤ j ∧ m[j - f.offset]? = some k
  | [], a, ks, h, j, k, hj => by cases h; exact .inl hj
  | f :: fs, a, ks, h, j, k, hj => by
    rw [List.foldl_cons] at h
    cases hm : kindsF P d f.type with
    | none => rw [show kStep P d (some a) f = none by simp [kStep, hm], kStep_none] at h; cases h
    | some m =>
      by_cases hl : a.length = f.offset
      · rw [show kStep P d (some a) f = some (a ++ m) by simp [kStep, hm, hl]] at h
        rcases kStep_at h j k hj with h1 | ⟨g, hg, m', h2⟩
        · by_cases hja : j < a.length
          · rw [List.getElem?_append_left hja] at h1; exact .inl h1
          · rw [List.getElem?_append_right (by omega), hl] at h1
            exact .inr ⟨f, List.mem_cons_self .., m, hm, by omega, h1⟩
        · exact .inr ⟨g, List.mem_cons_of_mem _ hg, m', h2⟩
      · rw [show kStep P d (some a) f = none by simp [kStep, hm, hl], kStep_none] at h; cases h
theorem kinds_F {P : Program} {t : TypeId} {ks : List Lk} (h : kinds P t = some ks) : kindsF P 6 t = some ks := by
  unfold kinds at h
  split at h
  · rename_i l hl
    split at h
    · cases h; exact hl
    · cases h
  · cases h
section
variable {H : Type} {enc : TypeId × Value → H} {P : Program} {w : World} {base : Nat} {spare : Nat → Bool} {held : Bool}
theorem small_int {n : Int} (h : -9223372036854775808 ≤ n ∧ n ≤ 9223372036854775807) : ∀ m, (C.i n).small m := fun m => by cases m <;> exact h
theorem cells_deep : ∀ (fuel n d : Nat) (t : TypeId) (ks : List Lk) (cs : List Value) (x : DataW H × List MemPlace), kindsF P d t = some ks → flatB P d t = true →
    DataW.trod enc P w base spare held fuel t cs = some x → ∀ (j : Nat) (k : Lk), ks[j]? = some k → deepB P n k = true → ∃ u c, cs[j]? = some u ∧ CellN P w n k u c := by
  intro fuel
  induction fuel with
  | zero => intro n d t ks cs x _ _ hx; simp [DataW.trod] at hx
  | succ fuel ih =>
    intro n d t ks cs x hk hfl hx j k hj hall
    cases d with
    | zero => simp [kindsF] at hk
    | succ d =>
      unfold flatB at hfl
      cases hu : P.underlying t with
      | none => rw [hu] at hfl; cases hfl
      | some ty =>
      rw [hu] at hfl
      unfold kindsF at hk
      rw [hu] at hk
      match ty, hu, hfl, hk with
      | .int .i64, hu, hfl, hk =>
        cases hk
        obtain ⟨z, rfl, -, hwf⟩ := DataW.trod_int hu hx
        match j, hj with
        | 0, hj => cases hj; exact ⟨_, .i z, rfl, small_int (wf_bd hwf), z, rfl, rfl⟩
      | .bool, hu, hfl, hk =>
        cases hk
        obtain ⟨z, rfl, -⟩ := DataW.trod_bool hu hx
        match j, hj with
        | 0, hj => cases hj; exact ⟨_, .b z, rfl, fun m => by cases m <;> trivial, z, rfl, rfl⟩
      | .slice e, hu, hfl, hk =>
        cases hk
        match j, hj with
        | 0, hj =>
        cases hj
        cases n with
        | zero => simp [deepB] at hall
        | succ n =>
        have hd : deepB P (n + 1) (.arr e) = true := hall
        unfold deepB at hd
        cases hke : kinds P e with
        | none => rw [hke] at hd; cases hd
        | some kse =>
        rw [hke] at hd
        simp only [Bool.and_eq_true, beq_iff_eq] at hd
        obtain ⟨⟨hd1, hd2⟩, hd3⟩ := hd
        rcases DataW.trod_slice hu hx with ⟨rfl, -⟩ | ⟨a, len, cap, elems, rest, m, hm, rfl, -, -, hl, hc, hlen, hel, -, -⟩
        · refine ⟨_, .s (.slice none 0 0) [], rfl, fun m => ?_, [], rfl, kse, hke, none, 0, rfl, fun h => absurd rfl h⟩
          cases m with
          | zero => trivial
          | succ m => exact ⟨by simp, fun r hr => by cases hr⟩
        · cases hm
          have each : ∀ i, i < len → ∀ (j : Nat) (k : Lk), kse[j]? = some k → ∃ u c, w.cell? (a.add (i * kse.length + j)) = some u ∧ CellN P w n k u c := by
            intro i hi j k hj
            have h1 := hel i hi
            rw [List.getElem?_eq_getElem (by omega), hd2] at h1
            obtain ⟨cs', h2, h3⟩ := Option.bind_eq_some_iff.1 h1
            obtain ⟨_, hlen', hcell⟩ := World.cells?_some h2
            obtain ⟨u, c, h4, h5⟩ := ih n 6 e kse cs' _ (kinds_F hke) hd3 h3 j k hj (List.all_eq_true.1 hd1 k (List.mem_of_getElem? hj))
            refine ⟨u, c, ?_, h5⟩
            have hjl : j < kse.length := by
              rcases Nat.lt_or_ge j kse.length with h | h
              · exact h
              · rw [List.getElem?_eq_none h] at hj; cases hj
            rw [← h4, ← hcell j hjl, Go.Deep.add_add]
          have each2 : ∀ i j, ∃ c : C, i < len → ∀ k, kse[j]? = some k → ∃ u, w.cell? (a.add (i * kse.length + j)) = some u ∧ CellN P w n k u c := by
            intro i j
            by_cases hi : i < len
            · cases hj : kse[j]? with
              | none => exact ⟨.i 0, fun _ k h => by cases h⟩
              | some k =>
                obtain ⟨u, c, h1, h2⟩ := each i hi j k hj
                exact ⟨c, fun _ k' h => by cases h; exact ⟨u, h1, h2⟩⟩
            · exact ⟨.i 0, fun h => absurd h hi⟩
          let f : Nat → Nat → C := fun i j => (each2 i j).choose
          have hf : ∀ i j, i < len → ∀ k, kse[j]? = some k → ∃ u, w.cell? (a.add (i * kse.length + j)) = some u ∧ CellN P w n k u (f i j) := fun i j => (each2 i j).choose_spec
          let rows : List (List C) := (List.range len).map fun i => (List.range kse.length).map fun j => f i j
          have hrl : rows.length = len := by simp [rows]
          refine ⟨_, .s (.slice (some a) len cap) rows, rfl, fun q => ?_, rows, rfl, kse, hke, some a, cap, by rw [hrl], fun hne => ?_⟩
          · cases q with
            | zero => trivial
            | succ q =>
              refine ⟨by rw [hrl]; unfold maxLen at hc; omega, fun r hr c hcr => ?_⟩
              obtain ⟨i, hi, rfl⟩ := List.mem_map.1 hr
              obtain ⟨j, hj, rfl⟩ := List.mem_map.1 hcr
              rw [List.mem_range] at hi hj
              obtain ⟨u, -, h⟩ := hf i j hi _ (List.getElem?_eq_getElem hj)
              exact h.1 q
          · have hpos : 0 < len := by
              rcases Nat.eq_zero_or_pos len with h | h
              · exact absurd (List.eq_nil_of_length_eq_zero (by rw [hrl]; exact h)) hne
              · exact h
            have hk0 : 0 < kse.length := Nat.pos_of_ne_zero (kinds_size hke).2
            obtain ⟨u0, h0, -⟩ := hf 0 0 hpos _ (List.getElem?_eq_getElem hk0)
            obtain ⟨b, o, s⟩ := a
            have hs : s = none := by simpa [Addr.add] using World.cell?_spot h0
            subst hs
            have hblk : b < w.heap.size := by
              have := World.block_lt_of_cell? _ _ h0
              simpa [Addr.add] using this
            refine ⟨b, o, rfl, by rw [hrl]; exact hl, fun i r hi => ?_⟩
            have hi' : i < len := by
              rcases Nat.lt_or_ge i len with h | h
              · exact h
              · rw [List.getElem?_eq_none (by rw [hrl]; exact h)] at hi; cases hi
            have hr : r = (List.range kse.length).map fun j => f i j := by
              simp only [rows, List.getElem?_map, List.getElem?_range hi', Option.map_some] at hi
              exact (Option.some.inj hi).symm
            subst hr
            refine ⟨by simp, fun j k hj => ⟨hblk, ?_⟩⟩
            have hjl : j < kse.length := by
              rcases Nat.lt_or_ge j kse.length with h | h
              · exact h
              · rw [List.getElem?_eq_none h] at hj; cases hj
            obtain ⟨u, h1, h2⟩ := hf i j hi' k hj
            refine ⟨u, f i j, by rw [← Go.WideShapes.add_plain]; exact h1, by simp [List.getElem?_range hjl], ?_⟩
            exact h2.2
      | .struct fs, hu, hfl, hk =>
        obtain ⟨xs, m, hm, -, -, hxl, hf⟩ := DataW.trod_struct hu hx
        cases hm
        have hk' : fs.toList.foldl (kStep P d) (some []) = some ks := hk
        rcases kStep_at hk' j k hj with h | ⟨f, hfm, m', hm', ho, hmj⟩
        · simp at h
        · obtain ⟨i, hi⟩ := List.mem_iff_getElem?.1 hfm
          have hi' : fs[i]? = some f := by rw [← hi]; simp
          have hil : i < xs.length := by
            rw [hxl]
            rcases Nat.lt_or_ge i fs.size with h | h
            · exact h
            · rw [Array.getElem?_eq_none h] at hi'; cases hi'
          have hg := hf i f hi'
          rw [List.getElem?_eq_getElem hil] at hg
          obtain ⟨u, c, h1, h2⟩ := ih n d f.type m' _ _ hm' (List.all_eq_true.1 hfl f hfm) hg (j - f.offset) k hmj hall
          refine ⟨u, c, ?_, h2⟩
          rw [List.getElem?_take] at h1
          split at h1
          · rw [List.getElem?_drop] at h1
            rw [← h1]; congr 1; omega
          · cases h1
theorem CellN.rep {n : Nat} {k : Lk} {u : Value} {c : C} (h : CellN P w n k u c) : LRep P w (fun _ _ => False) k u c := by
  refine ⟨h.1, ?_⟩
  cases k with
  | int => exact h.2
  | bool => exact h.2
  | arr t =>
    obtain ⟨rows, rfl, hA⟩ := h.2
    exact ⟨rfl, u, rows, rfl, n, _, fun b o hb => ⟨hb, fun h => h⟩, hA⟩
  | vec t => exact h.2.elim
theorem lreps_of : ∀ {ks : List Lk} {us : List Value} {n : Nat}, us.length = ks.length → (∀ (j : Nat) (k : Lk), ks[j]? = some k → ∃ u c, us[j]? = some u ∧ CellN P w n k u c) → ∃ rs, LReps P w (fun _ _ => False) ks us rs
  | [], [], _, _, _ => ⟨[], trivial⟩
  | k :: ks, u :: us, n, hl, h => by
    obtain ⟨u', c, hu, hc⟩ := h 0 k rfl
    cases hu
    obtain ⟨rs, hr⟩ := lreps_of (ks := ks) (us := us) (n := n) (by simpa using hl) fun j k hj => h (j + 1) k hj
    exact ⟨c :: rs, hc.rep, hr⟩
  | [], _ :: _, _, hl, _ => by simp at hl
  | _ :: _, [], _, hl, _ => by simp at hl
/-- A struct of integers, truth values and slices among the arguments. -/
theorem open_agg {r : Reach} {b0 n : Nat} {t : TypeId} {fs : Array Field} {v : Value} {d : DataW H} {p : List MemPlace} {ks : List Lk} (hu : P.underlying t = some (.struct fs)) (hk : kindsF P 6 t = some ks) (hfl : flatB P 6 t = true)
    (hd : ks.all (deepB P n) = true) (hc : P.cellsOf t = ks.length) (hv : Value.okWide P w r b0 t v) (hx : DataW.Trod enc P w base spare held t v d p) :
    ∃ us : List Value, v = .agg us.toArray ∧ ∃ rs, LReps P w (fun _ _ => False) ks us rs := by
  obtain ⟨cs, rfl, hsz⟩ := okWide_struct hu hv
  obtain ⟨fuel, hf⟩ := hx
  have hf : DataW.trod enc P w base spare held fuel t cs.toList = some (d, p) := hf
  obtain ⟨-, -, -, -, hlen, -, -⟩ := DataW.trod_struct hu hf
  exact ⟨cs.toList, by simp, lreps_of (n := n) (hlen.trans hc) fun j k hj => cells_deep fuel n 6 t ks _ _ hk hfl hf j k hj (List.all_eq_true.1 hd k (List.mem_of_getElem? hj))⟩
end
theorem rep_struct {W : World} {O : Nat → Nat → Prop} {ss : List Sh0} {vs : List Value} {cs rs : List C} {us : List Value} {ks : List Lk} {old : Option Nat} (h : LReps Try.prog W O ks us rs) (hr : Reps Try.prog W O old ss vs cs) :
    Reps Try.prog W O old (.agg ks :: ss) (.agg us.toArray :: vs) (rs ++ cs) :=
  ⟨rs, _, rfl, ⟨us, rfl, h⟩, hr⟩
end Go.Proofs.Ytcglpbchejkolaa
/- The call of EarthTrue. -/
namespace Go.Proofs.Ytcglpbchejkolaa
open Go.RowKit
theorem walk_EarthTrue (V0 : Value) (a1 : Int) (a2 : Int) (W : World) (h0 : ∃ us : List Value, V0 = .agg us.toArray ∧ ∃ rs, LReps Try.prog W (fun _ _ => False) [.int, .arr 2, .arr 2, .arr 2] us rs) (h1 : -9223372036854775808 ≤ a1 ∧ a1 ≤ 9223372036854775807) (h2 : -9223372036854775808 ≤ a2 ∧ a2 ≤ 9223372036854775807) :
    Calls Try.prog 15 #[V0, .int .i64 a1, .int .i64 a2] W fun e w' => e = .returned (.bool true) ∧ Below W.heap.size W w' := by
  obtain ⟨us0, rfl, rs0, h0⟩ := h0
  exact law_walk ltrue_ok rfl (rep_struct h0 (rep_lf h1 (rep_lf h2 rfl)))
end Go.Proofs.Ytcglpbchejkolaa
namespace Go.Proofs.Ytcglpbchejkolaa.lawEarthTrue
open Go.ChangeShapes Go.WideShapes Go.ChangeAt Go.RowKit
set_option linter.unusedVariables false

set_option maxRecDepth 100000 in
theorem lifted (os : Os) (started : os.Started) (H : Type) (enc : TypeId × Value → H) :
    ReturnsInHanded {} Try.checked os 15 .any (Rows.earthTrueSpec.pre6 enc Try.prog Try.f15 Rows.earthTrueRow.domain false) (Rows.earthTrueSpec.post enc Try.prog Try.f15 false true false false) := by
  refine returnsInHanded_of_change (C := Try.checked) own started (by kernel_rfl) Try.func15
    (ChangeSpec.witness6 (enc := enc) (C := Try.checked) false ⟨#[], #[.agg #[.int .i64 0, .slice none 0 0, .slice none 0 0, .slice none 0 0], .int .i64 0, .int .i64 0], []⟩ 8 (by kernel_rfl) (by kernel_rfl) (by kernel_rfl) (by kernel_rfl)) ?_
  intro W base args ds gs before hval0 hW hcnd _
  have hval : ∀ (j : Nat) t v, Try.f15.params[j]? = some t → args[j]? = some v → Value.okWide Try.prog W .any base t v := hval0
  have hW' := hW
  obtain ⟨p, q, hA0, hV, rfl, hfz, hnd⟩ := hW
  have hA : DataW.TrodAll enc Try.prog W 0 (fun _ => true) true Try.f15.params.toList args.toList ds p := hA0
  rw [Try.params15] at hA hval
  obtain ⟨v0, vs0, d0, ds0, p0, q0, hargs, rfl, rfl, h0, r0⟩ := trodAll_cons hA
  obtain ⟨v1, vs1, d1, ds1, p1, q1, rfl, rfl, rfl, h1, r1⟩ := trodAll_cons r0
  obtain ⟨v2, vs2, d2, ds2, p2, q2, rfl, rfl, rfl, h2, r2⟩ := trodAll_cons r1
  obtain ⟨rfl, rfl, rfl⟩ := trodAll_nil r2
  obtain rfl : args = #[v0, v1, v2] := by cases args; simp_all
  obtain ⟨rfl, rfl⟩ := trodVars_none hV
  have k0 := h0
  have lt0 : ∀ x ∈ p0, x.block < W.heap.size := by obtain ⟨m, hm⟩ := k0; exact DataW.trod_lt m _ _ _ hm
  obtain ⟨us0, e0, b0⟩ := open_agg (n := 4) (ks := [.int, .arr 2, .arr 2, .arr 2]) Try.underlying32 (by kernel_rfl) (by kernel_rfl) (by kernel_rfl) (by kernel_rfl) (hval 0 32 v0 rfl rfl) h0
  have k1 := h1
  have lt1 : ∀ x ∈ p1, x.block < W.heap.size := by obtain ⟨m, hm⟩ := k1; exact DataW.trod_lt m _ _ _ hm
  obtain ⟨a1, e1, -, -, wf1⟩ := open_int Try.underlying2 (hval 1 2 v1 rfl rfl) h1
  subst e1
  have b1 := wf_bd wf1
  have k2 := h2
  have lt2 : ∀ x ∈ p2, x.block < W.heap.size := by obtain ⟨m, hm⟩ := k2; exact DataW.trod_lt m _ _ _ hm
  obtain ⟨a2, e2, -, -, wf2⟩ := open_int Try.underlying2 (hval 2 2 v2 rfl rfl) h2
  subst e2
  have b2 := wf_bd wf2
  clear hA0 hval0
  refine (walk_EarthTrue v0 a1 a2 W ⟨us0, e0, b0⟩ b1 b2).mono fun e W' ⟨he, bel⟩ => ?_
  subst he
  exact ⟨_, rfl, _, _, _, [], _, [], hW', trodAll_mk1 (shut_bool Try.underlying4 _), (trodAll_cons_mk (Below.trod laidOut (by kernel_rfl) (of_decide_eq_true (by kernel_rfl)) k0 bel lt0) (trodAll_cons_mk (Below.trod laidOut (by kernel_rfl) (of_decide_eq_true (by kernel_rfl)) k1 bel lt1) (trodAll_cons_mk (Below.trod laidOut (by kernel_rfl) (of_decide_eq_true (by kernel_rfl)) k2 bel lt2) trodAll_mk0))), rfl, bel.frame _, fun h => by cases h⟩

theorem over : Rows.earthTrueRow.holds Try.pinned (OpenSpec.ofChange Rows.earthTrueSpec) :=
  OpenClaim.holds_of_wide 15 Try.f15 rfl rfl rfl rfl rfl rfl rfl ⟨rfl, rfl, rfl, rfl, rfl⟩ rfl rfl rfl rfl rfl (by kernel_rfl) Try.func15 (by kernel_rfl)
    (of_decide_eq_true (by kernel_rfl)) (by unfold Func.isWrapper; first | (rw [if_pos (by decide +kernel)]; kernel_rfl) | (rw [if_neg (by decide +kernel)]; exact ⟨rfl, rfl⟩))
    (fun os started H enc _ => lifted os started H enc)

theorem proved : Rows.EarthTrueSaid := over
#print axioms proved
end Go.Proofs.Ytcglpbchejkolaa.lawEarthTrue
