/- The law EarthChecks: for every input the call returns true, and each argument reads afterwards as it read before. The frame is printed by frame.py. -/
import Derived.Test.YtcglpbchejkolaaChecks10
import Derived.Test.YtcglpbchejkolaaRows
import Derived.ShutString
import Derived.ChangeOld
/- Earth: lines compared everywhere: plain laws. -/
namespace Go.Proofs.Ytcglpbchejkolaa
open Go.RowKit
set_option linter.unusedSimpArgs false
set_option linter.unusedVariables false

theorem geP_iff {p q : Int × Int × Int} (p0 : 0 ≤ p.2.1) (p1 : p.2.1 < p.2.2) (q0 : 0 ≤ q.2.1) (q1 : q.2.1 < q.2.2) : geP p q = true ↔ (q.1 * q.2.2 + q.2.1) * p.2.2 ≤ (p.1 * p.2.2 + p.2.1) * q.2.2 := by
  obtain ⟨a, n, d⟩ := p
  obtain ⟨b, m, f⟩ := q
  simp only [] at p0 p1 q0 q1
  unfold geP
  simp only [Bool.or_eq_true, Bool.and_eq_true, decide_eq_true_eq, beq_iff_eq]
  have e1 : (b * f + m) * d = b * (d * f) + m * d := by rw [Int.add_mul, Int.mul_assoc, Int.mul_comm f d]
  have e2 : (a * d + n) * f = a * (d * f) + n * f := by rw [Int.add_mul, Int.mul_assoc]
  rw [e1, e2]
  have m0 : 0 ≤ m * d := Int.mul_nonneg q0 (by omega)
  have m1 : m * d < f * d := Int.mul_lt_mul_of_pos_right q1 (by omega)
  have n0 : 0 ≤ n * f := Int.mul_nonneg p0 (by omega)
  have n1 : n * f < d * f := Int.mul_lt_mul_of_pos_right p1 (by omega)
  have c : f * d = d * f := Int.mul_comm _ _
  have hdf : 0 ≤ d * f := Int.mul_nonneg (by omega) (by omega)
  rcases Int.lt_trichotomy b a with h | h | h
  · have := Int.mul_le_mul_of_nonneg_right (show b + 1 ≤ a by omega) hdf
    rw [Int.add_mul, Int.one_mul] at this
    exact ⟨fun _ => by omega, fun _ => .inl h⟩
  · subst h
    exact ⟨fun hh => by omega, fun hh => .inr ⟨rfl, by omega⟩⟩
  · have := Int.mul_le_mul_of_nonneg_right (show a + 1 ≤ b by omega) hdf
    rw [Int.add_mul, Int.one_mul] at this
    exact ⟨fun hh => by omega, fun hh => by omega⟩
/-- The value of a place is A / D. -/
def Is (t : Int × Int × Int) (A D : Int) : Prop := 0 < D ∧ 0 ≤ t.2.1 ∧ t.2.1 < t.2.2 ∧ (t.1 * t.2.2 + t.2.1) * D = A * t.2.2
theorem Is.ge {p q : Int × Int × Int} {A D B E : Int} (hp : Is p A D) (hq : Is q B E) : geP p q = true ↔ B * D ≤ A * E := by
  obtain ⟨d0, p0, p1, hp⟩ := hp
  obtain ⟨e0, q0, q1, hq⟩ := hq
  rw [geP_iff p0 p1 q0 q1]
  generalize p.1 * p.2.2 + p.2.1 = N at *
  generalize q.1 * q.2.2 + q.2.1 = M at *
  generalize p.2.2 = d at *
  generalize q.2.2 = f at *
  have k1 : M * d * (D * E) = B * D * (d * f) := by
    rw [show M * d * (D * E) = M * E * (D * d) by ac_rfl, hq]; ac_rfl
  have k2 : N * f * (D * E) = A * E * (d * f) := by
    rw [show N * f * (D * E) = N * D * (E * f) by ac_rfl, hp]; ac_rfl
  have p1 : 0 < D * E := Int.mul_pos d0 e0
  have p2 : 0 < d * f := Int.mul_pos (by omega) (by omega)
  constructor
  · intro h
    have := Int.mul_le_mul_of_nonneg_right h (Int.le_of_lt p1)
    rw [k1, k2] at this
    exact Int.le_of_mul_le_mul_right this p2
  · intro h
    have := Int.mul_le_mul_of_nonneg_right h (Int.le_of_lt p2)
    rw [← k1, ← k2] at this
    exact Int.le_of_mul_le_mul_right this p1
theorem geP_trans {p q r : Int × Int × Int} (hp : 0 ≤ p.2.1 ∧ p.2.1 < p.2.2) (hq : 0 ≤ q.2.1 ∧ q.2.1 < q.2.2) (hr : 0 ≤ r.2.1 ∧ r.2.1 < r.2.2) (h1 : geP p q = true) (h2 : geP q r = true) : geP p r = true := by
  rw [geP_iff hp.1 hp.2 hq.1 hq.2] at h1
  rw [geP_iff hq.1 hq.2 hr.1 hr.2] at h2
  rw [geP_iff hp.1 hp.2 hr.1 hr.2]
  generalize p.1 * p.2.2 + p.2.1 = N at *
  generalize q.1 * q.2.2 + q.2.1 = M at *
  generalize r.1 * r.2.2 + r.2.1 = K at *
  have a1 := Int.mul_le_mul_of_nonneg_right h1 (show 0 ≤ r.2.2 by omega)
  have a2 := Int.mul_le_mul_of_nonneg_right h2 (show 0 ≤ p.2.2 by omega)
  have c1 : M * p.2.2 * r.2.2 = M * r.2.2 * p.2.2 := by ac_rfl
  have c2 : K * q.2.2 * p.2.2 = K * p.2.2 * q.2.2 := by ac_rfl
  have c3 : N * q.2.2 * r.2.2 = N * r.2.2 * q.2.2 := by ac_rfl
  rw [c1, c3] at a1
  rw [c2] at a2
  exact Int.le_of_mul_le_mul_right (Int.le_trans a2 a1) (show 0 < q.2.2 by omega)
theorem geP_refl (p : Int × Int × Int) : geP p p = true := by
  unfold geP
  simp
/-- What is at least another one has its ends at least there, too. -/
theorem geP_range {p q : Int × Int × Int} (hp : 0 ≤ p.2.1 ∧ p.2.1 < p.2.2) (hq : 0 ≤ q.2.1 ∧ q.2.1 < q.2.2) (h : geP p q = true) : q.1 ≤ p.1 ∧ q.1 + min q.2.1 1 ≤ p.1 + min p.2.1 1 := by
  unfold geP at h
  simp only [Bool.or_eq_true, Bool.and_eq_true, decide_eq_true_eq, beq_iff_eq] at h
  rcases h with h | ⟨h, h2⟩
  · omega
  · by_cases e : q.2.1 = 0
    · omega
    · have := Int.mul_pos (show 0 < q.2.1 by omega) (show 0 < p.2.2 by omega)
      have : 0 < p.2.1 := by
        rcases Int.lt_or_le 0 p.2.1 with h3 | h3
        · exact h3
        · have h4 : p.2.1 = 0 := by omega
          rw [h4, Int.zero_mul] at h2
          omega
      omega
/-! Values of a line, part by part, as fractions -/
theorem valP_low {ks : List Kn} (ha : Asc ks) (h0 : 0 < ks.length) {y : Int} (hy : y ≤ (ks.getD 0 (0, 0)).1) : valP ks y = ((ks.getD 0 (0, 0)).2, 0, 1) := by
  have hf := findV_at (ks := ks) (by intro e; rw [e] at h0; simp at h0) (x := y) (i := 0) (by omega) (fun k hk => by omega) (fun k _ h4 => by
    rcases Nat.eq_zero_or_pos k with h5 | h5
    · rw [h5]; exact hy
    · have := ha.lt (i := 0) (j := k) h5 h4; omega)
  have hf : findV ks y = (ks.getD 0 (0, 0), ks.getD 0 (0, 0)) := by rw [hf]; split <;> simp
  unfold valP partAt
  rw [hf, if_pos rfl]
theorem valP_high {ks : List Kn} (ha : Asc ks) (h0 : 0 < ks.length) {y : Int} (hy : (ks.getD (ks.length - 1) (0, 0)).1 ≤ y) : valP ks y = ((ks.getD (ks.length - 1) (0, 0)).2, 0, 1) := by
  by_cases e : (ks.getD (ks.length - 1) (0, 0)).1 = y
  · rw [← e, valP_knot ha (getD_mem (by omega) _)]
  have hf := findV_at (ks := ks) (by intro e; rw [e] at h0; simp at h0) (x := y) (i := ks.length) (by omega) (fun k hk => by
    rcases Nat.lt_or_ge k (ks.length - 1) with h5 | h5
    · have := ha.lt (i := k) (j := ks.length - 1) h5 (by omega); omega
    · rw [show k = ks.length - 1 by omega]; omega) (fun k h3 h4 => by omega)
  rw [if_neg (fun h => by omega), show min ks.length (ks.length - 1) = ks.length - 1 by omega] at hf
  unfold valP partAt
  rw [hf, if_pos rfl]
theorem Is.const (v x : Int) : Is (v, 0, 1) (v + 0 * x) 1 := by
  refine ⟨by decide, Int.le_refl _, by show (0 : Int) < 1; decide, ?_⟩
  simp
theorem Is_mid {ks : List Kn} (ha : Asc ks) {i : Nat} (h1 : 0 < i) (h2 : i < ks.length) {y : Int} (hy : (ks.getD (i - 1) (0, 0)).1 ≤ y) (hy2 : y ≤ (ks.getD i (0, 0)).1) :
    Is (valP ks y) ((ks.getD (i - 1) (0, 0)).2 * ((ks.getD i (0, 0)).1 - (ks.getD (i - 1) (0, 0)).1) - ((ks.getD i (0, 0)).2 - (ks.getD (i - 1) (0, 0)).2) * (ks.getD (i - 1) (0, 0)).1 + ((ks.getD i (0, 0)).2 - (ks.getD (i - 1) (0, 0)).2) * y) ((ks.getD i (0, 0)).1 - (ks.getD (i - 1) (0, 0)).1) := by
  have hlt := ha.lt (i := i - 1) (j := i) (by omega) h2
  have hp := getD_mem (l := ks) (i := i - 1) (by omega) (0, 0)
  have hq := getD_mem (l := ks) (i := i) h2 (0, 0)
  have hbefore : ∀ k < i, (ks.getD (i - 1) (0, 0)).1 < y → (ks.getD k (0, 0)).1 < y := fun k hk h => by
    rcases Nat.lt_or_ge k (i - 1) with h3 | h3
    · have := ha.lt (i := k) (j := i - 1) h3 (by omega); omega
    · rw [show k = i - 1 by omega]; exact h
  have hafter : ∀ k, i ≤ k → k < ks.length → y ≤ (ks.getD k (0, 0)).1 := fun k h3 h4 => by
    rcases Nat.lt_or_ge i k with h5 | h5
    · have := ha.lt (i := i) (j := k) h5 h4; omega
    · rw [show k = i by omega]; exact hy2
  by_cases e1 : (ks.getD (i - 1) (0, 0)).1 = y
  · rw [← e1, valP_knot ha hp]
    refine ⟨by omega, Int.le_refl _, by show (0 : Int) < 1; decide, ?_⟩
    simp only [Int.mul_one, Int.add_zero]
    omega
  by_cases e2 : (ks.getD i (0, 0)).1 = y
  · rw [← e2, valP_knot ha hq]
    refine ⟨by omega, Int.le_refl _, by show (0 : Int) < 1; decide, ?_⟩
    simp only [Int.mul_one, Int.add_zero]
    simp only [Int.mul_sub, Int.sub_mul]
    omega
  have hf := findV_at (ks := ks) (by intro e; rw [e] at h2; simp at h2) (x := y) (i := i) (by omega) (fun k hk => hbefore k hk (by omega)) hafter
  rw [if_neg (fun h => e2 h.2), show min i (ks.length - 1) = i by omega] at hf
  unfold valP partAt
  rw [hf]
  generalize ks.getD (i - 1) (0, 0) = p at *
  generalize ks.getD i (0, 0) = q at *
  rw [if_neg (fun h : p = q => by rw [h] at hlt; omega)]
  unfold segP
  have hL : 0 < q.1 - p.1 := by omega
  refine ⟨hL, Int.emod_nonneg _ (show q.1 - p.1 ≠ 0 by omega), Int.emod_lt_of_pos _ hL, ?_⟩
  simp only []
  refine congrArg (· * (q.1 - p.1)) ?_
  have e := Int.mul_ediv_add_emod ((q.2 - p.2) * (y - p.1)) (q.1 - p.1)
  have e3 : (q.2 - p.2) * (y - p.1) = (q.2 - p.2) * y - (q.2 - p.2) * p.1 := Int.mul_sub _ _ _
  rw [Int.add_mul, Int.mul_comm ((q.2 - p.2) * (y - p.1) / (q.1 - p.1)) (q.1 - p.1)]
  omega
/-- A part on which a line is straight. -/
def Aff (ks : List Kn) (a b : Int) : Prop := ∃ A M D : Int, ∀ x, a ≤ x → x ≤ b → Is (valP ks x) (A + M * x) D
theorem Aff.part {ks : List Kn} {a b a' b' : Int} (h : Aff ks a b) (h1 : a ≤ a') (h2 : b' ≤ b) : Aff ks a' b' := by
  obtain ⟨A, M, D, h⟩ := h
  exact ⟨A, M, D, fun x k1 k2 => h x (by omega) (by omega)⟩
theorem ge_between {u l : List Kn} {a b x : Int} (hu : Aff u a b) (hl : Aff l a b) (h1 : a ≤ x) (h2 : x ≤ b) (g1 : geP (valP u a) (valP l a) = true) (g2 : geP (valP u b) (valP l b) = true) : geP (valP u x) (valP l x) = true := by
  obtain ⟨A, M, D, hu⟩ := hu
  obtain ⟨B, N, E, hl⟩ := hl
  rw [(hu a (Int.le_refl _) (by omega)).ge (hl a (Int.le_refl _) (by omega))] at g1
  rw [(hu b (by omega) (Int.le_refl _)).ge (hl b (by omega) (Int.le_refl _))] at g2
  rw [(hu x h1 h2).ge (hl x h1 h2)]
  have e : ∀ y : Int, (A + M * y) * E - (B + N * y) * D = (A * E - B * D) + (M * E - N * D) * y := fun y => by
    rw [Int.add_mul, Int.add_mul, Int.sub_mul, show M * y * E = M * E * y by ac_rfl, show N * y * D = N * D * y by ac_rfl]; omega
  have ea := e a
  have eb := e b
  have ex := e x
  generalize A * E - B * D = F at *
  generalize M * E - N * D = S at *
  rcases Int.le_total 0 S with hs | hs
  · have := Int.mul_le_mul_of_nonneg_left h1 hs
    omega
  · have := Int.mul_le_mul_of_nonpos_left hs h2
    omega
/-- Within a part each place lies in a smaller one, between knots or the part's ends, on which the line is straight. -/
theorem pieceA {ks : List Kn} (ha : Asc ks) (h0 : 0 < ks.length) {u w x : Int} (hu : u ≤ x) (hw : x ≤ w) : ∃ a b, u ≤ a ∧ a ≤ x ∧ x ≤ b ∧ b ≤ w ∧ Aff ks a b ∧ (a = u ∨ ∃ k ∈ ks, k.1 = a) ∧ (b = w ∨ ∃ k ∈ ks, k.1 = b) := by
  obtain ⟨i, hi, h1, h2⟩ := split_at ha x
  by_cases e0 : i = 0
  · subst e0
    have hx := h2 0 (Nat.le_refl _) h0
    by_cases hb : (ks.getD 0 (0, 0)).1 ≤ w
    · exact ⟨u, (ks.getD 0 (0, 0)).1, Int.le_refl _, hu, hx, hb, ⟨_, _, _, fun y _ h5 => by rw [valP_low ha h0 h5]; exact Is.const _ _⟩, .inl rfl, .inr ⟨_, getD_mem h0 _, rfl⟩⟩
    · exact ⟨u, w, Int.le_refl _, hu, hw, Int.le_refl _, ⟨_, _, _, fun y _ h5 => by rw [valP_low ha h0 (by omega)]; exact Is.const _ _⟩, .inl rfl, .inl rfl⟩
  have hp := h1 (i - 1) (by omega)
  have lo : ∃ a, u ≤ a ∧ a ≤ x ∧ (ks.getD (i - 1) (0, 0)).1 ≤ a ∧ (a = u ∨ ∃ k ∈ ks, k.1 = a) := by
    by_cases h : u ≤ (ks.getD (i - 1) (0, 0)).1
    · exact ⟨_, h, by omega, Int.le_refl _, .inr ⟨_, getD_mem (by omega) _, rfl⟩⟩
    · exact ⟨u, Int.le_refl _, hu, by omega, .inl rfl⟩
  obtain ⟨a, a1, a2, a3, a4⟩ := lo
  by_cases e1 : i = ks.length
  · subst e1
    exact ⟨a, w, a1, a2, hw, Int.le_refl _, ⟨_, _, _, fun y h3 _ => by rw [valP_high ha h0 (by omega)]; exact Is.const _ _⟩, a4, .inl rfl⟩
  have hq := h2 i (Nat.le_refl _) (by omega)
  have hlt := ha.lt (i := i - 1) (j := i) (by omega) (by omega)
  have hi' : ∃ b, x ≤ b ∧ b ≤ w ∧ b ≤ (ks.getD i (0, 0)).1 ∧ (b = w ∨ ∃ k ∈ ks, k.1 = b) := by
    by_cases h : (ks.getD i (0, 0)).1 ≤ w
    · exact ⟨_, hq, h, Int.le_refl _, .inr ⟨_, getD_mem (by omega) _, rfl⟩⟩
    · exact ⟨w, hw, Int.le_refl _, by omega, .inl rfl⟩
  obtain ⟨b, b1, b2, b3, b4⟩ := hi'
  have hA : Aff ks a b := ⟨_, _, _, fun y h3 h4 => Is_mid ha (i := i) (y := y) (Nat.pos_of_ne_zero e0) (Nat.lt_of_le_of_ne hi e1) (Int.le_trans a3 h3) (Int.le_trans h4 b3)⟩
  exact ⟨a, b, a1, a2, b1, b2, hA, a4, b4⟩
/-- A line that is at least another one at a part's ends and at the knots of both is so in the part. -/
theorem ge_in {u l : List Kn} (hu : Asc u) (u0 : 0 < u.length) (hl : Asc l) (l0 : 0 < l.length) {lo hi x : Int} (h1 : lo ≤ x) (h2 : x ≤ hi) (g1 : geP (valP u lo) (valP l lo) = true) (g2 : geP (valP u hi) (valP l hi) = true) (g : ∀ k, k ∈ u ∨ k ∈ l → lo ≤ k.1 → k.1 ≤ hi → geP (valP u k.1) (valP l k.1) = true) : geP (valP u x) (valP l x) = true := by
  obtain ⟨a, b, a1, a2, b1, b2, hA, ea, eb⟩ := pieceA hu u0 h1 h2
  obtain ⟨a', b', a3, a4, b3, b4, hB, ea', eb'⟩ := pieceA hl l0 a2 b1
  have ga : geP (valP u a) (valP l a) = true := by
    rcases ea with rfl | ⟨k, hk, rfl⟩
    · exact g1
    · exact g k (.inl hk) a1 (by omega)
  have gb : geP (valP u b) (valP l b) = true := by
    rcases eb with rfl | ⟨k, hk, rfl⟩
    · exact g2
    · exact g k (.inl hk) (by omega) b2
  refine ge_between (hA.part a3 b4) hB a4 b3 ?_ ?_
  · rcases ea' with rfl | ⟨k, hk, rfl⟩
    · exact ga
    · exact g k (.inr hk) (by omega) (by omega)
  · rcases eb' with rfl | ⟨k, hk, rfl⟩
    · exact gb
    · exact g k (.inr hk) (by omega) (by omega)
theorem first_last {ks : List Kn} (ha : Asc ks) (h0 : 0 < ks.length) {k : Kn} (hk : k ∈ ks) : (ks.getD 0 (0, 0)).1 ≤ k.1 ∧ k.1 ≤ (ks.getD (ks.length - 1) (0, 0)).1 := by
  obtain ⟨i, hi, rfl⟩ := List.getElem_of_mem hk
  have e : ks[i] = ks.getD i (0, 0) := by rw [List.getD_eq_getElem?_getD, List.getElem?_eq_getElem hi]; rfl
  rw [e]
  constructor
  · rcases Nat.eq_zero_or_pos i with h | h
    · rw [h]; exact Int.le_refl _
    · exact Int.le_of_lt (ha.lt h hi)
  · rcases Nat.lt_or_ge i (ks.length - 1) with h | h
    · exact Int.le_of_lt (ha.lt h (by omega))
    · rw [show i = ks.length - 1 by omega]; exact Int.le_refl _
/-- .. at the knots of both: everywhere. -/
theorem ge_all {u l : List Kn} (hu : Asc u) (u0 : 0 < u.length) (hl : Asc l) (l0 : 0 < l.length) (g : ∀ k, k ∈ u ∨ k ∈ l → geP (valP u k.1) (valP l k.1) = true) (x : Int) : geP (valP u x) (valP l x) = true := by
  have mu := getD_mem u0 (0, 0)
  have ml := getD_mem l0 (0, 0)
  have nu := getD_mem (l := u) (i := u.length - 1) (by omega) (0, 0)
  have nl := getD_mem (l := l) (i := l.length - 1) (by omega) (0, 0)
  -- below the first knots
  have low : ∀ y, y ≤ (u.getD 0 (0, 0)).1 → y ≤ (l.getD 0 (0, 0)).1 → geP (valP u y) (valP l y) = true := fun y h1 h2 => by
    rcases Int.le_total (u.getD 0 (0, 0)).1 (l.getD 0 (0, 0)).1 with h | h
    · have := g _ (.inl mu)
      rw [valP_low hu u0 (Int.le_refl _), valP_low hl l0 h] at this
      rw [valP_low hu u0 h1, valP_low hl l0 h2]; exact this
    · have := g _ (.inr ml)
      rw [valP_low hu u0 h, valP_low hl l0 (Int.le_refl _)] at this
      rw [valP_low hu u0 h1, valP_low hl l0 h2]; exact this
  have high : ∀ y, (u.getD (u.length - 1) (0, 0)).1 ≤ y → (l.getD (l.length - 1) (0, 0)).1 ≤ y → geP (valP u y) (valP l y) = true := fun y h1 h2 => by
    rcases Int.le_total (u.getD (u.length - 1) (0, 0)).1 (l.getD (l.length - 1) (0, 0)).1 with h | h
    · have := g _ (.inr nl)
      rw [valP_high hu u0 h, valP_high hl l0 (Int.le_refl _)] at this
      rw [valP_high hu u0 h1, valP_high hl l0 h2]; exact this
    · have := g _ (.inl nu)
      rw [valP_high hu u0 (Int.le_refl _), valP_high hl l0 h] at this
      rw [valP_high hu u0 h1, valP_high hl l0 h2]; exact this
  have g1 := low (min x (min (u.getD 0 (0, 0)).1 (l.getD 0 (0, 0)).1)) (by omega) (by omega)
  have g2 := high (max x (max (u.getD (u.length - 1) (0, 0)).1 (l.getD (l.length - 1) (0, 0)).1)) (by omega) (by omega)
  exact ge_in hu u0 hl l0 (by omega) (by omega) g1 g2 fun k hk _ _ => g k hk
theorem Good.pos {ks : List Kn} (h : Good ks) : 0 < ks.length := List.length_pos_iff.2 h.ne
theorem above_all {u l : List Kn} (hu : Good u) (hl : Good l) (h : ab u l = true) (x : Int) : geP (valP u x) (valP l x) = true := by
  refine ge_all hu.asc hu.pos hl.asc hl.pos (fun k hk => ?_) x
  unfold ab aboveV at h
  rw [List.all_eq_true] at h
  have h2 := h k (List.mem_append.2 hk)
  have hb : k.1 ≤ 1099511627776 := by
    rcases hk with hk | hk
    · exact (hu.bd hk).2.1
    · exact (hl.bd hk).2.1
  rw [decide_eq_false (by omega), Bool.false_or] at h2
  exact h2
theorem ab_of {u l : List Kn} (h : ∀ k, k ∈ u ∨ k ∈ l → geP (valP u k.1) (valP l k.1) = true) : ab u l = true := by
  unfold ab aboveV
  rw [List.all_eq_true]
  intro k hk
  rw [h k (List.mem_append.1 hk), Bool.or_true]
theorem Good.wf {ks : List Kn} (h : Good ks) (x : Int) : 0 ≤ (valP ks x).2.1 ∧ (valP ks x).2.1 < (valP ks x).2.2 := ⟨(h.val x).1, (h.val x).2.1⟩
theorem ab_refl (a : List Kn) : ab a a = true := ab_of fun k _ => geP_refl _
theorem ab_trans {a b c : List Kn} (ha : Good a) (hb : Good b) (hc : Good c) (h1 : ab a b = true) (h2 : ab b c = true) : ab a c = true :=
  ab_of fun k _ => geP_trans (ha.wf _) (hb.wf _) (hc.wf _) (above_all ha hb h1 _) (above_all hb hc h2 _)
theorem above_range {u l : List Kn} (hu : Good u) (hl : Good l) {x : Int} (h : geP (valP u x) (valP l x) = true) : le2 (rangeP l x) (rangeP u x) := geP_range (hu.wf _) (hl.wf _) h
/-- A line with one knot more behind its end, as high as that. -/
theorem ext_val {a : List Kn} (ha : Good a) {m : List Kn} (hm : Good m) {k : Kn} (he : m = a ++ [k]) (hk : k.2 = (a.getD (a.length - 1) (0, 0)).2) (h1 : (a.getD (a.length - 1) (0, 0)).1 ≤ k.1) : ∀ x, x ∈ a ∨ x ∈ m → valP a x.1 = valP m x.1 := by
  intro x hx
  have hm' : x ∈ m := by
    rcases hx with hx | hx
    · rw [he]; exact List.mem_append_left _ hx
    · exact hx
  rw [valP_knot hm.asc hm']
  rw [he] at hm'
  rcases List.mem_append.1 hm' with h | h
  · rw [valP_knot ha.asc h]
  · rw [List.mem_singleton] at h
    subst h
    rw [valP_high ha.asc ha.pos h1, hk]
end Go.Proofs.Ytcglpbchejkolaa
/- Earth: a truth that fits lies in the ranges: plain laws. -/
namespace Go.Proofs.Ytcglpbchejkolaa
open Go.RowKit
set_option linter.unusedSimpArgs false
set_option linter.unusedVariables false

theorem Rise.len_pos {gl gh B : Int} {l : List Kn} (h : Rise gl gh B l) : 0 < l.length := List.length_pos_iff.2 h.ne
theorem Rise.last {gl gh B : Int} {l : List Kn} (h : Rise gl gh B l) : (l.getD (l.length - 1) (0, 0)).1 = B := h.end
/-- One cm's step within a line: how much it rises at least, too. -/
theorem Rise.stepIn {gl gh B : Int} {l : List Kn} (h : Rise gl gh B l) {z : Int} (h1 : (l.getD 0 (0, 0)).1 ≤ z) (h2 : z + 1 ≤ B) : ((rangeP l z).1 + gl ≤ (rangeP l (z + 1)).1 ∧ (rangeP l (z + 1)).1 ≤ (rangeP l z).1 + gh) ∧ (rangeP l z).2 + gl ≤ (rangeP l (z + 1)).2 ∧ (rangeP l (z + 1)).2 ≤ (rangeP l z).2 + gh := by
  have ha := h.asc
  have hl := h.len_pos
  have he := h.last
  obtain ⟨i, hi, g1, g2⟩ := split_at ha (z + 1)
  by_cases e0 : i = 0
  · subst e0
    have := g2 0 (Nat.le_refl _) hl
    omega
  have hp := g1 (i - 1) (by omega)
  by_cases e1 : i = l.length
  · rw [e1, he] at hp
    omega
  have hq := g2 i (Nat.le_refl _) (by omega)
  have hlt := ha.lt (i := i - 1) (j := i) (by omega) (by omega)
  obtain ⟨s1, s2⟩ := h.slope (i := i) (by omega) (by omega)
  rw [val_mid ha (i := i) (y := z) (by omega) (by omega) (by omega) (by omega), val_mid ha (i := i) (y := z + 1) (by omega) (by omega) (by omega) (by omega)]
  exact segR_step (z := z) hlt s1 s2
/-- .. and from place to place. -/
theorem Rise.far {gl gh B : Int} {l : List Kn} (h : Rise gl gh B l) {x : Int} (h1 : (l.getD 0 (0, 0)).1 ≤ x) : ∀ (n : Nat), x + n ≤ B → ((rangeP l x).1 + gl * n ≤ (rangeP l (x + n)).1 ∧ (rangeP l (x + n)).1 ≤ (rangeP l x).1 + gh * n) ∧ (rangeP l x).2 + gl * n ≤ (rangeP l (x + n)).2 ∧ (rangeP l (x + n)).2 ≤ (rangeP l x).2 + gh * n
  | 0, _ => by simp
  | n + 1, hn => by
    have ih := h.far h1 n (by omega)
    have st := h.stepIn (z := x + n) (by omega) (by omega)
    rw [show x + ((n + 1 : Nat) : Int) = x + n + 1 by omega, show ((n + 1 : Nat) : Int) = (n : Int) + 1 by omega, Int.mul_add, Int.mul_add, Int.mul_one, Int.mul_one]
    omega
theorem Rise.far2 {gl gh B : Int} {l : List Kn} (h : Rise gl gh B l) {x y : Int} (h1 : (l.getD 0 (0, 0)).1 ≤ x) (h2 : x ≤ y) (h3 : y ≤ B) : ((rangeP l x).1 + gl * (y - x) ≤ (rangeP l y).1 ∧ (rangeP l y).1 ≤ (rangeP l x).1 + gh * (y - x)) ∧ (rangeP l x).2 + gl * (y - x) ≤ (rangeP l y).2 ∧ (rangeP l y).2 ≤ (rangeP l x).2 + gh * (y - x) := by
  have := h.far h1 (y - x).toNat (by omega)
  rw [show x + ((y - x).toNat : Int) = y by omega, show ((y - x).toNat : Int) = y - x by omega] at this
  exact this
theorem Rise.of_grows {gl gh B : Int} : ∀ {l : List Kn}, l ≠ [] → Asc l → growsV gl gh l = true → (∀ k ∈ l, k.1 ≤ B) → endV l = B → Rise gl gh B l
  | [], h, _, _, _, _ => absurd rfl h
  | [(a, v)], _, _, _, _, he => by
    have : a = B := he
    subst this; exact .one v
  | (a, v) :: (a', v') :: l, _, .cons hlt ht, hg, hb, he => by
    rw [growsV, Bool.and_eq_true, inV_iff] at hg
    exact .cons hlt (hb (a', v') (by simp)) hg.1.1 hg.1.2 (Rise.of_grows (by simp) ht hg.2 (fun k hk => hb k (by simp [hk])) (by
      unfold endV at he ⊢; simpa using he))
theorem Rise.grows {gl gh B : Int} : ∀ {l : List Kn}, Rise gl gh B l → growsV gl gh l = true
  | [], _ => rfl
  | [k], _ => rfl
  | k :: k' :: l, .cons ha hB h1 h2 ht => by
    rw [growsV, Bool.and_eq_true, inV_iff]
    exact ⟨⟨h1, h2⟩, ht.grows⟩
theorem Asc.le_end {l : List Kn} (ha : Asc l) (h0 : 0 < l.length) {k : Kn} (hk : k ∈ l) : k.1 ≤ endV l := (first_last ha h0 hk).2
/-! Lines over lines from 0 to a bottom -/
theorem spans_ge {u l : List Kn} {B : Int} (hu : Good u) (hl : Good l) (h : spansV u l B = true) {x : Int} (x0 : 0 ≤ x) (x1 : x ≤ B) : geP (valP u x) (valP l x) = true := by
  unfold spansV at h
  simp only [Bool.and_eq_true] at h
  refine ge_in hu.asc hu.pos hl.asc hl.pos x0 x1 h.1.1 h.1.2 fun k hk h1 h2 => ?_
  have h3 := h.2
  unfold aboveV at h3
  rw [List.all_eq_true] at h3
  have h4 := h3 k (List.mem_append.2 hk)
  rw [decide_eq_false (by omega), Bool.false_or] at h4
  exact h4
theorem spans_of {u l : List Kn} {B : Int} (h : ∀ x, geP (valP u x) (valP l x) = true) : spansV u l B = true := by
  unfold spansV aboveV
  rw [h 0, h B]
  simp only [Bool.true_and]
  rw [List.all_eq_true]
  intro k hk
  rw [h k.1, Bool.or_true]
/-- A truth that fits. -/
structure Fit (e : Ear) (tp tf : List Kn) : Prop where
  v : Valid e
  ltp : lineE tp = 0
  ltf : lineE tf = 0
  rp : Rise e.gl e.gh e.bottom tp
  rf : Rise e.gl e.gh e.bottom tf
  zp : (tp.getD 0 (0, 0)).1 = 0
  zf : (tf.getD 0 (0, 0)).1 = 0
  s1 : ∀ x, 0 ≤ x → x ≤ e.bottom → geP (valP tp x) (valP e.pl x) = true
  s2 : ∀ x, 0 ≤ x → x ≤ e.bottom → geP (valP e.ph x) (valP tp x) = true
  s3 : ∀ x, 0 ≤ x → x ≤ e.bottom → geP (valP tf x) (valP e.fl x) = true
  s4 : ∀ x, 0 ≤ x → x ≤ e.bottom → geP (valP e.fh x) (valP tf x) = true
  s5 : ∀ x, 0 ≤ x → x ≤ e.bottom → geP (valP tf x) (valP tp x) = true
  reps : ∀ r ∈ e.reps, trueV tp tf r = true
theorem truthV_ok {tp tf : List Kn} {b : Int} (h : truthV tp tf b = 0) : lineE tp = 0 ∧ lineE tf = 0 ∧ endsB tp b = true ∧ endsB tf b = true := by
  unfold truthV at h
  obtain ⟨h1, h⟩ := orE_zero h
  obtain ⟨h2, h⟩ := orE_zero h
  split at h
  · rename_i h3
    rw [Bool.and_eq_true] at h3
    exact ⟨h1, h2, h3.1, h3.2⟩
  · omega
theorem lineE_good {ks : List Kn} (h : lineE ks = 0) : Good ks := good (rightB_of h)
theorem fit {e : Ear} {tp tf : List Kn} (h : fitsV e tp tf = true) : Fit e tp tf := by
  obtain ⟨h1, h2, h3, h4, h5, h6, h7, h8, h9, h10⟩ := fitsV_iff.1 h
  have v := valid h1
  obtain ⟨lp, lf, ep, ef⟩ := truthV_ok h2
  have gp := lineE_good lp
  have gf := lineE_good lf
  rw [ends_iff] at ep ef
  exact {
    v := v
    ltp := lp
    ltf := lf
    rp := Rise.of_grows gp.ne gp.asc h3 (fun k hk => by have := gp.asc.le_end gp.pos hk; have h2 : endV tp = e.bottom := ep.2; omega) ep.2
    rf := Rise.of_grows gf.ne gf.asc h4 (fun k hk => by have := gf.asc.le_end gf.pos hk; have h2 : endV tf = e.bottom := ef.2; omega) ef.2
    zp := ep.1
    zf := ef.1
    s1 := fun x x0 x1 => spans_ge gp (lineE_good v.pl) h5 x0 x1
    s2 := fun x x0 x1 => spans_ge (lineE_good v.ph) gp h6 x0 x1
    s3 := fun x x0 x1 => spans_ge gf (lineE_good v.fl) h7 x0 x1
    s4 := fun x x0 x1 => spans_ge (lineE_good v.fh) gf h8 x0 x1
    s5 := fun x x0 x1 => spans_ge gf gp h9 x0 x1
    reps := List.all_eq_true.1 h10 }
/-! What points ask for and allow -/
theorem loP_le {gl gh B : Int} {l : List Kn} (h : Rise gl gh B l) (z0 : (l.getD 0 (0, 0)).1 = 0) {z : Int} (h0 : 0 ≤ z) (h1 : z ≤ B) {k : Kn} (k0 : 0 ≤ k.1) (k1 : k.1 ≤ B) (hk : k.2 ≤ (rangeP l k.1).1) : loP gl gh z k ≤ (rangeP l z).1 := by
  by_cases hz : z < k.1
  · rw [loP_lt hz]
    have := (h.far2 (x := z) (y := k.1) (by omega) (by omega) k1).1
    have e : gh * (z - k.1) = -(gh * (k.1 - z)) := by rw [show z - k.1 = -(k.1 - z) by omega, Int.mul_neg]
    omega
  · rw [loP_ge (by omega)]
    have := (h.far2 (x := k.1) (y := z) (by omega) (by omega) h1).1
    omega
theorem upP_ge2 {gl gh B : Int} {l : List Kn} (h : Rise gl gh B l) (z0 : (l.getD 0 (0, 0)).1 = 0) {z : Int} (h0 : 0 ≤ z) (h1 : z ≤ B) {k : Kn} (k0 : 0 ≤ k.1) (k1 : k.1 ≤ B) (hk : (rangeP l k.1).2 ≤ k.2) : (rangeP l z).2 ≤ upP gl gh z k := by
  by_cases hz : z < k.1
  · rw [upP_lt hz]
    have := (h.far2 (x := z) (y := k.1) (by omega) (by omega) k1).2
    have e : gl * (z - k.1) = -(gl * (k.1 - z)) := by rw [show z - k.1 = -(k.1 - z) by omega, Int.mul_neg]
    omega
  · rw [upP_ge (by omega)]
    have := (h.far2 (x := k.1) (y := z) (by omega) (by omega) h1).2
    omega
theorem loV_le {gl gh z c : Int} : ∀ (l : List Kn) (s : Int), (∀ k ∈ l, loP gl gh z k ≤ c) → s ≤ c → loV gl gh l z s ≤ c
  | [], s, _, h => h
  | k :: l, s, hl, h => by
    have h1 := hl k (by simp)
    exact loV_le l (max s (loP gl gh z k)) (fun x hx => hl x (by simp [hx])) (by omega)
theorem upV_ge {gl gh z c : Int} : ∀ (l : List Kn) (s : Int), (∀ k ∈ l, c ≤ upP gl gh z k) → c ≤ s → c ≤ upV gl gh l z s
  | [], s, _, h => h
  | k :: l, s, hl, h => by
    have h1 := hl k (by simp)
    exact upV_ge l (min s (upP gl gh z k)) (fun x hx => hl x (by simp [hx])) (by omega)
theorem points_mem {b : Int} {reps : List Rep} {l : List Kn} {kind : Int} {k : Kn} (h : k ∈ pointsV b reps l kind) : (k ∈ l ∧ k.1 ≤ b) ∨ ∃ r ∈ reps, r.kind = kind ∧ k = (r.z, r.p) := by
  unfold pointsV at h
  rcases List.mem_append.1 h with h | h
  · obtain ⟨h1, h2⟩ := List.mem_filter.1 h
    exact .inl ⟨h1, of_decide_eq_true h2⟩
  · obtain ⟨r, hr, rfl⟩ := List.mem_map.1 h
    obtain ⟨h1, h2⟩ := List.mem_filter.1 hr
    exact .inr ⟨r, h1, by simpa using h2, rfl⟩
theorem knot_le {u l : List Kn} (hu : Good u) (hl : Good l) {k : Kn} (hk : k ∈ l) (h : geP (valP u k.1) (valP l k.1) = true) : k.2 ≤ (rangeP u k.1).1 := by
  have := (above_range hu hl h).1
  rw [rangeP_knot hl.asc hk] at this
  exact this
theorem knot_ge {u l : List Kn} (hu : Good u) (hl : Good l) {k : Kn} (hk : k ∈ u) (h : geP (valP u k.1) (valP l k.1) = true) : (rangeP l k.1).2 ≤ k.2 := by
  have := (above_range hu hl h).2
  rw [rangeP_knot hu.asc hk] at this
  exact this
/-- The pressures of a truth that fits lie in the ranges. -/
theorem Fit.encl {e : Ear} {tp tf : List Kn} (h : Fit e tp tf) {z : Int} (z0 : 0 ≤ z) (z1 : z ≤ e.bottom) : (plV e z ≤ (rangeP tp z).1 ∧ (rangeP tp z).2 ≤ phV e z) ∧ flV e z ≤ (rangeP tf z).1 ∧ (rangeP tf z).2 ≤ fhV e z := by
  have gp := lineE_good h.ltp
  have gf := lineE_good h.ltf
  have npl := lineE_good h.v.pl
  have nph := lineE_good h.v.ph
  have nfl := lineE_good h.v.fl
  have nfh := lineE_good h.v.fh
  have a1 := above_range gp npl (h.s1 z z0 z1)
  have a2 := above_range nph gp (h.s2 z z0 z1)
  have a3 := above_range gf nfl (h.s3 z z0 z1)
  have a4 := above_range nfh gf (h.s4 z z0 z1)
  have a5 := above_range gf gp (h.s5 z z0 z1)
  have pos : 0 ≤ (rangeP tp z).1 := (gp.val z).2.2.2.1
  have l1 : loV e.gl e.gh (pointsV e.bottom e.reps e.pl 1) z (rangeP e.pl z).1 ≤ (rangeP tp z).1 := loV_le _ _ (fun k hk => by
    rcases points_mem hk with ⟨hk, hb⟩ | ⟨r, hr, hkind, rfl⟩
    · have := npl.bd hk
      exact loP_le h.rp h.zp z0 z1 this.1 hb (knot_le gp npl hk (h.s1 _ this.1 hb))
    · have hv := h.v.rep r hr
      have ht := h.reps r hr
      rw [true1 hkind] at ht
      exact loP_le h.rp h.zp z0 z1 hv.2.2.1 hv.2.2.2.1 (of_decide_eq_true ht)) a1.1
  have l2 : loV e.gl e.gh (pointsV e.bottom e.reps e.fl 3) z (rangeP e.fl z).1 ≤ (rangeP tf z).1 := loV_le _ _ (fun k hk => by
    rcases points_mem hk with ⟨hk, hb⟩ | ⟨r, hr, hkind, rfl⟩
    · have := nfl.bd hk
      exact loP_le h.rf h.zf z0 z1 this.1 hb (knot_le gf nfl hk (h.s3 _ this.1 hb))
    · have hv := h.v.rep r hr
      have ht := h.reps r hr
      rw [true3 hkind] at ht
      exact loP_le h.rf h.zf z0 z1 hv.2.2.1 hv.2.2.2.1 (of_decide_eq_true ht)) a3.1
  have u1 : (rangeP tp z).2 ≤ upV e.gl e.gh (pointsV e.bottom e.reps e.ph 2) z (rangeP e.ph z).2 := upV_ge _ _ (fun k hk => by
    rcases points_mem hk with ⟨hk, hb⟩ | ⟨r, hr, hkind, rfl⟩
    · have := nph.bd hk
      exact upP_ge2 h.rp h.zp z0 z1 this.1 hb (knot_ge nph gp hk (h.s2 _ this.1 hb))
    · have hv := h.v.rep r hr
      have ht := h.reps r hr
      rw [true2 (by omega) (by omega)] at ht
      exact upP_ge2 h.rp h.zp z0 z1 hv.2.2.1 hv.2.2.2.1 (of_decide_eq_true ht)) a2.2
  have u2 : (rangeP tf z).2 ≤ upV e.gl e.gh (pointsV e.bottom e.reps e.fh 4) z (rangeP e.fh z).2 := upV_ge _ _ (fun k hk => by
    rcases points_mem hk with ⟨hk, hb⟩ | ⟨r, hr, hkind, rfl⟩
    · have := nfh.bd hk
      exact upP_ge2 h.rf h.zf z0 z1 this.1 hb (knot_ge nfh gf hk (h.s4 _ this.1 hb))
    · have hv := h.v.rep r hr
      have ht := h.reps r hr
      rw [true4 (by omega)] at ht
      exact upP_ge2 h.rf h.zf z0 z1 hv.2.2.1 hv.2.2.2.1 (of_decide_eq_true ht)) a4.2
  obtain ⟨b1, b2⟩ := a5
  have P : plV e z ≤ (rangeP tp z).1 := by unfold plV; omega
  have F : (rangeP tf z).2 ≤ fhV e z := by unfold fhV; exact u2
  exact ⟨⟨P, by unfold phV; omega⟩, by unfold flV; omega, F⟩
/-! The earth and the truth of some numbers -/
/-- A line over another one with the same places. -/
def Dom (u l : List Kn) : Prop := (∀ k ∈ u, ∃ k' ∈ l, k'.1 = k.1 ∧ k'.2 ≤ k.2) ∧ ∀ k ∈ l, ∃ k' ∈ u, k'.1 = k.1 ∧ k.2 ≤ k'.2
theorem Dom.trans {u m l : List Kn} (h1 : Dom u m) (h2 : Dom m l) : Dom u l := by
  refine ⟨fun k hk => ?_, fun k hk => ?_⟩
  · obtain ⟨a, ha, e1, e2⟩ := h1.1 k hk
    obtain ⟨b, hb, e3, e4⟩ := h2.1 a ha
    exact ⟨b, hb, by omega, by omega⟩
  · obtain ⟨a, ha, e1, e2⟩ := h2.2 k hk
    obtain ⟨b, hb, e3, e4⟩ := h1.2 a ha
    exact ⟨b, hb, by omega, by omega⟩
theorem Dom.ab {u l : List Kn} (hu : Good u) (hl : Good l) (h : Dom u l) : ab u l = true := same_ab hu hl h.1 h.2 _
theorem Dom.ge {u l : List Kn} (hu : Good u) (hl : Good l) (h : Dom u l) (x : Int) : geP (valP u x) (valP l x) = true := above_all hu hl (h.ab hu hl) x
theorem Dom.cons {a b : Kn} {u l : List Kn} (h1 : b.1 = a.1) (h2 : b.2 ≤ a.2) (h : Dom u l) : Dom (a :: u) (b :: l) := by
  refine ⟨fun k hk => ?_, fun k hk => ?_⟩
  · rcases List.mem_cons.1 hk with rfl | hk
    · exact ⟨b, by simp, h1, h2⟩
    · obtain ⟨x, hx, e⟩ := h.1 k hk; exact ⟨x, by simp [hx], e⟩
  · rcases List.mem_cons.1 hk with rfl | hk
    · exact ⟨a, by simp, h1.symm, h2⟩
    · obtain ⟨x, hx, e⟩ := h.2 k hk; exact ⟨x, by simp [hx], e⟩
theorem Dom.nil : Dom [] [] := ⟨fun k hk => (nomatch hk), fun k hk => (nomatch hk)⟩
theorem shift_up (off : List Int) : ∀ (l : List Kn) (i : Int), Dom (shiftGo off true i l) l
  | [], i => Dom.nil
  | k :: l, i => by
    rw [shiftGo, if_pos rfl]
    have := Int.emod_nonneg (pickV off i) (b := 40000000) (by decide)
    exact Dom.cons rfl (by show k.2 ≤ k.2 + _; omega) (shift_up off l (i + 1))
theorem shift_down (off : List Int) : ∀ (l : List Kn) (i : Int), (∀ k ∈ l, 0 ≤ k.2) → Dom l (shiftGo off false i l)
  | [], i, _ => Dom.nil
  | k :: l, i, h => by
    rw [shiftGo, if_neg (by simp)]
    have := Int.emod_nonneg (pickV off i) (b := 40000000) (by decide)
    have := h k (by simp)
    exact Dom.cons rfl (by show max 0 (k.2 - _) ≤ k.2; omega) (shift_down off l (i + 1) fun x hx => h x (by simp [hx]))
theorem tf_tp (g : Gr) : Dom (tfV g) (tpV g) := ⟨tf_over g, tp_under g⟩
theorem tp_down (g : Gr) : Dom (tpV g) (knownV g).pl := shift_down _ _ _ fun k hk => (tp_box g k hk).2.2.1
theorem tp_upw (g : Gr) : Dom (knownV g).ph (tpV g) := shift_up _ _ _
theorem tf_down (g : Gr) : Dom (tfV g) (knownV g).fl := shift_down _ _ _ fun k hk => (tf_box g k hk).2.2.1
theorem tf_upw (g : Gr) : Dom (knownV g).fh (tfV g) := shift_up _ _ _
theorem known_valid (g : Gr) : Valid (knownV g) where
  b := by show 1 ≤ endV (tpV g) ∧ endV (tpV g) ≤ 1048576; rw [tp_end]; have := bottomV_bd g; omega
  g := by
    show 0 ≤ pickV g.off 1 % 2001 ∧ pickV g.off 1 % 2001 ≤ 30000 + pickV g.off 2 % 10001 ∧ 30000 + pickV g.off 2 % 10001 ≤ 40000
    omega
  pl := known_pl g
  ph := known_ph g
  fl := known_fl g
  fh := known_fh g
  ab1 := ((tp_upw g).trans (tp_down g)).ab (lineE_good (known_ph g)) (lineE_good (known_pl g))
  ab2 := ((tf_upw g).trans (tf_down g)).ab (lineE_good (known_fh g)) (lineE_good (known_fl g))
  ab3 := (((tf_upw g).trans (tf_tp g)).trans (tp_down g)).ab (lineE_good (known_fh g)) (lineE_good (known_pl g))
  reps := by
    show ((g.marks.take 8).map (repV (tpV g) (tfV g))).length ≤ 24
    rw [List.length_map, List.length_take]; omega
  rep := fun r hr => by
    obtain ⟨n, -, rfl⟩ := List.mem_map.1 (show r ∈ (g.marks.take 8).map (repV (tpV g) (tfV g)) from hr)
    have := repV_in g n
    show _ ∧ _ ∧ _ ∧ _ ≤ endV (tpV g) ∧ _
    rw [tp_end]; exact this
theorem rep_true (g : Gr) (n : Int) : trueV (tpV g) (tfV g) (repV (tpV g) (tfV g) n) = true := by
  have n0 := Int.emod_nonneg n (b := 1099511627776) (by decide)
  unfold repV
  generalize n % 1099511627776 = m at *
  generalize m / 4 % (endV (tpV g) + 1) = z at *
  have o0 := Int.emod_nonneg (m / 4096) (b := 1000000) (by decide)
  have bp := ((lineE_good (tp_line g)).val z).2.2.2.1
  have bf := ((lineE_good (tf_line g)).val z).2.2.2.1
  have bp : 0 ≤ (rangeP (tpV g) z).1 := bp
  have bf : 0 ≤ (rangeP (tfV g) z).1 := bf
  by_cases h0 : m % 4 = 0
  · rw [true1 (by show 1 + m % 4 = 1; omega)]
    refine decide_eq_true ?_
    simp only []
    rw [if_pos h0]
    omega
  by_cases h1 : m % 4 = 1
  · rw [true2 (by show 1 + m % 4 ≠ 1; omega) (by show 1 + m % 4 < 3; omega)]
    refine decide_eq_true ?_
    simp only []
    rw [if_neg h0, if_pos h1]
    omega
  by_cases h2 : m % 4 = 2
  · rw [true3 (by show 1 + m % 4 = 3; omega)]
    refine decide_eq_true ?_
    simp only []
    rw [if_neg h0, if_neg h1, if_pos h2]
    omega
  · rw [true4 (by show 4 ≤ 1 + m % 4; omega)]
    refine decide_eq_true ?_
    simp only []
    rw [if_neg h0, if_neg h1, if_neg h2]
    omega
theorem tp_first (g : Gr) : ((tpV g).getD 0 (0, 0)).1 = 0 := by unfold tpV truthL; rw [truthGo]; rfl
theorem tf_first (g : Gr) : ((tfV g).getD 0 (0, 0)).1 = 0 := by unfold tfV truthL; rw [truthGo]; rfl
theorem known_fits (g : Gr) : fitsV (knownV g) (tpV g) (tfV g) = true := by
  have hv := known_valid g
  have gg : pickV g.off 1 % 2001 ≤ 2000 ∧ 30000 ≤ 30000 + pickV g.off 2 % 10001 := by omega
  have gp := lineE_good (tp_line g)
  have gf := lineE_good (tf_line g)
  have he : (knownV g).bottom = bottomV g := tp_end g
  refine fitsV_iff.2 ⟨valid_iff.2 hv, ?_, ((tp_rise g).wide gg.1 gg.2).grows, ((tf_rise g).wide gg.1 gg.2).grows, spans_of ((tp_down g).ge gp (lineE_good hv.pl)), spans_of ((tp_upw g).ge (lineE_good hv.ph) gp), spans_of ((tf_down g).ge gf (lineE_good hv.fl)), spans_of ((tf_upw g).ge (lineE_good hv.fh) gf), spans_of ((tf_tp g).ge gf gp), ?_⟩
  · rw [truth_ends (tp_line g) (tf_line g), if_pos]
    rw [Bool.and_eq_true, ends_iff, ends_iff, he]
    exact ⟨⟨tp_first g, tp_end g⟩, tf_first g, (tf_rise g).end⟩
  · rw [List.all_eq_true]
    intro r hr
    obtain ⟨n, -, rfl⟩ := List.mem_map.1 (show r ∈ (g.marks.take 8).map (repV (tpV g) (tfV g)) from hr)
    exact rep_true g n
/-- What EarthEncloses says. -/
theorem encloses (g : Gr) {z : Int} (z0 : 0 ≤ z) (z1 : z ≤ (knownV g).bottom) : poreV (knownV g) z = (plV (knownV g) z, phV (knownV g) z) ∧ fracV (knownV g) z = (flV (knownV g) z, fhV (knownV g) z) ∧ winV (knownV g) z = (phV (knownV g) z, flV (knownV g) z) ∧ (plV (knownV g) z ≤ (rangeP (tpV g) z).1 ∧ (rangeP (tpV g) z).2 ≤ phV (knownV g) z) ∧ flV (knownV g) z ≤ (rangeP (tfV g) z).1 ∧ (rangeP (tfV g) z).2 ≤ fhV (knownV g) z := by
  have hk : okE (knownV g) z = true := okE_iff.2 ⟨valid_iff.2 (known_valid g), z0, z1⟩
  refine ⟨by unfold poreV; rw [if_pos hk], by unfold fracV; rw [if_pos hk], by unfold winV; rw [if_pos hk], ?_⟩
  exact (fit (known_fits g)).encl z0 z1
end Go.Proofs.Ytcglpbchejkolaa
/- Earth: the depths, by the table: the program's. -/
namespace Go.Proofs.Ytcglpbchejkolaa
open Go.RowKit
set_option linter.unusedSimpArgs false
set_option linter.unusedVariables false

theorem ints_snoc (rows : List (List C)) (n : Int) : ints (rows ++ [[.i n]]) = ints rows ++ [n] := by rw [ints_app]; rfl
theorem dep_split : bodyOf Try.f86 = pre (heads 4 (bodyOf Try.f86)) (nav [1, 1, 1, 1] (bodyOf Try.f86)) := by kernel_rfl
theorem dep_tree1 : execL cdep1 (heads 4 (bodyOf Try.f86)) { startOf Try.f86 ctDepthsI [] [] with lvl := (startOf Try.f86 ctDepthsI [] []).lvl + 1 } (joinK (startOf Try.f86 ctDepthsI [] []) depSt1 [.slot 3] [.vec 2] (endK cdep1 Try.f86 ctDepthsI)) = some tdep1 := by kernel_rfl
theorem dep_cx : CxOK cdep1 := Tab.cx_ok all_nil fxdep1
theorem dep_vc {R : List C → Prop} {b gl gh : Int} {v1 v2 v3 v4 v7 : Value} {r1 r2 r3 r4 r7 : List (List C)} {I : List C → Prop} (h : checkV ⟨b, knots r1, knots r2, knots r3, knots r4, gl, gh, repsOf r7⟩ = 0) (hI : ∀ v rows, ints rows = rawP ⟨b, knots r1, knots r2, knots r3, knots r4, gl, gh, repsOf r7⟩ → I [.s v rows]) :
    VC cdep1 R tdep1 [.i b, .s v1 r1, .s v2 r2, .s v3 r3, .s v4 r4, .i gl, .i gh, .s v7 r7] [I] := by
  unfold tdep1
  simp only [VC, allC, List.map_cons, List.map_nil, List.length_cons, List.length_nil, List.getElem?_cons_zero, List.getElem?_cons_succ, List.cons.injEq, C.i.injEq, C.b.injEq, and_true, true_and, forall_const, kindsOf_nil, kindsOf_lf, kindsOf_agg, kindsOf_box, boxKinds_nil, boxKinds_lf, boxKinds_agg, boxKinds_box, List.append_nil, List.cons_append, List.nil_append, den_cmp_le, den_cmp_lt, den_cmp_eq, den_cmp_ne, den_cmp_le', den_cmp_lt', den_cmp_eq', den_cmp_ne', den_and, den_and', den_or, den_or', den_not, den_not', den_blit, den_of, ev_var, at_0, at_1, at_2, at_3, at_4, at_5, at_6, at_7, at_skip, c_int, c_bool, c_arr, c_cnt, c_vec, ev_nil, ev_join, ev_sub3, loc_s, int_i, bool_b, rows_s, cs_nil, cs_cons, E.den_lit, E.den_var, E.den_add, E.den_sub, E.den_mul, E.den_quo, E.den_rem, E.den_max, E.den_min, E.den_len, E.den_wr, E.den_cell, ev_cell, kn1]
  have hv := valid h
  have l1 : (knots r1).length ≤ 24 := (lineE_box hv.pl).1
  have l2 : (knots r2).length ≤ 24 := (lineE_box hv.ph).1
  have l3 : (knots r3).length ≤ 24 := (lineE_box hv.fl).1
  have l4 : (knots r4).length ≤ 24 := (lineE_box hv.fh).1
  have l7 : (repsOf r7).length ≤ 24 := hv.reps
  have e7 : (repsOf r7).length = r7.length := by simp [repsOf]
  rw [← knots_len r1, ← knots_len r2, ← knots_len r3, ← knots_len r4, ← e7]
  simp only [rp1 v7 r7]
  generalize knots r1 = q1 at *
  generalize knots r2 = q2 at *
  generalize knots r3 = q3 at *
  generalize knots r4 = q4 at *
  generalize repsOf r7 = q7 at *
  have step : ∀ {A : List Int} {rows : List (List C)} {l : List Kn} {i : Int}, 0 ≤ i → i < l.length → ints rows = A ++ minAt b (l.take i.toNat) → ints (rows ++ [[.i (min (l.getD i.toNat (0, 0)).1 b)]]) = A ++ minAt b (l.take (i + 1).toNat) := fun {A rows l i} i0 i1 hr => by
    rw [ints_snoc, hr, show (i + 1).toNat = i.toNat + 1 by omega, take_snoc (by omega) (0, 0)]
    unfold minAt
    rw [List.map_append, List.append_assoc]; rfl
  have len : ∀ {A : List Int} {rows : List (List C)} {l : List Kn} {n : Nat}, A.length ≤ 200 → l.length ≤ 24 → ints rows = A ++ minAt b (l.take n) → rows.length ≤ 300 := fun {A rows l n} hA hl hr => by
    have := congrArg List.length hr
    rw [ints_len, List.length_append] at this
    unfold minAt at this
    rw [List.length_map, List.length_take] at this
    omega
  have all : ∀ {A : List Int} {rows : List (List C)} {l : List Kn} {i : Int}, (l.length : Int) ≤ i → ints rows = A ++ minAt b (l.take i.toNat) → ints rows = A ++ minAt b l := fun {A rows l i} hi hr => by
    rw [hr, List.take_of_length_le (by omega)]
  have z0 : ∀ {A : List Int} {rows : List (List C)} {l : List Kn}, ints rows = A → ints rows = A ++ minAt b (l.take (0 : Int).toNat) := fun {A rows l} hr => by
    rw [hr]; simp [minAt]
  have m1 : (minAt b q1).length ≤ 24 := by simp [minAt]; omega
  have m2 : (minAt b q2).length ≤ 24 := by simp [minAt]; omega
  have m3 : (minAt b q3).length ≤ 24 := by simp [minAt]; omega
  have m4 : (minAt b q4).length ≤ 24 := by simp [minAt]; omega
  intro v
  refine ⟨fun xs => match xs with | [.s _ rows, .i i] => 0 ≤ i ∧ i ≤ q1.length ∧ ints rows = [0, b] ++ minAt b (q1.take i.toNat) | _ => False, fun xs => match xs with | [_, .i i] => ((q1.length : Int) - i).toNat | _ => 0, ⟨by omega, by omega, z0 rfl⟩, ?_⟩
  rintro _ rows _ _ _ i _ _ ⟨i0, i1, hr⟩
  refine ⟨fun hlt => ⟨i0, hlt, by have := len (A := [0, b]) (by simp) l1 hr; omega, fun _ => ⟨⟨by omega, by omega, step i0 hlt hr⟩, (show ((q1.length : Int) - (i + 1)).toNat < ((q1.length : Int) - i).toNat by omega)⟩⟩, fun hge => ?_⟩
  replace hr := all hge hr
  generalize hA1 : [0, b] ++ minAt b q1 = A1 at hr
  have a1 : A1.length ≤ 26 := by rw [← hA1, List.length_append]; simp; omega
  refine ⟨fun xs => match xs with | [.s _ rows, .i i, _] => 0 ≤ i ∧ i ≤ q2.length ∧ ints rows = A1 ++ minAt b (q2.take i.toNat) | _ => False, fun xs => match xs with | [_, .i i, _] => ((q2.length : Int) - i).toNat | _ => 0, ⟨by omega, by omega, z0 hr⟩, ?_⟩
  rintro _ rows2 _ _ _ j _ _ _ ⟨j0, j1, hr2⟩
  refine ⟨fun hlt => ⟨j0, hlt, fun _ => ⟨by have := len (by omega) l2 hr2; omega, fun _ => ⟨⟨by omega, by omega, step j0 hlt hr2⟩, (show ((q2.length : Int) - (j + 1)).toNat < ((q2.length : Int) - j).toNat by omega)⟩⟩⟩, fun hge2 => ?_⟩
  replace hr2 := all hge2 hr2
  generalize hA2 : A1 ++ minAt b q2 = A2 at hr2
  have a2 : A2.length ≤ 50 := by rw [← hA2, List.length_append]; omega
  refine ⟨fun xs => match xs with | [.s _ rows, .i i, _] => 0 ≤ i ∧ i ≤ q3.length ∧ ints rows = A2 ++ minAt b (q3.take i.toNat) | _ => False, fun xs => match xs with | [_, .i i, _] => ((q3.length : Int) - i).toNat | _ => 0, ⟨by omega, by omega, z0 hr2⟩, ?_⟩
  rintro _ rows3 _ _ _ k _ _ _ ⟨k0, k1, hr3⟩
  refine ⟨fun hlt => ⟨k0, hlt, fun _ => ⟨by have := len (by omega) l3 hr3; omega, fun _ => ⟨⟨by omega, by omega, step k0 hlt hr3⟩, (show ((q3.length : Int) - (k + 1)).toNat < ((q3.length : Int) - k).toNat by omega)⟩⟩⟩, fun hge3 => ?_⟩
  replace hr3 := all hge3 hr3
  generalize hA3 : A2 ++ minAt b q3 = A3 at hr3
  have a3 : A3.length ≤ 74 := by rw [← hA3, List.length_append]; omega
  refine ⟨fun xs => match xs with | [.s _ rows, .i i, _] => 0 ≤ i ∧ i ≤ q4.length ∧ ints rows = A3 ++ minAt b (q4.take i.toNat) | _ => False, fun xs => match xs with | [_, .i i, _] => ((q4.length : Int) - i).toNat | _ => 0, ⟨by omega, by omega, z0 hr3⟩, ?_⟩
  rintro _ rows4 _ _ _ m _ _ _ ⟨m0, m1', hr4⟩
  refine ⟨fun hlt => ⟨m0, hlt, fun _ => ⟨by have := len (by omega) l4 hr4; omega, fun _ => ⟨⟨by omega, by omega, step m0 hlt hr4⟩, (show ((q4.length : Int) - (m + 1)).toNat < ((q4.length : Int) - m).toNat by omega)⟩⟩⟩, fun hge4 => ?_⟩
  replace hr4 := all hge4 hr4
  generalize hA4 : A3 ++ minAt b q4 = A4 at hr4
  have a4 : A4.length ≤ 98 := by rw [← hA4, List.length_append]; omega
  refine ⟨fun xs => match xs with | [.s _ rows, .i i] => 0 ≤ i ∧ i ≤ q7.length ∧ ints rows = A4 ++ (q7.take i.toNat).map (·.z) | _ => False, fun xs => match xs with | [_, .i i] => ((q7.length : Int) - i).toNat | _ => 0, ⟨by omega, by omega, by rw [hr4]; simp⟩, ?_⟩
  rintro v5 rows5 _ _ _ n _ _ ⟨n0, n1, hr5⟩
  refine ⟨fun hlt => ⟨n0, hlt, ?_, fun _ => ⟨⟨by omega, by omega, ?_⟩, (show ((q7.length : Int) - (n + 1)).toNat < ((q7.length : Int) - n).toNat by omega)⟩⟩, fun hge5 => ?_⟩
  · have := congrArg List.length hr5
    rw [ints_len, List.length_append, List.length_map, List.length_take] at this
    omega
  · rw [ints_snoc, hr5, show (n + 1).toNat = n.toNat + 1 by omega, take_snoc (by omega) ⟨0, 0, 0⟩, List.map_append, List.append_assoc]; rfl
  · refine hI v5 rows5 ?_
    rw [hr5, List.take_of_length_le (by omega), ← hA4, ← hA3, ← hA2, ← hA1]
    simp [rawP, minAll, Ear.lines, List.append_assoc]
theorem rawP_len {e : Ear} (h : Valid e) : 2 ≤ (rawP e).length ∧ (rawP e).length ≤ 122 := by
  have l1 := (lineE_box h.pl).1
  have l2 := (lineE_box h.ph).1
  have l3 := (lineE_box h.fl).1
  have l4 := (lineE_box h.fh).1
  have l7 := h.reps
  simp only [rawP, minAll, Ear.lines, minAt, List.flatMap_cons, List.flatMap_nil, List.length_append, List.length_map, List.length_cons, List.length_nil]
  omega
theorem callable_sort : Callable Try.prog 107 := ⟨_, Try.func107, by decide, rfl⟩
theorem callable_compact : Callable Try.prog 108 := ⟨_, Try.func108, by decide, rfl⟩
theorem of_ints {rows : List (List C)} {d : Nat} (h : TyN Try.prog d 2 rows) : rows = intRows (ints rows) := by
  cases d with
  | zero => exact h.elim
  | succ d =>
    obtain ⟨ks, hk, hh⟩ := h
    rw [show kinds Try.prog 2 = some [.int] by kernel_rfl] at hk
    cases hk
    unfold intRows ints
    rw [List.map_map]
    refine (List.map_congr_left (g := id) fun r hr => ?_).trans (List.map_id _) |>.symm
    obtain ⟨hl, hc⟩ := hh r hr
    obtain ⟨c0, h0, n0, rfl⟩ := hc 0 .int rfl
    match r, hl, h0 with
    | [a], _, h0 => simp at h0; subst h0; rfl
theorem ints_intRows (l : List Int) : ints (intRows l) = l := by
  unfold ints intRows
  rw [List.map_map]
  exact (List.map_congr_left (g := id) fun r _ => rfl).trans (List.map_id _)
def depStA : St := { depSt1 with sl := (48, none) :: depSt1.sl }
def depStA' : St := { depStA with nx := depStA.nx + 1, vec := (8, some (2, .var depStA.nx)) :: depStA.vec }
def depStB : St := { depStA' with sl := (49, none) :: depStA'.sl }
def depStC : St := { depStB with sl := (50, none) :: depStB.sl }
def depStC' : St := { depStC with nx := depStC.nx + 1, vec := (depStC.nx, some (2, .var depStC.nx)) :: dropV (some 8) depStC.vec }
def depStD : St := { depStC' with sl := (51, none) :: depStC'.sl }
def depStE : St := { depStD with sl := (2, some (.one (.lf (.vec 2 10)))) :: depStD.sl }
set_option maxRecDepth 100000 in
theorem depths_ok : tab7.ok 86 := by
  refine Tab.of_ct rfl rfl ⟨_, Try.func86, by decide, rfl⟩ ?_ (fun h => by cases h)
  refine ct_ok_open (cx := cdep1) (bds := []) dep_cx Try.func86 (c := bodyOf Try.f86) rfl ⟨by decide, by decide, by decide⟩ fun cs hcs hpre => ⟨bds_nil _, fun F w0 Γ a w Q hρ hs hk => ?_⟩
  obtain ⟨b, v1, r1, v2, r2, v3, r3, v4, r4, gl, gh, v7, r7, rfl⟩ : ∃ b v1 r1 v2 r2 v3 r3 v4 r4 gl gh v7 r7, cs = [.i b, .s v1 r1, .s v2 r2, .s v3 r3, .s v4 r4, .i gl, .i gh, .s v7 r7] := by
    match cs, hcs with
    | [c0, c1, c2, c3, c4, c5, c6, c7], ⟨⟨_, n0, e0⟩, ⟨_, v1, r1, d1, e1, _⟩, ⟨_, v2, r2, d2, e2, _⟩, ⟨_, v3, r3, d3, e3, _⟩, ⟨_, v4, r4, d4, e4, _⟩, ⟨_, n5, e5⟩, ⟨_, n6, e6⟩, ⟨_, v7, r7, d7, e7, _⟩, _⟩ =>
      exact ⟨n0, v1, r1, v2, r2, v3, r3, v4, r4, n5, n6, v7, r7, by rw [e0, e1, e2, e3, e4, e5, e6, e7]⟩
  have hpre : checkV ⟨b, knots r1, knots r2, knots r3, knots r4, gl, gh, repsOf r7⟩ = 0 := hpre
  have hval := valid hpre
  have hlen := rawP_len hval
  have hbot := hval.b
  rw [dep_split]
  refine pre_seg (R := ctDepthsI.post [.i b, .s v1 r1, .s v2 r2, .s v3 r3, .s v4 r4, .i gl, .i gh, .s v7 r7]) dep_cx (Ls := []) dep_tree1 (by kernel_rfl) rfl (I := fun xs => match xs with | [.s _ rows] => ints rows = rawP ⟨b, knots r1, knots r2, knots r3, knots r4, gl, gh, repsOf r7⟩ | _ => False) (by rw [hρ]; exact dep_vc hpre fun v rows hr => hr) hs ?_ ?_
  · intro xs Γx a' wp hxs hI hρ' he hs'
    obtain ⟨v8, r8, d8, rfl, hty⟩ : ∃ v8 r8 d8, xs = [.s v8 r8] ∧ TyN Try.prog d8 2 r8 := by
      match xs, hxs with
      | [c], ⟨⟨_, v8, r8, d8, e8, ht⟩, _⟩ => exact ⟨v8, r8, d8, by rw [e8], ht⟩
    have hI : ints r8 = rawP ⟨b, knots r1, knots r2, knots r3, knots r4, gl, gh, repsOf r7⟩ := hI
    have hr8 := of_ints hty
    rw [hI] at hr8
    generalize hraw : rawP ⟨b, knots r1, knots r2, knots r3, knots r4, gl, gh, repsOf r7⟩ = zs at *
    have hat8 : at_ Γx.ρ 8 = .s v8 r8 := by rw [hρ', hρ]; rfl
    have hlook : look depSt1.vec 8 = some (2, .var 8) := rfl
    have e3 : a'.eval (.tmp 3) = (at_ Γx.ρ 8).loc := by
      have := (hs'.slots 3 (.one (.lf (.vec 2 8))) rfl).1
      unfold slotV at this
      rwa [if_pos (by decide)] at this
    have hsz : a'.tmps.size = 52 := hs'.size
    have hzne : zs ≠ [] := fun e => by rw [e] at hlen; simp at hlen
    have hwf1 : depSt1.wf = true := by decide
    have hev : ((E.var 8).ev Γx.ρ).rows = intRows zs := by rw [ev_var, hat8]; exact hr8
    show (Code.seq (Code.region 16 _ _) (Code.seq (Code.region 17 _ _) Code.ret)).wp _ _ _ _
    refine wp_seq (wp_region_list (list_val rfl (v := (at_ Γx.ρ 8).loc) (w' := wp) (by simp [execOp, e3]) (list_call rfl (f := 107) (args := #[(at_ Γx.ρ 8).loc]) (by
      simp [execOp, resolve, invoke, eval_same, put_size, hsz]
      exact run_callFunc' callable_sort _ _) ?_)))
    have hs1 := hs'.drop (dst := some 48) (st' := depStA) rfl (at_ Γx.ρ 8).loc
    refine Calls.mono (sort_vec (st := depStA) hs1 (by decide) (i := 8) (e := .var 8) rfl hev hzne (by omega)) fun x w2 hx => ?_
    obtain ⟨rfl, hs2⟩ := hx
    refine ⟨_, rfl, ?_⟩
    have hs3 := hs2.drop (dst := some 49) (st' := depStB) rfl (.tuple #[])
    generalize hΓ2 : ({ Γx with ρ := Γx.ρ ++ [C.s (at_ Γx.ρ 8).loc (intRows (zs.mergeSort fun x y => decide (x ≤ y)))] } : Env) = Γ2 at *
    have hρ2 : Γ2.ρ = Γx.ρ ++ [C.s (at_ Γx.ρ 8).loc (intRows (zs.mergeSort fun x y => decide (x ≤ y)))] := by rw [← hΓ2]
    have hat2 : at_ Γ2.ρ 8 = .s v8 r8 := by rw [hρ2, hρ', hρ]; rfl
    have hat9 : at_ Γ2.ρ 9 = C.s (at_ Γx.ρ 8).loc (intRows (zs.mergeSort fun x y => decide (x ≤ y))) := by rw [hρ2, hρ', hρ]; rfl
    have hx2 : Ext Γx Γ2 := by rw [← hΓ2]; exact ⟨⟨_, rfl⟩, fun _ _ => rfl, Nat.le_refl _, rfl, rfl⟩
    generalize hacc : (a'.put (some 48) (at_ Γx.ρ 8).loc).put (some 49) (.tuple #[]) = a2 at *
    have hsz2 : a2.tmps.size = 52 := hs3.size
    have e32 : a2.eval (.tmp 3) = (at_ Γ2.ρ 8).loc := by
      have := (hs3.slots 3 (.one (.lf (.vec 2 8))) rfl).1
      unfold slotV at this
      rwa [if_pos (by decide)] at this
    show (Code.seq (Code.region 17 _ _) Code.ret).wp _ _ _ _
    refine wp_seq (wp_region_list (list_val rfl (v := (at_ Γ2.ρ 8).loc) (w' := w2) (by simp [execOp, e32]) (list_call rfl (f := 108) (args := #[(at_ Γ2.ρ 8).loc]) (by
      simp [execOp, resolve, invoke, eval_same, put_size, hsz2]
      exact run_callFunc' callable_compact _ _) ?_)))
    have hs4 := hs3.drop (dst := some 50) (st' := depStC) rfl (at_ Γ2.ρ 8).loc
    have hml : (zs.mergeSort fun x y => decide (x ≤ y)).length = zs.length := List.length_mergeSort _
    refine Calls.mono (compact_vec (st := depStC) hs4 (by decide) (i := 8) (e := .var 9) rfl (zs := zs.mergeSort fun x y => decide (x ≤ y)) (by rw [ev_var, hat9]; rfl) (fun e => hzne (List.length_eq_zero_iff.1 (by rw [← hml, e]; rfl))) (by omega)) fun x w3 hx => ?_
    obtain ⟨v', rfl, hs5⟩ := hx
    refine ⟨_, rfl, ?_⟩
    have hs6 := hs5.drop (dst := some 51) (st' := depStD) rfl v'
    generalize hΓ3 : ({ Γ2 with ρ := Γ2.ρ ++ [C.s v' (intRows (Lib.compact (zs.mergeSort fun x y => decide (x ≤ y))))] } : Env) = Γ3 at *
    have hat10 : at_ Γ3.ρ 10 = C.s v' (intRows (Lib.compact (zs.mergeSort fun x y => decide (x ≤ y)))) := by rw [← hΓ3]; show at_ (Γ2.ρ ++ _) 10 = _; rw [hρ2, hρ', hρ]; rfl
    have hx3 : Ext Γ2 Γ3 := by rw [← hΓ3]; exact ⟨⟨_, rfl⟩, fun _ _ => rfl, Nat.le_refl _, rfl, rfl⟩
    generalize hacc3 : (a2.put (some 50) (at_ Γ2.ρ 8).loc).put (some 51) v' = a3 at *
    have hsz3 : a3.tmps.size = 52 := hs6.size
    have e51 : a3.eval (.tmp 51) = v' := by rw [← hacc3]; exact eval_same (by rw [put_size, hsz2]; decide)
    refine list_val rfl (v := v') (w' := w3) (by simp [execOp, e51]) ?_
    have hok : (SV.one (.lf (.vec 2 10))).ok Try.prog w3 (Own Γ3 depStD) Γ3 := fun l hl => by
      simp only [S0.cells, List.mem_cons, List.not_mem_nil, or_false] at hl
      subst hl
      obtain ⟨ks, us, -, -, -, -, ho⟩ := (hs6.vec 10 (2, .var 10) rfl).1
      show ∃ a n cap, (at_ Γ3.ρ 10).loc = .slice a n cap
      rcases ho.2 with ⟨h, -⟩ | ⟨g, cap, cur, h, -⟩
      · exact ⟨_, _, _, h⟩
      · exact ⟨_, _, _, h⟩
    have hs7 := hs6.put (dst := some 2) (st' := depStE) rfl hok
    have hden : (SV.one (.lf (.vec 2 10))).den Γ3 = v' := by show (at_ Γ3.ρ 10).loc = v'; rw [hat10]; rfl
    rw [hden] at hs7
    show Code.ret.wp _ _ _ _
    refine wp_ret (hk .ret depStE (.ret [.cnt 2 (.var 10)]) Γ3 [fun _ => True] (show endOf cdep1 Try.f86 ctDepthsI depStE = _ by kernel_rfl) ((he.trans hx2).trans hx3) List.nil_prefix rfl ?_ _ _ hs7)
    show ∃ v rows, [(E.var 10).ev Γ3.ρ] = [.s v rows] ∧ ints rows = depthsV ⟨b, knots r1, knots r2, knots r3, knots r4, gl, gh, repsOf r7⟩
    refine ⟨v', intRows (Lib.compact (zs.mergeSort fun x y => decide (x ≤ y))), by rw [ev_var, hat10], ?_⟩
    rw [ints_intRows]
    unfold depthsV
    refine compact_merge fun y => ?_
    rw [← hraw]
    exact raw_same (by show 0 ≤ b; have : 1 ≤ b ∧ b ≤ 1048576 := hbot; omega) _ y
  · intro x st' T' Γ' Ls' hx hk' he hlen' hv' a' w' hs'
    exact hk x st' T' Γ' Ls' hk' he (List.nil_prefix) hlen' hv' a' w' hs'
end Go.Proofs.Ytcglpbchejkolaa
/- Earth: the depths, by the table: the document's, and both from outside. -/
namespace Go.Proofs.Ytcglpbchejkolaa
open Go.RowKit
set_option linter.unusedSimpArgs false
set_option linter.unusedVariables false

theorem longs_ok : tab7.ok 50 := by
  refine Tab.of_ct rfl rfl ⟨_, Try.func50, by decide, rfl⟩ ?_ ctF_det
  refine ct_ok (cx := clongs) (Tab.cx_ok all_nil) Try.func50 (bds := []) (T := tlongs) (by kernel_rfl) ?_
  unfold tlongs
  simp only [VC, allC, List.map_cons, List.map_nil, List.length_cons, List.length_nil, List.getElem?_cons_zero, List.getElem?_cons_succ, List.cons.injEq, C.i.injEq, C.b.injEq, and_true, true_and, forall_const, kindsOf_nil, kindsOf_lf, kindsOf_agg, kindsOf_box, boxKinds_nil, boxKinds_lf, boxKinds_agg, boxKinds_box, List.append_nil, List.cons_append, List.nil_append, den_cmp_le, den_cmp_lt, den_cmp_eq, den_cmp_ne, den_cmp_le', den_cmp_lt', den_cmp_eq', den_cmp_ne', den_and, den_and', den_or, den_or', den_not, den_not', den_blit, den_of, ev_var, at_0, at_1, at_2, at_3, at_4, at_5, at_6, at_7, at_skip, c_int, c_bool, c_arr, c_cnt, c_vec, ev_nil, ev_join, ev_sub3, loc_s, int_i, bool_b, rows_s, cs_nil, cs_cons, E.den_lit, E.den_var, E.den_add, E.den_sub, E.den_mul, E.den_quo, E.den_rem, E.den_max, E.den_min, E.den_len, E.den_wr, E.den_cell, ev_cell, in1, ctLongs, ctF, n_]
  intro u r _ _ _ u' r' _ _ _
  have hr : (r.length : Int) = ((ints r).length : Int) := by rw [ints_len]
  have hr' : (r'.length : Int) = ((ints r').length : Int) := by rw [ints_len]
  rw [← ints_len r, ← ints_len r']
  generalize ints r = l at *
  generalize ints r' = m at *
  refine ⟨bds_nil _, fun xs => match xs with | [.b _, .i i] => 0 ≤ i ∧ i ≤ l.length ∧ i ≤ m.length ∧ l.take i.toNat = m.take i.toNat | _ => False, fun xs => match xs with | [_, .i i] => ((l.length : Int) - i).toNat | _ => 0, ⟨by omega, by omega, by omega, by simp⟩, ?_⟩
  rintro t i _ _ ⟨i0, i1, i2, hI⟩
  have hlen : B.den [C.s u r, C.s u' r', C.b t, C.i i] (B.cmp Cmp.eq (E.var 0).len (E.var 1).len) = decide ((r.length : Int) = (r'.length : Int)) := rfl
  rw [hlen, hr, hr']
  have fin : (i = l.length ∨ i = m.length) → decide ((l.length : Int) = (m.length : Int)) = (l == m) := fun h => by
    by_cases e : l.length = m.length
    · rw [decide_eq_true (by omega)]
      rw [List.take_of_length_le (by omega), List.take_of_length_le (by omega)] at hI
      rw [hI]; simp
    · rw [decide_eq_false (by omega)]
      symm
      rw [beq_eq_false_iff_ne]
      intro h2; exact e (congrArg List.length h2)
  refine ⟨fun hl => ⟨fun hm => ⟨i0, hl, hm, fun hne => ?_, fun heq => ⟨⟨by omega, by omega, by omega, ?_⟩, ?_⟩⟩, fun hm => fin (.inr (by omega))⟩, fun hl => fin (.inl (by omega))⟩
  · symm
    rw [beq_eq_false_iff_ne]
    intro h2; rw [h2] at hne; exact hne rfl
  · rw [show (i + 1).toNat = i.toNat + 1 by omega, take_snoc (by omega) 0, take_snoc (by omega) 0, hI, heq]
  · show ((l.length : Int) - (i + 1)).toNat < ((l.length : Int) - i).toNat
    omega
theorem depths2_ok : tab7.ok 51 := by
  refine Tab.of_ct rfl rfl ⟨_, Try.func51, by decide, rfl⟩ ?_ (fun h => by cases h)
  refine ct_ok (cx := cdepths2) (Tab.cx_ok (all_cons (up7_ok (up6_ok (up5_ok (up4_ok (up3_ok check_ok))))) (all_cons depths_ok all_nil))) Try.func51 (bds := []) (T := tdepths2) (by kernel_rfl) ?_
  have h1 : cdepths2.ct 35 = some ctCheck := rfl
  have h2 : cdepths2.ct 86 = some ctDepthsI := rfl
  unfold tdepths2
  simp only [VC, allC, List.map_cons, List.map_nil, List.length_cons, List.length_nil, List.getElem?_cons_zero, List.getElem?_cons_succ, List.cons.injEq, C.i.injEq, C.b.injEq, and_true, true_and, forall_const, kindsOf_nil, kindsOf_lf, kindsOf_agg, kindsOf_box, boxKinds_nil, boxKinds_lf, boxKinds_agg, boxKinds_box, List.append_nil, List.cons_append, List.nil_append, den_cmp_le, den_cmp_lt, den_cmp_eq, den_cmp_ne, den_cmp_le', den_cmp_lt', den_cmp_eq', den_cmp_ne', den_and, den_and', den_or, den_or', den_not, den_not', den_blit, den_of, ev_var, at_0, at_1, at_2, at_3, at_4, at_5, at_6, at_7, at_skip, c_int, c_bool, c_arr, c_cnt, c_vec, ev_nil, ev_join, ev_sub3, loc_s, int_i, bool_b, rows_s, cs_nil, cs_cons, E.den_lit, E.den_var, E.den_add, E.den_sub, E.den_mul, E.den_quo, E.den_rem, E.den_max, E.den_min, E.den_len, E.den_wr, E.den_cell, ev_cell, h1, h2, ctCheck, ctDepthsI, ctDepths, ctF, earthSh, earthKs, n_, k_, earOf]
  intro b _ _ u1 r1 _ _ _ u2 r2 _ _ _ u3 r3 _ _ _ u4 r4 _ _ _ gl _ _ gh _ _ u7 r7 _ _ _; refine ⟨bds_nil _, ?_⟩; rintro n _ _ rfl; refine ⟨fun h => ⟨_, _, rfl, (by unfold depthsE; rw [if_neg h]; rfl)⟩, fun h => ⟨h, ?_⟩⟩; rintro v rows _ _ _ ⟨v', rows', e, hr⟩; cases e; exact ⟨_, _, rfl, (by unfold depthsE; rw [if_pos h]; exact hr)⟩
theorem lowAt_take {b : Int} {l : List Kn} {n : Nat} (h : n < l.length) : lowAt b (l.take (n + 1)) = lowAt b (l.take n) ++ (if (l.getD n (0, 0)).1 ≤ b then [(l.getD n (0, 0)).1] else []) := by
  unfold lowAt
  rw [take_snoc h (0, 0), List.filter_append, List.map_append]
  split
  · rename_i hk; rw [List.filter_cons_of_pos (by simpa using hk)]; rfl
  · rename_i hk; rw [List.filter_cons_of_neg (by simpa using hk)]; rfl
theorem lowAll_take {b : Int} {ls : List (List Kn)} {n : Nat} (h : n < ls.length) : lowAll b (ls.take (n + 1)) = lowAll b (ls.take n) ++ lowAt b (ls.getD n []) := by
  unfold lowAll
  rw [take_snoc h [], List.flatMap_append]; simp
theorem lowAt_len (b : Int) (l : List Kn) : (lowAt b l).length ≤ l.length := by
  unfold lowAt; rw [List.length_map]; exact List.length_filter_le _ _
theorem lowAll_len (b : Int) {n : Nat} : ∀ {ls : List (List Kn)}, (∀ l ∈ ls, l.length ≤ n) → (lowAll b ls).length ≤ ls.length * n
  | [], _ => by simp [lowAll]
  | l :: ls, h => by
    have ih := lowAll_len b (n := n) (ls := ls) fun x hx => h x (by simp [hx])
    have h1 := lowAt_len b l
    have h2 := h l (by simp)
    unfold lowAll at ih ⊢
    rw [List.flatMap_cons, List.length_append, List.length_cons, Nat.add_mul]
    omega
theorem sortD_take {L : List Int} {n : Nat} (h : n < L.length) : sortD (L.take (n + 1)) = insD (L.getD n 0) (sortD (L.take n)) := by
  unfold sortD
  rw [take_snoc h 0, List.foldl_append]; rfl
theorem insD_len (x : Int) : ∀ l : List Int, (insD x l).length ≤ l.length + 1
  | [] => by simp [insD]
  | y :: l => by
    have := insD_len x l
    unfold insD
    split
    · simp
    · split <;> simp <;> omega
theorem sortD_len (L : List Int) : ∀ a : List Int, (L.foldl (fun a x => insD x a) a).length ≤ a.length + L.length := by
  induction L with
  | nil => intro a; simp
  | cons x L ih =>
    intro a
    have h1 := ih (insD x a)
    have h2 := insD_len x a
    rw [List.foldl_cons, List.length_cons]; omega
set_option maxRecDepth 100000 in
theorem rdepths_ok : tab7.ok 87 := by
  refine Tab.of_ct rfl rfl ⟨_, Try.func87, by decide, rfl⟩ ?_ (fun h => by cases h)
  refine ct_ok (cx := crdepths) (Tab.cx_ok all_nil) Try.func87 (bds := []) (T := trdepths) (by kernel_rfl) ?_
  unfold trdepths
  simp only [VC, allC, List.map_cons, List.map_nil, List.length_cons, List.length_nil, List.getElem?_cons_zero, List.getElem?_cons_succ, List.cons.injEq, C.i.injEq, C.b.injEq, and_true, true_and, forall_const, kindsOf_nil, kindsOf_lf, kindsOf_agg, kindsOf_box, boxKinds_nil, boxKinds_lf, boxKinds_agg, boxKinds_box, List.append_nil, List.cons_append, List.nil_append, den_cmp_le, den_cmp_lt, den_cmp_eq, den_cmp_ne, den_cmp_le', den_cmp_lt', den_cmp_eq', den_cmp_ne', den_and, den_and', den_or, den_or', den_not, den_not', den_blit, den_of, ev_var, at_0, at_1, at_2, at_3, at_4, at_5, at_6, at_7, at_skip, c_int, c_bool, c_arr, c_cnt, c_vec, ev_nil, ev_join, ev_sub3, loc_s, int_i, bool_b, rows_s, cs_nil, cs_cons, E.den_lit, E.den_var, E.den_add, E.den_sub, E.den_mul, E.den_quo, E.den_rem, E.den_max, E.den_min, E.den_len, E.den_wr, E.den_cell, ev_cell, in1, kn1, rp1, ctDepthsI, ctF, earthSh, earthKs, n_, k_, earOf]
  intro b _ _ u1 r1 _ _ _ u2 r2 _ _ _ u3 r3 _ _ _ u4 r4 _ _ _ gl _ _ gh _ _ u7 r7 _ _ _ hp
  have hv := valid hp
  have l1 : (knots r1).length ≤ 24 := (lineE_box hv.pl).1
  have l2 : (knots r2).length ≤ 24 := (lineE_box hv.ph).1
  have l3 : (knots r3).length ≤ 24 := (lineE_box hv.fl).1
  have l4 : (knots r4).length ≤ 24 := (lineE_box hv.fh).1
  have l7 : (repsOf r7).length ≤ 24 := hv.reps
  have e7 : (repsOf r7).length = r7.length := by simp [repsOf]
  generalize hls : [knots r1, knots r2, knots r3, knots r4] = ls at *
  have hlen : ls.length = 4 := by rw [← hls]; rfl
  have hle : ∀ l ∈ ls, l.length ≤ 24 := fun l hl => by
    rw [← hls] at hl
    simp only [List.mem_cons, List.not_mem_nil, or_false] at hl
    rcases hl with rfl | rfl | rfl | rfl <;> assumption
  have four : ∀ (v : Value) (n : Int), 0 ≤ n → n < 4 → ∃ u r, (C.s v [[C.s u1 r1], [C.s u2 r2], [C.s u3 r3], [C.s u4 r4]]).at n.toNat 0 = C.s u r ∧ knots r = ls.getD n.toNat [] := fun v n n0 n1 => by
    rw [← hls]
    rcases (show n = 0 ∨ n = 1 ∨ n = 2 ∨ n = 3 by omega) with rfl | rfl | rfl | rfl
    · exact ⟨_, _, rfl, rfl⟩
    · exact ⟨_, _, rfl, rfl⟩
    · exact ⟨_, _, rfl, rfl⟩
    · exact ⟨_, _, rfl, rfl⟩
  have hraw : depthsV ⟨b, knots r1, knots r2, knots r3, knots r4, gl, gh, repsOf r7⟩ = sortD ([0, b] ++ lowAll b ls ++ (repsOf r7).map (·.z)) := by rw [← hls]; rfl
  refine ⟨bds_nil _, fun v v1 => ?_⟩
  refine ⟨fun xs => match xs with | [.s _ rows, .i n] => 0 ≤ n ∧ n ≤ 4 ∧ ints rows = [0, b] ++ lowAll b (ls.take n.toNat) | _ => False, fun xs => match xs with | [_, .i n] => (4 - n).toNat | _ => 0, ⟨by omega, by omega, rfl⟩, ?_⟩
  rintro _ rows _ _ _ n _ _ ⟨n0, n1, hr⟩
  refine ⟨fun hlt => ?_, fun hge => ?_⟩
  · have hn4 : n < 4 := hlt
    obtain ⟨u, r, hc, hk⟩ := four v1 n n0 hn4
    have hm : (ls.getD n.toNat []).length ≤ 24 := hle _ (getD_mem (by omega) [])
    have ha := lowAll_len b (n := 24) (ls := ls.take n.toNat) fun l hl => hle l (List.mem_of_mem_take hl)
    rw [List.length_take] at ha
    rw [hc]
    simp only [kn1]
    rw [show ((C.s u r).rows.length : Int) = ((knots r).length : Int) by rw [knots_len]; rfl, hk]
    generalize hq : ls.getD n.toNat [] = q at *
    refine ⟨fun xs => match xs with | [.s _ rows, .i i] => 0 ≤ i ∧ i ≤ q.length ∧ ints rows = [0, b] ++ lowAll b (ls.take n.toNat) ++ lowAt b (q.take i.toNat) | _ => False, fun xs => match xs with | [_, .i i] => ((q.length : Int) - i).toNat | _ => 0, ⟨by omega, by omega, by rw [hr]; simp [lowAt]⟩, ?_⟩
    rintro _ rows1 _ _ _ i _ _ ⟨i0, i1, hr1⟩
    refine ⟨n0, hlt, fun hi => ⟨hlt, i0, hi, fun hb => ⟨hlt, hi, ?_, fun _ => ⟨⟨by omega, by omega, ?_⟩, ?_⟩⟩, fun hb => ⟨⟨by omega, by omega, ?_⟩, ?_⟩⟩, fun hi => ⟨⟨by omega, by omega, ?_⟩, ?_⟩⟩
    · have := congrArg List.length hr1
      have h3 := lowAt_len b (q.take i.toNat)
      rw [List.length_take] at h3
      rw [ints_len, List.length_append, List.length_append] at this
      simp only [List.length_cons, List.length_nil] at this
      omega
    · rw [ints_app, hr1, show (i + 1).toNat = i.toNat + 1 by omega, lowAt_take (by omega), if_pos hb, List.append_assoc _ (lowAt b _)]; rfl
    · show ((q.length : Int) - (i + 1)).toNat < ((q.length : Int) - i).toNat
      omega
    · rw [hr1, show (i + 1).toNat = i.toNat + 1 by omega, lowAt_take (by omega), if_neg (by omega), List.append_nil]
    · show ((q.length : Int) - (i + 1)).toNat < ((q.length : Int) - i).toNat
      omega
    · rw [hr1, show (n + 1).toNat = n.toNat + 1 by omega, lowAll_take (by omega), hq, List.take_of_length_le (show q.length ≤ i.toNat by omega), List.append_assoc]
    · show (4 - (n + 1)).toNat < (4 - n).toNat
      omega
  have hge : 4 ≤ n := hge
  rw [List.take_of_length_le (by omega)] at hr
  have hla := lowAll_len b (n := 24) (ls := ls) hle
  rw [hlen] at hla
  rw [← e7]
  rw [hraw]
  generalize lowAll b ls = A at *
  generalize repsOf r7 = q7 at *
  refine ⟨fun xs => match xs with | [.s _ rows, .i i] => 0 ≤ i ∧ i ≤ q7.length ∧ ints rows = [0, b] ++ A ++ (q7.take i.toNat).map (·.z) | _ => False, fun xs => match xs with | [_, .i i] => ((q7.length : Int) - i).toNat | _ => 0, ⟨by omega, by omega, by rw [hr]; simp⟩, ?_⟩
  rintro _ rows1 _ _ _ i _ _ ⟨i0, i1, hr1⟩
  have hrl : rows1.length ≤ 122 := by
    have := congrArg List.length hr1
    rw [ints_len, List.length_append, List.length_append, List.length_map, List.length_take] at this
    simp only [List.length_cons, List.length_nil] at this
    omega
  refine ⟨fun hi => ⟨i0, hi, by omega, fun _ => ⟨⟨by omega, by omega, ?_⟩, ?_⟩⟩, fun hi => ?_⟩
  · rw [ints_app, hr1, show (i + 1).toNat = i.toNat + 1 by omega, take_snoc (by omega) ⟨0, 0, 0⟩, List.map_append, List.append_assoc _ (List.map _ _)]; rfl
  · show ((q7.length : Int) - (i + 1)).toNat < ((q7.length : Int) - i).toNat
    omega
  rw [List.take_of_length_le (by omega)] at hr1
  rw [← hr1]
  rw [← ints_len rows1] at hrl ⊢
  generalize hL : ints rows1 = L at *
  refine ⟨fun xs => match xs with | [.s _ rows, .i i] => 0 ≤ i ∧ i ≤ L.length ∧ ints rows = sortD (L.take i.toNat) | _ => False, fun xs => match xs with | [_, .i i] => ((L.length : Int) - i).toNat | _ => 0, ⟨by omega, by omega, rfl⟩, ?_⟩
  rintro v2 rows2 _ _ _ j _ _ ⟨j0, j1, hr2⟩
  refine ⟨fun hj => ?_, fun hj => ?_⟩
  rotate_left
  · rw [List.take_of_length_le (by omega)] at hr2
    exact ⟨_, _, rfl, hr2⟩
  have hlen2 : rows2.length ≤ 122 := by
    have := sortD_len (L.take j.toNat) []
    rw [List.length_take] at this
    rw [← ints_len, hr2]
    unfold sortD
    simp only [List.length_nil] at this
    omega
  have hsa : SA (ints rows2) := by rw [hr2]; exact sortD_asc _
  have hO : (rows2.length : Int) = ((ints rows2).length : Int) := by rw [ints_len]
  have hw : ∀ (n : Nat), ints (List.drop (Int.toNat 0) (List.take n rows2) ++ [[C.i (L.getD j.toNat 0)]] ++ List.drop n (List.take (rows2.length : Int).toNat rows2)) = (ints rows2).take n ++ [L.getD j.toNat 0] ++ (ints rows2).drop n := fun n => by
    rw [ints_app, ints_app, List.take_of_length_le (l := rows2) (i := (rows2.length : Int).toNat) (by omega)]
    show ints (List.drop 0 _) ++ _ ++ _ = _
    unfold ints
    rw [List.drop_zero, List.map_take, List.map_drop]; rfl
  generalize hOO : ints rows2 = O at *
  generalize hx : L.getD j.toNat 0 = x at *
  have hnext : sortD (L.take (j + 1).toNat) = insD x O := by
    rw [show (j + 1).toNat = j.toNat + 1 by omega, sortD_take (by omega), hx, ← hr2]
  have hmu : ((L.length : Int) - (j + 1)).toNat < ((L.length : Int) - j).toNat := by omega
  refine ⟨fun xs => match xs with | [.i n] => 0 ≤ n ∧ n ≤ O.length ∧ ∀ k : Nat, n.toNat ≤ k → k < O.length → x < O.getD k 0 | _ => False, fun xs => match xs with | [.i n] => n.toNat | _ => 0, ⟨by omega, by omega, fun k h1 h2 => by omega⟩, ?_⟩
  rintro n _ _ ⟨n0, n1, hn⟩
  refine ⟨fun xs => match xs with | [.b t] => t = true ↔ (0 < n ∧ x < O.getD (n - 1).toNat 0) | _ => False, ⟨fun hpos => ⟨j0, hj, by omega, ?_⟩, fun hneg => ?_⟩, ?_⟩
  · show decide (((C.s _ rows1).at j.toNat 0).int < ((C.s _ rows2).at (n - 1).toNat 0).int) = true ↔ _
    rw [in1, in1, hL, hOO, hx, decide_eq_true_eq]
    exact ⟨fun h => ⟨hpos, h⟩, fun h => h.2⟩
  · show false = true ↔ _
    exact ⟨fun h => (by cases h), fun h => (by omega)⟩
  rintro t ht
  have ht : t = true ↔ (0 < n ∧ x < O.getD (n - 1).toNat 0) := ht
  refine ⟨fun e => ?_, fun e => ?_⟩
  · obtain ⟨hp, hxo⟩ := ht.1 e
    refine ⟨by omega, by omega, ⟨by omega, by omega, fun k h1 h2 => ?_⟩, (show (n - 1).toNat < n.toNat by omega)⟩
    by_cases hk : k = (n - 1).toNat
    · rw [hk]; exact hxo
    · exact hn k (by omega) h2
  have hlow : ∀ k : Nat, k < n.toNat → O.getD k 0 ≤ x := fun k hk => by
    have h1 : ¬ (0 < n ∧ x < O.getD (n - 1).toNat 0) := fun h => by have := ht.2 h; rw [e] at this; cases this
    have h2 : O.getD (n - 1).toNat 0 ≤ x := by
      refine Int.not_lt.1 fun h => h1 ⟨by omega, h⟩
    by_cases hk2 : k = (n - 1).toNat
    · rw [hk2]; exact h2
    · have := List.pairwise_iff_getElem.1 hsa k (n - 1).toNat (by omega) (by omega) (by omega)
      have h3 : O.getD k 0 < O.getD (n - 1).toNat 0 := by
        rw [List.getD_eq_getElem?_getD, List.getD_eq_getElem?_getD, List.getElem?_eq_getElem (show k < O.length by omega), List.getElem?_eq_getElem (show (n - 1).toNat < O.length by omega)]
        exact this
      omega
  have hins := insD_at (x := x) (at_ := n.toNat) hsa (by omega) hlow hn
  rw [show (n.toNat - 1) = (n - 1).toNat by omega] at hins
  refine ⟨fun xs => match xs with | [.b t] => t = true ↔ (n.toNat = 0 ∨ O.getD (n - 1).toNat 0 ≠ x) | _ => False, ⟨fun h0 => ?_, fun h0 => ⟨⟨by omega, by omega⟩, by omega, by omega, j0, hj, ?_⟩⟩, ?_⟩
  · show true = true ↔ _
    exact ⟨fun _ => .inl (by omega), fun _ => rfl⟩
  · show (!decide (((C.s _ rows2).at (n - 1).toNat 0).int = ((C.s _ rows1).at j.toNat 0).int)) = true ↔ _
    rw [in1, in1, hL, hOO, hx, Bool.not_eq_true', decide_eq_false_iff_not]
    exact ⟨fun h => .inr h, fun h => h.resolve_left (by omega)⟩
  rintro t' ht'
  have ht' : t' = true ↔ (n.toNat = 0 ∨ O.getD (n - 1).toNat 0 ≠ x) := ht'
  refine ⟨fun e' => ?_, fun e' => ?_⟩
  · have hI := ht'.1 e'
    rw [if_pos hI] at hins
    have b1 : (List.drop (Int.toNat 0) (List.take n.toNat rows2)).length ≤ 122 := by
      rw [List.length_drop, List.length_take]; omega
    have b2 : (List.drop n.toNat (List.take (rows2.length : Int).toNat rows2)).length ≤ 122 := by
      rw [List.length_drop, List.length_take]; omega
    have b3 : (List.drop (Int.toNat 0) (List.take n.toNat rows2) ++ [[C.i x]]).length ≤ 123 := by
      rw [List.length_append, List.length_singleton]; omega
    refine ⟨fun xs => match xs with | [.s _ rows] => ints rows = O.take n.toNat ++ [x] ++ O.drop n.toNat | _ => False, ⟨n0, by omega, j0, hj, by omega, by omega, ⟨⟨by omega, by omega, by omega, fun _ => hw n.toNat⟩, by omega, by omega, by omega, fun _ => hw n.toNat⟩, by omega, by omega, by omega, fun _ => hw n.toNat⟩, ?_⟩
    rintro v3 rows3 _ _ _ hr3
    have hr3 : ints rows3 = O.take n.toNat ++ [x] ++ O.drop n.toNat := hr3
    exact ⟨⟨by omega, by omega, by rw [hr3, hins, hnext]⟩, hmu⟩
  · have hI : ¬ (n.toNat = 0 ∨ O.getD (n - 1).toNat 0 ≠ x) := fun h => by have := ht'.2 h; rw [e'] at this; cases this
    rw [if_neg hI] at hins
    exact ⟨⟨by omega, by omega, by rw [hOO, hnext, ← hins]⟩, hmu⟩
theorem rdepths2_ok : tab7.ok 52 := by
  refine Tab.of_ct rfl rfl ⟨_, Try.func52, by decide, rfl⟩ ?_ (fun h => by cases h)
  refine ct_ok (cx := crdepths2) (Tab.cx_ok (all_cons (up7_ok (up6_ok (up5_ok (up4_ok (up3_ok rcheck_ok))))) (all_cons rdepths_ok all_nil))) Try.func52 (bds := []) (T := trdepths2) (by kernel_rfl) ?_
  have h1 : crdepths2.ct 47 = some ctCheck := rfl
  have h2 : crdepths2.ct 87 = some ctDepthsI := rfl
  unfold trdepths2
  simp only [VC, allC, List.map_cons, List.map_nil, List.length_cons, List.length_nil, List.getElem?_cons_zero, List.getElem?_cons_succ, List.cons.injEq, C.i.injEq, C.b.injEq, and_true, true_and, forall_const, kindsOf_nil, kindsOf_lf, kindsOf_agg, kindsOf_box, boxKinds_nil, boxKinds_lf, boxKinds_agg, boxKinds_box, List.append_nil, List.cons_append, List.nil_append, den_cmp_le, den_cmp_lt, den_cmp_eq, den_cmp_ne, den_cmp_le', den_cmp_lt', den_cmp_eq', den_cmp_ne', den_and, den_and', den_or, den_or', den_not, den_not', den_blit, den_of, ev_var, at_0, at_1, at_2, at_3, at_4, at_5, at_6, at_7, at_skip, c_int, c_bool, c_arr, c_cnt, c_vec, ev_nil, ev_join, ev_sub3, loc_s, int_i, bool_b, rows_s, cs_nil, cs_cons, E.den_lit, E.den_var, E.den_add, E.den_sub, E.den_mul, E.den_quo, E.den_rem, E.den_max, E.den_min, E.den_len, E.den_wr, E.den_cell, ev_cell, h1, h2, ctCheck, ctDepthsI, ctDepths, ctF, earthSh, earthKs, n_, k_, earOf]
  intro b _ _ u1 r1 _ _ _ u2 r2 _ _ _ u3 r3 _ _ _ u4 r4 _ _ _ gl _ _ gh _ _ u7 r7 _ _ _; refine ⟨bds_nil _, ?_⟩; rintro n _ _ rfl; refine ⟨fun h => ⟨_, _, rfl, (by unfold depthsE; rw [if_neg h]; rfl)⟩, fun h => ⟨h, ?_⟩⟩; rintro v rows _ _ _ ⟨v', rows', e, hr⟩; cases e; exact ⟨_, _, rfl, (by unfold depthsE; rw [if_pos h]; exact hr)⟩
end Go.Proofs.Ytcglpbchejkolaa
/- Earth: EarthChecks by the table. -/
namespace Go.Proofs.Ytcglpbchejkolaa
open Go.RowKit
set_option linter.unusedSimpArgs false
set_option linter.unusedVariables false

set_option maxRecDepth 100000 in
theorem lchecks_ok : CtOK Try.prog 12 (ctLaw [earthSh, truthSh, .lf .int]) := by
  refine ct_ok (cx := clchecks) (Tab.cx_ok (all_cons (up7_ok (up6_ok (up5_ok (up4_ok small_ok)))) (all_cons (up7_ok (up6_ok (up5_ok (up4_ok short_ok)))) (all_cons (up7_ok (up6_ok (up5_ok (up4_ok (up3_ok check_ok))))) (all_cons (up7_ok (up6_ok (up5_ok (up4_ok (up3_ok rcheck_ok))))) (all_cons (up7_ok (up6_ok (up5_ok ctruth_ok))) (all_cons (up7_ok (up6_ok (up5_ok rctruth_ok))) (all_cons depths2_ok (all_cons rdepths2_ok (all_cons longs_ok (all_cons (up7_ok (up6_ok (up5_ok (up4_ok (up3_ok awake_ok))))) all_nil))))))))))) Try.func12 (bds := []) (T := tlchecks) (by kernel_rfl) ?_
  have h1 : clchecks.ct 25 = some ctSmall := rfl
  have h2 : clchecks.ct 16 = some ctShort := rfl
  have h3 : clchecks.ct 35 = some ctCheck := rfl
  have h4 : clchecks.ct 47 = some ctCheck := rfl
  have h5 : clchecks.ct 48 = some ctTruth := rfl
  have h6 : clchecks.ct 49 = some ctTruth := rfl
  have h7 : clchecks.ct 51 = some ctDepths := rfl
  have h8 : clchecks.ct 52 = some ctDepths := rfl
  have h9 : clchecks.ct 50 = some ctLongs := rfl
  have h10 : clchecks.ct 17 = some ctAwake := rfl
  unfold tlchecks
  simp (maxSteps := 10000000) only [VC, allC, List.map_cons, List.map_nil, List.length_cons, List.length_nil, List.getElem?_cons_zero, List.getElem?_cons_succ, List.cons.injEq, C.i.injEq, C.b.injEq, and_true, true_and, forall_const, kindsOf_nil, kindsOf_lf, kindsOf_agg, kindsOf_box, boxKinds_nil, boxKinds_lf, boxKinds_agg, boxKinds_box, List.append_nil, List.cons_append, List.nil_append, den_cmp_le, den_cmp_lt, den_cmp_eq, den_cmp_ne, den_cmp_le', den_cmp_lt', den_cmp_eq', den_cmp_ne', den_and, den_and', den_or, den_or', den_not, den_not', den_blit, den_of, ev_var, at_0, at_1, at_2, at_3, at_4, at_5, at_6, at_7, at_skip, c_int, c_bool, c_arr, c_cnt, c_vec, ev_nil, ev_join, ev_sub3, loc_s, int_i, bool_b, rows_s, cs_nil, cs_cons, E.den_lit, E.den_var, E.den_add, E.den_sub, E.den_mul, E.den_quo, E.den_rem, E.den_max, E.den_min, E.den_len, E.den_wr, E.den_cell, ev_cell, h1, h2, h3, h4, h5, h6, h7, h8, h9, h10, ctSmall, ctShort, ctCheck, ctTruth, ctDepths, ctLongs, ctAwake, ctLaw, ctF, lineSh, truthSh, earthSh, earthKs, n_, k_, earOf]
  intro b _ _ u1 r1 _ _ _ u2 r2 _ _ _ u3 r3 _ _ _ u4 r4 _ _ _ gl _ _ gh _ _ u7 r7 _ _ _ u8 r8 _ _ _ u9 r9 _ _ _ bt _ _
  refine ⟨bds_nil _, ?_⟩
  rintro t -
  refine ⟨fun _ _ h => h, fun _ => ?_⟩
  rintro t -
  refine ⟨fun _ _ h => h, fun _ => ?_⟩
  rintro t -
  refine ⟨fun _ _ h => h, fun _ => ?_⟩
  rintro n _ _ e1 m _ _ e2
  refine ⟨fun _ => ?_, fun h => absurd (e1.trans e2.symm) h⟩
  rintro n _ _ e3 m _ _ e4
  refine ⟨fun _ => ?_, fun h => absurd (e3.trans e4.symm) h⟩
  rintro v rows _ _ _ ⟨_, _, e5, e6⟩ v' rows' _ _ _ ⟨_, _, e7, e8⟩ t e9
  cases e5
  cases e7
  rw [e6, e8, beq_self_eq_true] at e9
  exact ⟨fun _ _ h => h, fun h => by rw [e9] at h; cases h⟩
end Go.Proofs.Ytcglpbchejkolaa
/- Arguments of any shape that the engine knows, opened: structs, and slices within slices. -/
namespace Go.Proofs.Ytcglpbchejkolaa
open Go.ChangeShapes Go.WideShapes Go.RowKit
set_option linter.unusedVariables false
/-- A type of integers, truth values and slices, without arrays. -/
def flatB (P : Program) : Nat → TypeId → Bool
  | 0, _ => false
  | d + 1, t => match P.underlying t with
    | some (.int .i64) => true
    | some .bool => true
    | some (.slice _) => true
    | some (.struct fs) => fs.toList.all fun f => flatB P d f.type
    | _ => false
/-- What a slice of this kind holds is known, to depth n. -/
def deepB (P : Program) : Nat → Lk → Bool
  | _, .int => true
  | _, .bool => true
  | n + 1, .arr e => match kinds P e with
    | some ks => ks.all (deepB P n) && (P.cellsOf e == ks.length) && flatB P 6 e
    | none => false
  | _, _ => false
def CellN (P : Program) (w : World) (n : Nat) (k : Lk) (u : Value) (c : C) : Prop := (∀ m, c.small m) ∧ match k with
  | .int => ∃ n, u = .int .i64 n ∧ c = .i n
  | .bool => ∃ t, u = .bool t ∧ c = .b t
  | .arr t => ∃ rows', c = .s u rows' ∧ ArrN P (fun b _ => b < w.heap.size) w n t u rows'
  | .vec _ => False
def kStep (P : Program) (d : Nat) (acc : Option (List Lk)) (f : Field) : Option (List Lk) := match acc, kindsF P d f.type with
  | some l, some m => if l.length = f.offset then some (l ++ m) else none
  | _, _ => none
theorem kStep_none {P : Program} {d : Nat} : ∀ {fs : List Field}, fs.foldl (kStep P d) none = none
  | [] => rfl
  | f :: fs => by rw [List.foldl_cons]; exact kStep_none
theorem kStep_at {P : Program} {d : Nat} : ∀ {fs : List Field} {a ks : List Lk}, fs.foldl (kStep P d) (some a) = some ks → ∀ (j : Nat) (k : Lk), ks[j]? = some k →
    a[j]? = some k ∨ ∃ f ∈ fs, ∃ m, kindsF P d f.type = some m ∧ f.offset ≤ j ∧ m[j - f.offset]? = some k
  | [], a, ks, h, j, k, hj => by cases h; exact .inl hj
  | f :: fs, a, ks, h, j, k, hj => by
    rw [List.foldl_cons] at h
    cases hm : kindsF P d f.type with
    | none => rw [show kStep P d (some a) f = none by simp [kStep, hm], kStep_none] at h; cases h
    | some m =>
      by_cases hl : a.length = f.offset
      · rw [show kStep P d (some a) f = some (a ++ m) by simp [kStep, hm, hl]] at h
        rcases kStep_at h j k hj with h1 | ⟨g, hg, m', h2⟩
        · by_cases hja : j < a.length
          · rw [List.getElem?_append_left hja] at h1; exact .inl h1
          · rw [List.getElem?_append_right (by omega), hl] at h1
            exact .inr ⟨f, List.mem_cons_self .., m, hm, by omega, h1⟩
        · exact .inr ⟨g, List.mem_cons_of_mem _ hg, m', h2⟩
      · rw [show kStep P d (some a) f = none by simp [kStep, hm, hl], kStep_none] at h; cases h
theorem kinds_F {P : Program} {t : TypeId} {ks : List Lk} (h : kinds P t = some ks) : kindsF P 6 t = some ks := by
  unfold kinds at h
  split at h
  · rename_i l hl
    split at h
    · cases h; exact hl
    · cases h
  · cases h
section
variable {H : Type} {enc : TypeId × Value → H} {P : Program} {w : World} {base : Nat} {spare : Nat → Bool} {held : Bool}
theorem small_int {n : Int} (h : -9223372036854775808 ≤ n ∧ n ≤ 9223372036854775807) : ∀ m, (C.i n).small m := fun m => by cases m <;> exact h
theorem cells_deep : ∀ (fuel n d : Nat) (t : TypeId) (ks : List Lk) (cs : List Value) (x : DataW H × List MemPlace), kindsF P d t = some ks → flatB P d t = true →
    DataW.trod enc P w base spare held fuel t cs = some x → ∀ (j : Nat) (k : Lk), ks[j]? = some k → deepB P n k = true → ∃ u c, cs[j]? = some u ∧ CellN P w n k u c := by
  intro fuel
  induction fuel with
  | zero => intro n d t ks cs x _ _ hx; simp [DataW.trod] at hx
  | succ fuel ih =>
    intro n d t ks cs x hk hfl hx j k hj hall
    cases d with
    | zero => simp [kindsF] at hk
    | succ d =>
      unfold flatB at hfl
      cases hu : P.underlying t with
      | none => rw [hu] at hfl; cases hfl
      | some ty =>
      rw [hu] at hfl
      unfold kindsF at hk
      rw [hu] at hk
      match ty, hu, hfl, hk with
      | .int .i64, hu, hfl, hk =>
        cases hk
        obtain ⟨z, rfl, -, hwf⟩ := DataW.trod_int hu hx
        match j, hj with
        | 0, hj => cases hj; exact ⟨_, .i z, rfl, small_int (wf_bd hwf), z, rfl, rfl⟩
      | .bool, hu, hfl, hk =>
        cases hk
        obtain ⟨z, rfl, -⟩ := DataW.trod_bool hu hx
        match j, hj with
        | 0, hj => cases hj; exact ⟨_, .b z, rfl, fun m => by cases m <;> trivial, z, rfl, rfl⟩
      | .slice e, hu, hfl, hk =>
        cases hk
        match j, hj with
        | 0, hj =>
        cases hj
        cases n with
        | zero => simp [deepB] at hall
        | succ n =>
        have hd : deepB P (n + 1) (.arr e) = true := hall
        unfold deepB at hd
        cases hke : kinds P e with
        | none => rw [hke] at hd; cases hd
        | some kse =>
        rw [hke] at hd
        simp only [Bool.and_eq_true, beq_iff_eq] at hd
        obtain ⟨⟨hd1, hd2⟩, hd3⟩ := hd
        rcases DataW.trod_slice hu hx with ⟨rfl, -⟩ | ⟨a, len, cap, elems, rest, m, hm, rfl, -, -, hl, hc, hlen, hel, -, -⟩
        · refine ⟨_, .s (.slice none 0 0) [], rfl, fun m => ?_, [], rfl, kse, hke, none, 0, rfl, fun h => absurd rfl h⟩
          cases m with
          | zero => trivial
          | succ m => exact ⟨by simp, fun r hr => by cases hr⟩
        · cases hm
          have each : ∀ i, i < len → ∀ (j : Nat) (k : Lk), kse[j]? = some k → ∃ u c, w.cell? (a.add (i * kse.length + j)) = some u ∧ CellN P w n k u c := by
            intro i hi j k hj
            have h1 := hel i hi
            rw [List.getElem?_eq_getElem (by omega), hd2] at h1
            obtain ⟨cs', h2, h3⟩ := Option.bind_eq_some_iff.1 h1
            obtain ⟨_, hlen', hcell⟩ := World.cells?_some h2
            obtain ⟨u, c, h4, h5⟩ := ih n 6 e kse cs' _ (kinds_F hke) hd3 h3 j k hj (List.all_eq_true.1 hd1 k (List.mem_of_getElem? hj))
            refine ⟨u, c, ?_, h5⟩
            have hjl : j < kse.length := by
              rcases Nat.lt_or_ge j kse.length with h | h
              · exact h
              · rw [List.getElem?_eq_none h] at hj; cases hj
            rw [← h4, ← hcell j hjl, Go.Deep.add_add]
          have each2 : ∀ i j, ∃ c : C, i < len → ∀ k, kse[j]? = some k → ∃ u, w.cell? (a.add (i * kse.length + j)) = some u ∧ CellN P w n k u c := by
            intro i j
            by_cases hi : i < len
            · cases hj : kse[j]? with
              | none => exact ⟨.i 0, fun _ k h => by cases h⟩
              | some k =>
                obtain ⟨u, c, h1, h2⟩ := each i hi j k hj
                exact ⟨c, fun _ k' h => by cases h; exact ⟨u, h1, h2⟩⟩
            · exact ⟨.i 0, fun h => absurd h hi⟩
          let f : Nat → Nat → C := fun i j => (each2 i j).choose
          have hf : ∀ i j, i < len → ∀ k, kse[j]? = some k → ∃ u, w.cell? (a.add (i * kse.length + j)) = some u ∧ CellN P w n k u (f i j) := fun i j => (each2 i j).choose_spec
          let rows : List (List C) := (List.range len).map fun i => (List.range kse.length).map fun j => f i j
          have hrl : rows.length = len := by simp [rows]
          refine ⟨_, .s (.slice (some a) len cap) rows, rfl, fun q => ?_, rows, rfl, kse, hke, some a, cap, by rw [hrl], fun hne => ?_⟩
          · cases q with
            | zero => trivial
            | succ q =>
              refine ⟨by rw [hrl]; unfold maxLen at hc; omega, fun r hr c hcr => ?_⟩
              obtain ⟨i, hi, rfl⟩ := List.mem_map.1 hr
              obtain ⟨j, hj, rfl⟩ := List.mem_map.1 hcr
              rw [List.mem_range] at hi hj
              obtain ⟨u, -, h⟩ := hf i j hi _ (List.getElem?_eq_getElem hj)
              exact h.1 q
          · have hpos : 0 < len := by
              rcases Nat.eq_zero_or_pos len with h | h
              · exact absurd (List.eq_nil_of_length_eq_zero (by rw [hrl]; exact h)) hne
              · exact h
            have hk0 : 0 < kse.length := Nat.pos_of_ne_zero (kinds_size hke).2
            obtain ⟨u0, h0, -⟩ := hf 0 0 hpos _ (List.getElem?_eq_getElem hk0)
            obtain ⟨b, o, s⟩ := a
            have hs : s = none := by simpa [Addr.add] using World.cell?_spot h0
            subst hs
            have hblk : b < w.heap.size := by
              have := World.block_lt_of_cell? _ _ h0
              simpa [Addr.add] using this
            refine ⟨b, o, rfl, by rw [hrl]; exact hl, fun i r hi => ?_⟩
            have hi' : i < len := by
              rcases Nat.lt_or_ge i len with h | h
              · exact h
              · rw [List.getElem?_eq_none (by rw [hrl]; exact h)] at hi; cases hi
            have hr : r = (List.range kse.length).map fun j => f i j := by
              simp only [rows, List.getElem?_map, List.getElem?_range hi', Option.map_some] at hi
              exact (Option.some.inj hi).symm
            subst hr
            refine ⟨by simp, fun j k hj => ⟨hblk, ?_⟩⟩
            have hjl : j < kse.length := by
              rcases Nat.lt_or_ge j kse.length with h | h
              · exact h
              · rw [List.getElem?_eq_none h] at hj; cases hj
            obtain ⟨u, h1, h2⟩ := hf i j hi' k hj
            refine ⟨u, f i j, by rw [← Go.WideShapes.add_plain]; exact h1, by simp [List.getElem?_range hjl], ?_⟩
            exact h2.2
      | .struct fs, hu, hfl, hk =>
        obtain ⟨xs, m, hm, -, -, hxl, hf⟩ := DataW.trod_struct hu hx
        cases hm
        have hk' : fs.toList.foldl (kStep P d) (some []) = some ks := hk
        rcases kStep_at hk' j k hj with h | ⟨f, hfm, m', hm', ho, hmj⟩
        · simp at h
        · obtain ⟨i, hi⟩ := List.mem_iff_getElem?.1 hfm
          have hi' : fs[i]? = some f := by rw [← hi]; simp
          have hil : i < xs.length := by
            rw [hxl]
            rcases Nat.lt_or_ge i fs.size with h | h
            · exact h
            · rw [Array.getElem?_eq_none h] at hi'; cases hi'
          have hg := hf i f hi'
          rw [List.getElem?_eq_getElem hil] at hg
          obtain ⟨u, c, h1, h2⟩ := ih n d f.type m' _ _ hm' (List.all_eq_true.1 hfl f hfm) hg (j - f.offset) k hmj hall
          refine ⟨u, c, ?_, h2⟩
          rw [List.getElem?_take] at h1
          split at h1
          · rw [List.getElem?_drop] at h1
            rw [← h1]; congr 1; omega
          · cases h1
theorem CellN.rep {n : Nat} {k : Lk} {u : Value} {c : C} (h : CellN P w n k u c) : LRep P w (fun _ _ => False) k u c := by
  refine ⟨h.1, ?_⟩
  cases k with
  | int => exact h.2
  | bool => exact h.2
  | arr t =>
    obtain ⟨rows, rfl, hA⟩ := h.2
    exact ⟨rfl, u, rows, rfl, n, _, fun b o hb => ⟨hb, fun h => h⟩, hA⟩
  | vec t => exact h.2.elim
theorem lreps_of : ∀ {ks : List Lk} {us : List Value} {n : Nat}, us.length = ks.length → (∀ (j : Nat) (k : Lk), ks[j]? = some k → ∃ u c, us[j]? = some u ∧ CellN P w n k u c) → ∃ rs, LReps P w (fun _ _ => False) ks us rs
  | [], [], _, _, _ => ⟨[], trivial⟩
  | k :: ks, u :: us, n, hl, h => by
    obtain ⟨u', c, hu, hc⟩ := h 0 k rfl
    cases hu
    obtain ⟨rs, hr⟩ := lreps_of (ks := ks) (us := us) (n := n) (by simpa using hl) fun j k hj => h (j + 1) k hj
    exact ⟨c :: rs, hc.rep, hr⟩
  | [], _ :: _, _, hl, _ => by simp at hl
  | _ :: _, [], _, hl, _ => by simp at hl
/-- A struct of integers, truth values and slices among the arguments. -/
theorem open_agg {r : Reach} {b0 n : Nat} {t : TypeId} {fs : Array Field} {v : Value} {d : DataW H} {p : List MemPlace} {ks : List Lk} (hu : P.underlying t = some (.struct fs)) (hk : kindsF P 6 t = some ks) (hfl : flatB P 6 t = true)
    (hd : ks.all (deepB P n) = true) (hc : P.cellsOf t = ks.length) (hv : Value.okWide P w r b0 t v) (hx : DataW.Trod enc P w base spare held t v d p) :
    ∃ us : List Value, v = .agg us.toArray ∧ ∃ rs, LReps P w (fun _ _ => False) ks us rs := by
  obtain ⟨cs, rfl, hsz⟩ := okWide_struct hu hv
  obtain ⟨fuel, hf⟩ := hx
  have hf : DataW.trod enc P w base spare held fuel t cs.toList = some (d, p) := hf
  obtain ⟨-, -, -, -, hlen, -, -⟩ := DataW.trod_struct hu hf
  exact ⟨cs.toList, by simp, lreps_of (n := n) (hlen.trans hc) fun j k hj => cells_deep fuel n 6 t ks _ _ hk hfl hf j k hj (List.all_eq_true.1 hd k (List.mem_of_getElem? hj))⟩
/-- A slice among the arguments. -/
theorem open_arr {r : Reach} {b0 n : Nat} {t e : TypeId} {v : Value} {d : DataW H} {p : List MemPlace} (hu : P.underlying t = some (.slice e)) (hd : deepB P n (.arr e) = true)
    (hv : Value.okWide P w r b0 t v) (hx : DataW.Trod enc P w base spare held t v d p) :
    ∃ c, LRep P w (fun _ _ => False) (.arr e) v c := by
  obtain ⟨A, m, c, rfl⟩ := okWide_slice hu hv
  obtain ⟨fuel, hf⟩ := hx
  have hf : DataW.trod enc P w base spare held fuel t [.slice A m c] = some (d, p) := hf
  obtain ⟨u, q, h1, h2⟩ := cells_deep fuel n 6 t [.arr e] _ _ (by unfold kindsF; rw [hu]) (by unfold flatB; rw [hu]) hf 0 (.arr e) rfl hd
  cases h1
  exact ⟨q, h2.rep⟩
end
theorem rep_struct {W : World} {O : Nat → Nat → Prop} {ss : List Sh0} {vs : List Value} {cs rs : List C} {us : List Value} {ks : List Lk} {old : Option Nat} (h : LReps Try.prog W O ks us rs) (hr : Reps Try.prog W O old ss vs cs) :
    Reps Try.prog W O old (.agg ks :: ss) (.agg us.toArray :: vs) (rs ++ cs) :=
  ⟨rs, _, rfl, ⟨us, rfl, h⟩, hr⟩
theorem rep_one {W : World} {O : Nat → Nat → Prop} {ss : List Sh0} {vs : List Value} {cs : List C} {t : TypeId} {v : Value} {c : C} {old : Option Nat} (h : LRep Try.prog W O (.arr t) v c) (hr : Reps Try.prog W O old ss vs cs) :
    Reps Try.prog W O old (.lf (.arr t) :: ss) (v :: vs) (c :: cs) :=
  ⟨[_], _, rfl, ⟨_, rfl, h⟩, hr⟩
end Go.Proofs.Ytcglpbchejkolaa
/- The call of EarthChecks. -/
namespace Go.Proofs.Ytcglpbchejkolaa
open Go.RowKit
theorem walk_EarthChecks (V0 : Value) (V1 : Value) (a2 : Int) (W : World) (h0 : ∃ us : List Value, V0 = .agg us.toArray ∧ ∃ rs, LReps Try.prog W (fun _ _ => False) earthKs us rs) (h1 : ∃ us : List Value, V1 = .agg us.toArray ∧ ∃ rs, LReps Try.prog W (fun _ _ => False) [.arr 44, .arr 44] us rs) (h2 : -9223372036854775808 ≤ a2 ∧ a2 ≤ 9223372036854775807) :
    Calls Try.prog 12 #[V0, V1, .int .i64 a2] W fun e w' => e = .returned (.bool true) ∧ Below W.heap.size W w' := by
  obtain ⟨us0, rfl, rs0, h0⟩ := h0
  obtain ⟨us1, rfl, rs1, h1⟩ := h1
  exact law_walk lchecks_ok rfl (rep_struct h0 (rep_struct h1 (rep_lf h2 rfl)))
end Go.Proofs.Ytcglpbchejkolaa
namespace Go.Proofs.Ytcglpbchejkolaa.lawEarthChecks
open Go.ChangeShapes Go.WideShapes Go.ChangeAt Go.RowKit
set_option linter.unusedVariables false

set_option maxRecDepth 100000 in
theorem lifted (os : Os) (started : os.Started) (H : Type) (enc : TypeId × Value → H) :
    ReturnsInHanded {} Try.checked os 12 .any (Rows.earthChecksSpec.pre6 enc Try.prog Try.f12 Rows.earthChecksRow.domain false) (Rows.earthChecksSpec.post enc Try.prog Try.f12 false true false false) := by
  refine returnsInHanded_of_change (C := Try.checked) own started (by kernel_rfl) Try.func12
    (ChangeSpec.witness6 (enc := enc) (C := Try.checked) false ⟨#[], #[.agg #[.int .i64 0, .slice none 0 0, .slice none 0 0, .slice none 0 0, .slice none 0 0, .int .i64 0, .int .i64 0, .slice none 0 0], .agg #[.slice none 0 0, .slice none 0 0], .int .i64 0], []⟩ 8 (by kernel_rfl) (by kernel_rfl) (by kernel_rfl) (by kernel_rfl)) ?_
  intro W base args ds gs before hval0 hW hcnd _
  have hval : ∀ (j : Nat) t v, Try.f12.params[j]? = some t → args[j]? = some v → Value.okWide Try.prog W .any base t v := hval0
  have hW' := hW
  obtain ⟨p, q, hA0, hV, rfl, hfz, hnd⟩ := hW
  have hA : DataW.TrodAll enc Try.prog W 0 (fun _ => true) true Try.f12.params.toList args.toList ds p := hA0
  rw [Try.params12] at hA hval
  obtain ⟨v0, vs0, d0, ds0, p0, q0, hargs, rfl, rfl, h0, r0⟩ := trodAll_cons hA
  obtain ⟨v1, vs1, d1, ds1, p1, q1, rfl, rfl, rfl, h1, r1⟩ := trodAll_cons r0
  obtain ⟨v2, vs2, d2, ds2, p2, q2, rfl, rfl, rfl, h2, r2⟩ := trodAll_cons r1
  obtain ⟨rfl, rfl, rfl⟩ := trodAll_nil r2
  obtain rfl : args = #[v0, v1, v2] := by cases args; simp_all
  obtain ⟨rfl, rfl⟩ := trodVars_none hV
  have k0 := h0
  have lt0 : ∀ x ∈ p0, x.block < W.heap.size := by obtain ⟨m, hm⟩ := k0; exact DataW.trod_lt m _ _ _ hm
  obtain ⟨us0, e0, b0⟩ := open_agg (n := 4) (ks := [.int, .arr 44, .arr 44, .arr 44, .arr 44, .int, .int, .arr 57]) Try.underlying35 (by kernel_rfl) (by kernel_rfl) (by kernel_rfl) (by kernel_rfl) (hval 0 35 v0 rfl rfl) h0
  have k1 := h1
  have lt1 : ∀ x ∈ p1, x.block < W.heap.size := by obtain ⟨m, hm⟩ := k1; exact DataW.trod_lt m _ _ _ hm
  obtain ⟨us1, e1, b1⟩ := open_agg (n := 4) (ks := [.arr 44, .arr 44]) Try.underlying52 (by kernel_rfl) (by kernel_rfl) (by kernel_rfl) (by kernel_rfl) (hval 1 52 v1 rfl rfl) h1
  have k2 := h2
  have lt2 : ∀ x ∈ p2, x.block < W.heap.size := by obtain ⟨m, hm⟩ := k2; exact DataW.trod_lt m _ _ _ hm
  obtain ⟨a2, e2, -, -, wf2⟩ := open_int Try.underlying2 (hval 2 2 v2 rfl rfl) h2
  subst e2
  have b2 := wf_bd wf2
  clear hA0 hval0
  refine (walk_EarthChecks v0 v1 a2 W ⟨us0, e0, b0⟩ ⟨us1, e1, b1⟩ b2).mono fun e W' ⟨he, bel⟩ => ?_
  subst he
  exact ⟨_, rfl, _, _, _, [], _, [], hW', trodAll_mk1 (shut_bool Try.underlying4 _), (trodAll_cons_mk (Below.trod laidOut (by kernel_rfl) (of_decide_eq_true (by kernel_rfl)) k0 bel lt0) (trodAll_cons_mk (Below.trod laidOut (by kernel_rfl) (of_decide_eq_true (by kernel_rfl)) k1 bel lt1) (trodAll_cons_mk (Below.trod laidOut (by kernel_rfl) (of_decide_eq_true (by kernel_rfl)) k2 bel lt2) trodAll_mk0))), rfl, bel.frame _, fun h => by cases h⟩

theorem over : Rows.earthChecksRow.holds Try.pinned (OpenSpec.ofChange Rows.earthChecksSpec) :=
  OpenClaim.holds_of_wide 12 Try.f12 rfl rfl rfl rfl rfl rfl rfl ⟨rfl, rfl, rfl, rfl, rfl⟩ rfl rfl rfl rfl rfl (by kernel_rfl) Try.func12 (by kernel_rfl)
    (of_decide_eq_true (by kernel_rfl)) (by unfold Func.isWrapper; first | (rw [if_pos (by decide +kernel)]; kernel_rfl) | (rw [if_neg (by decide +kernel)]; exact ⟨rfl, rfl⟩))
    (fun os started H enc _ => lifted os started H enc)

theorem proved : Rows.EarthChecksSaid := over
#print axioms proved
end Go.Proofs.Ytcglpbchejkolaa.lawEarthChecks
