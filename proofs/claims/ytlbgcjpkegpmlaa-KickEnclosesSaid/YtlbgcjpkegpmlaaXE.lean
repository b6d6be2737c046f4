/- KickEncloses: what is said of an influx contains what is said of the values within. -/
import Derived.Test.YtlbgcjpkegpmlaaXV
import Derived.Test.YtlbgcjpkegpmlaaXA
namespace Go.Proofs.Ytlbgcjpkegpmlaa
open Go.RowKit
set_option linter.unusedSimpArgs false
set_option linter.unusedVariables false

theorem div_neg_mono {x a b : Int} (hx : x ≤ 0) (ha : 0 < a) (hab : a ≤ b) : x / a ≤ x / b := by
  refine Int.le_ediv_of_mul_le (by omega) ?_
  have h1 : x / a ≤ 0 := by
    have := Int.ediv_le_ediv ha hx
    rwa [Int.zero_ediv] at this
  have h2 : x / a * b ≤ x / a * a := Int.mul_le_mul_of_nonpos_left h1 hab
  have h3 : x / a * a ≤ x := Int.ediv_mul_le x (by omega)
  omega
theorem div_pos_anti {x a b : Int} (hx : 0 ≤ x) (ha : 0 < a) (hab : a ≤ b) : x / b ≤ x / a := by
  refine Int.le_ediv_of_mul_le (by omega) ?_
  have h1 : 0 ≤ x / b := Int.ediv_nonneg hx (by omega)
  have h2 : x / b * a ≤ x / b * b := Int.mul_le_mul_of_nonneg_left hab h1
  have h3 : x / b * b ≤ x := Int.ediv_mul_le x (by omega)
  omega
theorem ceil_bd {g a : Int} (ha : 0 < a) : g ≤ (g + a - 1) / a * a ∧ (g + a - 1) / a ≤ g / a + 1 ∧ g / a ≤ (g + a - 1) / a ∧ g / a * a ≤ g := by
  have h1 := Int.mul_ediv_add_emod (g + a - 1) a
  have h2 := Int.emod_nonneg (g + a - 1) (by omega : a ≠ 0)
  have h3 := Int.emod_lt_of_pos (g + a - 1) ha
  have h4 := Int.ediv_le_ediv ha (show g ≤ g + a - 1 by omega)
  have h5 := Int.ediv_le_ediv ha (show g + a - 1 ≤ g + a * 1 by omega)
  rw [Int.add_mul_ediv_left _ _ (by omega : a ≠ 0)] at h5
  rw [Int.mul_comm] at h1
  exact ⟨by omega, h5, h4, Int.ediv_mul_le g (by omega)⟩
theorem encl {pl ph cl ch gl gh we ar P C G hl hh hl' hh' q1 q2 q1' q2' : Int} (a0 : 1 ≤ ar) (g0 : ar ≤ gl) (pc : ph ≤ cl) (hP : pl ≤ P ∧ P ≤ ph) (hC : cl ≤ C ∧ C ≤ ch) (hG : gl ≤ G ∧ G ≤ gh)
    (e1 : hl = gl / ar) (e2 : hh = (gh + ar - 1) / ar) (e3 : hl' = G / ar) (e4 : hh' = (G + ar - 1) / ar) (e5 : q1 = (pl - ch) / hl) (e6 : q2 = (cl - ph) / hh) (e7 : q1' = (P - C) / hl') (e8 : q2' = (C - P) / hh') :
    1 ≤ hl ∧ hl ≤ hl' ∧ hl' ≤ hh' ∧ hh' ≤ hh ∧ hh' ≤ hl' + 1 ∧ q1 ≤ q1' ∧ q2 ≤ q2' ∧ 0 ≤ q2' ∧ q2' ≤ C - P ∧ q1' ≤ 0 ∧ P - C ≤ q1' ∧ q2' * G ≤ (C - P) * ar ∧ (C - P) * ar ≤ (-q1') * G ∧ q2' ≤ -q1' := by
  have b1 : 1 ≤ hl := by rw [e1]; exact div_ge (by omega) g0
  have b2 : hl ≤ hl' := by rw [e1, e3]; exact Int.ediv_le_ediv (by omega) hG.1
  obtain ⟨c1, c2, c3, c4⟩ := ceil_bd (g := G) (a := ar) (by omega)
  rw [← e4] at c1 c2 c3
  rw [← e3] at c2 c3 c4
  have b3 : hh' ≤ hh := by rw [e4, e2]; exact Int.ediv_le_ediv (by omega) (by omega)
  have d1 : q1 ≤ q1' := by
    have h1 : (pl - ch) / hl ≤ (P - C) / hl := Int.ediv_le_ediv (by omega) (by omega)
    have h2 := div_neg_mono (x := P - C) (a := hl) (b := hl') (by omega) (by omega) b2
    omega
  have d2 : q2 ≤ q2' := by
    have h1 : (cl - ph) / hh ≤ (C - P) / hh := Int.ediv_le_ediv (by omega) (by omega)
    have h2 := div_pos_anti (x := C - P) (a := hh') (b := hh) (by omega) (by omega) b3
    omega
  have d3 : 0 ≤ q2' ∧ q2' ≤ C - P := by rw [e8]; exact (ediv_bd (by omega)).1 (by omega)
  have d4 : q1' ≤ 0 ∧ P - C ≤ q1' := by
    rw [e7]
    rcases Int.lt_or_le (P - C) 0 with h | h
    · have := (ediv_bd (a := P - C) (b := hl') (by omega)).2 h; omega
    · have e : P - C = 0 := by omega
      rw [e, Int.zero_ediv]; omega
  have f1 : q2' * hh' ≤ C - P := by rw [e8]; exact Int.ediv_mul_le _ (by omega)
  have f2 : q1' * hl' ≤ P - C := by rw [e7]; exact Int.ediv_mul_le _ (by omega)
  have g1 : q2' * G ≤ q2' * (hh' * ar) := Int.mul_le_mul_of_nonneg_left c1 d3.1
  have g2 : q2' * hh' * ar ≤ (C - P) * ar := Int.mul_le_mul_of_nonneg_right f1 (by omega)
  have g3 : -q1' * (hl' * ar) ≤ -q1' * G := Int.mul_le_mul_of_nonneg_left c4 (by omega)
  have g4 : (C - P) * ar ≤ (-q1' * hl') * ar := Int.mul_le_mul_of_nonneg_right (by rw [Int.neg_mul]; omega) (by omega)
  rw [Int.mul_assoc] at g2 g4
  have h5 : q2' * hl' ≤ q2' * hh' := Int.mul_le_mul_of_nonneg_left c3 d3.1
  have h6 : q2' ≤ -q1' := by
    have : q2' * hl' ≤ (-q1') * hl' := by rw [Int.neg_mul]; omega
    exact Int.le_of_mul_le_mul_right this (by omega)
  exact ⟨b1, b2, c3, b3, c2, d1, d2, d3.1, d3.2, d4.1, d4.2, by omega, by omega, h6⟩
theorem identL_good {pl ph cl ch gl gh we de ar : Int} (hok : ShutOK pl ph cl ch gl gh we de ar) (hpc : ph ≤ cl) : identL pl ph cl ch gl gh we de ar =
    [.i (pl + we * de), .i (ph + we * de), .i (gl / ar), .i ((gh + ar - 1) / ar), .i (we + (pl - ch) / (gl / ar)), .i (we - (cl - ph) / ((gh + ar - 1) / ar)), .i (kindW (we + (pl - ch) / (gl / ar)) (we - (cl - ph) / ((gh + ar - 1) / ar))), .i 0] := by
  unfold identL
  rw [if_pos (shutE_0 hok hpc)]
theorem encloses_ok (awake_ok : tab.ok 19) : CtOK Try.prog 7 (ctLaw [.lf (.arr 3), .lf .int, .lf .int, .lf .int]) := by
  refine ct_ok (cx := cencloses) (Tab.cx_ok (all_cons newring_ok (all_cons shutof_ok (all_cons lwithin_ok (all_cons lin_ok (all_cons ident_ok (all_cons awake_ok all_nil))))))) Try.func7 (bds := []) (T := tencloses) (by kernel_rfl) ?_
  have h1 : cencloses.ct 21 = some ctNewRing := rfl
  have h2 : cencloses.ct 33 = some ctShutOf := rfl
  have h3 : cencloses.ct 34 = some ctLWithin := rfl
  have h4 : cencloses.ct 31 = some ctIdent := rfl
  have h5 : cencloses.ct 19 = some ctAwake := rfl
  unfold tencloses
  simp only [VC, allC, List.map_cons, List.map_nil, List.length_cons, List.length_nil, List.getElem?_cons_zero, List.getElem?_cons_succ, List.cons.injEq, C.i.injEq, C.b.injEq, and_true, true_and, forall_const, kindsOf_nil, kindsOf_lf, kindsOf_agg, kindsOf_box, boxKinds_nil, boxKinds_lf, boxKinds_agg, boxKinds_box, List.append_nil, List.cons_append, List.nil_append, den_cmp_le, den_cmp_lt, den_cmp_eq, den_cmp_ne, den_cmp_le', den_cmp_lt', den_cmp_eq', den_cmp_ne', den_and, den_and', den_or, den_or', den_not, den_not', den_blit, den_of, ev_var, at_0, at_1, at_2, at_3, at_4, at_5, at_6, at_7, at_skip, c_int, c_bool, c_arr, int_i, bool_b, rows_s, cs_nil, cs_cons, E.den_lit, E.den_var, E.den_add, E.den_sub, E.den_mul, E.den_quo, E.den_rem, E.den_max, E.den_min, E.den_len, E.den_cell, ctLaw, h1, ctNewRing, ctF, ringSh, h2, ctShutOf, shutSh, atPre, C.s.injEq]
  intro v rows d _ _ p p1 p2 c c1 c2 g g1 g2
  refine ⟨bds_nil _, ?_⟩
  rintro v0 w0 d0 _ _ at0 _ _ ⟨⟨rfl, rfl⟩, rfl⟩
  refine ⟨by omega, ?_⟩
  intro pl _ _ ph _ _ cl _ _ ch _ _ gl _ _ gh _ _ we _ _ de _ _ ar _ _ v1 w1 d1 _ _ at1 _ _ hg
  have hg' := hg
  unfold ShutGood at hg'
  unfold tencloses_3
  simp only [VC, allC, List.map_cons, List.map_nil, List.length_cons, List.length_nil, List.getElem?_cons_zero, List.getElem?_cons_succ, List.cons.injEq, C.i.injEq, C.b.injEq, and_true, true_and, forall_const, kindsOf_nil, kindsOf_lf, kindsOf_agg, kindsOf_box, boxKinds_nil, boxKinds_lf, boxKinds_agg, boxKinds_box, List.append_nil, List.cons_append, List.nil_append, den_cmp_le, den_cmp_lt, den_cmp_eq, den_cmp_ne, den_cmp_le', den_cmp_lt', den_cmp_eq', den_cmp_ne', den_and, den_and', den_or, den_or', den_not, den_not', den_blit, den_of, ev_var, at_0, at_1, at_2, at_3, at_4, at_5, at_6, at_7, at_skip, c_int, c_bool, c_arr, int_i, bool_b, rows_s, cs_nil, cs_cons, E.den_lit, E.den_var, E.den_add, E.den_sub, E.den_mul, E.den_quo, E.den_rem, E.den_max, E.den_min, E.den_len, E.den_cell, h3, ctLWithin, ctF]
  refine ⟨by omega, ?_⟩
  rintro P _ _ P' _ _ ⟨e1, e2⟩
  refine ⟨by omega, ?_⟩
  rintro C _ _ C' _ _ ⟨e3, e4⟩
  refine ⟨by omega, ?_⟩
  rintro G _ _ G' _ _ ⟨e5, e6⟩
  obtain rfl : P' = P := e2.trans e1.symm
  obtain rfl : C' = C := e4.trans e3.symm
  obtain rfl : G' = G := e6.trans e5.symm
  have hP : pl ≤ P' ∧ P' ≤ ph := by
    obtain ⟨-, -, x, y, -⟩ := emod_tmod (n := p) (m := ph - pl + 1) (by omega); omega
  have hC : cl ≤ C' ∧ C' ≤ ch := by
    obtain ⟨-, -, x, y, -⟩ := emod_tmod (n := c) (m := ch - cl + 1) (by omega); omega
  have hG : gl ≤ G' ∧ G' ≤ gh := by
    obtain ⟨-, -, x, y, -⟩ := emod_tmod (n := g) (m := gh - gl + 1) (by omega); omega
  clear e1 e2 e3 e4 e5 e6
  have ok1 : ShutOK pl ph cl ch gl gh we de ar := by unfold ShutOK; omega
  have ok2 : ShutOK P' P' C' C' G' G' we de ar := by unfold ShutOK; omega
  have EN := encl (pl := pl) (ph := ph) (cl := cl) (ch := ch) (gl := gl) (gh := gh) (we := we) (ar := ar) (P := P') (C := C') (G := G') (by omega) (by omega) (by omega) hP hC hG rfl rfl rfl rfl rfl rfl rfl rfl
  unfold tencloses_2
  simp only [VC, allC, List.map_cons, List.map_nil, List.length_cons, List.length_nil, List.getElem?_cons_zero, List.getElem?_cons_succ, List.cons.injEq, C.i.injEq, C.b.injEq, and_true, true_and, forall_const, kindsOf_nil, kindsOf_lf, kindsOf_agg, kindsOf_box, boxKinds_nil, boxKinds_lf, boxKinds_agg, boxKinds_box, List.append_nil, List.cons_append, List.nil_append, den_cmp_le, den_cmp_lt, den_cmp_eq, den_cmp_ne, den_cmp_le', den_cmp_lt', den_cmp_eq', den_cmp_ne', den_and, den_and', den_or, den_or', den_not, den_not', den_blit, den_of, ev_var, at_0, at_1, at_2, at_3, at_4, at_5, at_6, at_7, at_skip, c_int, c_bool, c_arr, int_i, bool_b, rows_s, cs_nil, cs_cons, E.den_lit, E.den_var, E.den_add, E.den_sub, E.den_mul, E.den_quo, E.den_rem, E.den_max, E.den_min, E.den_len, E.den_cell, h4, ctIdent, ctF, ingSh, shutSh]
  intro a0 _ _ a1 _ _ a2 _ _ a3 _ _ a4 _ _ a5 _ _ a6 _ _ a7 _ _ e1 b0 _ _ b1 _ _ b2 _ _ b3 _ _ b4 _ _ b5 _ _ b6 _ _ b7 _ _ e2
  rw [identL_good ok1 (by omega)] at e1
  rw [identL_good ok2 (by omega)] at e2
  simp only [List.cons.injEq, C.i.injEq, and_true] at e1 e2
  generalize gl / ar = hl at *
  generalize (gh + ar - 1) / ar = hh at *
  generalize G' / ar = hl' at *
  generalize (G' + ar - 1) / ar = hh' at *
  generalize (pl - ch) / hl = q1 at *
  generalize (cl - ph) / hh = q2 at *
  generalize (P' - C') / hl' = q1' at *
  generalize (C' - P') / hh' = q2' at *
  obtain ⟨rfl, rfl, rfl, rfl, rfl, rfl, k1, rfl⟩ := e1
  obtain ⟨rfl, rfl, rfl, rfl, rfl, rfl, k2, rfl⟩ := e2
  obtain ⟨n1, n2, n3, n4, n5, n6, n7, n8, n9, n10, n11, n12, n13, n14⟩ := EN
  have m1 := mul_bd (a := q2') (b := G') (A := 1000000000) (B := 2000000) (by omega) (by omega) (by omega) (by omega)
  have m2 := mul_bd (a := -q1') (b := G') (A := 1000000000) (B := 2000000) (by omega) (by omega) (by omega) (by omega)
  have m3 := mul_bd (a := C' - P') (b := ar) (A := 1000000000) (B := 500) (by omega) (by omega) (by omega) (by omega)
  have m4 := mul_bd (a := we) (b := de) (A := 40000) (B := 1048576) (by omega) (by omega) (by omega) (by omega)
  have s1 : we - (we - q2') = q2' := by omega
  have s2 : we - (we + q1') = -q1' := by omega
  have hk : a6 ≠ 4 → b6 = a6 := by
    intro h4
    unfold kindW at k1 k2
    split at k1
    · rw [if_pos (by omega)] at k2; omega
    · split at k1
      · rw [if_neg (by omega), if_pos (by omega)] at k2; omega
      · split at k1
        · rw [if_neg (by omega), if_neg (by omega), if_pos (by omega)] at k2; omega
        · omega
  unfold tencloses_1
  simp only [VC, allC, List.map_cons, List.map_nil, List.length_cons, List.length_nil, List.getElem?_cons_zero, List.getElem?_cons_succ, List.cons.injEq, C.i.injEq, C.b.injEq, and_true, true_and, forall_const, kindsOf_nil, kindsOf_lf, kindsOf_agg, kindsOf_box, boxKinds_nil, boxKinds_lf, boxKinds_agg, boxKinds_box, List.append_nil, List.cons_append, List.nil_append, den_cmp_le, den_cmp_lt, den_cmp_eq, den_cmp_ne, den_cmp_le', den_cmp_lt', den_cmp_eq', den_cmp_ne', den_and, den_and', den_or, den_or', den_not, den_not', den_blit, den_of, ev_var, at_0, at_1, at_2, at_3, at_4, at_5, at_6, at_7, at_skip, c_int, c_bool, c_arr, int_i, bool_b, rows_s, cs_nil, cs_cons, E.den_lit, E.den_var, E.den_add, E.den_sub, E.den_mul, E.den_quo, E.den_rem, E.den_max, E.den_min, E.den_len, E.den_cell, h5, ctAwake, ctF, s1, s2]
  clear k1 k2 ok1 ok2
  generalize we * de = md at *
  generalize q2' * G' = z1 at *
  generalize (C' - P') * ar = z2 at *
  generalize -q1' * G' = z3 at *
  exact ⟨fun h => absurd rfl h, fun h => absurd rfl h, fun h => (by have := h (by omega); omega), fun _ => ⟨fun h => (by have := h (by omega); omega), fun _ => ⟨fun h => (by have := h (by omega); omega), fun _ => ⟨fun h => absurd rfl h, by omega, fun h => (by omega), fun _ => ⟨by omega, by omega, by omega, by omega, fun h => (by omega),
    fun _ => ⟨by omega, by omega, by omega, fun h => (by omega), fun _ => ⟨fun h => ⟨fun h' => absurd (hk h) h', fun _ => ⟨by omega, by omega, fun t h => h, fun h => absurd rfl h⟩⟩, fun _ => ⟨by omega, by omega, fun t h => h, fun h => absurd rfl h⟩⟩⟩⟩⟩⟩⟩⟩
end Go.Proofs.Ytlbgcjpkegpmlaa
