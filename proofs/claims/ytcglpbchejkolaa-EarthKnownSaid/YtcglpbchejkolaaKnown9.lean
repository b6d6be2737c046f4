/- The law EarthKnown: for every input the call returns true, and each argument reads afterwards as it read before. The frame is printed by frame.py. -/
import Derived.Test.YtcglpbchejkolaaKnown8
import Derived.Test.YtcglpbchejkolaaRows
import Derived.ShutString
import Derived.ChangeOld
/- Earth: EarthKnown by the table. -/
namespace Go.Proofs.Ytcglpbchejkolaa
open Go.RowKit
set_option linter.unusedSimpArgs false
set_option linter.unusedVariables false

theorem ek1 : poreV shownE 50000 = (450000000, 600000000) := by decide +kernel
theorem ek2 : fracV shownE 50000 = (750000000, 1000000000) := by decide +kernel
theorem ek3 : poreV (shownE.only [⟨2, 40000, 400000000⟩]) 50000 = (450000000, 600000000) := by decide +kernel
theorem ek4 : poreV (shownE.only [⟨2, 40000, 380000000⟩]) 40000 = (360000000, 380000000) := by decide +kernel
theorem ek5 : poreV (shownE.only [⟨2, 40000, 380000000⟩]) 30000 = (270000000, 360000000) := by decide +kernel
theorem ek6 : conflictsV (shownE.only [⟨1, 50000, 590000000⟩, ⟨2, 60000, 550000000⟩]) = [[0, 1]] := by decide +kernel
theorem ek7 : conflictsV (shownE.only [⟨2, 50000, 440000000⟩]) = [[0]] := by decide +kernel
theorem ek8 : conflictsV shownE = [] := by decide +kernel
/-- The line of the chapter's examples. -/
def lineK : List Kn := [(0, 100), (10, 200), (30, 100)]
theorem ek9 : leastV lineK 5 15 = (150, 150) := by decide +kernel
theorem ek10 : mostV lineK 5 15 = (200, 200) := by decide +kernel
theorem ek11 : leastV lineK 0 40 = (100, 100) := by decide +kernel
theorem ek12 : (rightB lineK && rightB [(0, 100)] && aboveV lineK [(0, 100)] 2199023255552) = true := by decide +kernel
theorem ek13 : (rightB lineK && rightB [(0, 101)] && aboveV lineK [(0, 101)] 2199023255552) = false := by decide +kernel
theorem ek14 : lineV lineK 30 200 = 0 := by decide +kernel
theorem ek15 : lineV lineK 29 200 = 2 := by decide +kernel
theorem ek16 : lineV [] 1 1 = 6 := by decide +kernel
theorem ek17 : lineV [(5, 1), (5, 2)] 9 9 = 11 := by decide +kernel
theorem ek18 : atV lineK (-5) = (100, 100) := by decide +kernel
theorem ek19 : atV lineK 5 = (150, 150) := by decide +kernel
theorem ek20 : atV lineK 11 = (195, 195) := by decide +kernel
theorem ek21 : atV lineK 99 = (100, 100) := by decide +kernel
theorem ek22 : atV [(0, 0), (3, 10)] 1 = (3, 4) := by decide +kernel
def JT : List C → Prop := fun xs => match xs with | [.b t] => t = true | _ => False
set_option maxRecDepth 100000 in
theorem lknown_ok : CtOK Try.prog 14 (ctLaw []) := by
  refine ct_ok (cx := clknown) (Tab.cx_ok (all_cons mklineA_ok (all_cons shownA_ok (all_cons with_ok (all_cons slists_ok (all_cons (up9_ok (up7_ok (up6_ok (up5_ok (up4_ok (up3_ok (up_ok line_ok))))))) (all_cons (up9_ok (up7_ok (up6_ok (up5_ok (up4_ok (up3_ok (up_ok at_ok))))))) (all_cons (up9_ok (up7_ok (up6_ok (up5_ok (up4_ok least_ok))))) (all_cons (up9_ok (up7_ok (up6_ok (up5_ok (up4_ok most_ok))))) (all_cons (up9_ok (up7_ok (up6_ok (up5_ok (up4_ok (up3_ok (up_ok above2_ok))))))) (all_cons (up9_ok (up7_ok (up6_ok (up5_ok (up4_ok (up3_ok pore_ok)))))) (all_cons (up9_ok (up7_ok (up6_ok (up5_ok (up4_ok (up3_ok frac_ok)))))) (all_cons (up9_ok conflicts_ok) (all_cons (up9_ok (up7_ok (up6_ok (up5_ok (up4_ok (up3_ok awake_ok)))))) all_nil)))))))))))))) Try.func14 (bds := []) (T := tlknown) lknown_tree ?_
  have h1 : clknown.ct 55 = some ctMkLineA := rfl
  have h2 : clknown.ct 56 = some ctShownA := rfl
  have h3 : clknown.ct 57 = some ctWith := rfl
  have h4 : clknown.ct 58 = some ctLists := rfl
  have h5 : clknown.ct 18 = some ctLine := rfl
  have h6 : clknown.ct 23 = some ctAt := rfl
  have h7 : clknown.ct 39 = some (ctPart leastV) := rfl
  have h8 : clknown.ct 41 = some (ctPart mostV) := rfl
  have h9 : clknown.ct 21 = some ctAbove := rfl
  have h10 : clknown.ct 27 = some (ctRange poreV) := rfl
  have h11 : clknown.ct 29 = some (ctRange fracV) := rfl
  have h12 : clknown.ct 54 = some ctConflicts := rfl
  have h13 : clknown.ct 17 = some ctAwake := rfl
  unfold tlknown
  simp (maxSteps := 10000000) only [VC, allC, List.map_cons, List.map_nil, List.length_cons, List.length_nil, List.getElem?_cons_zero, List.getElem?_cons_succ, List.cons.injEq, C.i.injEq, C.b.injEq, and_true, true_and, forall_const, kindsOf_nil, kindsOf_lf, kindsOf_agg, kindsOf_box, boxKinds_nil, boxKinds_lf, boxKinds_agg, boxKinds_box, List.append_nil, List.cons_append, List.nil_append, den_cmp_le, den_cmp_lt, den_cmp_eq, den_cmp_ne, den_cmp_le', den_cmp_lt', den_cmp_eq', den_cmp_ne', den_and, den_and', den_or, den_or', den_not, den_not', den_blit, den_of, ev_var, at_0, at_1, at_2, at_3, at_4, at_5, at_6, at_7, at_skip, c_int, c_bool, c_arr, c_cnt, c_vec, ev_nil, ev_join, ev_sub3, loc_s, int_i, bool_b, rows_s, cs_nil, cs_cons, E.den_lit, E.den_var, E.den_add, E.den_sub, E.den_mul, E.den_quo, E.den_rem, E.den_max, E.den_min, E.den_len, E.den_wr, E.den_cell, h1, ctMkLineA, ctLaw, lineSh]
  refine ⟨bds_nil _, ?_⟩
  intro v1
  refine ⟨by decide, ?_⟩
  rintro v2 r2 _ _ _ ⟨_, _, e, hl⟩
  cases e
  have hl : knots r2 = lineK := hl
  have r2l : r2.length ≤ 1000 := by rw [← knots_len, hl]; decide
  unfold tlknown_17
  simp (maxSteps := 10000000) only [VC, allC, List.map_cons, List.map_nil, List.length_cons, List.length_nil, List.getElem?_cons_zero, List.getElem?_cons_succ, List.cons.injEq, C.i.injEq, C.b.injEq, and_true, true_and, forall_const, kindsOf_nil, kindsOf_lf, kindsOf_agg, kindsOf_box, boxKinds_nil, boxKinds_lf, boxKinds_agg, boxKinds_box, List.append_nil, List.cons_append, List.nil_append, den_cmp_le, den_cmp_lt, den_cmp_eq, den_cmp_ne, den_cmp_le', den_cmp_lt', den_cmp_eq', den_cmp_ne', den_and, den_and', den_or, den_or', den_not, den_not', den_blit, den_of, ev_var, at_0, at_1, at_2, at_3, at_4, at_5, at_6, at_7, at_skip, c_int, c_bool, c_arr, c_cnt, c_vec, ev_nil, ev_join, ev_sub3, loc_s, int_i, bool_b, rows_s, cs_nil, cs_cons, E.den_lit, E.den_var, E.den_add, E.den_sub, E.den_mul, E.den_quo, E.den_rem, E.den_max, E.den_min, E.den_len, E.den_wr, E.den_cell, ev_cell, h2, h3, h5, h6, h7, h8, h9, ctShownA, ctWith, ctLine, ctAt, ctPart, ctAbove, ctF, lineSh, rangeSh, earthSh, earthKs, ofKn, n_, k_, earOf, hl]
  refine ⟨JT, ?_, ?_⟩
  · rintro n _ _ hn
    rw [ek14] at hn
    subst hn
    unfold tlknown_2
    simp (maxSteps := 10000000) only [VC, allC, List.map_cons, List.map_nil, List.length_cons, List.length_nil, List.getElem?_cons_zero, List.getElem?_cons_succ, List.cons.injEq, C.i.injEq, C.b.injEq, and_true, true_and, forall_const, kindsOf_nil, kindsOf_lf, kindsOf_agg, kindsOf_box, boxKinds_nil, boxKinds_lf, boxKinds_agg, boxKinds_box, List.append_nil, List.cons_append, List.nil_append, den_cmp_le, den_cmp_lt, den_cmp_eq, den_cmp_ne, den_cmp_le', den_cmp_lt', den_cmp_eq', den_cmp_ne', den_and, den_and', den_or, den_or', den_not, den_not', den_blit, den_of, ev_var, at_0, at_1, at_2, at_3, at_4, at_5, at_6, at_7, at_skip, c_int, c_bool, c_arr, c_cnt, c_vec, ev_nil, ev_join, ev_sub3, loc_s, int_i, bool_b, rows_s, cs_nil, cs_cons, E.den_lit, E.den_var, E.den_add, E.den_sub, E.den_mul, E.den_quo, E.den_rem, E.den_max, E.den_min, E.den_len, E.den_wr, E.den_cell, ev_cell, h1, h5, ctMkLineA, ctLine, ctF, lineSh, n_, k_, hl]
    refine ⟨?_, fun h => absurd rfl h⟩
    rintro n _ _ hn
    rw [ek15] at hn
    refine ⟨fun _ => ⟨by decide, ?_⟩, fun h => absurd hn h⟩
    rintro v r _ _ _ ⟨_, _, e, hr⟩
    cases e
    have hr : knots r = [] := hr
    rw [hr]
    rintro m _ _ hm
    rw [ek16] at hm
    subst hm
    unfold tlknown_1
    simp (maxSteps := 10000000) only [VC, allC, List.map_cons, List.map_nil, List.length_cons, List.length_nil, List.getElem?_cons_zero, List.getElem?_cons_succ, List.cons.injEq, C.i.injEq, C.b.injEq, and_true, true_and, forall_const, kindsOf_nil, kindsOf_lf, kindsOf_agg, kindsOf_box, boxKinds_nil, boxKinds_lf, boxKinds_agg, boxKinds_box, List.append_nil, List.cons_append, List.nil_append, den_cmp_le, den_cmp_lt, den_cmp_eq, den_cmp_ne, den_cmp_le', den_cmp_lt', den_cmp_eq', den_cmp_ne', den_and, den_and', den_or, den_or', den_not, den_not', den_blit, den_of, ev_var, at_0, at_1, at_2, at_3, at_4, at_5, at_6, at_7, at_skip, c_int, c_bool, c_arr, c_cnt, c_vec, ev_nil, ev_join, ev_sub3, loc_s, int_i, bool_b, rows_s, cs_nil, cs_cons, E.den_lit, E.den_var, E.den_add, E.den_sub, E.den_mul, E.den_quo, E.den_rem, E.den_max, E.den_min, E.den_len, E.den_wr, E.den_cell, ev_cell, h1, h5, ctMkLineA, ctLine, ctF, lineSh, n_, k_]
    refine ⟨?_, fun h => absurd rfl h⟩
    intros
    refine ⟨by decide, ?_⟩
    rintro v r _ _ _ ⟨_, _, e, hr⟩
    cases e
    have hr : knots r = [(5, 1), (5, 2)] := hr
    rw [hr, ek17]
    rintro m _ _ hm
    subst hm
    rfl
  rintro t0 e0
  refine ⟨JT, ?_, ?_⟩
  · rintro n _ _ m _ _ ⟨hn, hm⟩
    rw [ek18] at hn hm
    have hn : n = 100 := hn
    have hm : m = 100 := hm
    subst hn hm
    refine ⟨fun _ => ?_, fun h => (by first | exact absurd rfl (h rfl) | exact (h rfl).elim)⟩
    rintro n _ _ m _ _ ⟨hn, hm⟩
    rw [ek19] at hn hm
    have hn : n = 150 := hn
    have hm : m = 150 := hm
    subst hn hm
    unfold tlknown_4
    simp (maxSteps := 10000000) only [VC, allC, List.map_cons, List.map_nil, List.length_cons, List.length_nil, List.getElem?_cons_zero, List.getElem?_cons_succ, List.cons.injEq, C.i.injEq, C.b.injEq, and_true, true_and, forall_const, kindsOf_nil, kindsOf_lf, kindsOf_agg, kindsOf_box, boxKinds_nil, boxKinds_lf, boxKinds_agg, boxKinds_box, List.append_nil, List.cons_append, List.nil_append, den_cmp_le, den_cmp_lt, den_cmp_eq, den_cmp_ne, den_cmp_le', den_cmp_lt', den_cmp_eq', den_cmp_ne', den_and, den_and', den_or, den_or', den_not, den_not', den_blit, den_of, ev_var, at_0, at_1, at_2, at_3, at_4, at_5, at_6, at_7, at_skip, c_int, c_bool, c_arr, c_cnt, c_vec, ev_nil, ev_join, ev_sub3, loc_s, int_i, bool_b, rows_s, cs_nil, cs_cons, E.den_lit, E.den_var, E.den_add, E.den_sub, E.den_mul, E.den_quo, E.den_rem, E.den_max, E.den_min, E.den_len, E.den_wr, E.den_cell, ev_cell, h6, ctAt, ctF, lineSh, rangeSh, ofKn, n_, k_, hl]
    refine ⟨?_, fun h => (by first | exact absurd rfl (h rfl) | exact (h rfl).elim)⟩
    rintro n _ _ m _ _ ⟨hn, hm⟩
    rw [ek20] at hn hm
    have hn : n = 195 := hn
    have hm : m = 195 := hm
    subst hn hm
    refine ⟨fun _ => ?_, fun h => (by first | exact absurd rfl (h rfl) | exact (h rfl).elim)⟩
    rintro n _ _ m _ _ ⟨hn, hm⟩
    rw [ek21] at hn hm
    have hn : n = 100 := hn
    have hm : m = 100 := hm
    subst hn hm
    unfold tlknown_3
    simp (maxSteps := 10000000) only [VC, allC, List.map_cons, List.map_nil, List.length_cons, List.length_nil, List.getElem?_cons_zero, List.getElem?_cons_succ, List.cons.injEq, C.i.injEq, C.b.injEq, and_true, true_and, forall_const, kindsOf_nil, kindsOf_lf, kindsOf_agg, kindsOf_box, boxKinds_nil, boxKinds_lf, boxKinds_agg, boxKinds_box, List.append_nil, List.cons_append, List.nil_append, den_cmp_le, den_cmp_lt, den_cmp_eq, den_cmp_ne, den_cmp_le', den_cmp_lt', den_cmp_eq', den_cmp_ne', den_and, den_and', den_or, den_or', den_not, den_not', den_blit, den_of, ev_var, at_0, at_1, at_2, at_3, at_4, at_5, at_6, at_7, at_skip, c_int, c_bool, c_arr, c_cnt, c_vec, ev_nil, ev_join, ev_sub3, loc_s, int_i, bool_b, rows_s, cs_nil, cs_cons, E.den_lit, E.den_var, E.den_add, E.den_sub, E.den_mul, E.den_quo, E.den_rem, E.den_max, E.den_min, E.den_len, E.den_wr, E.den_cell, ev_cell, h1, h6, ctMkLineA, ctAt, ctF, lineSh, rangeSh, ofKn, n_, k_, hl]
    refine ⟨?_, fun h => (by first | exact absurd rfl (h rfl) | exact (h rfl).elim)⟩
    intros
    refine ⟨by decide, ?_⟩
    rintro v r _ _ _ ⟨_, _, e, hr⟩
    cases e
    have hr : knots r = [(0, 0), (3, 10)] := hr
    rw [hr, ek22]
    rintro n _ _ m _ _ ⟨hn, hm⟩
    have hn : n = 3 := hn
    have hm : m = 4 := hm
    subst hn hm
    rfl
  rintro t1 e1
  refine ⟨JT, ⟨r2l, ?_⟩, ?_⟩
  · rintro n _ _ m _ _ ⟨hn, hm⟩
    rw [ek9] at hn hm
    have hn : n = 150 := hn
    have hm : m = 150 := hm
    subst hn hm
    unfold tlknown_7
    simp (maxSteps := 10000000) only [VC, allC, List.map_cons, List.map_nil, List.length_cons, List.length_nil, List.getElem?_cons_zero, List.getElem?_cons_succ, List.cons.injEq, C.i.injEq, C.b.injEq, and_true, true_and, forall_const, kindsOf_nil, kindsOf_lf, kindsOf_agg, kindsOf_box, boxKinds_nil, boxKinds_lf, boxKinds_agg, boxKinds_box, List.append_nil, List.cons_append, List.nil_append, den_cmp_le, den_cmp_lt, den_cmp_eq, den_cmp_ne, den_cmp_le', den_cmp_lt', den_cmp_eq', den_cmp_ne', den_and, den_and', den_or, den_or', den_not, den_not', den_blit, den_of, ev_var, at_0, at_1, at_2, at_3, at_4, at_5, at_6, at_7, at_skip, c_int, c_bool, c_arr, c_cnt, c_vec, ev_nil, ev_join, ev_sub3, loc_s, int_i, bool_b, rows_s, cs_nil, cs_cons, E.den_lit, E.den_var, E.den_add, E.den_sub, E.den_mul, E.den_quo, E.den_rem, E.den_max, E.den_min, E.den_len, E.den_wr, E.den_cell, ev_cell, h7, h8, ctPart, ctF, lineSh, rangeSh, ofKn, n_, k_, hl]
    refine ⟨⟨r2l, ?_⟩, fun h => (by first | exact absurd rfl (h rfl) | exact (h rfl).elim)⟩
    rintro n _ _ m _ _ ⟨hn, hm⟩
    rw [ek10] at hn hm
    have hn : n = 200 := hn
    have hm : m = 200 := hm
    subst hn hm
    refine ⟨fun _ => ⟨r2l, ?_⟩, fun h => (by first | exact absurd rfl (h rfl) | exact (h rfl).elim)⟩
    rintro n _ _ m _ _ ⟨hn, hm⟩
    rw [ek11] at hn hm
    have hn : n = 100 := hn
    have hm : m = 100 := hm
    subst hn hm
    unfold tlknown_6
    simp (maxSteps := 10000000) only [VC, allC, List.map_cons, List.map_nil, List.length_cons, List.length_nil, List.getElem?_cons_zero, List.getElem?_cons_succ, List.cons.injEq, C.i.injEq, C.b.injEq, and_true, true_and, forall_const, kindsOf_nil, kindsOf_lf, kindsOf_agg, kindsOf_box, boxKinds_nil, boxKinds_lf, boxKinds_agg, boxKinds_box, List.append_nil, List.cons_append, List.nil_append, den_cmp_le, den_cmp_lt, den_cmp_eq, den_cmp_ne, den_cmp_le', den_cmp_lt', den_cmp_eq', den_cmp_ne', den_and, den_and', den_or, den_or', den_not, den_not', den_blit, den_of, ev_var, at_0, at_1, at_2, at_3, at_4, at_5, at_6, at_7, at_skip, c_int, c_bool, c_arr, c_cnt, c_vec, ev_nil, ev_join, ev_sub3, loc_s, int_i, bool_b, rows_s, cs_nil, cs_cons, E.den_lit, E.den_var, E.den_add, E.den_sub, E.den_mul, E.den_quo, E.den_rem, E.den_max, E.den_min, E.den_len, E.den_wr, E.den_cell, ev_cell, h1, h9, ctMkLineA, ctAbove, ctF, lineSh, n_, k_, hl]
    refine ⟨?_, fun h => (by first | exact absurd rfl (h rfl) | exact (h rfl).elim)⟩
    intros
    refine ⟨by decide, ?_⟩
    rintro v r _ _ _ ⟨_, _, e, hr⟩
    cases e
    have hr : knots r = [(0, 100)] := hr
    rw [hr, ek12]
    rintro t ht
    subst ht
    unfold tlknown_5
    simp (maxSteps := 10000000) only [VC, allC, List.map_cons, List.map_nil, List.length_cons, List.length_nil, List.getElem?_cons_zero, List.getElem?_cons_succ, List.cons.injEq, C.i.injEq, C.b.injEq, and_true, true_and, forall_const, kindsOf_nil, kindsOf_lf, kindsOf_agg, kindsOf_box, boxKinds_nil, boxKinds_lf, boxKinds_agg, boxKinds_box, List.append_nil, List.cons_append, List.nil_append, den_cmp_le, den_cmp_lt, den_cmp_eq, den_cmp_ne, den_cmp_le', den_cmp_lt', den_cmp_eq', den_cmp_ne', den_and, den_and', den_or, den_or', den_not, den_not', den_blit, den_of, ev_var, at_0, at_1, at_2, at_3, at_4, at_5, at_6, at_7, at_skip, c_int, c_bool, c_arr, c_cnt, c_vec, ev_nil, ev_join, ev_sub3, loc_s, int_i, bool_b, rows_s, cs_nil, cs_cons, E.den_lit, E.den_var, E.den_add, E.den_sub, E.den_mul, E.den_quo, E.den_rem, E.den_max, E.den_min, E.den_len, E.den_wr, E.den_cell, ev_cell, h1, h9, ctMkLineA, ctAbove, ctF, lineSh, n_, k_, hl]
    refine ⟨fun v4 => ⟨by decide, ?_⟩, fun h => (by cases h)⟩
    rintro v r _ _ _ ⟨_, _, e, hr⟩
    cases e
    have hr : knots r = [(0, 101)] := hr
    rw [hr, ek13]
    rintro t ht
    subst ht
    rfl
  rintro t2 e2
  refine ⟨JT, ?_, ?_⟩
  · rintro b0 _ _ y1 s1 _ _ _ y2 s2 _ _ _ y3 s3 _ _ _ y4 s4 _ _ _ gl _ _ gh _ _ y7 s7 _ _ _ hE
    unfold tlknown_9
    simp (maxSteps := 10000000) only [VC, allC, List.map_cons, List.map_nil, List.length_cons, List.length_nil, List.getElem?_cons_zero, List.getElem?_cons_succ, List.cons.injEq, C.i.injEq, C.b.injEq, and_true, true_and, forall_const, kindsOf_nil, kindsOf_lf, kindsOf_agg, kindsOf_box, boxKinds_nil, boxKinds_lf, boxKinds_agg, boxKinds_box, List.append_nil, List.cons_append, List.nil_append, den_cmp_le, den_cmp_lt, den_cmp_eq, den_cmp_ne, den_cmp_le', den_cmp_lt', den_cmp_eq', den_cmp_ne', den_and, den_and', den_or, den_or', den_not, den_not', den_blit, den_of, ev_var, at_0, at_1, at_2, at_3, at_4, at_5, at_6, at_7, at_skip, c_int, c_bool, c_arr, c_cnt, c_vec, ev_nil, ev_join, ev_sub3, loc_s, int_i, bool_b, rows_s, cs_nil, cs_cons, E.den_lit, E.den_var, E.den_add, E.den_sub, E.den_mul, E.den_quo, E.den_rem, E.den_max, E.den_min, E.den_len, E.den_wr, E.den_cell, ev_cell, h2, h10, ctShownA, ctRange, ctF, rangeSh, ofKn, earthSh, earthKs, n_, k_, earOf, hE]
    rintro n _ _ m _ _ ⟨hn, hm⟩
    rw [ek1] at hn hm
    have hn : n = 450000000 := hn
    have hm : m = 600000000 := hm
    subst hn hm
    refine ⟨fun _ => ?_, fun h => (by first | exact absurd rfl (h rfl) | exact (h rfl).elim)⟩
    rintro b0 _ _ y1 s1 _ _ _ y2 s2 _ _ _ y3 s3 _ _ _ y4 s4 _ _ _ gl _ _ gh _ _ y7 s7 _ _ _ hE
    unfold tlknown_8
    simp (maxSteps := 10000000) only [VC, allC, List.map_cons, List.map_nil, List.length_cons, List.length_nil, List.getElem?_cons_zero, List.getElem?_cons_succ, List.cons.injEq, C.i.injEq, C.b.injEq, and_true, true_and, forall_const, kindsOf_nil, kindsOf_lf, kindsOf_agg, kindsOf_box, boxKinds_nil, boxKinds_lf, boxKinds_agg, boxKinds_box, List.append_nil, List.cons_append, List.nil_append, den_cmp_le, den_cmp_lt, den_cmp_eq, den_cmp_ne, den_cmp_le', den_cmp_lt', den_cmp_eq', den_cmp_ne', den_and, den_and', den_or, den_or', den_not, den_not', den_blit, den_of, ev_var, at_0, at_1, at_2, at_3, at_4, at_5, at_6, at_7, at_skip, c_int, c_bool, c_arr, c_cnt, c_vec, ev_nil, ev_join, ev_sub3, loc_s, int_i, bool_b, rows_s, cs_nil, cs_cons, E.den_lit, E.den_var, E.den_add, E.den_sub, E.den_mul, E.den_quo, E.den_rem, E.den_max, E.den_min, E.den_len, E.den_wr, E.den_cell, ev_cell, h11, ctRange, ctF, rangeSh, ofKn, earthSh, earthKs, n_, k_, earOf, hE]
    rintro n _ _ m _ _ ⟨hn, hm⟩
    rw [ek2] at hn hm
    have hn : n = 750000000 := hn
    have hm : m = 1000000000 := hm
    subst hn hm
    rfl
  rintro t3 e3 va
  rintro ba _ _ a1 p1 _ _ _ a2 p2 _ _ _ a3 p3 _ _ _ a4 p4 _ _ _ gla _ _ gha _ _ a7 p7 _ _ _ hEa vb
  rintro bb _ _ b1 q1 _ _ _ b2 q2 _ _ _ b3 q3 _ _ _ b4 q4 _ _ _ glb _ _ ghb _ _ b7 q7 _ _ _ hEb
  have hEa : (⟨ba, knots p1, knots p2, knots p3, knots p4, gla, gha, repsOf p7⟩ : Ear) = shownE.only [⟨2, 40000, 400000000⟩] := hEa
  have hEb : (⟨bb, knots q1, knots q2, knots q3, knots q4, glb, ghb, repsOf q7⟩ : Ear) = shownE.only [⟨2, 40000, 380000000⟩] := hEb
  unfold tlknown_16
  simp (maxSteps := 10000000) only [VC, allC, List.map_cons, List.map_nil, List.length_cons, List.length_nil, List.getElem?_cons_zero, List.getElem?_cons_succ, List.cons.injEq, C.i.injEq, C.b.injEq, and_true, true_and, forall_const, kindsOf_nil, kindsOf_lf, kindsOf_agg, kindsOf_box, boxKinds_nil, boxKinds_lf, boxKinds_agg, boxKinds_box, List.append_nil, List.cons_append, List.nil_append, den_cmp_le, den_cmp_lt, den_cmp_eq, den_cmp_ne, den_cmp_le', den_cmp_lt', den_cmp_eq', den_cmp_ne', den_and, den_and', den_or, den_or', den_not, den_not', den_blit, den_of, ev_var, at_0, at_1, at_2, at_3, at_4, at_5, at_6, at_7, at_skip, c_int, c_bool, c_arr, c_cnt, c_vec, ev_nil, ev_join, ev_sub3, loc_s, int_i, bool_b, rows_s, cs_nil, cs_cons, E.den_lit, E.den_var, E.den_add, E.den_sub, E.den_mul, E.den_quo, E.den_rem, E.den_max, E.den_min, E.den_len, E.den_wr, E.den_cell, ev_cell, h3, h10, ctWith, ctRange, ctF, rangeSh, ofKn, earthSh, earthKs, n_, k_, earOf, hEa, hEb]
  refine ⟨JT, ?_, ?_⟩
  · rintro n _ _ m _ _ ⟨hn, hm⟩
    rw [ek3] at hn hm
    have hn : n = 450000000 := hn
    have hm : m = 600000000 := hm
    subst hn hm
    unfold tlknown_11
    simp (maxSteps := 10000000) only [VC, allC, List.map_cons, List.map_nil, List.length_cons, List.length_nil, List.getElem?_cons_zero, List.getElem?_cons_succ, List.cons.injEq, C.i.injEq, C.b.injEq, and_true, true_and, forall_const, kindsOf_nil, kindsOf_lf, kindsOf_agg, kindsOf_box, boxKinds_nil, boxKinds_lf, boxKinds_agg, boxKinds_box, List.append_nil, List.cons_append, List.nil_append, den_cmp_le, den_cmp_lt, den_cmp_eq, den_cmp_ne, den_cmp_le', den_cmp_lt', den_cmp_eq', den_cmp_ne', den_and, den_and', den_or, den_or', den_not, den_not', den_blit, den_of, ev_var, at_0, at_1, at_2, at_3, at_4, at_5, at_6, at_7, at_skip, c_int, c_bool, c_arr, c_cnt, c_vec, ev_nil, ev_join, ev_sub3, loc_s, int_i, bool_b, rows_s, cs_nil, cs_cons, E.den_lit, E.den_var, E.den_add, E.den_sub, E.den_mul, E.den_quo, E.den_rem, E.den_max, E.den_min, E.den_len, E.den_wr, E.den_cell, ev_cell, h10, ctRange, ctF, rangeSh, ofKn, earthSh, earthKs, n_, k_, earOf, hEb]
    refine ⟨?_, fun h => (by first | exact absurd rfl (h rfl) | exact (h rfl).elim)⟩
    rintro n _ _ m _ _ ⟨hn, hm⟩
    rw [ek4] at hn hm
    have hn : n = 360000000 := hn
    have hm : m = 380000000 := hm
    subst hn hm
    unfold tlknown_10
    simp (maxSteps := 10000000) only [VC, allC, List.map_cons, List.map_nil, List.length_cons, List.length_nil, List.getElem?_cons_zero, List.getElem?_cons_succ, List.cons.injEq, C.i.injEq, C.b.injEq, and_true, true_and, forall_const, kindsOf_nil, kindsOf_lf, kindsOf_agg, kindsOf_box, boxKinds_nil, boxKinds_lf, boxKinds_agg, boxKinds_box, List.append_nil, List.cons_append, List.nil_append, den_cmp_le, den_cmp_lt, den_cmp_eq, den_cmp_ne, den_cmp_le', den_cmp_lt', den_cmp_eq', den_cmp_ne', den_and, den_and', den_or, den_or', den_not, den_not', den_blit, den_of, ev_var, at_0, at_1, at_2, at_3, at_4, at_5, at_6, at_7, at_skip, c_int, c_bool, c_arr, c_cnt, c_vec, ev_nil, ev_join, ev_sub3, loc_s, int_i, bool_b, rows_s, cs_nil, cs_cons, E.den_lit, E.den_var, E.den_add, E.den_sub, E.den_mul, E.den_quo, E.den_rem, E.den_max, E.den_min, E.den_len, E.den_wr, E.den_cell, ev_cell, h10, ctRange, ctF, rangeSh, ofKn, earthSh, earthKs, n_, k_, earOf, hEb]
    refine ⟨?_, fun h => (by first | exact absurd rfl (h rfl) | exact (h rfl).elim)⟩
    rintro n _ _ m _ _ ⟨hn, hm⟩
    rw [ek5] at hn hm
    have hn : n = 270000000 := hn
    have hm : m = 360000000 := hm
    subst hn hm
    rfl
  rintro t4 e4 vc
  rintro bc _ _ c1 m1 _ _ _ c2 m2 _ _ _ c3 m3 _ _ _ c4 m4 _ _ _ glc _ _ ghc _ _ c7 m7 _ _ _ hEc vd
  rintro bd _ _ d1 w1 _ _ _ d2 w2 _ _ _ d3 w3 _ _ _ d4 w4 _ _ _ gld _ _ ghd _ _ d7 w7 _ _ _ hEd
  have hEc : (⟨bc, knots m1, knots m2, knots m3, knots m4, glc, ghc, repsOf m7⟩ : Ear) = shownE.only [⟨1, 50000, 590000000⟩, ⟨2, 60000, 550000000⟩] := hEc
  have hEd : (⟨bd, knots w1, knots w2, knots w3, knots w4, gld, ghd, repsOf w7⟩ : Ear) = shownE.only [⟨2, 50000, 440000000⟩] := hEd
  unfold tlknown_15
  simp (maxSteps := 10000000) only [VC, allC, List.map_cons, List.map_nil, List.length_cons, List.length_nil, List.getElem?_cons_zero, List.getElem?_cons_succ, List.cons.injEq, C.i.injEq, C.b.injEq, and_true, true_and, forall_const, kindsOf_nil, kindsOf_lf, kindsOf_agg, kindsOf_box, boxKinds_nil, boxKinds_lf, boxKinds_agg, boxKinds_box, List.append_nil, List.cons_append, List.nil_append, den_cmp_le, den_cmp_lt, den_cmp_eq, den_cmp_ne, den_cmp_le', den_cmp_lt', den_cmp_eq', den_cmp_ne', den_and, den_and', den_or, den_or', den_not, den_not', den_blit, den_of, ev_var, at_0, at_1, at_2, at_3, at_4, at_5, at_6, at_7, at_skip, c_int, c_bool, c_arr, c_cnt, c_vec, ev_nil, ev_join, ev_sub3, loc_s, int_i, bool_b, rows_s, cs_nil, cs_cons, E.den_lit, E.den_var, E.den_add, E.den_sub, E.den_mul, E.den_quo, E.den_rem, E.den_max, E.den_min, E.den_len, E.den_wr, E.den_cell, ev_cell, h4, h12, h13, ctLists, ctConflicts, ctAwake, ctF, earthSh, earthKs, n_, k_, earOf, hEc, hEd]
  refine ⟨JT, ?_, ?_⟩
  · rintro v rows _ _ _ ⟨_, _, e, hr⟩ va' vb' t ht
    cases e
    rw [hr, ek6] at ht
    have ht : t = true := ht.trans (by show ([[0, 1]] == [[0, 1]] : Bool) = true; decide)
    subst ht
    unfold tlknown_14
    simp (maxSteps := 10000000) only [VC, allC, List.map_cons, List.map_nil, List.length_cons, List.length_nil, List.getElem?_cons_zero, List.getElem?_cons_succ, List.cons.injEq, C.i.injEq, C.b.injEq, and_true, true_and, forall_const, kindsOf_nil, kindsOf_lf, kindsOf_agg, kindsOf_box, boxKinds_nil, boxKinds_lf, boxKinds_agg, boxKinds_box, List.append_nil, List.cons_append, List.nil_append, den_cmp_le, den_cmp_lt, den_cmp_eq, den_cmp_ne, den_cmp_le', den_cmp_lt', den_cmp_eq', den_cmp_ne', den_and, den_and', den_or, den_or', den_not, den_not', den_blit, den_of, ev_var, at_0, at_1, at_2, at_3, at_4, at_5, at_6, at_7, at_skip, c_int, c_bool, c_arr, c_cnt, c_vec, ev_nil, ev_join, ev_sub3, loc_s, int_i, bool_b, rows_s, cs_nil, cs_cons, E.den_lit, E.den_var, E.den_add, E.den_sub, E.den_mul, E.den_quo, E.den_rem, E.den_max, E.den_min, E.den_len, E.den_wr, E.den_cell, ev_cell, h12, ctConflicts, earthSh, earthKs, n_, k_, earOf, hEd]
    refine ⟨?_, fun h => (by cases h)⟩
    rintro v rows _ _ _ ⟨_, _, e, hr⟩
    cases e
    rw [ek7] at hr
    unfold tlknown_13
    simp (maxSteps := 10000000) only [VC, allC, List.map_cons, List.map_nil, List.length_cons, List.length_nil, List.getElem?_cons_zero, List.getElem?_cons_succ, List.cons.injEq, C.i.injEq, C.b.injEq, and_true, true_and, forall_const, kindsOf_nil, kindsOf_lf, kindsOf_agg, kindsOf_box, boxKinds_nil, boxKinds_lf, boxKinds_agg, boxKinds_box, List.append_nil, List.cons_append, List.nil_append, den_cmp_le, den_cmp_lt, den_cmp_eq, den_cmp_ne, den_cmp_le', den_cmp_lt', den_cmp_eq', den_cmp_ne', den_and, den_and', den_or, den_or', den_not, den_not', den_blit, den_of, ev_var, at_0, at_1, at_2, at_3, at_4, at_5, at_6, at_7, at_skip, c_int, c_bool, c_arr, c_cnt, c_vec, ev_nil, ev_join, ev_sub3, loc_s, int_i, bool_b, rows_s, cs_nil, cs_cons, E.den_lit, E.den_var, E.den_add, E.den_sub, E.den_mul, E.den_quo, E.den_rem, E.den_max, E.den_min, E.den_len, E.den_wr, E.den_cell, ev_cell, h2, h4, ctShownA, ctLists, ctF, earthSh, earthKs, n_, k_, earOf]
    rintro vc' vd' t ht
    rw [hr] at ht
    have ht : t = true := ht.trans (by show ([[0]] == [[0]] : Bool) = true; decide)
    subst ht
    refine ⟨fun _ => ?_, fun h => (by cases h)⟩
    rintro b0 _ _ y1 s1 _ _ _ y2 s2 _ _ _ y3 s3 _ _ _ y4 s4 _ _ _ gl _ _ gh _ _ y7 s7 _ _ _ hE
    unfold tlknown_12
    simp (maxSteps := 10000000) only [VC, allC, List.map_cons, List.map_nil, List.length_cons, List.length_nil, List.getElem?_cons_zero, List.getElem?_cons_succ, List.cons.injEq, C.i.injEq, C.b.injEq, and_true, true_and, forall_const, kindsOf_nil, kindsOf_lf, kindsOf_agg, kindsOf_box, boxKinds_nil, boxKinds_lf, boxKinds_agg, boxKinds_box, List.append_nil, List.cons_append, List.nil_append, den_cmp_le, den_cmp_lt, den_cmp_eq, den_cmp_ne, den_cmp_le', den_cmp_lt', den_cmp_eq', den_cmp_ne', den_and, den_and', den_or, den_or', den_not, den_not', den_blit, den_of, ev_var, at_0, at_1, at_2, at_3, at_4, at_5, at_6, at_7, at_skip, c_int, c_bool, c_arr, c_cnt, c_vec, ev_nil, ev_join, ev_sub3, loc_s, int_i, bool_b, rows_s, cs_nil, cs_cons, E.den_lit, E.den_var, E.den_add, E.den_sub, E.den_mul, E.den_quo, E.den_rem, E.den_max, E.den_min, E.den_len, E.den_wr, E.den_cell, ev_cell, h12, ctConflicts, earthSh, earthKs, n_, k_, earOf, hE]
    rintro v rows _ _ _ ⟨_, _, e, hr⟩
    cases e
    rw [ek8] at hr
    have hl0 : rows.length = 0 := by rw [← lists_len, hr]; rfl
    show ((rows.length : Int) == 0) = true
    rw [hl0]; rfl
  rintro t5 e5
  have F : ∀ {t : Bool} {p : Prop}, t = true → t = false → p := fun {t p} h1 h2 => by rw [h1] at h2; cases h2
  exact ⟨JT, ⟨fun _ => ⟨fun _ => ⟨fun _ => ⟨fun _ => ⟨fun _ => ⟨fun _ t ht => ht, F e5⟩, F e4⟩, F e3⟩, F e2⟩, F e1⟩, F e0⟩, fun t ht => ht⟩
end Go.Proofs.Ytcglpbchejkolaa
/- Arguments of any shape that the engine knows, opened: structs, and slices within slices. -/
namespace Go.Proofs.Ytcglpbchejkolaa
open Go.ChangeShapes Go.WideShapes Go.RowKit
set_option linter.unusedVariables false
def CellN (P : Program) (w : World) (n : Nat) (k : Lk) (u : Value) (c : C) : Prop := (∀ m, c.small m) ∧ match k with
  | .int => ∃ n, u = .int .i64 n ∧ c = .i n
  | .bool => ∃ t, u = .bool t ∧ c = .b t
  | .arr t => ∃ rows', c = .s u rows' ∧ ArrN P (fun b _ => b < w.heap.size) w n t u rows'
  | .vec _ => False
section
variable {H : Type} {enc : TypeId × Value → H} {P : Program} {w : World} {base : Nat} {spare : Nat → Bool} {held : Bool}
theorem CellN.rep {n : Nat} {k : Lk} {u : Value} {c : C} (h : CellN P w n k u c) : LRep P w (fun _ _ => False) k u c := by
  refine ⟨h.1, ?_⟩
  cases k with
  | int => exact h.2
  | bool => exact h.2
  | arr t =>
    obtain ⟨rows, rfl, hA⟩ := h.2
    exact ⟨rfl, u, rows, rfl, n, _, fun b o hb => ⟨hb, fun h => h⟩, hA⟩
  | vec t => exact h.2.elim
end
end Go.Proofs.Ytcglpbchejkolaa
/- The call of EarthKnown. -/
namespace Go.Proofs.Ytcglpbchejkolaa
open Go.RowKit
theorem walk_EarthKnown  (W : World)  :
    Calls Try.prog 14 #[] W fun e w' => e = .returned (.bool true) ∧ Below W.heap.size W w' := by
  exact law_walk lknown_ok rfl rfl
end Go.Proofs.Ytcglpbchejkolaa
namespace Go.Proofs.Ytcglpbchejkolaa.lawEarthKnown
open Go.ChangeShapes Go.WideShapes Go.ChangeAt Go.RowKit
set_option linter.unusedVariables false

set_option maxRecDepth 100000 in
theorem lifted (os : Os) (started : os.Started) (H : Type) (enc : TypeId × Value → H) :
    ReturnsInHanded {} Try.checked os 14 .any (Rows.earthKnownSpec.pre6 enc Try.prog Try.f14 Rows.earthKnownRow.domain false) (Rows.earthKnownSpec.post enc Try.prog Try.f14 false true false false) := by
  refine returnsInHanded_of_change (C := Try.checked) own started (by kernel_rfl) Try.func14
    (ChangeSpec.witness6 (enc := enc) (C := Try.checked) false ⟨#[], #[], []⟩ 8 (by kernel_rfl) (by kernel_rfl) (by kernel_rfl) (by kernel_rfl)) ?_
  intro W base args ds gs before hval0 hW hcnd _
  have hval : ∀ (j : Nat) t v, Try.f14.params[j]? = some t → args[j]? = some v → Value.okWide Try.prog W .any base t v := hval0
  have hW' := hW
  obtain ⟨p, q, hA0, hV, rfl, hfz, hnd⟩ := hW
  have hA : DataW.TrodAll enc Try.prog W 0 (fun _ => true) true Try.f14.params.toList args.toList ds p := hA0
  rw [Try.params14] at hA hval
  obtain ⟨hnil, rfl, rfl⟩ := trodAll_nil hA
  obtain rfl : args = #[] := by cases args; simp_all
  obtain ⟨rfl, rfl⟩ := trodVars_none hV
  clear hA0 hval0
  refine (walk_EarthKnown  W ).mono fun e W' ⟨he, bel⟩ => ?_
  subst he
  exact ⟨_, rfl, _, _, _, [], _, [], hW', trodAll_mk1 (shut_bool Try.underlying4 _), trodAll_mk0, rfl, bel.frame _, fun h => by cases h⟩

theorem over : Rows.earthKnownRow.holds Try.pinned (OpenSpec.ofChange Rows.earthKnownSpec) :=
  OpenClaim.holds_of_wide 14 Try.f14 rfl rfl rfl rfl rfl rfl rfl ⟨rfl, rfl, rfl, rfl, rfl⟩ rfl rfl rfl rfl rfl (by kernel_rfl) Try.func14 (by kernel_rfl)
    (of_decide_eq_true (by kernel_rfl)) (by unfold Func.isWrapper; first | (rw [if_pos (by decide +kernel)]; kernel_rfl) | (rw [if_neg (by decide +kernel)]; exact ⟨rfl, rfl⟩))
    (fun os started H enc _ => lifted os started H enc)

theorem proved : Rows.EarthKnownSaid := over
#print axioms proved
end Go.Proofs.Ytcglpbchejkolaa.lawEarthKnown
