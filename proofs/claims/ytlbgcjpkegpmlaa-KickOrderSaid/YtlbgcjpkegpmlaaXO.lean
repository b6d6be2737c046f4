/- KickOrder. -/
import Derived.Test.YtlbgcjpkegpmlaaXO2
import Derived.Test.YtlbgcjpkegpmlaaXO1
namespace Go.Proofs.Ytlbgcjpkegpmlaa
open Go.RowKit
set_option linter.unusedSimpArgs false
set_option linter.unusedVariables false

theorem ord_0 {x0 x1 x2 x3 x8 x9 y0 y1 : C} {a b c e ch pe de no st lo li ho n m z k : Int} {is was are : Bool}
    (h : (is = true → are = true ∧ k ≤ n) ∧ (are = false → latestC [[.i ch, .i pe, .i de, .i no, .i st, .i lo, .i li, .i ho], [.i ch, .i pe, .i de, .i no, .i st, .i lo, .i (max 1 (li - 100)), .i ho]] a b c e = [.i 0, .i 13]) ∧ (are = true → latestC [[.i ch, .i pe, .i de, .i no, .i st, .i lo, .i li, .i ho], [.i ch, .i pe, .i de, .i no, .i st, .i lo, .i (max 1 (li - 100)), .i ho]] a b c e = [.i k, .i 0]) ∧ (are = true → caughtC [[.i ch, .i pe, .i de, .i no, .i st, .i lo, .i li, .i ho], [.i ch, .i pe, .i de, .i no, .i st, .i lo, .i (max 1 (li - 100)), .i ho]] a c = [.i k, .i (gainV a c k), .i 0])) :
    VC corder (fun rs => rs = [C.b true]) torder_3 [x0, x1, x2, x3, C.i a, C.i b, C.i c, C.i e, x8, x9, C.i ch, C.i pe, C.i de, C.i no, C.i st, C.i lo, C.i li, C.i ho, y0, y1, C.i n, C.b is, C.i m, C.b was, C.i z, C.i k, C.b are] [] := by
  have h6 : corder.ct 50 = some ctLatest := rfl
  have h7 : corder.ct 51 = some ctCaught := rfl
  have h8 : corder.ct 23 = some ctGain := rfl
  have h9 : corder.ct 19 = some ctAwake := rfl
  unfold torder_3 torder_2 torder_1
  simp only [VC, allC, List.map_cons, List.map_nil, List.length_cons, List.length_nil, List.getElem?_cons_zero, List.getElem?_cons_succ, List.cons.injEq, C.i.injEq, C.b.injEq, and_true, true_and, forall_const, kindsOf_nil, kindsOf_lf, kindsOf_agg, kindsOf_box, boxKinds_nil, boxKinds_lf, boxKinds_agg, boxKinds_box, List.append_nil, List.cons_append, List.nil_append, den_cmp_le, den_cmp_lt, den_cmp_eq, den_cmp_ne, den_cmp_le', den_cmp_lt', den_cmp_eq', den_cmp_ne', den_and, den_and', den_or, den_or', den_not, den_not', den_blit, den_of, ev_var, at_0, at_1, at_2, at_3, at_4, at_5, at_6, at_7, at_skip, c_int, c_bool, c_arr, c_cnt, c_vec, ev_nil, ev_join, ev_sub3, loc_s, int_i, bool_b, rows_s, cs_nil, cs_cons, E.den_lit, E.den_var, E.den_add, E.den_sub, E.den_mul, E.den_quo, E.den_rem, E.den_max, E.den_min, E.den_len, E.den_wr, E.den_cell, h6, h7, h8, h9, ctLaw, ctLatest, ctCaught, ctGain, ctAwake, ctF, kickSh, kicksSh]
  exact both_ (G := gainV a c) h.1 h.2.1 h.2.2.1 h.2.2.2
theorem ord_1 {x0 x1 x2 x3 x8 x9 y0 y1 : C} {a b c e ch pe de no st lo li ho n m z k : Int} {is was are : Bool}
    (h : (is = true → are = true ∧ k ≤ n) ∧ (are = false → latestC [[.i ch, .i pe, .i de, .i no, .i st, .i lo, .i li, .i ho], [.i ch, .i pe, .i de, .i no, .i st, .i lo, .i li, .i (max 1 (ho - 1))]] a b c e = [.i 0, .i 13]) ∧ (are = true → latestC [[.i ch, .i pe, .i de, .i no, .i st, .i lo, .i li, .i ho], [.i ch, .i pe, .i de, .i no, .i st, .i lo, .i li, .i (max 1 (ho - 1))]] a b c e = [.i k, .i 0]) ∧ (are = true → caughtC [[.i ch, .i pe, .i de, .i no, .i st, .i lo, .i li, .i ho], [.i ch, .i pe, .i de, .i no, .i st, .i lo, .i li, .i (max 1 (ho - 1))]] a c = [.i k, .i (gainV a c k), .i 0])) :
    VC corder (fun rs => rs = [C.b true]) torder_5 [x0, x1, x2, x3, C.i a, C.i b, C.i c, C.i e, x8, x9, C.i ch, C.i pe, C.i de, C.i no, C.i st, C.i lo, C.i li, C.i ho, y0, y1, C.i n, C.b is, C.i m, C.b was, C.i z, C.i k, C.b are] [] := by
  have h6 : corder.ct 50 = some ctLatest := rfl
  have h7 : corder.ct 51 = some ctCaught := rfl
  have h8 : corder.ct 23 = some ctGain := rfl
  have h9 : corder.ct 19 = some ctAwake := rfl
  unfold torder_5 torder_4 torder_1
  simp only [VC, allC, List.map_cons, List.map_nil, List.length_cons, List.length_nil, List.getElem?_cons_zero, List.getElem?_cons_succ, List.cons.injEq, C.i.injEq, C.b.injEq, and_true, true_and, forall_const, kindsOf_nil, kindsOf_lf, kindsOf_agg, kindsOf_box, boxKinds_nil, boxKinds_lf, boxKinds_agg, boxKinds_box, List.append_nil, List.cons_append, List.nil_append, den_cmp_le, den_cmp_lt, den_cmp_eq, den_cmp_ne, den_cmp_le', den_cmp_lt', den_cmp_eq', den_cmp_ne', den_and, den_and', den_or, den_or', den_not, den_not', den_blit, den_of, ev_var, at_0, at_1, at_2, at_3, at_4, at_5, at_6, at_7, at_skip, c_int, c_bool, c_arr, c_cnt, c_vec, ev_nil, ev_join, ev_sub3, loc_s, int_i, bool_b, rows_s, cs_nil, cs_cons, E.den_lit, E.den_var, E.den_add, E.den_sub, E.den_mul, E.den_quo, E.den_rem, E.den_max, E.den_min, E.den_len, E.den_wr, E.den_cell, h6, h7, h8, h9, ctLaw, ctLatest, ctCaught, ctGain, ctAwake, ctF, kickSh, kicksSh]
  exact both_ (G := gainV a c) h.1 h.2.1 h.2.2.1 h.2.2.2
theorem ord_2 {x0 x1 x2 x3 x8 x9 y0 y1 : C} {a b c e ch pe de no st lo li ho n m z k : Int} {is was are : Bool}
    (h : (is = true → are = true ∧ k ≤ n) ∧ (are = false → latestC [[.i ch, .i pe, .i de, .i no, .i st, .i lo, .i li, .i ho], [.i ch, .i pe, .i de, .i no, .i st, .i (max 0 (lo - 1)), .i li, .i ho]] a b c e = [.i 0, .i 13]) ∧ (are = true → latestC [[.i ch, .i pe, .i de, .i no, .i st, .i lo, .i li, .i ho], [.i ch, .i pe, .i de, .i no, .i st, .i (max 0 (lo - 1)), .i li, .i ho]] a b c e = [.i k, .i 0]) ∧ (are = true → caughtC [[.i ch, .i pe, .i de, .i no, .i st, .i lo, .i li, .i ho], [.i ch, .i pe, .i de, .i no, .i st, .i (max 0 (lo - 1)), .i li, .i ho]] a c = [.i k, .i (gainV a c k), .i 0])) :
    VC corder (fun rs => rs = [C.b true]) torder_7 [x0, x1, x2, x3, C.i a, C.i b, C.i c, C.i e, x8, x9, C.i ch, C.i pe, C.i de, C.i no, C.i st, C.i lo, C.i li, C.i ho, y0, y1, C.i n, C.b is, C.i m, C.b was, C.i z, C.i k, C.b are] [] := by
  have h6 : corder.ct 50 = some ctLatest := rfl
  have h7 : corder.ct 51 = some ctCaught := rfl
  have h8 : corder.ct 23 = some ctGain := rfl
  have h9 : corder.ct 19 = some ctAwake := rfl
  unfold torder_7 torder_6 torder_1
  simp only [VC, allC, List.map_cons, List.map_nil, List.length_cons, List.length_nil, List.getElem?_cons_zero, List.getElem?_cons_succ, List.cons.injEq, C.i.injEq, C.b.injEq, and_true, true_and, forall_const, kindsOf_nil, kindsOf_lf, kindsOf_agg, kindsOf_box, boxKinds_nil, boxKinds_lf, boxKinds_agg, boxKinds_box, List.append_nil, List.cons_append, List.nil_append, den_cmp_le, den_cmp_lt, den_cmp_eq, den_cmp_ne, den_cmp_le', den_cmp_lt', den_cmp_eq', den_cmp_ne', den_and, den_and', den_or, den_or', den_not, den_not', den_blit, den_of, ev_var, at_0, at_1, at_2, at_3, at_4, at_5, at_6, at_7, at_skip, c_int, c_bool, c_arr, c_cnt, c_vec, ev_nil, ev_join, ev_sub3, loc_s, int_i, bool_b, rows_s, cs_nil, cs_cons, E.den_lit, E.den_var, E.den_add, E.den_sub, E.den_mul, E.den_quo, E.den_rem, E.den_max, E.den_min, E.den_len, E.den_wr, E.den_cell, h6, h7, h8, h9, ctLaw, ctLatest, ctCaught, ctGain, ctAwake, ctF, kickSh, kicksSh]
  exact both_ (G := gainV a c) h.1 h.2.1 h.2.2.1 h.2.2.2
theorem ord_3 {x0 x1 x2 x3 x8 x9 y0 y1 : C} {a b c e ch pe de no st lo li ho n m z k : Int} {is was are : Bool}
    (h : (is = true → are = true ∧ k ≤ n) ∧ (are = false → latestC [[.i ch, .i pe, .i de, .i no, .i st, .i lo, .i li, .i ho], [.i ch, .i pe, .i (max 0 (de - 1)), .i no, .i st, .i lo, .i li, .i ho]] a b c e = [.i 0, .i 13]) ∧ (are = true → latestC [[.i ch, .i pe, .i de, .i no, .i st, .i lo, .i li, .i ho], [.i ch, .i pe, .i (max 0 (de - 1)), .i no, .i st, .i lo, .i li, .i ho]] a b c e = [.i k, .i 0]) ∧ (are = true → caughtC [[.i ch, .i pe, .i de, .i no, .i st, .i lo, .i li, .i ho], [.i ch, .i pe, .i (max 0 (de - 1)), .i no, .i st, .i lo, .i li, .i ho]] a c = [.i k, .i (gainV a c k), .i 0])) :
    VC corder (fun rs => rs = [C.b true]) torder_9 [x0, x1, x2, x3, C.i a, C.i b, C.i c, C.i e, x8, x9, C.i ch, C.i pe, C.i de, C.i no, C.i st, C.i lo, C.i li, C.i ho, y0, y1, C.i n, C.b is, C.i m, C.b was, C.i z, C.i k, C.b are] [] := by
  have h6 : corder.ct 50 = some ctLatest := rfl
  have h7 : corder.ct 51 = some ctCaught := rfl
  have h8 : corder.ct 23 = some ctGain := rfl
  have h9 : corder.ct 19 = some ctAwake := rfl
  unfold torder_9 torder_8 torder_1
  simp only [VC, allC, List.map_cons, List.map_nil, List.length_cons, List.length_nil, List.getElem?_cons_zero, List.getElem?_cons_succ, List.cons.injEq, C.i.injEq, C.b.injEq, and_true, true_and, forall_const, kindsOf_nil, kindsOf_lf, kindsOf_agg, kindsOf_box, boxKinds_nil, boxKinds_lf, boxKinds_agg, boxKinds_box, List.append_nil, List.cons_append, List.nil_append, den_cmp_le, den_cmp_lt, den_cmp_eq, den_cmp_ne, den_cmp_le', den_cmp_lt', den_cmp_eq', den_cmp_ne', den_and, den_and', den_or, den_or', den_not, den_not', den_blit, den_of, ev_var, at_0, at_1, at_2, at_3, at_4, at_5, at_6, at_7, at_skip, c_int, c_bool, c_arr, c_cnt, c_vec, ev_nil, ev_join, ev_sub3, loc_s, int_i, bool_b, rows_s, cs_nil, cs_cons, E.den_lit, E.den_var, E.den_add, E.den_sub, E.den_mul, E.den_quo, E.den_rem, E.den_max, E.den_min, E.den_len, E.den_wr, E.den_cell, h6, h7, h8, h9, ctLaw, ctLatest, ctCaught, ctGain, ctAwake, ctF, kickSh, kicksSh]
  exact both_ (G := gainV a c) h.1 h.2.1 h.2.2.1 h.2.2.2
theorem ord_4 {x0 x1 x2 x3 x8 x9 y0 y1 : C} {a b c e ch pe de no st lo li ho n m z k : Int} {is was are : Bool}
    (h : (is = true → are = true ∧ k ≤ n) ∧ (are = false → latestC [[.i ch, .i pe, .i de, .i no, .i st, .i lo, .i li, .i ho], [.i ch, .i pe, .i de, .i (max 0 (no - 1)), .i st, .i lo, .i li, .i ho]] a b c e = [.i 0, .i 13]) ∧ (are = true → latestC [[.i ch, .i pe, .i de, .i no, .i st, .i lo, .i li, .i ho], [.i ch, .i pe, .i de, .i (max 0 (no - 1)), .i st, .i lo, .i li, .i ho]] a b c e = [.i k, .i 0]) ∧ (are = true → caughtC [[.i ch, .i pe, .i de, .i no, .i st, .i lo, .i li, .i ho], [.i ch, .i pe, .i de, .i (max 0 (no - 1)), .i st, .i lo, .i li, .i ho]] a c = [.i k, .i (gainV a c k), .i 0])) :
    VC corder (fun rs => rs = [C.b true]) torder_11 [x0, x1, x2, x3, C.i a, C.i b, C.i c, C.i e, x8, x9, C.i ch, C.i pe, C.i de, C.i no, C.i st, C.i lo, C.i li, C.i ho, y0, y1, C.i n, C.b is, C.i m, C.b was, C.i z, C.i k, C.b are] [] := by
  have h6 : corder.ct 50 = some ctLatest := rfl
  have h7 : corder.ct 51 = some ctCaught := rfl
  have h8 : corder.ct 23 = some ctGain := rfl
  have h9 : corder.ct 19 = some ctAwake := rfl
  unfold torder_11 torder_10 torder_1
  simp only [VC, allC, List.map_cons, List.map_nil, List.length_cons, List.length_nil, List.getElem?_cons_zero, List.getElem?_cons_succ, List.cons.injEq, C.i.injEq, C.b.injEq, and_true, true_and, forall_const, kindsOf_nil, kindsOf_lf, kindsOf_agg, kindsOf_box, boxKinds_nil, boxKinds_lf, boxKinds_agg, boxKinds_box, List.append_nil, List.cons_append, List.nil_append, den_cmp_le, den_cmp_lt, den_cmp_eq, den_cmp_ne, den_cmp_le', den_cmp_lt', den_cmp_eq', den_cmp_ne', den_and, den_and', den_or, den_or', den_not, den_not', den_blit, den_of, ev_var, at_0, at_1, at_2, at_3, at_4, at_5, at_6, at_7, at_skip, c_int, c_bool, c_arr, c_cnt, c_vec, ev_nil, ev_join, ev_sub3, loc_s, int_i, bool_b, rows_s, cs_nil, cs_cons, E.den_lit, E.den_var, E.den_add, E.den_sub, E.den_mul, E.den_quo, E.den_rem, E.den_max, E.den_min, E.den_len, E.den_wr, E.den_cell, h6, h7, h8, h9, ctLaw, ctLatest, ctCaught, ctGain, ctAwake, ctF, kickSh, kicksSh]
  exact both_ (G := gainV a c) h.1 h.2.1 h.2.2.1 h.2.2.2
theorem order_ok (awake_ok : tab.ok 19) : CtOK Try.prog 9 (ctLaw [.lf (.arr 3), .lf .int]) := by
  refine ct_ok (cx := corder) (Tab.cx_ok (all_cons newring_ok (all_cons kicksof_ok (all_cons sensorof_ok (all_cons mod_ok (all_cons late_ok (all_cons latest_ok (all_cons caught_ok (all_cons gain_ok (all_cons awake_ok all_nil)))))))))) Try.func9 (bds := []) (T := torder) order_tree ?_
  have h1 : corder.ct 21 = some ctNewRing := rfl
  have h2 : corder.ct 48 = some ctKicksOf := rfl
  have h3 : corder.ct 25 = some ctSensorOf := rfl
  have h4 : corder.ct 28 = some ctMod := rfl
  have h5 : corder.ct 49 = some ctLate := rfl
  have h6 : corder.ct 50 = some ctLatest := rfl
  have h7 : corder.ct 51 = some ctCaught := rfl
  have h8 : corder.ct 23 = some ctGain := rfl
  have h9 : corder.ct 19 = some ctAwake := rfl
  unfold torder torder_16
  simp only [VC, allC, List.map_cons, List.map_nil, List.length_cons, List.length_nil, List.getElem?_cons_zero, List.getElem?_cons_succ, List.cons.injEq, C.i.injEq, C.b.injEq, and_true, true_and, forall_const, kindsOf_nil, kindsOf_lf, kindsOf_agg, kindsOf_box, boxKinds_nil, boxKinds_lf, boxKinds_agg, boxKinds_box, List.append_nil, List.cons_append, List.nil_append, den_cmp_le, den_cmp_lt, den_cmp_eq, den_cmp_ne, den_cmp_le', den_cmp_lt', den_cmp_eq', den_cmp_ne', den_and, den_and', den_or, den_or', den_not, den_not', den_blit, den_of, ev_var, at_0, at_1, at_2, at_3, at_4, at_5, at_6, at_7, at_skip, c_int, c_bool, c_arr, c_cnt, c_vec, ev_nil, ev_join, ev_sub3, loc_s, int_i, bool_b, rows_s, cs_nil, cs_cons, E.den_lit, E.den_var, E.den_add, E.den_sub, E.den_mul, E.den_quo, E.den_rem, E.den_max, E.den_min, E.den_len, E.den_wr, E.den_cell, h1, h2, h3, h5, ctLaw, ctNewRing, ctKicksOf, ctSensorOf, ctLate, atPre, ctF, kickSh, kicksSh, sensSh, ringSh, skOf_mk]
  rintro v rows d hty hsm which w1 w2
  refine ⟨bds_nil _, ?_⟩
  rintro v0 rows0 d0 _ _ at0 _ _ ⟨hc, rfl⟩
  cases hc
  refine ⟨by omega, ?_⟩
  rintro a _ _ b _ _ c _ _ e _ _ v0 rows0 d0 _ _ at0 _ _ ⟨a0, a1, a2, c0, c1, c2, rfl, rfl, rfl⟩
  refine ⟨by omega, ?_⟩
  rintro ch _ _ pe _ _ de _ _ no _ _ st _ _ lo _ _ li _ _ ho _ _ v0 rows0 d0 _ _ at0 _ _ ⟨sg, rfl, rfl, rfl⟩
  rintro n _ _ is hn m _ _ was hm
  unfold torder_15
  simp only [VC, allC, List.map_cons, List.map_nil, List.length_cons, List.length_nil, List.getElem?_cons_zero, List.getElem?_cons_succ, List.cons.injEq, C.i.injEq, C.b.injEq, and_true, true_and, forall_const, kindsOf_nil, kindsOf_lf, kindsOf_agg, kindsOf_box, boxKinds_nil, boxKinds_lf, boxKinds_agg, boxKinds_box, List.append_nil, List.cons_append, List.nil_append, den_cmp_le, den_cmp_lt, den_cmp_eq, den_cmp_ne, den_cmp_le', den_cmp_lt', den_cmp_eq', den_cmp_ne', den_and, den_and', den_or, den_or', den_not, den_not', den_blit, den_of, ev_var, at_0, at_1, at_2, at_3, at_4, at_5, at_6, at_7, at_skip, c_int, c_bool, c_arr, c_cnt, c_vec, ev_nil, ev_join, ev_sub3, loc_s, int_i, bool_b, rows_s, cs_nil, cs_cons, E.den_lit, E.den_var, E.den_add, E.den_sub, E.den_mul, E.den_quo, E.den_rem, E.den_max, E.den_min, E.den_len, E.den_wr, E.den_cell, h4, ctLaw, ctMod, ctF]
  have k1 : KOk a c := by unfold KOk; omega
  have k2 : KOk b e := by unfold KOk; omega
  have ss : sensE ch pe de no st lo li ho = 0 := by
    unfold SensGood at sg
    exact sensE_yes (by omega) (by unfold SOk; omega)
  have hx : SKOk ⟨ch, pe, de, no, st, lo, li, ho, a, c⟩ := ⟨ss, k1⟩
  have hy : SKOk ⟨ch, pe, de, no, st, lo, li, ho, b, e⟩ := ⟨ss, k2⟩
  obtain ⟨n1, n2⟩ := latE_out hx hn
  obtain ⟨m1, m2⟩ := latE_out hy hm
  have hb : Better ⟨ch, pe, de, no, st, lo, li, ho, a, c⟩ ⟨ch, pe, de, no, st, lo, li, ho, b, e⟩ := ⟨rfl, by unfold SensGood at sg; simp only []; omega, fun n => saysV_mono k1 k2 a1 c1, Int.le_refl _, Int.le_refl _, Int.le_refl _, Int.le_refl _⟩
  have sg' := sg
  unfold SensGood at sg'
  have hpe : 0 ≤ pe := by omega
  have hks : kicksE a b c e = 0 := by unfold kicksE; rw [if_pos ⟨a1, c1, k1, k2⟩]
  have rx : sensRow [.i ch, .i pe, .i de, .i no, .i st, .i lo, .i li, .i ho] = 0 := ss
  have rest : ∀ z, z = which % 5 → VC corder (fun rs => rs = [C.b true]) torder_14 [C.s v0 rows0, C.i which, C.s v0 rows0, C.i 0, C.i a, C.i b, C.i c, C.i e, C.s v0 rows0, C.i (0 + 6), C.i ch, C.i pe, C.i de, C.i no, C.i st, C.i lo, C.i li, C.i ho, C.s v0 rows0, C.i (0 + 6 + 9), C.i n, C.b is, C.i m, C.b was, C.i z] [] := by
    intro z hz
    have z0 : 0 ≤ z := by omega
    have z5 : z < 5 := by omega
    have sy : ∀ {no' lo' de' li' ho' : Int}, 0 ≤ no' → no' ≤ no → 0 ≤ lo' → lo' ≤ lo → 0 ≤ de' → de' ≤ de → 1 ≤ li' → li' ≤ li → 1 ≤ ho' → ho' ≤ ho → sensE ch pe de' no' st lo' li' ho' = 0 := fun _ _ _ _ _ _ _ _ _ _ => sensE_yes (by omega) (by unfold SOk; omega)
    have two := fun (x : List C) (k : Int) (are : Bool) (h1 : sensRow x = 0) (h2 : Better (skR a c [.i ch, .i pe, .i de, .i no, .i st, .i lo, .i li, .i ho]) (skR a c x)) (h3 : [C.i k, .b are] = latE (skR a c x)) => two_sensors (n := n) (is := is) rx h1 hks h2 hn h3
    unfold torder_14
    simp only [VC, allC, List.map_cons, List.map_nil, List.length_cons, List.length_nil, List.getElem?_cons_zero, List.getElem?_cons_succ, List.cons.injEq, C.i.injEq, C.b.injEq, and_true, true_and, forall_const, kindsOf_nil, kindsOf_lf, kindsOf_agg, kindsOf_box, boxKinds_nil, boxKinds_lf, boxKinds_agg, boxKinds_box, List.append_nil, List.cons_append, List.nil_append, den_cmp_le, den_cmp_lt, den_cmp_eq, den_cmp_ne, den_cmp_le', den_cmp_lt', den_cmp_eq', den_cmp_ne', den_and, den_and', den_or, den_or', den_not, den_not', den_blit, den_of, ev_var, at_0, at_1, at_2, at_3, at_4, at_5, at_6, at_7, at_skip, c_int, c_bool, c_arr, c_cnt, c_vec, ev_nil, ev_join, ev_sub3, loc_s, int_i, bool_b, rows_s, cs_nil, cs_cons, E.den_lit, E.den_var, E.den_add, E.den_sub, E.den_mul, E.den_quo, E.den_rem, E.den_max, E.den_min, E.den_len, E.den_wr, E.den_cell, h5, ctLate, ctF, kickSh, sensSh, skOf_mk]
    refine ⟨fun hz => ⟨by omega, ?_⟩, fun z1 => ⟨fun hz => ⟨by omega, ?_⟩, fun z2 => ⟨fun hz => ⟨by omega, ?_⟩, fun z3 => ⟨fun hz => ⟨by omega, ?_⟩, fun z4 => ⟨fun hz => ⟨by omega, ?_⟩, fun z5 => by omega⟩⟩⟩⟩⟩
    · intro k _ _ are h
      exact ord_0 (two [.i ch, .i pe, .i de, .i no, .i st, .i lo, .i (max 1 (li - 100)), .i ho] k are (show sensE ch pe de no st lo (max 1 (li - 100)) ho = 0 from sy (by omega) (by omega) (by omega) (by omega) (by omega) (by omega) (by omega) (by omega) (by omega) (by omega)) ⟨rfl, hpe, fun _ => Int.le_refl _, Int.le_refl _, show max 1 (li - 100) ≤ li by omega, Int.le_refl _, Int.le_refl _⟩ h)
    · intro k _ _ are h
      exact ord_1 (two [.i ch, .i pe, .i de, .i no, .i st, .i lo, .i li, .i (max 1 (ho - 1))] k are (show sensE ch pe de no st lo li (max 1 (ho - 1)) = 0 from sy (by omega) (by omega) (by omega) (by omega) (by omega) (by omega) (by omega) (by omega) (by omega) (by omega)) ⟨rfl, hpe, fun _ => Int.le_refl _, Int.le_refl _, Int.le_refl _, Int.mul_le_mul_of_nonneg_right (show max 1 (ho - 1) ≤ ho by omega) (show 0 ≤ lo + 1 by omega), Int.le_refl _⟩ h)
    · intro k _ _ are h
      exact ord_2 (two [.i ch, .i pe, .i de, .i no, .i st, .i (max 0 (lo - 1)), .i li, .i ho] k are (show sensE ch pe de no st (max 0 (lo - 1)) li ho = 0 from sy (by omega) (by omega) (by omega) (by omega) (by omega) (by omega) (by omega) (by omega) (by omega) (by omega)) ⟨rfl, hpe, fun _ => Int.le_refl _, Int.le_refl _, Int.le_refl _, Int.mul_le_mul_of_nonneg_left (show max 0 (lo - 1) + 1 ≤ lo + 1 by omega) (show 0 ≤ ho by omega), Int.le_refl _⟩ h)
    · intro k _ _ are h
      exact ord_3 (two [.i ch, .i pe, .i (max 0 (de - 1)), .i no, .i st, .i lo, .i li, .i ho] k are (show sensE ch pe (max 0 (de - 1)) no st lo li ho = 0 from sy (by omega) (by omega) (by omega) (by omega) (by omega) (by omega) (by omega) (by omega) (by omega) (by omega)) ⟨rfl, hpe, fun _ => Int.le_refl _, Int.le_refl _, Int.le_refl _, Int.le_refl _, show max 0 (de - 1) ≤ de by omega⟩ h)
    · intro k _ _ are h
      exact ord_4 (two [.i ch, .i pe, .i de, .i (max 0 (no - 1)), .i st, .i lo, .i li, .i ho] k are (show sensE ch pe de (max 0 (no - 1)) st lo li ho = 0 from sy (by omega) (by omega) (by omega) (by omega) (by omega) (by omega) (by omega) (by omega) (by omega) (by omega)) ⟨rfl, hpe, fun _ => Int.le_refl _, Int.mul_le_mul_of_nonneg_right (show max 0 (no - 1) ≤ no by omega) (show 0 ≤ st by omega), Int.le_refl _, Int.le_refl _, Int.le_refl _⟩ h)
  have up : is = true → was = true ∧ m ≤ n := fun h => by
    obtain ⟨o', h1, h2⟩ := latV_mono hb (n1 h)
    cases was with
    | false => rw [m2 rfl] at h1; cases h1
    | true => rw [m1 rfl] at h1; cases h1; exact ⟨rfl, h2⟩
  exact ⟨fun h => ⟨fun h' => (by rw [(up h).1] at h'; cases h'), fun _ => ⟨fun h' => absurd (up h).2 (by omega), fun _ => ⟨by omega, fun z _ _ hz => rest z hz⟩⟩⟩, fun _ => ⟨by omega, fun z _ _ hz => rest z hz⟩⟩
end Go.Proofs.Ytlbgcjpkegpmlaa
