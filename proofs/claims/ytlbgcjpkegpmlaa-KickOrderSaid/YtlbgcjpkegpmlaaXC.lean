/- Kicks and sensors: what is valid, flows, gains, values. -/
import Derived.Test.YtlbgcjpkegpmlaaX3
import Derived.Test.YtlbgcjpkegpmlaaXP
namespace Go.Proofs.Ytlbgcjpkegpmlaa
open Go.RowKit
set_option linter.unusedSimpArgs false
set_option linter.unusedVariables false

theorem kickE_yes {r g : Int} (h : KOk r g) : kickE r g = 0 := by unfold kickE; rw [if_pos h]
theorem kickE_no {r g : Int} (h : ¬ KOk r g) : kickE r g = 2 := by unfold kickE; rw [if_neg h]
theorem kick_ok : tab.ok 36 := by
  refine Tab.of_ct rfl rfl ⟨_, Try.func36, by decide, rfl⟩ ?_ ctF_det
  refine ct_ok (cx := ckick) (Tab.cx_ok (all_cons within_ok all_nil)) Try.func36 (bds := []) (T := tkick) (by kernel_rfl) ?_
  unfold tkick
  simp only [VC, allC, List.map_cons, List.map_nil, List.length_cons, List.length_nil, List.getElem?_cons_zero, List.getElem?_cons_succ, List.cons.injEq, C.i.injEq, C.b.injEq, and_true, true_and, forall_const, kindsOf_nil, kindsOf_lf, kindsOf_agg, kindsOf_box, boxKinds_nil, boxKinds_lf, boxKinds_agg, boxKinds_box, List.append_nil, List.cons_append, List.nil_append, den_cmp_le, den_cmp_lt, den_cmp_eq, den_cmp_ne, den_cmp_le', den_cmp_lt', den_cmp_eq', den_cmp_ne', den_and, den_and', den_or, den_or', den_not, den_not', den_blit, den_of, ev_var, at_0, at_1, at_2, at_3, at_4, at_5, at_6, at_7, at_skip, c_int, c_bool, c_arr, c_cnt, c_vec, ev_nil, ev_join, ev_sub3, loc_s, int_i, bool_b, rows_s, cs_nil, cs_cons, E.den_lit, E.den_var, E.den_add, E.den_sub, E.den_mul, E.den_quo, E.den_rem, E.den_max, E.den_min, E.den_len, E.den_wr, E.den_cell, ctKick, ctF, kickSh]; intro r r1 r2 g g1 g2; have k0 := @kickE_yes r g; have k2 := @kickE_no r g; unfold KOk at k0 k2; refine ⟨bds_nil _, ?_⟩; omega
theorem rkick_ok : tab.ok 37 := by
  refine Tab.of_ct rfl rfl ⟨_, Try.func37, by decide, rfl⟩ ?_ ctF_det
  refine ct_ok (cx := crkick) (Tab.cx_ok (all_cons between_ok all_nil)) Try.func37 (bds := []) (T := trkick) (by kernel_rfl) ?_
  unfold trkick
  simp only [VC, allC, List.map_cons, List.map_nil, List.length_cons, List.length_nil, List.getElem?_cons_zero, List.getElem?_cons_succ, List.cons.injEq, C.i.injEq, C.b.injEq, and_true, true_and, forall_const, kindsOf_nil, kindsOf_lf, kindsOf_agg, kindsOf_box, boxKinds_nil, boxKinds_lf, boxKinds_agg, boxKinds_box, List.append_nil, List.cons_append, List.nil_append, den_cmp_le, den_cmp_lt, den_cmp_eq, den_cmp_ne, den_cmp_le', den_cmp_lt', den_cmp_eq', den_cmp_ne', den_and, den_and', den_or, den_or', den_not, den_not', den_blit, den_of, ev_var, at_0, at_1, at_2, at_3, at_4, at_5, at_6, at_7, at_skip, c_int, c_bool, c_arr, c_cnt, c_vec, ev_nil, ev_join, ev_sub3, loc_s, int_i, bool_b, rows_s, cs_nil, cs_cons, E.den_lit, E.den_var, E.den_add, E.den_sub, E.den_mul, E.den_quo, E.den_rem, E.den_max, E.den_min, E.den_len, E.den_wr, E.den_cell, ctKick, ctF, kickSh]; intro r r1 r2 g g1 g2; have k0 := @kickE_yes r g; have k2 := @kickE_no r g; unfold KOk at k0 k2; refine ⟨bds_nil _, ?_⟩; omega
theorem least_ok : tab.ok 75 := by
  refine Tab.of_ct rfl rfl ⟨_, Try.func75, by decide, rfl⟩ ?_ ctF_det
  refine ct_ok (cx := cleast) (Tab.cx_ok all_nil) Try.func75 (bds := []) (T := tleast) (by kernel_rfl) ?_
  unfold tleast
  simp only [VC, allC, List.map_cons, List.map_nil, List.length_cons, List.length_nil, List.getElem?_cons_zero, List.getElem?_cons_succ, List.cons.injEq, C.i.injEq, C.b.injEq, and_true, true_and, forall_const, kindsOf_nil, kindsOf_lf, kindsOf_agg, kindsOf_box, boxKinds_nil, boxKinds_lf, boxKinds_agg, boxKinds_box, List.append_nil, List.cons_append, List.nil_append, den_cmp_le, den_cmp_lt, den_cmp_eq, den_cmp_ne, den_cmp_le', den_cmp_lt', den_cmp_eq', den_cmp_ne', den_and, den_and', den_or, den_or', den_not, den_not', den_blit, den_of, ev_var, at_0, at_1, at_2, at_3, at_4, at_5, at_6, at_7, at_skip, c_int, c_bool, c_arr, c_cnt, c_vec, ev_nil, ev_join, ev_sub3, loc_s, int_i, bool_b, rows_s, cs_nil, cs_cons, E.den_lit, E.den_var, E.den_add, E.den_sub, E.den_mul, E.den_quo, E.den_rem, E.den_max, E.den_min, E.den_len, E.den_wr, E.den_cell, ctLeast, ctF, kicksSh, kickSh]
  repeat' (first | exact bds_nil _ | apply And.intro | intro _)
theorem rleast_ok : tab.ok 76 := by
  refine Tab.of_ct rfl rfl ⟨_, Try.func76, by decide, rfl⟩ ?_ ctF_det
  refine ct_ok (cx := crleast) (Tab.cx_ok all_nil) Try.func76 (bds := []) (T := trleast) (by kernel_rfl) ?_
  unfold trleast
  simp only [VC, allC, List.map_cons, List.map_nil, List.length_cons, List.length_nil, List.getElem?_cons_zero, List.getElem?_cons_succ, List.cons.injEq, C.i.injEq, C.b.injEq, and_true, true_and, forall_const, kindsOf_nil, kindsOf_lf, kindsOf_agg, kindsOf_box, boxKinds_nil, boxKinds_lf, boxKinds_agg, boxKinds_box, List.append_nil, List.cons_append, List.nil_append, den_cmp_le, den_cmp_lt, den_cmp_eq, den_cmp_ne, den_cmp_le', den_cmp_lt', den_cmp_eq', den_cmp_ne', den_and, den_and', den_or, den_or', den_not, den_not', den_blit, den_of, ev_var, at_0, at_1, at_2, at_3, at_4, at_5, at_6, at_7, at_skip, c_int, c_bool, c_arr, c_cnt, c_vec, ev_nil, ev_join, ev_sub3, loc_s, int_i, bool_b, rows_s, cs_nil, cs_cons, E.den_lit, E.den_var, E.den_add, E.den_sub, E.den_mul, E.den_quo, E.den_rem, E.den_max, E.den_min, E.den_len, E.den_wr, E.den_cell, ctLeast, ctF, kicksSh, kickSh]
  repeat' (first | exact bds_nil _ | apply And.intro | intro _)
theorem kickE_iff {r g : Int} : kickE r g = 0 ↔ KOk r g := by unfold kickE; split <;> simp_all
theorem kicks_ok : tab.ok 38 := by
  refine Tab.of_ct rfl rfl ⟨_, Try.func38, by decide, rfl⟩ ?_ ctF_det
  refine ct_ok (cx := ckicks) (Tab.cx_ok (all_cons least_ok (all_cons kick_ok all_nil))) Try.func38 (bds := []) (T := tkicks) (by kernel_rfl) ?_
  have h1 : ckicks.ct 75 = some ctLeast := rfl
  have h2 : ckicks.ct 36 = some ctKick := rfl
  unfold tkicks
  simp only [VC, allC, List.map_cons, List.map_nil, List.length_cons, List.length_nil, List.getElem?_cons_zero, List.getElem?_cons_succ, List.cons.injEq, C.i.injEq, C.b.injEq, and_true, true_and, forall_const, kindsOf_nil, kindsOf_lf, kindsOf_agg, kindsOf_box, boxKinds_nil, boxKinds_lf, boxKinds_agg, boxKinds_box, List.append_nil, List.cons_append, List.nil_append, den_cmp_le, den_cmp_lt, den_cmp_eq, den_cmp_ne, den_cmp_le', den_cmp_lt', den_cmp_eq', den_cmp_ne', den_and, den_and', den_or, den_or', den_not, den_not', den_blit, den_of, ev_var, at_0, at_1, at_2, at_3, at_4, at_5, at_6, at_7, at_skip, c_int, c_bool, c_arr, c_cnt, c_vec, ev_nil, ev_join, ev_sub3, loc_s, int_i, bool_b, rows_s, cs_nil, cs_cons, E.den_lit, E.den_var, E.den_add, E.den_sub, E.den_mul, E.den_quo, E.den_rem, E.den_max, E.den_min, E.den_len, E.den_wr, E.den_cell, h1, h2, ctKicks, ctLeast, ctKick, ctF, kicksSh, kickSh]
  intro a _ _ b _ _ c _ _ d _ _
  have no : ¬ (a ≤ b ∧ c ≤ d ∧ KOk a c ∧ KOk b d) → 2 = kicksE a b c d := fun h => by unfold kicksE; rw [if_neg h]
  have yes : (a ≤ b ∧ c ≤ d ∧ KOk a c ∧ KOk b d) → 0 = kicksE a b c d := fun h => by unfold kicksE; rw [if_pos h]
  have f1 := @kickE_iff a c
  have f2 := @kickE_iff b d
  refine ⟨bds_nil _, fun h => no (by omega), fun h1 => ⟨fun h => no (by omega), fun h2 => ?_⟩⟩
  rintro x _ _ y _ _ ⟨rfl, rfl⟩ e _ _ rfl
  refine ⟨fun h => no fun h' => h (f1.2 h'.2.2.1), fun h3 => ?_⟩
  rintro e _ _ rfl
  exact ⟨fun h => no fun h' => h (f2.2 h'.2.2.2), fun h4 => yes ⟨h1, h2, f1.1 h3, f2.1 h4⟩⟩
theorem sensE_kind {ch pe de no st lo li ho : Int} (h : ch ≠ 1 ∧ ch ≠ 2) : sensE ch pe de no st lo li ho = 4 := by unfold sensE; rw [if_neg (by omega)]
theorem sensE_yes {ch pe de no st lo li ho : Int} (h : ch = 1 ∨ ch = 2) (h' : SOk pe de no st lo li ho) : sensE ch pe de no st lo li ho = 0 := by unfold sensE; rw [if_pos h, if_pos h']
theorem sensE_no {ch pe de no st lo li ho : Int} (h : ch = 1 ∨ ch = 2) (h' : ¬ SOk pe de no st lo li ho) : sensE ch pe de no st lo li ho = 2 := by unfold sensE; rw [if_pos h, if_neg h']
theorem sens_ok : tab.ok 40 := by
  refine Tab.of_ct rfl rfl ⟨_, Try.func40, by decide, rfl⟩ ?_ ctF_det
  refine ct_ok (cx := csens) (Tab.cx_ok (all_cons within_ok all_nil)) Try.func40 (bds := []) (T := tsens) (by kernel_rfl) ?_
  unfold tsens
  simp only [VC, allC, List.map_cons, List.map_nil, List.length_cons, List.length_nil, List.getElem?_cons_zero, List.getElem?_cons_succ, List.cons.injEq, C.i.injEq, C.b.injEq, and_true, true_and, forall_const, kindsOf_nil, kindsOf_lf, kindsOf_agg, kindsOf_box, boxKinds_nil, boxKinds_lf, boxKinds_agg, boxKinds_box, List.append_nil, List.cons_append, List.nil_append, den_cmp_le, den_cmp_lt, den_cmp_eq, den_cmp_ne, den_cmp_le', den_cmp_lt', den_cmp_eq', den_cmp_ne', den_and, den_and', den_or, den_or', den_not, den_not', den_blit, den_of, ev_var, at_0, at_1, at_2, at_3, at_4, at_5, at_6, at_7, at_skip, c_int, c_bool, c_arr, c_cnt, c_vec, ev_nil, ev_join, ev_sub3, loc_s, int_i, bool_b, rows_s, cs_nil, cs_cons, E.den_lit, E.den_var, E.den_add, E.den_sub, E.den_mul, E.den_quo, E.den_rem, E.den_max, E.den_min, E.den_len, E.den_wr, E.den_cell, ctSens, ctF, sensSh]; intro ch _ _ pe _ _ de _ _ no _ _ st _ _ lo _ _ li _ _ ho _ _; have k4 := @sensE_kind ch pe de no st lo li ho; have k0 := @sensE_yes ch pe de no st lo li ho; have k2 := @sensE_no ch pe de no st lo li ho; unfold SOk at k0 k2; refine ⟨bds_nil _, ?_⟩
  generalize sensE ch pe de no st lo li ho = E at *
  omega
theorem rsens_ok : tab.ok 41 := by
  refine Tab.of_ct rfl rfl ⟨_, Try.func41, by decide, rfl⟩ ?_ ctF_det
  refine ct_ok (cx := crsens) (Tab.cx_ok (all_cons between_ok all_nil)) Try.func41 (bds := []) (T := trsens) (by kernel_rfl) ?_
  unfold trsens
  simp only [VC, allC, List.map_cons, List.map_nil, List.length_cons, List.length_nil, List.getElem?_cons_zero, List.getElem?_cons_succ, List.cons.injEq, C.i.injEq, C.b.injEq, and_true, true_and, forall_const, kindsOf_nil, kindsOf_lf, kindsOf_agg, kindsOf_box, boxKinds_nil, boxKinds_lf, boxKinds_agg, boxKinds_box, List.append_nil, List.cons_append, List.nil_append, den_cmp_le, den_cmp_lt, den_cmp_eq, den_cmp_ne, den_cmp_le', den_cmp_lt', den_cmp_eq', den_cmp_ne', den_and, den_and', den_or, den_or', den_not, den_not', den_blit, den_of, ev_var, at_0, at_1, at_2, at_3, at_4, at_5, at_6, at_7, at_skip, c_int, c_bool, c_arr, c_cnt, c_vec, ev_nil, ev_join, ev_sub3, loc_s, int_i, bool_b, rows_s, cs_nil, cs_cons, E.den_lit, E.den_var, E.den_add, E.den_sub, E.den_mul, E.den_quo, E.den_rem, E.den_max, E.den_min, E.den_len, E.den_wr, E.den_cell, ctSens, ctF, sensSh]; intro ch _ _ pe _ _ de _ _ no _ _ st _ _ lo _ _ li _ _ ho _ _; have k4 := @sensE_kind ch pe de no st lo li ho; have k0 := @sensE_yes ch pe de no st lo li ho; have k2 := @sensE_no ch pe de no st lo li ho; unfold SOk at k0 k2; refine ⟨bds_nil _, ?_⟩
  generalize sensE ch pe de no st lo li ho = E at *
  omega
theorem firstE_drop {rows : List (List C)} {k : Nat} (h : k < rows.length) : firstE (rows.drop k) = if sensRow (rows.getD k []) = 0 then firstE (rows.drop (k + 1)) else sensRow (rows.getD k []) := by
  rw [List.drop_eq_getElem_cons h, firstE, List.getD_eq_getElem?_getD, List.getElem?_eq_getElem h]
  rfl
theorem sensorsE_short {rows : List (List C)} (h : (rows.length : Int) = 0) : 6 = sensorsE rows := by unfold sensorsE; rw [if_pos (by omega)]
theorem sensorsE_full {rows : List (List C)} (h : 4 < (rows.length : Int)) : 8 = sensorsE rows := by unfold sensorsE; rw [if_neg (by omega), if_pos (by omega)]
theorem sensorsE_first {rows : List (List C)} (h : (rows.length : Int) ≠ 0) (h' : (rows.length : Int) ≤ 4) : sensorsE rows = firstE rows := by unfold sensorsE; rw [if_neg (by omega), if_neg (by omega)]
theorem sensors_ok : tab.ok 42 := by
  refine Tab.of_ct rfl rfl ⟨_, Try.func42, by decide, rfl⟩ ?_ ctF_det
  refine ct_ok (cx := csensors) (Tab.cx_ok (all_cons sens_ok all_nil)) Try.func42 (bds := []) (T := tsensors) (by kernel_rfl) ?_
  have h1 : csensors.ct 40 = some ctSens := rfl
  unfold tsensors
  simp only [VC, allC, List.map_cons, List.map_nil, List.length_cons, List.length_nil, List.getElem?_cons_zero, List.getElem?_cons_succ, List.cons.injEq, C.i.injEq, C.b.injEq, and_true, true_and, forall_const, kindsOf_nil, kindsOf_lf, kindsOf_agg, kindsOf_box, boxKinds_nil, boxKinds_lf, boxKinds_agg, boxKinds_box, List.append_nil, List.cons_append, List.nil_append, den_cmp_le, den_cmp_lt, den_cmp_eq, den_cmp_ne, den_cmp_le', den_cmp_lt', den_cmp_eq', den_cmp_ne', den_and, den_and', den_or, den_or', den_not, den_not', den_blit, den_of, ev_var, at_0, at_1, at_2, at_3, at_4, at_5, at_6, at_7, at_skip, c_int, c_bool, c_arr, c_cnt, c_vec, ev_nil, ev_join, ev_sub3, loc_s, int_i, bool_b, rows_s, cs_nil, cs_cons, E.den_lit, E.den_var, E.den_add, E.den_sub, E.den_mul, E.den_quo, E.den_rem, E.den_max, E.den_min, E.den_len, E.den_wr, E.den_cell, h1, ctSensors, ctSens, ctF, sensSh]
  intro v rows d _ _
  refine ⟨bds_nil _, sensorsE_short, fun z1 => ⟨sensorsE_full, fun z2 => ?_⟩⟩; rw [sensorsE_first z1 z2]; refine ⟨fun xs => match xs with | [_, .i i] => 0 ≤ i ∧ i ≤ rows.length ∧ firstE rows = firstE (rows.drop i.toNat) | _ => False, fun xs => match xs with | [_, .i i] => ((rows.length : Int) - i).toNat | _ => 0, ⟨by omega, by omega, rfl⟩, ?_⟩; rintro x _ _ i _ _ ⟨i0, i1, hi⟩; refine ⟨fun hl => ⟨i0, hl, ?_⟩, fun hl => ?_⟩
  · rintro e _ _ he; have he' : e = sensRow (rows.getD i.toNat []) := he; have hd := firstE_drop (rows := rows) (k := i.toNat) (by omega); rw [← he'] at hd; refine ⟨fun h => (by rw [hi, hd, if_neg h]), fun h => ⟨⟨by omega, by omega, ?_⟩, (show ((rows.length : Int) - (i + 1)).toNat < ((rows.length : Int) - i).toNat from (by omega))⟩⟩; rw [hi, hd, if_pos h, show (i + 1).toNat = i.toNat + 1 by omega]
  · have e : i.toNat = rows.length := (by omega); rw [hi, e, List.drop_length]; rfl
theorem rsensors_ok : tab.ok 43 := by
  refine Tab.of_ct rfl rfl ⟨_, Try.func43, by decide, rfl⟩ ?_ ctF_det
  refine ct_ok (cx := crsensors) (Tab.cx_ok (all_cons rsens_ok all_nil)) Try.func43 (bds := []) (T := trsensors) (by kernel_rfl) ?_
  have h1 : crsensors.ct 41 = some ctSens := rfl
  unfold trsensors
  simp only [VC, allC, List.map_cons, List.map_nil, List.length_cons, List.length_nil, List.getElem?_cons_zero, List.getElem?_cons_succ, List.cons.injEq, C.i.injEq, C.b.injEq, and_true, true_and, forall_const, kindsOf_nil, kindsOf_lf, kindsOf_agg, kindsOf_box, boxKinds_nil, boxKinds_lf, boxKinds_agg, boxKinds_box, List.append_nil, List.cons_append, List.nil_append, den_cmp_le, den_cmp_lt, den_cmp_eq, den_cmp_ne, den_cmp_le', den_cmp_lt', den_cmp_eq', den_cmp_ne', den_and, den_and', den_or, den_or', den_not, den_not', den_blit, den_of, ev_var, at_0, at_1, at_2, at_3, at_4, at_5, at_6, at_7, at_skip, c_int, c_bool, c_arr, c_cnt, c_vec, ev_nil, ev_join, ev_sub3, loc_s, int_i, bool_b, rows_s, cs_nil, cs_cons, E.den_lit, E.den_var, E.den_add, E.den_sub, E.den_mul, E.den_quo, E.den_rem, E.den_max, E.den_min, E.den_len, E.den_wr, E.den_cell, h1, ctSensors, ctSens, ctF, sensSh]
  intro v rows d _ _
  refine ⟨bds_nil _, sensorsE_short, fun z1 => ⟨sensorsE_full, fun z2 => ?_⟩⟩; rw [sensorsE_first z1 z2]; refine ⟨fun xs => match xs with | [_, .i i] => 0 ≤ i ∧ i ≤ rows.length ∧ firstE rows = firstE (rows.drop i.toNat) | _ => False, fun xs => match xs with | [_, .i i] => ((rows.length : Int) - i).toNat | _ => 0, ⟨by omega, by omega, rfl⟩, ?_⟩; rintro x _ _ i _ _ ⟨i0, i1, hi⟩; refine ⟨fun hl => ⟨i0, hl, ?_⟩, fun hl => ?_⟩
  · rintro e _ _ he; have he' : e = sensRow (rows.getD i.toNat []) := he; have hd := firstE_drop (rows := rows) (k := i.toNat) (by omega); rw [← he'] at hd; refine ⟨fun h => (by rw [hi, hd, if_neg h]), fun h => ⟨⟨by omega, by omega, ?_⟩, (show ((rows.length : Int) - (i + 1)).toNat < ((rows.length : Int) - i).toNat from (by omega))⟩⟩; rw [hi, hd, if_pos h, show (i + 1).toNat = i.toNat + 1 by omega]
  · have e : i.toNat = rows.length := (by omega); rw [hi, e, List.drop_length]; rfl
theorem rkicks_ok : tab.ok 39 := by
  refine Tab.of_ct rfl rfl ⟨_, Try.func39, by decide, rfl⟩ ?_ ctF_det
  refine ct_ok (cx := crkicks) (Tab.cx_ok (all_cons rleast_ok (all_cons rkick_ok all_nil))) Try.func39 (bds := []) (T := trkicks) (by kernel_rfl) ?_
  have h1 : crkicks.ct 76 = some ctLeast := rfl
  have h2 : crkicks.ct 37 = some ctKick := rfl
  unfold trkicks
  simp only [VC, allC, List.map_cons, List.map_nil, List.length_cons, List.length_nil, List.getElem?_cons_zero, List.getElem?_cons_succ, List.cons.injEq, C.i.injEq, C.b.injEq, and_true, true_and, forall_const, kindsOf_nil, kindsOf_lf, kindsOf_agg, kindsOf_box, boxKinds_nil, boxKinds_lf, boxKinds_agg, boxKinds_box, List.append_nil, List.cons_append, List.nil_append, den_cmp_le, den_cmp_lt, den_cmp_eq, den_cmp_ne, den_cmp_le', den_cmp_lt', den_cmp_eq', den_cmp_ne', den_and, den_and', den_or, den_or', den_not, den_not', den_blit, den_of, ev_var, at_0, at_1, at_2, at_3, at_4, at_5, at_6, at_7, at_skip, c_int, c_bool, c_arr, c_cnt, c_vec, ev_nil, ev_join, ev_sub3, loc_s, int_i, bool_b, rows_s, cs_nil, cs_cons, E.den_lit, E.den_var, E.den_add, E.den_sub, E.den_mul, E.den_quo, E.den_rem, E.den_max, E.den_min, E.den_len, E.den_wr, E.den_cell, h1, h2, ctKicks, ctLeast, ctKick, ctF, kicksSh, kickSh]
  intro a _ _ b _ _ c _ _ d _ _
  have no : ¬ (a ≤ b ∧ c ≤ d ∧ KOk a c ∧ KOk b d) → 2 = kicksE a b c d := fun h => by unfold kicksE; rw [if_neg h]
  have yes : (a ≤ b ∧ c ≤ d ∧ KOk a c ∧ KOk b d) → 0 = kicksE a b c d := fun h => by unfold kicksE; rw [if_pos h]
  have f1 := @kickE_iff a c
  have f2 := @kickE_iff b d
  refine ⟨bds_nil _, fun h => no (by omega), fun h1 => ⟨fun h => no (by omega), fun h2 => ?_⟩⟩
  rintro x _ _ y _ _ ⟨rfl, rfl⟩ e _ _ rfl
  refine ⟨fun h => no fun h' => h (f1.2 h'.2.2.1), fun h3 => ?_⟩
  rintro e _ _ rfl
  exact ⟨fun h => no fun h' => h (f2.2 h'.2.2.2), fun h4 => yes ⟨h1, h2, f1.1 h3, f2.1 h4⟩⟩
theorem gain_facts {r g n : Int} (hk : KOk r g) (h0 : 0 ≤ n) (h1 : n ≤ 20000) : (0 ≤ n * r ∧ n * r ≤ 20000 * 16777216) ∧ (0 ≤ n * (n - 1) ∧ n * (n - 1) ≤ 400000000) ∧ (n * (n - 1)).tdiv 2 = n * (n - 1) / 2 ∧ (0 ≤ n * (n - 1) / 2 ∧ n * (n - 1) / 2 ≤ 200000000) ∧ (0 ≤ g * (n * (n - 1) / 2) ∧ g * (n * (n - 1) / 2) ≤ 4096 * 200000000) := by
  unfold KOk at hk
  have m1 := mul_bd (a := n) (b := r) (A := 20000) (B := 16777216) (by omega) (by omega) (by omega) (by omega)
  have m2 : 0 ≤ n * (n - 1) ∧ n * (n - 1) ≤ 400000000 := by
    rcases Int.lt_or_le n 1 with h | h
    · have e : n = 0 := by omega
      subst e; omega
    · have := mul_bd (a := n) (b := n - 1) (A := 20000) (B := 20000) (by omega) (by omega) (by omega) (by omega)
      omega
  have m3 : (n * (n - 1)).tdiv 2 = n * (n - 1) / 2 := Int.tdiv_eq_ediv_of_nonneg m2.1
  have m4 : 0 ≤ n * (n - 1) / 2 ∧ n * (n - 1) / 2 ≤ 200000000 := by omega
  have m5 := mul_bd (a := g) (b := n * (n - 1) / 2) (A := 4096) (B := 200000000) (by omega) (by omega) (by omega) (by omega)
  exact ⟨m1, m2, m3, m4, m5⟩
theorem flow1_ok : tab.ok 67 := by
  refine Tab.of_ct rfl rfl ⟨_, Try.func67, by decide, rfl⟩ ?_ ctF_det
  refine ct_ok (cx := cflow1) (Tab.cx_ok all_nil) Try.func67 (bds := []) (T := tflow1) (by kernel_rfl) ?_
  unfold tflow1
  simp only [VC, allC, List.map_cons, List.map_nil, List.length_cons, List.length_nil, List.getElem?_cons_zero, List.getElem?_cons_succ, List.cons.injEq, C.i.injEq, C.b.injEq, and_true, true_and, forall_const, kindsOf_nil, kindsOf_lf, kindsOf_agg, kindsOf_box, boxKinds_nil, boxKinds_lf, boxKinds_agg, boxKinds_box, List.append_nil, List.cons_append, List.nil_append, den_cmp_le, den_cmp_lt, den_cmp_eq, den_cmp_ne, den_cmp_le', den_cmp_lt', den_cmp_eq', den_cmp_ne', den_and, den_and', den_or, den_or', den_not, den_not', den_blit, den_of, ev_var, at_0, at_1, at_2, at_3, at_4, at_5, at_6, at_7, at_skip, c_int, c_bool, c_arr, c_cnt, c_vec, ev_nil, ev_join, ev_sub3, loc_s, int_i, bool_b, rows_s, cs_nil, cs_cons, E.den_lit, E.den_var, E.den_add, E.den_sub, E.den_mul, E.den_quo, E.den_rem, E.den_max, E.den_min, E.den_len, E.den_wr, E.den_cell, ctFlow1, ctF, kickSh]
  rintro r _ _ g _ _ n _ _ ⟨hk, hn⟩
  have hk' := hk
  unfold KOk at hk'
  refine ⟨bds_nil _, fun h => ?_, fun h => ?_⟩
  · unfold flowV; rw [if_neg (by omega)]
  · have m := mul_bd (a := n) (b := g) (A := 20000) (B := 4096) (by omega) (by omega) (by omega) (by omega)
    repeat (refine And.intro (by omega) ?_)
    unfold flowV; rw [if_pos ⟨hk, by omega, by omega⟩]
theorem gain1_ok : tab.ok 66 := by
  refine Tab.of_ct rfl rfl ⟨_, Try.func66, by decide, rfl⟩ ?_ ctF_det
  refine ct_ok (cx := cgain1) (Tab.cx_ok all_nil) Try.func66 (bds := []) (T := tgain1) (by kernel_rfl) ?_
  unfold tgain1
  simp only [VC, allC, List.map_cons, List.map_nil, List.length_cons, List.length_nil, List.getElem?_cons_zero, List.getElem?_cons_succ, List.cons.injEq, C.i.injEq, C.b.injEq, and_true, true_and, forall_const, kindsOf_nil, kindsOf_lf, kindsOf_agg, kindsOf_box, boxKinds_nil, boxKinds_lf, boxKinds_agg, boxKinds_box, List.append_nil, List.cons_append, List.nil_append, den_cmp_le, den_cmp_lt, den_cmp_eq, den_cmp_ne, den_cmp_le', den_cmp_lt', den_cmp_eq', den_cmp_ne', den_and, den_and', den_or, den_or', den_not, den_not', den_blit, den_of, ev_var, at_0, at_1, at_2, at_3, at_4, at_5, at_6, at_7, at_skip, c_int, c_bool, c_arr, c_cnt, c_vec, ev_nil, ev_join, ev_sub3, loc_s, int_i, bool_b, rows_s, cs_nil, cs_cons, E.den_lit, E.den_var, E.den_add, E.den_sub, E.den_mul, E.den_quo, E.den_rem, E.den_max, E.den_min, E.den_len, E.den_wr, E.den_cell, ctGain1, ctF, kickSh]
  rintro r _ _ g _ _ n _ _ ⟨hk, hn⟩
  have hk' := hk
  unfold KOk at hk'
  refine ⟨bds_nil _, fun h => ?_, fun h => ?_⟩
  · unfold gainV; rw [if_neg (by omega)]
  · obtain ⟨m1, m2, m3, m4, m5⟩ := gain_facts hk (n := n) (by omega) (by omega)
    rw [m3]
    repeat (refine And.intro (by omega) ?_)
    unfold gainV; rw [if_pos ⟨hk, by omega, by omega⟩]
theorem flow_ok : tab.ok 24 := by
  refine Tab.of_ct rfl rfl ⟨_, Try.func24, by decide, rfl⟩ ?_ ctF_det
  refine ct_ok (cx := cflow) (Tab.cx_ok (all_cons kick_ok (all_cons flow1_ok all_nil))) Try.func24 (bds := []) (T := tflow) (by kernel_rfl) ?_
  have h1 : cflow.ct 36 = some ctKick := rfl
  have h2 : cflow.ct 67 = some ctFlow1 := rfl
  unfold tflow
  simp only [VC, allC, List.map_cons, List.map_nil, List.length_cons, List.length_nil, List.getElem?_cons_zero, List.getElem?_cons_succ, List.cons.injEq, C.i.injEq, C.b.injEq, and_true, true_and, forall_const, kindsOf_nil, kindsOf_lf, kindsOf_agg, kindsOf_box, boxKinds_nil, boxKinds_lf, boxKinds_agg, boxKinds_box, List.append_nil, List.cons_append, List.nil_append, den_cmp_le, den_cmp_lt, den_cmp_eq, den_cmp_ne, den_cmp_le', den_cmp_lt', den_cmp_eq', den_cmp_ne', den_and, den_and', den_or, den_or', den_not, den_not', den_blit, den_of, ev_var, at_0, at_1, at_2, at_3, at_4, at_5, at_6, at_7, at_skip, c_int, c_bool, c_arr, c_cnt, c_vec, ev_nil, ev_join, ev_sub3, loc_s, int_i, bool_b, rows_s, cs_nil, cs_cons, E.den_lit, E.den_var, E.den_add, E.den_sub, E.den_mul, E.den_quo, E.den_rem, E.den_max, E.den_min, E.den_len, E.den_wr, E.den_cell, h1, h2, ctFlow, ctFlow1, ctKick, ctF, kickSh]
  intro r _ _ g _ _ n _ _
  refine ⟨bds_nil _, ?_⟩
  rintro e _ _ rfl
  refine ⟨fun h => (by unfold flowV; rw [if_neg fun h' => h (kickE_iff.2 h'.1)]), fun h => ⟨fun h' => (by unfold flowV; rw [if_neg (by omega)]), fun h' => ⟨⟨kickE_iff.1 h, by omega⟩, ?_⟩⟩⟩
  rintro x _ _ rfl
  rfl
theorem gain_ok : tab.ok 23 := by
  refine Tab.of_ct rfl rfl ⟨_, Try.func23, by decide, rfl⟩ ?_ ctF_det
  refine ct_ok (cx := cgain) (Tab.cx_ok (all_cons kick_ok (all_cons gain1_ok all_nil))) Try.func23 (bds := []) (T := tgain) (by kernel_rfl) ?_
  have h1 : cgain.ct 36 = some ctKick := rfl
  have h2 : cgain.ct 66 = some ctGain1 := rfl
  unfold tgain
  simp only [VC, allC, List.map_cons, List.map_nil, List.length_cons, List.length_nil, List.getElem?_cons_zero, List.getElem?_cons_succ, List.cons.injEq, C.i.injEq, C.b.injEq, and_true, true_and, forall_const, kindsOf_nil, kindsOf_lf, kindsOf_agg, kindsOf_box, boxKinds_nil, boxKinds_lf, boxKinds_agg, boxKinds_box, List.append_nil, List.cons_append, List.nil_append, den_cmp_le, den_cmp_lt, den_cmp_eq, den_cmp_ne, den_cmp_le', den_cmp_lt', den_cmp_eq', den_cmp_ne', den_and, den_and', den_or, den_or', den_not, den_not', den_blit, den_of, ev_var, at_0, at_1, at_2, at_3, at_4, at_5, at_6, at_7, at_skip, c_int, c_bool, c_arr, c_cnt, c_vec, ev_nil, ev_join, ev_sub3, loc_s, int_i, bool_b, rows_s, cs_nil, cs_cons, E.den_lit, E.den_var, E.den_add, E.den_sub, E.den_mul, E.den_quo, E.den_rem, E.den_max, E.den_min, E.den_len, E.den_wr, E.den_cell, h1, h2, ctGain, ctGain1, ctKick, ctF, kickSh]
  intro r _ _ g _ _ n _ _
  refine ⟨bds_nil _, ?_⟩
  rintro e _ _ rfl
  refine ⟨fun h => (by unfold gainV; rw [if_neg fun h' => h (kickE_iff.2 h'.1)]), fun h => ⟨fun h' => (by unfold gainV; rw [if_neg (by omega)]), fun h' => ⟨⟨kickE_iff.1 h, by omega⟩, ?_⟩⟩⟩
  rintro x _ _ rfl
  rfl
theorem rflow_ok : tab.ok 44 := by
  refine Tab.of_ct rfl rfl ⟨_, Try.func44, by decide, rfl⟩ ?_ ctF_det
  refine ct_ok (cx := crflow) (Tab.cx_ok (all_cons rkick_ok (all_cons between_ok all_nil))) Try.func44 (bds := []) (T := trflow) (by kernel_rfl) ?_
  have h1 : crflow.ct 37 = some ctKick := rfl
  unfold trflow
  simp only [VC, allC, List.map_cons, List.map_nil, List.length_cons, List.length_nil, List.getElem?_cons_zero, List.getElem?_cons_succ, List.cons.injEq, C.i.injEq, C.b.injEq, and_true, true_and, forall_const, kindsOf_nil, kindsOf_lf, kindsOf_agg, kindsOf_box, boxKinds_nil, boxKinds_lf, boxKinds_agg, boxKinds_box, List.append_nil, List.cons_append, List.nil_append, den_cmp_le, den_cmp_lt, den_cmp_eq, den_cmp_ne, den_cmp_le', den_cmp_lt', den_cmp_eq', den_cmp_ne', den_and, den_and', den_or, den_or', den_not, den_not', den_blit, den_of, ev_var, at_0, at_1, at_2, at_3, at_4, at_5, at_6, at_7, at_skip, c_int, c_bool, c_arr, c_cnt, c_vec, ev_nil, ev_join, ev_sub3, loc_s, int_i, bool_b, rows_s, cs_nil, cs_cons, E.den_lit, E.den_var, E.den_add, E.den_sub, E.den_mul, E.den_quo, E.den_rem, E.den_max, E.den_min, E.den_len, E.den_wr, E.den_cell, h1, ctFlow, ctKick, ctF, kickSh]
  intro r _ _ g _ _ n _ _
  refine ⟨bds_nil _, ?_⟩
  rintro e _ _ rfl
  refine ⟨fun h => (by unfold flowV; rw [if_neg fun h' => h (kickE_iff.2 h'.1)]), fun h => ⟨fun h' => (by unfold flowV; rw [if_neg (by omega)]), fun h' => ?_⟩⟩
  have hk := kickE_iff.1 h
  have hk' := hk
  unfold KOk at hk'
  have m := mul_bd (a := n) (b := g) (A := 20000) (B := 4096) (by omega) (by omega) (by omega) (by omega)
  repeat (refine And.intro (by omega) ?_)
  unfold flowV; rw [if_pos ⟨hk, by omega, by omega⟩]
theorem rgain_ok : tab.ok 45 := by
  refine Tab.of_ct rfl rfl ⟨_, Try.func45, by decide, rfl⟩ ?_ ctF_det
  refine ct_ok (cx := crgain) (Tab.cx_ok (all_cons rkick_ok (all_cons between_ok all_nil))) Try.func45 (bds := []) (T := trgain) (by kernel_rfl) ?_
  have h1 : crgain.ct 37 = some ctKick := rfl
  unfold trgain
  simp only [VC, allC, List.map_cons, List.map_nil, List.length_cons, List.length_nil, List.getElem?_cons_zero, List.getElem?_cons_succ, List.cons.injEq, C.i.injEq, C.b.injEq, and_true, true_and, forall_const, kindsOf_nil, kindsOf_lf, kindsOf_agg, kindsOf_box, boxKinds_nil, boxKinds_lf, boxKinds_agg, boxKinds_box, List.append_nil, List.cons_append, List.nil_append, den_cmp_le, den_cmp_lt, den_cmp_eq, den_cmp_ne, den_cmp_le', den_cmp_lt', den_cmp_eq', den_cmp_ne', den_and, den_and', den_or, den_or', den_not, den_not', den_blit, den_of, ev_var, at_0, at_1, at_2, at_3, at_4, at_5, at_6, at_7, at_skip, c_int, c_bool, c_arr, c_cnt, c_vec, ev_nil, ev_join, ev_sub3, loc_s, int_i, bool_b, rows_s, cs_nil, cs_cons, E.den_lit, E.den_var, E.den_add, E.den_sub, E.den_mul, E.den_quo, E.den_rem, E.den_max, E.den_min, E.den_len, E.den_wr, E.den_cell, h1, ctGain, ctKick, ctF, kickSh]
  intro r _ _ g _ _ n _ _
  refine ⟨bds_nil _, ?_⟩
  rintro e _ _ rfl
  refine ⟨fun h => (by unfold gainV; rw [if_neg fun h' => h (kickE_iff.2 h'.1)]), fun h => ⟨fun h' => (by unfold gainV; rw [if_neg (by omega)]), fun h' => ?_⟩⟩
  have hk := kickE_iff.1 h
  obtain ⟨m1, m2, m3, m4, m5⟩ := gain_facts hk (n := n) (by omega) (by omega)
  rw [m3]
  repeat (refine And.intro (by omega) ?_)
  unfold gainV; rw [if_pos ⟨hk, by omega, by omega⟩]
theorem rsays_ok : tab.ok 78 := by
  refine Tab.of_ct rfl rfl ⟨_, Try.func78, by decide, rfl⟩ ?_ ctF_det
  refine ct_ok (cx := crsays) (Tab.cx_ok (all_cons rflow_ok (all_cons rgain_ok all_nil))) Try.func78 (bds := []) (T := trsays) (by kernel_rfl) ?_
  have h1 : crsays.ct 44 = some ctFlow := rfl
  have h2 : crsays.ct 45 = some ctGain := rfl
  unfold trsays
  simp only [VC, allC, List.map_cons, List.map_nil, List.length_cons, List.length_nil, List.getElem?_cons_zero, List.getElem?_cons_succ, List.cons.injEq, C.i.injEq, C.b.injEq, and_true, true_and, forall_const, kindsOf_nil, kindsOf_lf, kindsOf_agg, kindsOf_box, boxKinds_nil, boxKinds_lf, boxKinds_agg, boxKinds_box, List.append_nil, List.cons_append, List.nil_append, den_cmp_le, den_cmp_lt, den_cmp_eq, den_cmp_ne, den_cmp_le', den_cmp_lt', den_cmp_eq', den_cmp_ne', den_and, den_and', den_or, den_or', den_not, den_not', den_blit, den_of, ev_var, at_0, at_1, at_2, at_3, at_4, at_5, at_6, at_7, at_skip, c_int, c_bool, c_arr, c_cnt, c_vec, ev_nil, ev_join, ev_sub3, loc_s, int_i, bool_b, rows_s, cs_nil, cs_cons, E.den_lit, E.den_var, E.den_add, E.den_sub, E.den_mul, E.den_quo, E.den_rem, E.den_max, E.den_min, E.den_len, E.den_wr, E.den_cell, h1, h2, ctSays, ctFlow, ctGain, ctF, kickSh, sensSh]
  intro ch _ _ pe _ _ de _ _ no _ _ st _ _ lo _ _ li _ _ ho _ _ r _ _ g _ _ n _ _
  refine ⟨bds_nil _, fun h => ?_, fun h => ?_⟩
  · rintro x _ _ rfl; unfold saysV; rw [if_pos h]
  · rintro x _ _ rfl; unfold saysV; rw [if_neg h]
theorem mul_abs {a b A B : Int} (h1 : -A ≤ a) (h2 : a ≤ A) (h3 : 0 ≤ b) (h4 : b ≤ B) : -(A * B) ≤ a * b ∧ a * b ≤ A * B := by
  have h5 : A * b ≤ A * B := Int.mul_le_mul_of_nonneg_left h4 (by omega)
  have h6 : a * b ≤ A * b := Int.mul_le_mul_of_nonneg_right h2 h3
  have h7 : -A * b ≤ a * b := Int.mul_le_mul_of_nonneg_right h1 h3
  rw [Int.neg_mul] at h7
  omega
theorem sensE_iff {ch pe de no st lo li ho : Int} : sensE ch pe de no st lo li ho = 0 ↔ (ch = 1 ∨ ch = 2) ∧ SOk pe de no st lo li ho := by
  unfold sensE
  split
  · split <;> simp_all
  · simp_all
theorem saysV_bd {ch r g n : Int} : 0 ≤ saysV ch r g n ∧ saysV ch r g n ≤ 1154744320000 := by
  unfold saysV
  split
  · unfold gainV
    split
    · rename_i h
      obtain ⟨m1, m2, m3, m4, m5⟩ := gain_facts h.1 h.2.1 h.2.2
      omega
    · omega
  · unfold flowV
    split
    · rename_i h
      obtain ⟨hk, h0, h1⟩ := h
      unfold KOk at hk
      have m := mul_bd (a := n) (b := g) (A := 20000) (B := 4096) (by omega) (by omega) (by omega) (by omega)
      omega
    · omega
theorem valueV_no {ch pe de no st lo li ho r g n e : Int} (h : ¬ (sensE ch pe de no st lo li ho = 0 ∧ KOk r g ∧ -no ≤ e ∧ e ≤ no ∧ n ≤ 20000)) : 0 = valueV ch pe de no st lo li ho r g n e := by unfold valueV; rw [if_neg h]
theorem valueV_yes {ch pe de no st lo li ho r g n e : Int} (h1 : sensE ch pe de no st lo li ho = 0) (h2 : KOk r g) (h3 : -no ≤ e) (h4 : e ≤ no) (h5 : n ≤ 20000) : saysV ch r g n + e * st = valueV ch pe de no st lo li ho r g n e := by unfold valueV; rw [if_pos ⟨h1, h2, h3, h4, h5⟩]
theorem rvalue_ok : tab.ok 47 := by
  refine Tab.of_ct rfl rfl ⟨_, Try.func47, by decide, rfl⟩ ?_ ctF_det
  refine ct_ok (cx := crvalue) (Tab.cx_ok (all_cons rsens_ok (all_cons rkick_ok (all_cons between_ok (all_cons rsays_ok all_nil))))) Try.func47 (bds := []) (T := trvalue) (by kernel_rfl) ?_
  have h1 : crvalue.ct 41 = some ctSens := rfl
  have h2 : crvalue.ct 37 = some ctKick := rfl
  have h3 : crvalue.ct 78 = some ctSays := rfl
  unfold trvalue
  simp only [VC, allC, List.map_cons, List.map_nil, List.length_cons, List.length_nil, List.getElem?_cons_zero, List.getElem?_cons_succ, List.cons.injEq, C.i.injEq, C.b.injEq, and_true, true_and, forall_const, kindsOf_nil, kindsOf_lf, kindsOf_agg, kindsOf_box, boxKinds_nil, boxKinds_lf, boxKinds_agg, boxKinds_box, List.append_nil, List.cons_append, List.nil_append, den_cmp_le, den_cmp_lt, den_cmp_eq, den_cmp_ne, den_cmp_le', den_cmp_lt', den_cmp_eq', den_cmp_ne', den_and, den_and', den_or, den_or', den_not, den_not', den_blit, den_of, ev_var, at_0, at_1, at_2, at_3, at_4, at_5, at_6, at_7, at_skip, c_int, c_bool, c_arr, c_cnt, c_vec, ev_nil, ev_join, ev_sub3, loc_s, int_i, bool_b, rows_s, cs_nil, cs_cons, E.den_lit, E.den_var, E.den_add, E.den_sub, E.den_mul, E.den_quo, E.den_rem, E.den_max, E.den_min, E.den_len, E.den_wr, E.den_cell, h1, h2, h3, ctValue, ctSens, ctKick, ctSays, ctF, kickSh, sensSh]
  intro ch _ _ pe _ _ de _ _ no _ _ st _ _ lo _ _ li _ _ ho _ _ r _ _ g _ _ n _ _ e _ _
  refine ⟨bds_nil _, ?_⟩
  rintro x _ _ hx
  subst hx
  refine ⟨fun h => valueV_no fun h' => h h'.1, fun hs => ?_⟩
  obtain ⟨-, hso⟩ := sensE_iff.1 hs
  unfold SOk at hso
  rintro x _ _ rfl
  refine ⟨fun h => valueV_no fun h' => h (kickE_iff.2 h'.2.1), fun hk => ?_⟩
  refine ⟨by omega, by omega, fun h => valueV_no (by omega), fun h => ⟨fun h' => valueV_no (by omega), fun h' => ?_⟩⟩
  rintro x _ _ rfl
  have b := @saysV_bd ch r g n
  have m := mul_abs (a := e) (b := st) (A := 15) (B := 1048576) (by omega) (by omega) (by omega) (by omega)
  exact ⟨by omega, by omega, by omega, valueV_yes hs (kickE_iff.1 hk) (by omega) (by omega) h'⟩
end Go.Proofs.Ytlbgcjpkegpmlaa
