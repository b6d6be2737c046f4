/- What a sensor's channel says: a function, flow or gain with the kick bound. By the kit's walk; then the value of a sample, by the engine. -/
import Derived.Test.YtlbgcjpkegpmlaaXC
import Derived.WalkKit
import Derived.WalkLawsBesides
import Derived.Lib.Hide
import Derived.Handy
namespace Go.Proofs.Ytlbgcjpkegpmlaa
open Go.RowKit
set_option linter.unusedSimpArgs false
set_option linter.unusedVariables false

theorem says_two (ch pe de no st lo li ho r g : Int) (w : World) (h : ch = 2) :
    Calls Try.prog 77 #[.agg #[.int .i64 ch, .int .i64 pe, .int .i64 de, .int .i64 no, .int .i64 st, .int .i64 lo, .int .i64 li, .int .i64 ho], .agg #[.int .i64 r, .int .i64 g]] w
      fun e w' => e = .returned (.func (Fn.func 67) #[.agg #[.int .i64 r, .int .i64 g]] #[]) ∧ Below w.heap.size w w' := by
  subst h
  go_enter Try.func77, Try.ntmps77
  go_wp2
  go_returns
  refine ⟨rfl, ?_⟩
  repeat' (first | with_reducible exact Below.refl _ _ | with_reducible refine bstep ?_ (by with_reducible assumption) | with_reducible refine balloc ?_ | with_reducible refine bdrew ?_ | with_reducible refine bdrewN ?_ _ | with_reducible refine bset ?_ (by go_size))
theorem says_else (ch pe de no st lo li ho r g : Int) (w : World) (h : ¬ ch = 2) :
    Calls Try.prog 77 #[.agg #[.int .i64 ch, .int .i64 pe, .int .i64 de, .int .i64 no, .int .i64 st, .int .i64 lo, .int .i64 li, .int .i64 ho], .agg #[.int .i64 r, .int .i64 g]] w
      fun e w' => e = .returned (.func (Fn.func 66) #[.agg #[.int .i64 r, .int .i64 g]] #[]) ∧ Below w.heap.size w w' := by
  go_enter Try.func77, Try.ntmps77
  go_wp2
  go_returns
  refine ⟨rfl, ?_⟩
  repeat' (first | with_reducible exact Below.refl _ _ | with_reducible refine bstep ?_ (by with_reducible assumption) | with_reducible refine balloc ?_ | with_reducible refine bdrew ?_ | with_reducible refine bdrewN ?_ _ | with_reducible refine bset ?_ (by go_size))
theorem says_ok : tab.ok 77 := by
  refine Tab.of_sel rfl rfl ⟨_, Try.func77, by decide, rfl⟩ rfl ?_
  intro Γ bd args obs b s1 s2 hn hg ho
  unfold saysS at hg
  split at hg
  · cases hg
    refine ⟨rfl, rfl, fun w => ?_⟩
    rename_i ch pe de no st lo li ho r g
    have hd := B.den_mkCmp hn .eq ch (.lit 2)
    by_cases h : ch.den Γ.ρ = 2
    · have e : (B.mkCmp bd .eq ch (.lit 2)).den Γ.ρ = true := by rw [hd]; simp [Cmp.den, h, E.den_lit]
      rw [if_pos e]
      exact says_two _ _ _ _ _ _ _ _ _ _ w h
    · have e : ¬ (B.mkCmp bd .eq ch (.lit 2)).den Γ.ρ = true := by rw [hd]; simp [Cmp.den, h, E.den_lit]
      rw [if_neg e]
      exact says_else _ _ _ _ _ _ _ _ _ _ w h
  · cases hg
theorem value_ok : tab.ok 46 := by
  refine Tab.of_ct rfl rfl ⟨_, Try.func46, by decide, rfl⟩ ?_ ctF_det
  refine ct_ok (cx := cvalue) (Tab.cx_ok (all_cons sens_ok (all_cons kick_ok (all_cons within_ok (all_cons says_ok (all_cons flow1_ok (all_cons gain1_ok all_nil))))))) Try.func46 (bds := []) (T := tvalue) (by kernel_rfl) ?_
  have h1 : cvalue.ct 40 = some ctSens := rfl
  have h2 : cvalue.ct 36 = some ctKick := rfl
  have h3 : cvalue.ct 67 = some ctFlow1 := rfl
  have h4 : cvalue.ct 66 = some ctGain1 := rfl
  unfold tvalue
  simp only [VC, allC, List.map_cons, List.map_nil, List.length_cons, List.length_nil, List.getElem?_cons_zero, List.getElem?_cons_succ, List.cons.injEq, C.i.injEq, C.b.injEq, and_true, true_and, forall_const, kindsOf_nil, kindsOf_lf, kindsOf_agg, kindsOf_box, boxKinds_nil, boxKinds_lf, boxKinds_agg, boxKinds_box, List.append_nil, List.cons_append, List.nil_append, den_cmp_le, den_cmp_lt, den_cmp_eq, den_cmp_ne, den_cmp_le', den_cmp_lt', den_cmp_eq', den_cmp_ne', den_and, den_and', den_or, den_or', den_not, den_not', den_blit, den_of, ev_var, at_0, at_1, at_2, at_3, at_4, at_5, at_6, at_7, at_skip, c_int, c_bool, c_arr, c_cnt, c_vec, ev_nil, ev_join, ev_sub3, loc_s, int_i, bool_b, rows_s, cs_nil, cs_cons, E.den_lit, E.den_var, E.den_add, E.den_sub, E.den_mul, E.den_quo, E.den_rem, E.den_max, E.den_min, E.den_len, E.den_wr, E.den_cell, h1, h2, h3, h4, ctValue, ctSens, ctKick, ctFlow1, ctGain1, ctF, kickSh, sensSh]
  intro ch _ _ pe _ _ de _ _ no _ _ st _ _ lo _ _ li _ _ ho _ _ r _ _ g _ _ n _ _ e _ _
  refine ⟨bds_nil _, ?_⟩
  rintro x _ _ hx
  subst hx
  refine ⟨fun h => valueV_no fun h' => h h'.1, fun hs => ?_⟩
  obtain ⟨hch, hso⟩ := sensE_iff.1 hs
  unfold SOk at hso
  rintro x _ _ rfl
  refine ⟨fun h => valueV_no fun h' => h (kickE_iff.2 h'.2.1), fun hk => ?_⟩
  have hk' := kickE_iff.1 hk
  have b := @saysV_bd ch r g n
  refine ⟨by omega, by omega, fun h => valueV_no (by omega), fun h => ⟨fun h' => valueV_no (by omega), fun h' => ?_⟩⟩
  have m := mul_abs (a := e) (b := st) (A := 15) (B := 1048576) (by omega) (by omega) (by omega) (by omega)
  have hv := valueV_yes (e := e) hs hk' (by omega) (by omega) h'
  refine ⟨by omega, fun hc => ⟨⟨hk', h'⟩, ?_⟩, fun hc => ⟨⟨hk', h'⟩, ?_⟩⟩
  · have he : saysV ch r g n = flowV r g n := by unfold saysV; rw [if_neg (by omega)]
    rw [he] at b hv
    rintro x _ _ rfl
    exact ⟨by omega, by omega, hv⟩
  · have he : saysV ch r g n = gainV r g n := by unfold saysV; rw [if_pos (by omega)]
    rw [he] at b hv
    rintro x _ _ rfl
    exact ⟨by omega, by omega, hv⟩
theorem checks_ok (awake_ok : tab.ok 19) : CtOK Try.prog 8 (ctLaw [kickSh, kicksSh, sensSh, .lf (.arr 23), .lf .int, .lf .int]) := by
  refine ct_ok (cx := cchecks) (Tab.cx_ok (all_cons kick_ok (all_cons rkick_ok (all_cons kicks_ok (all_cons rkicks_ok (all_cons sens_ok (all_cons rsens_ok (all_cons sensors_ok (all_cons rsensors_ok (all_cons flow_ok (all_cons rflow_ok (all_cons gain_ok (all_cons rgain_ok (all_cons value_ok (all_cons rvalue_ok (all_cons awake_ok all_nil)))))))))))))))) Try.func8 (bds := []) (T := tchecks) (by kernel_rfl) ?_
  have h1 : cchecks.ct 36 = some ctKick := rfl
  have h2 : cchecks.ct 37 = some ctKick := rfl
  have h3 : cchecks.ct 38 = some ctKicks := rfl
  have h4 : cchecks.ct 39 = some ctKicks := rfl
  have h5 : cchecks.ct 40 = some ctSens := rfl
  have h6 : cchecks.ct 41 = some ctSens := rfl
  have h7 : cchecks.ct 42 = some ctSensors := rfl
  have h8 : cchecks.ct 43 = some ctSensors := rfl
  have h9 : cchecks.ct 24 = some ctFlow := rfl
  have h10 : cchecks.ct 44 = some ctFlow := rfl
  have h11 : cchecks.ct 23 = some ctGain := rfl
  have h12 : cchecks.ct 45 = some ctGain := rfl
  have h13 : cchecks.ct 46 = some ctValue := rfl
  have h14 : cchecks.ct 47 = some ctValue := rfl
  have h15 : cchecks.ct 19 = some ctAwake := rfl
  unfold tchecks
  simp only [VC, allC, List.map_cons, List.map_nil, List.length_cons, List.length_nil, List.getElem?_cons_zero, List.getElem?_cons_succ, List.cons.injEq, C.i.injEq, C.b.injEq, and_true, true_and, forall_const, kindsOf_nil, kindsOf_lf, kindsOf_agg, kindsOf_box, boxKinds_nil, boxKinds_lf, boxKinds_agg, boxKinds_box, List.append_nil, List.cons_append, List.nil_append, den_cmp_le, den_cmp_lt, den_cmp_eq, den_cmp_ne, den_cmp_le', den_cmp_lt', den_cmp_eq', den_cmp_ne', den_and, den_and', den_or, den_or', den_not, den_not', den_blit, den_of, ev_var, at_0, at_1, at_2, at_3, at_4, at_5, at_6, at_7, at_skip, c_int, c_bool, c_arr, c_cnt, c_vec, ev_nil, ev_join, ev_sub3, loc_s, int_i, bool_b, rows_s, cs_nil, cs_cons, E.den_lit, E.den_var, E.den_add, E.den_sub, E.den_mul, E.den_quo, E.den_rem, E.den_max, E.den_min, E.den_len, E.den_wr, E.den_cell, ctLaw, h1, h2, h3, h4, h5, h6, h7, h8, h9, h10, h11, h12, h13, h14, h15, ctKick, ctKicks, ctSens, ctSensors, ctFlow, ctGain, ctValue, ctAwake, ctF, kickSh, kicksSh, sensSh]
  intro r _ _ g _ _ xa _ _ xb _ _ xc _ _ xd _ _ s0 _ _ s1 _ _ s2 _ _ s3 _ _ s4 _ _ s5 _ _ s6 _ _ s7 _ _ v rows d _ _ n _ _ e0 _ _
  refine ⟨bds_nil _, fun h => fun t ht => ht, fun h => ?_⟩
  rintro x _ _ hx y _ _ hy
  have e := hx.trans hy.symm
  clear hx hy
  unfold tchecks_7
  simp only [VC, allC, List.map_cons, List.map_nil, List.length_cons, List.length_nil, List.getElem?_cons_zero, List.getElem?_cons_succ, List.cons.injEq, C.i.injEq, C.b.injEq, and_true, true_and, forall_const, kindsOf_nil, kindsOf_lf, kindsOf_agg, kindsOf_box, boxKinds_nil, boxKinds_lf, boxKinds_agg, boxKinds_box, List.append_nil, List.cons_append, List.nil_append, den_cmp_le, den_cmp_lt, den_cmp_eq, den_cmp_ne, den_cmp_le', den_cmp_lt', den_cmp_eq', den_cmp_ne', den_and, den_and', den_or, den_or', den_not, den_not', den_blit, den_of, ev_var, at_0, at_1, at_2, at_3, at_4, at_5, at_6, at_7, at_skip, c_int, c_bool, c_arr, c_cnt, c_vec, ev_nil, ev_join, ev_sub3, loc_s, int_i, bool_b, rows_s, cs_nil, cs_cons, E.den_lit, E.den_var, E.den_add, E.den_sub, E.den_mul, E.den_quo, E.den_rem, E.den_max, E.den_min, E.den_len, E.den_wr, E.den_cell, h1, h2, h3, h4, h5, h6, h7, h8, h9, h10, h11, h12, h13, h14, h15, ctKick, ctKicks, ctSens, ctSensors, ctFlow, ctGain, ctValue, ctAwake, ctF, kickSh, kicksSh, sensSh]
  refine ⟨fun h => absurd e h, fun _ => ?_⟩
  rintro x _ _ hx y _ _ hy
  have e := hx.trans hy.symm
  clear hx hy
  unfold tchecks_6
  simp only [VC, allC, List.map_cons, List.map_nil, List.length_cons, List.length_nil, List.getElem?_cons_zero, List.getElem?_cons_succ, List.cons.injEq, C.i.injEq, C.b.injEq, and_true, true_and, forall_const, kindsOf_nil, kindsOf_lf, kindsOf_agg, kindsOf_box, boxKinds_nil, boxKinds_lf, boxKinds_agg, boxKinds_box, List.append_nil, List.cons_append, List.nil_append, den_cmp_le, den_cmp_lt, den_cmp_eq, den_cmp_ne, den_cmp_le', den_cmp_lt', den_cmp_eq', den_cmp_ne', den_and, den_and', den_or, den_or', den_not, den_not', den_blit, den_of, ev_var, at_0, at_1, at_2, at_3, at_4, at_5, at_6, at_7, at_skip, c_int, c_bool, c_arr, c_cnt, c_vec, ev_nil, ev_join, ev_sub3, loc_s, int_i, bool_b, rows_s, cs_nil, cs_cons, E.den_lit, E.den_var, E.den_add, E.den_sub, E.den_mul, E.den_quo, E.den_rem, E.den_max, E.den_min, E.den_len, E.den_wr, E.den_cell, h1, h2, h3, h4, h5, h6, h7, h8, h9, h10, h11, h12, h13, h14, h15, ctKick, ctKicks, ctSens, ctSensors, ctFlow, ctGain, ctValue, ctAwake, ctF, kickSh, kicksSh, sensSh]
  refine ⟨fun h => absurd e h, fun _ => ?_⟩
  rintro x _ _ hx
  unfold tchecks_5
  simp only [VC, allC, List.map_cons, List.map_nil, List.length_cons, List.length_nil, List.getElem?_cons_zero, List.getElem?_cons_succ, List.cons.injEq, C.i.injEq, C.b.injEq, and_true, true_and, forall_const, kindsOf_nil, kindsOf_lf, kindsOf_agg, kindsOf_box, boxKinds_nil, boxKinds_lf, boxKinds_agg, boxKinds_box, List.append_nil, List.cons_append, List.nil_append, den_cmp_le, den_cmp_lt, den_cmp_eq, den_cmp_ne, den_cmp_le', den_cmp_lt', den_cmp_eq', den_cmp_ne', den_and, den_and', den_or, den_or', den_not, den_not', den_blit, den_of, ev_var, at_0, at_1, at_2, at_3, at_4, at_5, at_6, at_7, at_skip, c_int, c_bool, c_arr, c_cnt, c_vec, ev_nil, ev_join, ev_sub3, loc_s, int_i, bool_b, rows_s, cs_nil, cs_cons, E.den_lit, E.den_var, E.den_add, E.den_sub, E.den_mul, E.den_quo, E.den_rem, E.den_max, E.den_min, E.den_len, E.den_wr, E.den_cell, h1, h2, h3, h4, h5, h6, h7, h8, h9, h10, h11, h12, h13, h14, h15, ctKick, ctKicks, ctSens, ctSensors, ctFlow, ctGain, ctValue, ctAwake, ctF, kickSh, kicksSh, sensSh]
  rintro y _ _ hy
  have e := hx.trans hy.symm
  clear hx hy
  refine ⟨fun h => absurd e h, fun _ => ?_⟩
  rintro x _ _ hx y _ _ hy
  have e := hx.trans hy.symm
  clear hx hy
  unfold tchecks_4
  simp only [VC, allC, List.map_cons, List.map_nil, List.length_cons, List.length_nil, List.getElem?_cons_zero, List.getElem?_cons_succ, List.cons.injEq, C.i.injEq, C.b.injEq, and_true, true_and, forall_const, kindsOf_nil, kindsOf_lf, kindsOf_agg, kindsOf_box, boxKinds_nil, boxKinds_lf, boxKinds_agg, boxKinds_box, List.append_nil, List.cons_append, List.nil_append, den_cmp_le, den_cmp_lt, den_cmp_eq, den_cmp_ne, den_cmp_le', den_cmp_lt', den_cmp_eq', den_cmp_ne', den_and, den_and', den_or, den_or', den_not, den_not', den_blit, den_of, ev_var, at_0, at_1, at_2, at_3, at_4, at_5, at_6, at_7, at_skip, c_int, c_bool, c_arr, c_cnt, c_vec, ev_nil, ev_join, ev_sub3, loc_s, int_i, bool_b, rows_s, cs_nil, cs_cons, E.den_lit, E.den_var, E.den_add, E.den_sub, E.den_mul, E.den_quo, E.den_rem, E.den_max, E.den_min, E.den_len, E.den_wr, E.den_cell, h1, h2, h3, h4, h5, h6, h7, h8, h9, h10, h11, h12, h13, h14, h15, ctKick, ctKicks, ctSens, ctSensors, ctFlow, ctGain, ctValue, ctAwake, ctF, kickSh, kicksSh, sensSh]
  refine ⟨fun h => absurd e h, fun _ => ?_⟩
  rintro x _ _ hx y _ _ hy
  have e := hx.trans hy.symm
  clear hx hy
  unfold tchecks_3
  simp only [VC, allC, List.map_cons, List.map_nil, List.length_cons, List.length_nil, List.getElem?_cons_zero, List.getElem?_cons_succ, List.cons.injEq, C.i.injEq, C.b.injEq, and_true, true_and, forall_const, kindsOf_nil, kindsOf_lf, kindsOf_agg, kindsOf_box, boxKinds_nil, boxKinds_lf, boxKinds_agg, boxKinds_box, List.append_nil, List.cons_append, List.nil_append, den_cmp_le, den_cmp_lt, den_cmp_eq, den_cmp_ne, den_cmp_le', den_cmp_lt', den_cmp_eq', den_cmp_ne', den_and, den_and', den_or, den_or', den_not, den_not', den_blit, den_of, ev_var, at_0, at_1, at_2, at_3, at_4, at_5, at_6, at_7, at_skip, c_int, c_bool, c_arr, c_cnt, c_vec, ev_nil, ev_join, ev_sub3, loc_s, int_i, bool_b, rows_s, cs_nil, cs_cons, E.den_lit, E.den_var, E.den_add, E.den_sub, E.den_mul, E.den_quo, E.den_rem, E.den_max, E.den_min, E.den_len, E.den_wr, E.den_cell, h1, h2, h3, h4, h5, h6, h7, h8, h9, h10, h11, h12, h13, h14, h15, ctKick, ctKicks, ctSens, ctSensors, ctFlow, ctGain, ctValue, ctAwake, ctF, kickSh, kicksSh, sensSh]
  refine ⟨fun _ => ?_, fun h => absurd e h⟩
  rintro x _ _ hx y _ _ hy
  have e := hx.trans hy.symm
  clear hx hy
  unfold tchecks_2
  simp only [VC, allC, List.map_cons, List.map_nil, List.length_cons, List.length_nil, List.getElem?_cons_zero, List.getElem?_cons_succ, List.cons.injEq, C.i.injEq, C.b.injEq, and_true, true_and, forall_const, kindsOf_nil, kindsOf_lf, kindsOf_agg, kindsOf_box, boxKinds_nil, boxKinds_lf, boxKinds_agg, boxKinds_box, List.append_nil, List.cons_append, List.nil_append, den_cmp_le, den_cmp_lt, den_cmp_eq, den_cmp_ne, den_cmp_le', den_cmp_lt', den_cmp_eq', den_cmp_ne', den_and, den_and', den_or, den_or', den_not, den_not', den_blit, den_of, ev_var, at_0, at_1, at_2, at_3, at_4, at_5, at_6, at_7, at_skip, c_int, c_bool, c_arr, c_cnt, c_vec, ev_nil, ev_join, ev_sub3, loc_s, int_i, bool_b, rows_s, cs_nil, cs_cons, E.den_lit, E.den_var, E.den_add, E.den_sub, E.den_mul, E.den_quo, E.den_rem, E.den_max, E.den_min, E.den_len, E.den_wr, E.den_cell, h1, h2, h3, h4, h5, h6, h7, h8, h9, h10, h11, h12, h13, h14, h15, ctKick, ctKicks, ctSens, ctSensors, ctFlow, ctGain, ctValue, ctAwake, ctF, kickSh, kicksSh, sensSh]
  refine ⟨fun _ => ?_, fun h => absurd e h⟩
  rintro x _ _ hx
  unfold tchecks_1
  simp only [VC, allC, List.map_cons, List.map_nil, List.length_cons, List.length_nil, List.getElem?_cons_zero, List.getElem?_cons_succ, List.cons.injEq, C.i.injEq, C.b.injEq, and_true, true_and, forall_const, kindsOf_nil, kindsOf_lf, kindsOf_agg, kindsOf_box, boxKinds_nil, boxKinds_lf, boxKinds_agg, boxKinds_box, List.append_nil, List.cons_append, List.nil_append, den_cmp_le, den_cmp_lt, den_cmp_eq, den_cmp_ne, den_cmp_le', den_cmp_lt', den_cmp_eq', den_cmp_ne', den_and, den_and', den_or, den_or', den_not, den_not', den_blit, den_of, ev_var, at_0, at_1, at_2, at_3, at_4, at_5, at_6, at_7, at_skip, c_int, c_bool, c_arr, c_cnt, c_vec, ev_nil, ev_join, ev_sub3, loc_s, int_i, bool_b, rows_s, cs_nil, cs_cons, E.den_lit, E.den_var, E.den_add, E.den_sub, E.den_mul, E.den_quo, E.den_rem, E.den_max, E.den_min, E.den_len, E.den_wr, E.den_cell, h1, h2, h3, h4, h5, h6, h7, h8, h9, h10, h11, h12, h13, h14, h15, ctKick, ctKicks, ctSens, ctSensors, ctFlow, ctGain, ctValue, ctAwake, ctF, kickSh, kicksSh, sensSh]
  rintro y _ _ hy
  have e := hx.trans hy.symm
  clear hx hy
  refine ⟨fun _ => ?_, fun h => absurd e h⟩
  exact fun t ht => ht
end Go.Proofs.Ytlbgcjpkegpmlaa
