/- Identify, of the program and of the reference. -/
import Derived.Test.YtlbgcjpkegpmlaaXP
namespace Go.Proofs.Ytlbgcjpkegpmlaa
open Go.RowKit
set_option linter.unusedSimpArgs false
set_option linter.unusedVariables false

theorem div_ge {a b : Int} (hb : 0 < b) (h : b ≤ a) : 1 ≤ a / b := Int.le_ediv_of_mul_le hb (by omega)
theorem neg_floor {g a : Int} (ha : 0 < a) : -(-g / a) = (g + a - 1) / a := by
  have h1 := Int.mul_ediv_add_emod (-g) a
  have h2 := Int.emod_nonneg (-g) (by omega : a ≠ 0)
  have h3 := Int.emod_lt_of_pos (-g) ha
  have h4 : g + a - 1 = a * (-(-g / a)) + (a - 1 - (-g) % a) := by rw [Int.mul_neg]; omega
  have h5 : (a - 1 - (-g) % a + a * (-(-g / a))) / a = (a - 1 - (-g) % a) / a + -(-g / a) := Int.add_mul_ediv_left _ _ (by omega : a ≠ 0)
  have h6 : (a - 1 - (-g) % a) / a = 0 := Int.ediv_eq_zero_of_lt (by omega) (by omega)
  rw [h4, Int.add_comm, h5, h6]
  omega
theorem identL_no {pl ph cl ch gl gh we de ar e : Int} (h : shutE pl ph cl ch gl gh we de ar = e) (he : e ≠ 0) : [C.i 0, C.i 0, C.i 0, C.i 0, C.i 0, C.i 0, C.i 0, C.i e] = identL pl ph cl ch gl gh we de ar := by
  unfold identL
  rw [if_neg (by omega), h]
theorem identL_yes {pl ph cl ch gl gh we de ar a b c d e f k : Int} (h : shutE pl ph cl ch gl gh we de ar = 0) (ha : a = pl + we * de) (hb : b = ph + we * de) (hc : c = gl / ar) (hd : d = (gh + ar - 1) / ar)
    (he : e = we + (pl - ch) / (gl / ar)) (hf : f = we - (cl - ph) / ((gh + ar - 1) / ar)) (hk : k = kindW e f) : [C.i a, C.i b, C.i c, C.i d, C.i e, C.i f, C.i k, C.i 0] = identL pl ph cl ch gl gh we de ar := by
  unfold identL
  rw [if_pos h]
  subst ha hb hc hd he hf hk
  rfl
theorem shutE_2 {pl ph cl ch gl gh we de ar : Int} (h : ¬ ShutOK pl ph cl ch gl gh we de ar) : shutE pl ph cl ch gl gh we de ar = 2 := by unfold shutE; rw [if_neg h]
theorem shutE_11 {pl ph cl ch gl gh we de ar : Int} (h : ShutOK pl ph cl ch gl gh we de ar) (h' : cl < ph) : shutE pl ph cl ch gl gh we de ar = 11 := by unfold shutE; rw [if_pos h, if_pos h']
theorem shutE_0 {pl ph cl ch gl gh we de ar : Int} (h : ShutOK pl ph cl ch gl gh we de ar) (h' : ph ≤ cl) : shutE pl ph cl ch gl gh we de ar = 0 := by unfold shutE; rw [if_pos h, if_neg (by omega)]
theorem ident_ok : tab.ok 31 := by
  refine Tab.of_ct rfl rfl ⟨_, Try.func31, by decide, rfl⟩ ?_ ctF_det
  refine ct_ok (cx := cident) (Tab.cx_ok (all_cons fair_ok (all_cons within_ok (all_cons floor_ok all_nil)))) Try.func31 (bds := []) (T := tident) (by kernel_rfl) ?_
  unfold tident
  simp only [VC, allC, List.map_cons, List.map_nil, List.length_cons, List.length_nil, List.getElem?_cons_zero, List.getElem?_cons_succ, List.cons.injEq, C.i.injEq, C.b.injEq, and_true, true_and, forall_const, kindsOf_nil, kindsOf_lf, kindsOf_agg, kindsOf_box, boxKinds_nil, boxKinds_lf, boxKinds_agg, boxKinds_box, List.append_nil, List.cons_append, List.nil_append, den_cmp_le, den_cmp_lt, den_cmp_eq, den_cmp_ne, den_cmp_le', den_cmp_lt', den_cmp_eq', den_cmp_ne', den_and, den_and', den_or, den_or', den_not, den_not', den_blit, den_of, ev_var, at_0, at_1, at_2, at_3, at_4, at_5, at_6, at_7, at_skip, c_int, c_bool, c_arr, c_cnt, c_vec, ev_nil, ev_join, ev_sub3, loc_s, int_i, bool_b, rows_s, cs_nil, cs_cons, E.den_lit, E.den_var, E.den_add, E.den_sub, E.den_mul, E.den_quo, E.den_rem, E.den_max, E.den_min, E.den_len, E.den_wr, E.den_cell, ctIdent, ctF, shutSh, ingSh, show cident.ct 72 = some ctFloor from rfl, ctFloor]
  intro pl _ _ ph _ _ cl _ _ ch _ _ gl _ _ gh _ _ we _ _ de _ _ ar _ _
  have no : ¬ ShutOK pl ph cl ch gl gh we de ar → [C.i 0, C.i 0, C.i 0, C.i 0, C.i 0, C.i 0, C.i 0, C.i 2] = identL pl ph cl ch gl gh we de ar := fun h => identL_no (shutE_2 h) (by omega)
  unfold ShutOK at no
  refine ⟨bds_nil _, fun h => no (by omega), fun h1 => ⟨fun h => no (by omega), fun h2 => ⟨fun h => no (by omega), fun h3 => ⟨fun h => no (by omega), fun h4 => ⟨fun h => no (by omega), fun h5 => ⟨fun h => no (by omega), fun h6 => ?_⟩⟩⟩⟩⟩⟩
  have yes : ShutOK pl ph cl ch gl gh we de ar := by unfold ShutOK; omega
  clear no
  refine ⟨fun h => identL_no (shutE_11 yes h) (by omega), fun h7 => ?_⟩
  have m := mul_bd (a := we) (b := de) (A := 40000) (B := 1048576) (by omega) (by omega) (by omega) (by omega)
  have t1 : gl.tdiv ar = gl / ar := Int.tdiv_eq_ediv_of_nonneg (by omega)
  have t2 : (gh + ar - 1).tdiv ar = (gh + ar - 1) / ar := Int.tdiv_eq_ediv_of_nonneg (by omega)
  rw [t1, t2]
  have d1 := div_ge (a := gl) (b := ar) (by omega) (by omega)
  have d2 := div_ge (a := gh + ar - 1) (b := ar) (by omega) (by omega)
  have q1 := ediv_bd (a := pl - ch) (b := gl / ar) (by omega)
  have q2 := ediv_bd (a := cl - ph) (b := (gh + ar - 1) / ar) (by omega)
  have res := fun a b c d e f k => @identL_yes pl ph cl ch gl gh we de ar a b c d e f k (shutE_0 yes h7)
  refine ⟨by omega, by omega, ?_⟩
  rintro n _ _ rfl
  refine ⟨by omega, by omega, ?_⟩
  rintro n _ _ rfl
  refine ⟨by omega, fun k1 => ⟨by omega, by omega, by omega, res _ _ _ _ _ _ _ rfl rfl rfl rfl rfl rfl ?_⟩, fun k1 => ⟨fun k2 => ⟨by omega, by omega, by omega, res _ _ _ _ _ _ _ rfl rfl rfl rfl rfl rfl ?_⟩,
    fun k2 => ⟨fun k3 => ⟨fun k4 => ⟨by omega, by omega, by omega, res _ _ _ _ _ _ _ rfl rfl rfl rfl rfl rfl ?_⟩, fun k4 => ⟨by omega, by omega, by omega, res _ _ _ _ _ _ _ rfl rfl rfl rfl rfl rfl ?_⟩⟩, fun k3 => ⟨by omega, by omega, by omega, res _ _ _ _ _ _ _ rfl rfl rfl rfl rfl rfl ?_⟩⟩⟩⟩
  all_goals (unfold kindW; repeat' split)
  all_goals omega
theorem rident_ok : tab.ok 32 := by
  refine Tab.of_ct rfl rfl ⟨_, Try.func32, by decide, rfl⟩ ?_ ctF_det
  refine ct_ok (cx := crident) (Tab.cx_ok (all_cons shut_ok (all_cons rfloor_ok all_nil))) Try.func32 (bds := []) (T := trident) (by kernel_rfl) ?_
  unfold trident
  simp only [VC, allC, List.map_cons, List.map_nil, List.length_cons, List.length_nil, List.getElem?_cons_zero, List.getElem?_cons_succ, List.cons.injEq, C.i.injEq, C.b.injEq, and_true, true_and, forall_const, kindsOf_nil, kindsOf_lf, kindsOf_agg, kindsOf_box, boxKinds_nil, boxKinds_lf, boxKinds_agg, boxKinds_box, List.append_nil, List.cons_append, List.nil_append, den_cmp_le, den_cmp_lt, den_cmp_eq, den_cmp_ne, den_cmp_le', den_cmp_lt', den_cmp_eq', den_cmp_ne', den_and, den_and', den_or, den_or', den_not, den_not', den_blit, den_of, ev_var, at_0, at_1, at_2, at_3, at_4, at_5, at_6, at_7, at_skip, c_int, c_bool, c_arr, c_cnt, c_vec, ev_nil, ev_join, ev_sub3, loc_s, int_i, bool_b, rows_s, cs_nil, cs_cons, E.den_lit, E.den_var, E.den_add, E.den_sub, E.den_mul, E.den_quo, E.den_rem, E.den_max, E.den_min, E.den_len, E.den_wr, E.den_cell, ctIdent, ctF, shutSh, ingSh, show crident.ct 74 = some ctFloor from rfl, ctFloor, show crident.ct 73 = some ctShut from rfl, ctShut]
  intro pl _ _ ph _ _ cl _ _ ch _ _ gl _ _ gh _ _ we _ _ de _ _ ar _ _
  refine ⟨bds_nil _, ?_⟩
  rintro e _ _ rfl
  refine ⟨fun h => identL_no rfl h, fun h0 => ?_⟩
  have yes : ShutOK pl ph cl ch gl gh we de ar ∧ ph ≤ cl := by
    unfold shutE at h0
    split at h0
    · split at h0
      · omega
      · exact ⟨by assumption, by omega⟩
    · omega
  obtain ⟨yes', h7⟩ := yes
  have res := fun a b c d e f k => @identL_yes pl ph cl ch gl gh we de ar a b c d e f k (shutE_0 yes' h7)
  unfold ShutOK at yes'
  have m := mul_bd (a := we) (b := de) (A := 40000) (B := 1048576) (by omega) (by omega) (by omega) (by omega)
  have nf := neg_floor (g := gh) (a := ar) (by omega)
  rw [← Int.zero_sub gh] at nf
  have d1 := div_ge (a := gl) (b := ar) (by omega) (by omega)
  have d2 := div_ge (a := gh + ar - 1) (b := ar) (by omega) (by omega)
  have q1 := ediv_bd (a := pl - ch) (b := gl / ar) (by omega)
  have q2 := ediv_bd (a := cl - ph) (b := (gh + ar - 1) / ar) (by omega)
  have q3 := (ediv_bd (a := gh + ar - 1) (b := ar) (by omega)).1 (by omega)
  refine ⟨by omega, by omega, by omega, by omega, ?_⟩
  rintro n _ _ rfl
  refine ⟨by omega, by omega, by omega, ?_⟩
  intro n1 _ _ e1
  have e2 : 0 - n1 = (gh + ar - 1) / ar := by rw [e1]; omega
  rw [e2]
  refine ⟨by omega, by omega, by omega, by omega, ?_⟩
  rintro n2 _ _ rfl
  refine ⟨by omega, by omega, by omega, by omega, by omega, ?_⟩
  rintro n3 _ _ rfl
  refine ⟨by omega, fun k1 => ⟨by omega, by omega, by omega, by omega, by omega, res _ _ _ _ _ _ _ rfl rfl rfl rfl rfl rfl ?_⟩, fun k1 => ⟨fun k2 => ⟨by omega, by omega, by omega, by omega, by omega, res _ _ _ _ _ _ _ rfl rfl rfl rfl rfl rfl ?_⟩,
    fun k2 => ⟨fun k3 => ⟨fun k4 => ⟨by omega, by omega, by omega, by omega, by omega, res _ _ _ _ _ _ _ rfl rfl rfl rfl rfl rfl ?_⟩, fun k4 => ⟨by omega, by omega, by omega, by omega, by omega, res _ _ _ _ _ _ _ rfl rfl rfl rfl rfl rfl ?_⟩⟩, fun k3 => ⟨by omega, by omega, by omega, by omega, by omega, res _ _ _ _ _ _ _ rfl rfl rfl rfl rfl rfl ?_⟩⟩⟩⟩
  all_goals (unfold kindW; repeat' split)
  all_goals omega
theorem finds_ok (awake_ok : tab.ok 19) : CtOK Try.prog 6 (ctLaw [shutSh]) := by
  refine ct_ok (cx := cfinds) (Tab.cx_ok (all_cons ident_ok (all_cons rident_ok (all_cons awake_ok all_nil)))) Try.func6 (bds := []) (T := tfinds) (by kernel_rfl) ?_
  unfold tfinds
  simp only [VC, allC, List.map_cons, List.map_nil, List.length_cons, List.length_nil, List.getElem?_cons_zero, List.getElem?_cons_succ, List.cons.injEq, C.i.injEq, C.b.injEq, and_true, true_and, forall_const, kindsOf_nil, kindsOf_lf, kindsOf_agg, kindsOf_box, boxKinds_nil, boxKinds_lf, boxKinds_agg, boxKinds_box, List.append_nil, List.cons_append, List.nil_append, den_cmp_le, den_cmp_lt, den_cmp_eq, den_cmp_ne, den_cmp_le', den_cmp_lt', den_cmp_eq', den_cmp_ne', den_and, den_and', den_or, den_or', den_not, den_not', den_blit, den_of, ev_var, at_0, at_1, at_2, at_3, at_4, at_5, at_6, at_7, at_skip, c_int, c_bool, c_arr, c_cnt, c_vec, ev_nil, ev_join, ev_sub3, loc_s, int_i, bool_b, rows_s, cs_nil, cs_cons, E.den_lit, E.den_var, E.den_add, E.den_sub, E.den_mul, E.den_quo, E.den_rem, E.den_max, E.den_min, E.den_len, E.den_wr, E.den_cell, ctLaw, ctF, shutSh, ingSh, show cfinds.ct 31 = some ctIdent from rfl, show cfinds.ct 32 = some ctIdent from rfl, ctIdent, show cfinds.ct 19 = some ctAwake from rfl, ctAwake]
  intro pl _ _ ph _ _ cl _ _ ch _ _ gl _ _ gh _ _ we _ _ de _ _ ar _ _
  refine ⟨bds_nil _, ?_⟩
  intro a0 _ _ a1 _ _ a2 _ _ a3 _ _ a4 _ _ a5 _ _ a6 _ _ a7 _ _ e1 b0 _ _ b1 _ _ b2 _ _ b3 _ _ b4 _ _ b5 _ _ b6 _ _ b7 _ _ e2
  have e := e1.trans e2.symm
  simp only [List.cons.injEq, C.i.injEq, and_true] at e
  obtain ⟨rfl, rfl, rfl, rfl, rfl, rfl, rfl, rfl⟩ := e
  simp
end Go.Proofs.Ytlbgcjpkegpmlaa
