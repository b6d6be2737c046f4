/- The ring of numbers, by the engine. -/
import Derived.Test.YtlbgcjpkegpmlaaXU
import Derived.Test.YtlbgcjpkegpmlaaXQ
namespace Go.Proofs.Ytlbgcjpkegpmlaa
open Go.RowKit
set_option linter.unusedSimpArgs false
set_option linter.unusedVariables false

theorem emod_tmod {n m : Int} (hm : 0 < m) : (n.tmod m < 0 → n % m = n.tmod m + m) ∧ (0 ≤ n.tmod m → n % m = n.tmod m) ∧ 0 ≤ n % m ∧ n % m < m ∧ -m < n.tmod m ∧ n.tmod m < m := by
  have h1 := Int.emod_nonneg n (show m ≠ 0 by omega)
  have h2 := Int.emod_lt_of_pos n hm
  rw [Int.tmod_eq_emod]
  by_cases h : 0 ≤ n ∨ m ∣ n
  · rw [if_pos h]
    omega
  · rw [if_neg h]
    have h3 : ((m.natAbs : Nat) : Int) = m := by omega
    rw [h3]
    have h0 : n % m ≠ 0 := fun e => h (.inr (Int.dvd_of_emod_eq_zero e))
    omega
theorem mod_ok : tab.ok 28 := by
  refine Tab.of_ct rfl rfl ⟨_, Try.func28, by decide, rfl⟩ ?_ ctF_det
  refine ct_ok (cx := cmod) (Tab.cx_ok all_nil) Try.func28 (bds := []) (T := tmod) (by kernel_rfl) ?_
  unfold tmod
  simp only [VC, allC, List.map_cons, List.map_nil, List.length_cons, List.length_nil, List.getElem?_cons_zero, List.getElem?_cons_succ, List.cons.injEq, C.i.injEq, C.b.injEq, and_true, true_and, forall_const, kindsOf_nil, kindsOf_lf, kindsOf_agg, kindsOf_box, boxKinds_nil, boxKinds_lf, boxKinds_agg, boxKinds_box, List.append_nil, List.cons_append, List.nil_append, den_cmp_le, den_cmp_lt, den_cmp_eq, den_cmp_ne, den_cmp_le', den_cmp_lt', den_cmp_eq', den_cmp_ne', den_and, den_and', den_or, den_or', den_not, den_not', den_blit, den_of, ev_var, at_0, at_1, at_2, at_3, at_4, at_5, at_6, at_7, at_skip, c_int, c_bool, c_arr, c_cnt, c_vec, ev_nil, ev_join, ev_sub3, loc_s, int_i, bool_b, rows_s, cs_nil, cs_cons, E.den_lit, E.den_var, E.den_add, E.den_sub, E.den_mul, E.den_quo, E.den_rem, E.den_max, E.den_min, E.den_len, E.den_wr, E.den_cell, ctMod, ctF]; rintro n n1 n2 m m1 m2 ⟨p1, p2⟩; obtain ⟨e1, e2, e3, e4, e5, e6⟩ := emod_tmod (n := n) (m := m) (by omega); refine ⟨bds_nil _, by omega, fun h => ⟨by omega, by omega, ?_⟩, fun h => ⟨by omega, ?_⟩⟩; all_goals omega
theorem mod64_ok : tab.ok 22 := by
  refine Tab.of_ct rfl rfl ⟨_, Try.func22, by decide, rfl⟩ ?_ ctF_det
  refine ct_ok (cx := cmod64) (Tab.cx_ok all_nil) Try.func22 (bds := []) (T := tmod64) (by kernel_rfl) ?_
  unfold tmod64
  simp only [VC, allC, List.map_cons, List.map_nil, List.length_cons, List.length_nil, List.getElem?_cons_zero, List.getElem?_cons_succ, List.cons.injEq, C.i.injEq, C.b.injEq, and_true, true_and, forall_const, kindsOf_nil, kindsOf_lf, kindsOf_agg, kindsOf_box, boxKinds_nil, boxKinds_lf, boxKinds_agg, boxKinds_box, List.append_nil, List.cons_append, List.nil_append, den_cmp_le, den_cmp_lt, den_cmp_eq, den_cmp_ne, den_cmp_le', den_cmp_lt', den_cmp_eq', den_cmp_ne', den_and, den_and', den_or, den_or', den_not, den_not', den_blit, den_of, ev_var, at_0, at_1, at_2, at_3, at_4, at_5, at_6, at_7, at_skip, c_int, c_bool, c_arr, c_cnt, c_vec, ev_nil, ev_join, ev_sub3, loc_s, int_i, bool_b, rows_s, cs_nil, cs_cons, E.den_lit, E.den_var, E.den_add, E.den_sub, E.den_mul, E.den_quo, E.den_rem, E.den_max, E.den_min, E.den_len, E.den_wr, E.den_cell, ctMod, ctF]; rintro n n1 n2 m m1 m2 ⟨p1, p2⟩; obtain ⟨e1, e2, e3, e4, e5, e6⟩ := emod_tmod (n := n) (m := m) (by omega); refine ⟨bds_nil _, by omega, fun h => ⟨by omega, by omega, ?_⟩, fun h => ⟨by omega, ?_⟩⟩; all_goals omega
theorem newring_ok : tab.ok 21 := by
  refine Tab.of_ct rfl rfl ⟨_, Try.func21, by decide, rfl⟩ ?_ ctF_det
  refine ct_ok (cx := cnewring) (Tab.cx_ok all_nil) Try.func21 (bds := []) (T := tnewring) (by kernel_rfl) ?_
  unfold tnewring
  simp only [VC, allC, List.map_cons, List.map_nil, List.length_cons, List.length_nil, List.getElem?_cons_zero, List.getElem?_cons_succ, List.cons.injEq, C.i.injEq, C.b.injEq, and_true, true_and, forall_const, kindsOf_nil, kindsOf_lf, kindsOf_agg, kindsOf_box, boxKinds_nil, boxKinds_lf, boxKinds_agg, boxKinds_box, List.append_nil, List.cons_append, List.nil_append, den_cmp_le, den_cmp_lt, den_cmp_eq, den_cmp_ne, den_cmp_le', den_cmp_lt', den_cmp_eq', den_cmp_ne', den_and, den_and', den_or, den_or', den_not, den_not', den_blit, den_of, ev_var, at_0, at_1, at_2, at_3, at_4, at_5, at_6, at_7, at_skip, c_int, c_bool, c_arr, c_cnt, c_vec, ev_nil, ev_join, ev_sub3, loc_s, int_i, bool_b, rows_s, cs_nil, cs_cons, E.den_lit, E.den_var, E.den_add, E.den_sub, E.den_mul, E.den_quo, E.den_rem, E.den_max, E.den_min, E.den_len, E.den_wr, E.den_cell, ctNewRing, ctF, ringSh]
  intro v rows d _ _
  exact bds_nil _
theorem next_ok : tab.ok 26 := by
  refine Tab.of_ct rfl rfl ⟨_, Try.func26, by decide, rfl⟩ ?_ (fun h => by cases h)
  refine ct_ok (cx := cnext) (Tab.cx_ok (all_cons mod_ok all_nil)) Try.func26 (bds := [(1, 0, 1000000)]) (T := tnext) (by kernel_rfl) ?_
  unfold tnext
  simp only [VC, allC, List.map_cons, List.map_nil, List.length_cons, List.length_nil, List.getElem?_cons_zero, List.getElem?_cons_succ, List.cons.injEq, C.i.injEq, C.b.injEq, and_true, true_and, forall_const, kindsOf_nil, kindsOf_lf, kindsOf_agg, kindsOf_box, boxKinds_nil, boxKinds_lf, boxKinds_agg, boxKinds_box, List.append_nil, List.cons_append, List.nil_append, den_cmp_le, den_cmp_lt, den_cmp_eq, den_cmp_ne, den_cmp_le', den_cmp_lt', den_cmp_eq', den_cmp_ne', den_and, den_and', den_or, den_or', den_not, den_not', den_blit, den_of, ev_var, at_0, at_1, at_2, at_3, at_4, at_5, at_6, at_7, at_skip, c_int, c_bool, c_arr, c_cnt, c_vec, ev_nil, ev_join, ev_sub3, loc_s, int_i, bool_b, rows_s, cs_nil, cs_cons, E.den_lit, E.den_var, E.den_add, E.den_sub, E.den_mul, E.den_quo, E.den_rem, E.den_max, E.den_min, E.den_len, E.den_wr, E.den_cell, ctNext, ctF, ringSh, show cnext.ct 28 = some ctMod from rfl, ctMod]
  rintro v rows d hty hsm at_ a1 a2 n n1 n2 ⟨p1, p2, p3⟩
  have hb : Bds.ok [(1, 0, 1000000)] [C.s v rows, C.i at_, C.i n] := by
    intro x lo hi hx
    simp only [List.mem_cons, Prod.mk.injEq, List.not_mem_nil, or_false] at hx
    obtain ⟨rfl, rfl, rfl⟩ := hx
    exact ⟨by simp, p1, p2⟩
  have r1 : 0 ≤ ((at_ + 1) * 7919).tmod 10007 := Int.tmod_nonneg _ (by omega)
  have r2 : ((at_ + 1) * 7919).tmod 10007 < 10007 := Int.tmod_lt_of_pos _ (by omega)
  refine ⟨hb, fun hL => ?_, fun hL => ⟨by omega, Int.tmod_nonneg _ r1, Int.tmod_lt_of_pos _ (by omega)⟩⟩
  generalize (rows.length : Int) = L at *
  have e1 : (at_ + 1).tmod L < L := Int.tmod_lt_of_pos _ hL
  have e2 : 0 ≤ (at_ + 1).tdiv L := Int.tdiv_nonneg (by omega) (by omega)
  refine ⟨by omega, e1, by omega, by omega, ?_⟩
  rintro m _ _ hm
  have m1 : 0 ≤ m := by rw [hm]; exact Int.emod_nonneg _ (by omega)
  have m2 : m < 1048576 := by rw [hm]; exact Int.emod_lt_of_pos _ (by omega)
  have q : m.tdiv (1 + (at_ + 1).tdiv L) = m / (1 + (at_ + 1).tdiv L) := Int.tdiv_eq_ediv_of_nonneg m1
  obtain ⟨q1, q2⟩ := (ediv_bd (a := m) (b := 1 + (at_ + 1).tdiv L) (by omega)).1 m1
  rw [q]
  generalize m / (1 + (at_ + 1).tdiv L) = k at *
  have t1 : 0 ≤ (((at_ + 1) * 7919).tmod 10007 + k).tmod n := Int.tmod_nonneg _ (by omega)
  have t2 : (((at_ + 1) * 7919).tmod 10007 + k).tmod n < n := Int.tmod_lt_of_pos _ (by omega)
  refine ⟨by omega, by omega, by omega, by omega, t1, t2⟩
theorem kickof_ok : tab.ok 20 := by
  refine Tab.of_ct rfl rfl ⟨_, Try.func20, by decide, rfl⟩ ?_ (fun h => by cases h)
  refine ct_ok (cx := ckickof) (Tab.cx_ok (all_cons next_ok all_nil)) Try.func20 (bds := []) (T := tkickof) (by kernel_rfl) ?_
  unfold tkickof
  simp only [VC, allC, List.map_cons, List.map_nil, List.length_cons, List.length_nil, List.getElem?_cons_zero, List.getElem?_cons_succ, List.cons.injEq, C.i.injEq, C.b.injEq, and_true, true_and, forall_const, kindsOf_nil, kindsOf_lf, kindsOf_agg, kindsOf_box, boxKinds_nil, boxKinds_lf, boxKinds_agg, boxKinds_box, List.append_nil, List.cons_append, List.nil_append, den_cmp_le, den_cmp_lt, den_cmp_eq, den_cmp_ne, den_cmp_le', den_cmp_lt', den_cmp_eq', den_cmp_ne', den_and, den_and', den_or, den_or', den_not, den_not', den_blit, den_of, ev_var, at_0, at_1, at_2, at_3, at_4, at_5, at_6, at_7, at_skip, c_int, c_bool, c_arr, c_cnt, c_vec, ev_nil, ev_join, ev_sub3, loc_s, int_i, bool_b, rows_s, cs_nil, cs_cons, E.den_lit, E.den_var, E.den_add, E.den_sub, E.den_mul, E.den_quo, E.den_rem, E.den_max, E.den_min, E.den_len, E.den_wr, E.den_cell, ctKickOf, atPre, ringSh, show ckickof.ct 26 = some ctNext from rfl, ctNext]
  rintro v rows d hty hsm at_ a1 a2 ⟨p1, p2⟩
  refine ⟨bds_nil _, by omega, ?_⟩
  rintro x0 _ _ v0 rows0 d0 _ _ at0 _ _ ⟨x1, x2, rfl, rfl, rfl⟩
  refine ⟨by omega, ?_⟩
  rintro y0 _ _ v1 rows1 d1 _ _ at1 _ _ ⟨y1, y2, rfl, rfl, rfl⟩
  have m := mul_bd (a := x0) (b := y0) (A := 2) (B := 4999) (by omega) (by omega) (by omega) (by omega)
  refine ⟨by omega, by omega, ?_⟩
  rintro z0 _ _ v2 rows2 d2 _ _ at2 _ _ ⟨z1, z2, rfl, rfl, rfl⟩
  refine ⟨by omega, ?_⟩
  rintro u0 _ _ v3 rows3 d3 _ _ at3 _ _ ⟨u1, u2, rfl, rfl, rfl⟩
  have m' := mul_bd (a := z0) (b := u0) (A := 1) (B := 299) (by omega) (by omega) (by omega) (by omega)
  refine ⟨by omega, by omega, by omega, by omega, by omega, by omega, by omega, rfl, rfl, by omega⟩
theorem lwithin_ok : tab.ok 34 := by
  refine Tab.of_ct rfl rfl ⟨_, Try.func34, by decide, rfl⟩ ?_ ctF_det
  refine ct_ok (cx := clwithin) (Tab.cx_ok (all_cons mod64_ok all_nil)) Try.func34 (bds := []) (T := tlwithin) (by kernel_rfl) ?_
  unfold tlwithin
  simp only [VC, allC, List.map_cons, List.map_nil, List.length_cons, List.length_nil, List.getElem?_cons_zero, List.getElem?_cons_succ, List.cons.injEq, C.i.injEq, C.b.injEq, and_true, true_and, forall_const, kindsOf_nil, kindsOf_lf, kindsOf_agg, kindsOf_box, boxKinds_nil, boxKinds_lf, boxKinds_agg, boxKinds_box, List.append_nil, List.cons_append, List.nil_append, den_cmp_le, den_cmp_lt, den_cmp_eq, den_cmp_ne, den_cmp_le', den_cmp_lt', den_cmp_eq', den_cmp_ne', den_and, den_and', den_or, den_or', den_not, den_not', den_blit, den_of, ev_var, at_0, at_1, at_2, at_3, at_4, at_5, at_6, at_7, at_skip, c_int, c_bool, c_arr, c_cnt, c_vec, ev_nil, ev_join, ev_sub3, loc_s, int_i, bool_b, rows_s, cs_nil, cs_cons, E.den_lit, E.den_var, E.den_add, E.den_sub, E.den_mul, E.den_quo, E.den_rem, E.den_max, E.den_min, E.den_len, E.den_wr, E.den_cell, ctLWithin, ctF, show clwithin.ct 22 = some ctMod from rfl, ctMod]
  rintro lo l1 l2 hi h1 h2 n n1 n2 ⟨p1, p2, p3⟩
  obtain ⟨e1, e2, e3, e4, e5, e6⟩ := emod_tmod (n := n) (m := hi - lo + 1) (by omega)
  refine ⟨bds_nil _, ?_⟩
  repeat (refine And.intro (by omega) ?_)
  rintro m _ _ rfl
  repeat (refine And.intro (by omega) ?_)
  rfl
theorem lin_ct : CtOK Try.prog 35 ctIn := by
  refine ct_ok (cx := clin) (Tab.cx_ok all_nil) Try.func35 (bds := []) (T := tlin) (by kernel_rfl) ?_
  unfold tlin
  simp only [VC, allC, List.map_cons, List.map_nil, List.length_cons, List.length_nil, List.getElem?_cons_zero, List.getElem?_cons_succ, List.cons.injEq, C.i.injEq, C.b.injEq, and_true, true_and, forall_const, kindsOf_nil, kindsOf_lf, kindsOf_agg, kindsOf_box, boxKinds_nil, boxKinds_lf, boxKinds_agg, boxKinds_box, List.append_nil, List.cons_append, List.nil_append, den_cmp_le, den_cmp_lt, den_cmp_eq, den_cmp_ne, den_cmp_le', den_cmp_lt', den_cmp_eq', den_cmp_ne', den_and, den_and', den_or, den_or', den_not, den_not', den_blit, den_of, ev_var, at_0, at_1, at_2, at_3, at_4, at_5, at_6, at_7, at_skip, c_int, c_bool, c_arr, c_cnt, c_vec, ev_nil, ev_join, ev_sub3, loc_s, int_i, bool_b, rows_s, cs_nil, cs_cons, E.den_lit, E.den_var, E.den_add, E.den_sub, E.den_mul, E.den_quo, E.den_rem, E.den_max, E.den_min, E.den_len, E.den_wr, E.den_cell, ctIn, ctF]
  intro a a1 a2 b b1 b2 c c1 c2 d d1 d2
  refine ⟨bds_nil _, fun h => ?_, fun h => ?_⟩
  · simp [B.den, Cmp.den, E.den_var, at_zero, at_succ, int_i, h] <;> rfl
  · have h' := Int.not_le.2 h; simp [B.den, h']
theorem lin_ok : tab.ok 35 := Tab.of_inl rfl rfl ⟨_, Try.func35, by decide, rfl⟩ (by
  refine Inl.of_ct lin_ct fun bd ρ l obs s h hn ho => ?_
  unfold inI at h
  split at h
  · cases h
    refine ⟨rfl, rfl, ho, trivial, rfl, rfl, ?_⟩
    simp [cs_, cellsOf, S0.cellsM, S0.cells, Lf.c, B.den, B.den_mkCmp hn, Cmp.den]
  · cases h)
theorem shutof_ok : tab.ok 33 := by
  refine Tab.of_ct rfl rfl ⟨_, Try.func33, by decide, rfl⟩ ?_ (fun h => by cases h)
  refine ct_ok (cx := cshutof) (Tab.cx_ok (all_cons next_ok all_nil)) Try.func33 (bds := []) (T := tshutof) (by kernel_rfl) ?_
  have hct : cshutof.ct 26 = some ctNext := rfl
  unfold tshutof
  simp only [VC, allC, List.map_cons, List.map_nil, List.length_cons, List.length_nil, List.getElem?_cons_zero, List.getElem?_cons_succ, List.cons.injEq, C.i.injEq, C.b.injEq, and_true, true_and, forall_const, kindsOf_nil, kindsOf_lf, kindsOf_agg, kindsOf_box, boxKinds_nil, boxKinds_lf, boxKinds_agg, boxKinds_box, List.append_nil, List.cons_append, List.nil_append, den_cmp_le, den_cmp_lt, den_cmp_eq, den_cmp_ne, den_cmp_le', den_cmp_lt', den_cmp_eq', den_cmp_ne', den_and, den_and', den_or, den_or', den_not, den_not', den_blit, den_of, ev_var, at_0, at_1, at_2, at_3, at_4, at_5, at_6, at_7, at_skip, c_int, c_bool, c_arr, c_cnt, c_vec, ev_nil, ev_join, ev_sub3, loc_s, int_i, bool_b, rows_s, cs_nil, cs_cons, E.den_lit, E.den_var, E.den_add, E.den_sub, E.den_mul, E.den_quo, E.den_rem, E.den_max, E.den_min, E.den_len, E.den_wr, E.den_cell, ctShutOf, shutSh, atPre, ringSh, hct, ctNext]
  rintro v rows d hty hsm at_ a1 a2 ⟨p1, p2⟩
  refine ⟨bds_nil _, by omega, ?_⟩
  rintro r1 _ _ v1 w1 d1 _ _ k1 _ _ ⟨l1, u1, rfl, rfl, rfl⟩
  unfold tshutof_8
  simp only [VC, allC, List.map_cons, List.map_nil, List.length_cons, List.length_nil, List.getElem?_cons_zero, List.getElem?_cons_succ, List.cons.injEq, C.i.injEq, C.b.injEq, and_true, true_and, forall_const, kindsOf_nil, kindsOf_lf, kindsOf_agg, kindsOf_box, boxKinds_nil, boxKinds_lf, boxKinds_agg, boxKinds_box, List.append_nil, List.cons_append, List.nil_append, den_cmp_le, den_cmp_lt, den_cmp_eq, den_cmp_ne, den_cmp_le', den_cmp_lt', den_cmp_eq', den_cmp_ne', den_and, den_and', den_or, den_or', den_not, den_not', den_blit, den_of, ev_var, at_0, at_1, at_2, at_3, at_4, at_5, at_6, at_7, at_skip, c_int, c_bool, c_arr, c_cnt, c_vec, ev_nil, ev_join, ev_sub3, loc_s, int_i, bool_b, rows_s, cs_nil, cs_cons, E.den_lit, E.den_var, E.den_add, E.den_sub, E.den_mul, E.den_quo, E.den_rem, E.den_max, E.den_min, E.den_len, E.den_wr, E.den_cell, hct, ctNext, ringSh]
  repeat (refine And.intro (by omega) ?_)
  rintro r2 _ _ v2 w2 d2 _ _ k2 _ _ ⟨l2, u2, rfl, rfl, rfl⟩
  unfold tshutof_7
  simp only [VC, allC, List.map_cons, List.map_nil, List.length_cons, List.length_nil, List.getElem?_cons_zero, List.getElem?_cons_succ, List.cons.injEq, C.i.injEq, C.b.injEq, and_true, true_and, forall_const, kindsOf_nil, kindsOf_lf, kindsOf_agg, kindsOf_box, boxKinds_nil, boxKinds_lf, boxKinds_agg, boxKinds_box, List.append_nil, List.cons_append, List.nil_append, den_cmp_le, den_cmp_lt, den_cmp_eq, den_cmp_ne, den_cmp_le', den_cmp_lt', den_cmp_eq', den_cmp_ne', den_and, den_and', den_or, den_or', den_not, den_not', den_blit, den_of, ev_var, at_0, at_1, at_2, at_3, at_4, at_5, at_6, at_7, at_skip, c_int, c_bool, c_arr, c_cnt, c_vec, ev_nil, ev_join, ev_sub3, loc_s, int_i, bool_b, rows_s, cs_nil, cs_cons, E.den_lit, E.den_var, E.den_add, E.den_sub, E.den_mul, E.den_quo, E.den_rem, E.den_max, E.den_min, E.den_len, E.den_wr, E.den_cell, hct, ctNext, ringSh]
  repeat (refine And.intro (by omega) ?_)
  rintro r3 _ _ v3 w3 d3 _ _ k3 _ _ ⟨l3, u3, rfl, rfl, rfl⟩
  unfold tshutof_6
  simp only [VC, allC, List.map_cons, List.map_nil, List.length_cons, List.length_nil, List.getElem?_cons_zero, List.getElem?_cons_succ, List.cons.injEq, C.i.injEq, C.b.injEq, and_true, true_and, forall_const, kindsOf_nil, kindsOf_lf, kindsOf_agg, kindsOf_box, boxKinds_nil, boxKinds_lf, boxKinds_agg, boxKinds_box, List.append_nil, List.cons_append, List.nil_append, den_cmp_le, den_cmp_lt, den_cmp_eq, den_cmp_ne, den_cmp_le', den_cmp_lt', den_cmp_eq', den_cmp_ne', den_and, den_and', den_or, den_or', den_not, den_not', den_blit, den_of, ev_var, at_0, at_1, at_2, at_3, at_4, at_5, at_6, at_7, at_skip, c_int, c_bool, c_arr, c_cnt, c_vec, ev_nil, ev_join, ev_sub3, loc_s, int_i, bool_b, rows_s, cs_nil, cs_cons, E.den_lit, E.den_var, E.den_add, E.den_sub, E.den_mul, E.den_quo, E.den_rem, E.den_max, E.den_min, E.den_len, E.den_wr, E.den_cell, hct, ctNext, ringSh]
  repeat (refine And.intro (by omega) ?_)
  rintro r4 _ _ v4 w4 d4 _ _ k4 _ _ ⟨l4, u4, rfl, rfl, rfl⟩
  repeat (refine And.intro (by omega) ?_)
  rintro r5 _ _ v5 w5 d5 _ _ k5 _ _ ⟨l5, u5, rfl, rfl, rfl⟩
  repeat (refine And.intro (by omega) ?_)
  rintro r6 _ _ v6 w6 d6 _ _ k6 _ _ ⟨l6, u6, rfl, rfl, rfl⟩
  have m1 := mul_bd (a := r5) (b := r6) (A := 2) (B := 262143) (by omega) (by omega) (by omega) (by omega)
  unfold tshutof_5
  simp only [VC, allC, List.map_cons, List.map_nil, List.length_cons, List.length_nil, List.getElem?_cons_zero, List.getElem?_cons_succ, List.cons.injEq, C.i.injEq, C.b.injEq, and_true, true_and, forall_const, kindsOf_nil, kindsOf_lf, kindsOf_agg, kindsOf_box, boxKinds_nil, boxKinds_lf, boxKinds_agg, boxKinds_box, List.append_nil, List.cons_append, List.nil_append, den_cmp_le, den_cmp_lt, den_cmp_eq, den_cmp_ne, den_cmp_le', den_cmp_lt', den_cmp_eq', den_cmp_ne', den_and, den_and', den_or, den_or', den_not, den_not', den_blit, den_of, ev_var, at_0, at_1, at_2, at_3, at_4, at_5, at_6, at_7, at_skip, c_int, c_bool, c_arr, c_cnt, c_vec, ev_nil, ev_join, ev_sub3, loc_s, int_i, bool_b, rows_s, cs_nil, cs_cons, E.den_lit, E.den_var, E.den_add, E.den_sub, E.den_mul, E.den_quo, E.den_rem, E.den_max, E.den_min, E.den_len, E.den_wr, E.den_cell, hct, ctNext, ringSh]
  repeat (refine And.intro (by omega) ?_)
  rintro r7 _ _ v7 w7 d7 _ _ k7 _ _ ⟨l7, u7, rfl, rfl, rfl⟩
  repeat (refine And.intro (by omega) ?_)
  rintro r8 _ _ v8 w8 d8 _ _ k8 _ _ ⟨l8, u8, rfl, rfl, rfl⟩
  have m2 := mul_bd (a := r7) (b := 1 + r8) (A := 1048575) (B := 200) (by omega) (by omega) (by omega) (by omega)
  unfold tshutof_4
  simp only [VC, allC, List.map_cons, List.map_nil, List.length_cons, List.length_nil, List.getElem?_cons_zero, List.getElem?_cons_succ, List.cons.injEq, C.i.injEq, C.b.injEq, and_true, true_and, forall_const, kindsOf_nil, kindsOf_lf, kindsOf_agg, kindsOf_box, boxKinds_nil, boxKinds_lf, boxKinds_agg, boxKinds_box, List.append_nil, List.cons_append, List.nil_append, den_cmp_le, den_cmp_lt, den_cmp_eq, den_cmp_ne, den_cmp_le', den_cmp_lt', den_cmp_eq', den_cmp_ne', den_and, den_and', den_or, den_or', den_not, den_not', den_blit, den_of, ev_var, at_0, at_1, at_2, at_3, at_4, at_5, at_6, at_7, at_skip, c_int, c_bool, c_arr, c_cnt, c_vec, ev_nil, ev_join, ev_sub3, loc_s, int_i, bool_b, rows_s, cs_nil, cs_cons, E.den_lit, E.den_var, E.den_add, E.den_sub, E.den_mul, E.den_quo, E.den_rem, E.den_max, E.den_min, E.den_len, E.den_wr, E.den_cell, hct, ctNext, ringSh]
  repeat (refine And.intro (by omega) ?_)
  rintro r9 _ _ v9 w9 d9 _ _ k9 _ _ ⟨l9, u9, rfl, rfl, rfl⟩
  repeat (refine And.intro (by omega) ?_)
  rintro r10 _ _ v10 w10 d10 _ _ k10 _ _ ⟨l10, u10, rfl, rfl, rfl⟩
  have m3 := mul_bd (a := r9) (b := r10) (A := 2) (B := 262143) (by omega) (by omega) (by omega) (by omega)
  unfold tshutof_3
  simp only [VC, allC, List.map_cons, List.map_nil, List.length_cons, List.length_nil, List.getElem?_cons_zero, List.getElem?_cons_succ, List.cons.injEq, C.i.injEq, C.b.injEq, and_true, true_and, forall_const, kindsOf_nil, kindsOf_lf, kindsOf_agg, kindsOf_box, boxKinds_nil, boxKinds_lf, boxKinds_agg, boxKinds_box, List.append_nil, List.cons_append, List.nil_append, den_cmp_le, den_cmp_lt, den_cmp_eq, den_cmp_ne, den_cmp_le', den_cmp_lt', den_cmp_eq', den_cmp_ne', den_and, den_and', den_or, den_or', den_not, den_not', den_blit, den_of, ev_var, at_0, at_1, at_2, at_3, at_4, at_5, at_6, at_7, at_skip, c_int, c_bool, c_arr, c_cnt, c_vec, ev_nil, ev_join, ev_sub3, loc_s, int_i, bool_b, rows_s, cs_nil, cs_cons, E.den_lit, E.den_var, E.den_add, E.den_sub, E.den_mul, E.den_quo, E.den_rem, E.den_max, E.den_min, E.den_len, E.den_wr, E.den_cell, hct, ctNext, ringSh]
  repeat (refine And.intro (by omega) ?_)
  rintro r11 _ _ v11 w11 d11 _ _ k11 _ _ ⟨l11, u11, rfl, rfl, rfl⟩
  unfold tshutof_2
  simp only [VC, allC, List.map_cons, List.map_nil, List.length_cons, List.length_nil, List.getElem?_cons_zero, List.getElem?_cons_succ, List.cons.injEq, C.i.injEq, C.b.injEq, and_true, true_and, forall_const, kindsOf_nil, kindsOf_lf, kindsOf_agg, kindsOf_box, boxKinds_nil, boxKinds_lf, boxKinds_agg, boxKinds_box, List.append_nil, List.cons_append, List.nil_append, den_cmp_le, den_cmp_lt, den_cmp_eq, den_cmp_ne, den_cmp_le', den_cmp_lt', den_cmp_eq', den_cmp_ne', den_and, den_and', den_or, den_or', den_not, den_not', den_blit, den_of, ev_var, at_0, at_1, at_2, at_3, at_4, at_5, at_6, at_7, at_skip, c_int, c_bool, c_arr, c_cnt, c_vec, ev_nil, ev_join, ev_sub3, loc_s, int_i, bool_b, rows_s, cs_nil, cs_cons, E.den_lit, E.den_var, E.den_add, E.den_sub, E.den_mul, E.den_quo, E.den_rem, E.den_max, E.den_min, E.den_len, E.den_wr, E.den_cell, hct, ctNext, ringSh]
  repeat (refine And.intro (by omega) ?_)
  rintro r12 _ _ v12 w12 d12 _ _ k12 _ _ ⟨l12, u12, rfl, rfl, rfl⟩
  repeat (refine And.intro (by omega) ?_)
  rintro r13 _ _ v13 w13 d13 _ _ k13 _ _ ⟨l13, u13, rfl, rfl, rfl⟩
  have m4 := mul_bd (a := r12) (b := r13) (A := 2) (B := 16383) (by omega) (by omega) (by omega) (by omega)
  unfold tshutof_1
  simp only [VC, allC, List.map_cons, List.map_nil, List.length_cons, List.length_nil, List.getElem?_cons_zero, List.getElem?_cons_succ, List.cons.injEq, C.i.injEq, C.b.injEq, and_true, true_and, forall_const, kindsOf_nil, kindsOf_lf, kindsOf_agg, kindsOf_box, boxKinds_nil, boxKinds_lf, boxKinds_agg, boxKinds_box, List.append_nil, List.cons_append, List.nil_append, den_cmp_le, den_cmp_lt, den_cmp_eq, den_cmp_ne, den_cmp_le', den_cmp_lt', den_cmp_eq', den_cmp_ne', den_and, den_and', den_or, den_or', den_not, den_not', den_blit, den_of, ev_var, at_0, at_1, at_2, at_3, at_4, at_5, at_6, at_7, at_skip, c_int, c_bool, c_arr, c_cnt, c_vec, ev_nil, ev_join, ev_sub3, loc_s, int_i, bool_b, rows_s, cs_nil, cs_cons, E.den_lit, E.den_var, E.den_add, E.den_sub, E.den_mul, E.den_quo, E.den_rem, E.den_max, E.den_min, E.den_len, E.den_wr, E.den_cell, hct, ctNext, ringSh]
  repeat (refine And.intro (by omega) ?_)
  omega
end Go.Proofs.Ytlbgcjpkegpmlaa
