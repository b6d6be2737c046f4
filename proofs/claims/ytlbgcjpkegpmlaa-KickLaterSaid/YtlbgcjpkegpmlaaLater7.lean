/- Texts laid into one: XV X3 XC XY XK XL XG Mp. -/
import Derived.Test.YtlbgcjpkegpmlaaLater6
import Derived.WalkKit
import Derived.WalkLawsBesides
import Derived.Lib.Hide
import Derived.Handy
import Derived.Maps.Keyed
import Derived.Maps.Range
import Derived.Carry
/- The ring of numbers, by the engine. -/
namespace Go.Proofs.Ytlbgcjpkegpmlaa
open Go.RowKit
set_option linter.unusedSimpArgs false
set_option linter.unusedVariables false

theorem emod_tmod {n m : Int} (hm : 0 < m) : (n.tmod m < 0 → n % m = n.tmod m + m) ∧ (0 ≤ n.tmod m → n % m = n.tmod m) ∧ 0 ≤ n % m ∧ n % m < m ∧ -m < n.tmod m ∧ n.tmod m < m := by
  have h1 := Int.emod_nonneg n (show m ≠ 0 by omega)
  have h2 := Int.emod_lt_of_pos n hm
  rw [Int.tmod_eq_emod]
  by_cases h : 0 ≤ n ∨ m ∣ n
  · rw [if_pos h]
    omega
  · rw [if_neg h]
    have h3 : ((m.natAbs : Nat) : Int) = m := by omega
    rw [h3]
    have h0 : n % m ≠ 0 := fun e => h (.inr (Int.dvd_of_emod_eq_zero e))
    omega
theorem mod_ok : tab.ok 28 := by
  refine Tab.of_ct rfl rfl ⟨_, Try.func28, by decide, rfl⟩ ?_ ctF_det
  refine ct_ok (cx := cmod) (Tab.cx_ok all_nil) Try.func28 (bds := []) (T := tmod) (by kernel_rfl) ?_
  unfold tmod
  simp only [VC, allC, List.map_cons, List.map_nil, List.length_cons, List.length_nil, List.getElem?_cons_zero, List.getElem?_cons_succ, List.cons.injEq, C.i.injEq, C.b.injEq, and_true, true_and, forall_const, kindsOf_nil, kindsOf_lf, kindsOf_agg, kindsOf_box, boxKinds_nil, boxKinds_lf, boxKinds_agg, boxKinds_box, List.append_nil, List.cons_append, List.nil_append, den_cmp_le, den_cmp_lt, den_cmp_eq, den_cmp_ne, den_cmp_le', den_cmp_lt', den_cmp_eq', den_cmp_ne', den_and, den_and', den_or, den_or', den_not, den_not', den_blit, den_of, ev_var, at_0, at_1, at_2, at_3, at_4, at_5, at_6, at_7, at_skip, c_int, c_bool, c_arr, c_cnt, c_vec, ev_nil, ev_join, ev_sub3, loc_s, int_i, bool_b, rows_s, cs_nil, cs_cons, E.den_lit, E.den_var, E.den_add, E.den_sub, E.den_mul, E.den_quo, E.den_rem, E.den_max, E.den_min, E.den_len, E.den_wr, E.den_cell, ctMod, ctF]; rintro n n1 n2 m m1 m2 ⟨p1, p2⟩; obtain ⟨e1, e2, e3, e4, e5, e6⟩ := emod_tmod (n := n) (m := m) (by omega); refine ⟨bds_nil _, by omega, fun h => ⟨by omega, by omega, ?_⟩, fun h => ⟨by omega, ?_⟩⟩; all_goals omega
theorem mod64_ok : tab.ok 22 := by
  refine Tab.of_ct rfl rfl ⟨_, Try.func22, by decide, rfl⟩ ?_ ctF_det
  refine ct_ok (cx := cmod64) (Tab.cx_ok all_nil) Try.func22 (bds := []) (T := tmod64) (by kernel_rfl) ?_
  unfold tmod64
  simp only [VC, allC, List.map_cons, List.map_nil, List.length_cons, List.length_nil, List.getElem?_cons_zero, List.getElem?_cons_succ, List.cons.injEq, C.i.injEq, C.b.injEq, and_true, true_and, forall_const, kindsOf_nil, kindsOf_lf, kindsOf_agg, kindsOf_box, boxKinds_nil, boxKinds_lf, boxKinds_agg, boxKinds_box, List.append_nil, List.cons_append, List.nil_append, den_cmp_le, den_cmp_lt, den_cmp_eq, den_cmp_ne, den_cmp_le', den_cmp_lt', den_cmp_eq', den_cmp_ne', den_and, den_and', den_or, den_or', den_not, den_not', den_blit, den_of, ev_var, at_0, at_1, at_2, at_3, at_4, at_5, at_6, at_7, at_skip, c_int, c_bool, c_arr, c_cnt, c_vec, ev_nil, ev_join, ev_sub3, loc_s, int_i, bool_b, rows_s, cs_nil, cs_cons, E.den_lit, E.den_var, E.den_add, E.den_sub, E.den_mul, E.den_quo, E.den_rem, E.den_max, E.den_min, E.den_len, E.den_wr, E.den_cell, ctMod, ctF]; rintro n n1 n2 m m1 m2 ⟨p1, p2⟩; obtain ⟨e1, e2, e3, e4, e5, e6⟩ := emod_tmod (n := n) (m := m) (by omega); refine ⟨bds_nil _, by omega, fun h => ⟨by omega, by omega, ?_⟩, fun h => ⟨by omega, ?_⟩⟩; all_goals omega
theorem newring_ok : tab.ok 21 := by
  refine Tab.of_ct rfl rfl ⟨_, Try.func21, by decide, rfl⟩ ?_ ctF_det
  refine ct_ok (cx := cnewring) (Tab.cx_ok all_nil) Try.func21 (bds := []) (T := tnewring) (by kernel_rfl) ?_
  unfold tnewring
  simp only [VC, allC, List.map_cons, List.map_nil, List.length_cons, List.length_nil, List.getElem?_cons_zero, List.getElem?_cons_succ, List.cons.injEq, C.i.injEq, C.b.injEq, and_true, true_and, forall_const, kindsOf_nil, kindsOf_lf, kindsOf_agg, kindsOf_box, boxKinds_nil, boxKinds_lf, boxKinds_agg, boxKinds_box, List.append_nil, List.cons_append, List.nil_append, den_cmp_le, den_cmp_lt, den_cmp_eq, den_cmp_ne, den_cmp_le', den_cmp_lt', den_cmp_eq', den_cmp_ne', den_and, den_and', den_or, den_or', den_not, den_not', den_blit, den_of, ev_var, at_0, at_1, at_2, at_3, at_4, at_5, at_6, at_7, at_skip, c_int, c_bool, c_arr, c_cnt, c_vec, ev_nil, ev_join, ev_sub3, loc_s, int_i, bool_b, rows_s, cs_nil, cs_cons, E.den_lit, E.den_var, E.den_add, E.den_sub, E.den_mul, E.den_quo, E.den_rem, E.den_max, E.den_min, E.den_len, E.den_wr, E.den_cell, ctNewRing, ctF, ringSh]
  intro v rows d _ _
  exact bds_nil _
theorem next_ok : tab.ok 26 := by
  refine Tab.of_ct rfl rfl ⟨_, Try.func26, by decide, rfl⟩ ?_ (fun h => by cases h)
  refine ct_ok (cx := cnext) (Tab.cx_ok (all_cons mod_ok all_nil)) Try.func26 (bds := [(1, 0, 1000000)]) (T := tnext) (by kernel_rfl) ?_
  unfold tnext
  simp only [VC, allC, List.map_cons, List.map_nil, List.length_cons, List.length_nil, List.getElem?_cons_zero, List.getElem?_cons_succ, List.cons.injEq, C.i.injEq, C.b.injEq, and_true, true_and, forall_const, kindsOf_nil, kindsOf_lf, kindsOf_agg, kindsOf_box, boxKinds_nil, boxKinds_lf, boxKinds_agg, boxKinds_box, List.append_nil, List.cons_append, List.nil_append, den_cmp_le, den_cmp_lt, den_cmp_eq, den_cmp_ne, den_cmp_le', den_cmp_lt', den_cmp_eq', den_cmp_ne', den_and, den_and', den_or, den_or', den_not, den_not', den_blit, den_of, ev_var, at_0, at_1, at_2, at_3, at_4, at_5, at_6, at_7, at_skip, c_int, c_bool, c_arr, c_cnt, c_vec, ev_nil, ev_join, ev_sub3, loc_s, int_i, bool_b, rows_s, cs_nil, cs_cons, E.den_lit, E.den_var, E.den_add, E.den_sub, E.den_mul, E.den_quo, E.den_rem, E.den_max, E.den_min, E.den_len, E.den_wr, E.den_cell, ctNext, ctF, ringSh, show cnext.ct 28 = some ctMod from rfl, ctMod]
  rintro v rows d hty hsm at_ a1 a2 n n1 n2 ⟨p1, p2, p3⟩
  have hb : Bds.ok [(1, 0, 1000000)] [C.s v rows, C.i at_, C.i n] := by
    intro x lo hi hx
    simp only [List.mem_cons, Prod.mk.injEq, List.not_mem_nil, or_false] at hx
    obtain ⟨rfl, rfl, rfl⟩ := hx
    exact ⟨by simp, p1, p2⟩
  have r1 : 0 ≤ ((at_ + 1) * 7919).tmod 10007 := Int.tmod_nonneg _ (by omega)
  have r2 : ((at_ + 1) * 7919).tmod 10007 < 10007 := Int.tmod_lt_of_pos _ (by omega)
  refine ⟨hb, fun hL => ?_, fun hL => ⟨by omega, Int.tmod_nonneg _ r1, Int.tmod_lt_of_pos _ (by omega)⟩⟩
  generalize (rows.length : Int) = L at *
  have e1 : (at_ + 1).tmod L < L := Int.tmod_lt_of_pos _ hL
  have e2 : 0 ≤ (at_ + 1).tdiv L := Int.tdiv_nonneg (by omega) (by omega)
  refine ⟨by omega, e1, by omega, by omega, ?_⟩
  rintro m _ _ hm
  have m1 : 0 ≤ m := by rw [hm]; exact Int.emod_nonneg _ (by omega)
  have m2 : m < 1048576 := by rw [hm]; exact Int.emod_lt_of_pos _ (by omega)
  have q : m.tdiv (1 + (at_ + 1).tdiv L) = m / (1 + (at_ + 1).tdiv L) := Int.tdiv_eq_ediv_of_nonneg m1
  obtain ⟨q1, q2⟩ := (ediv_bd (a := m) (b := 1 + (at_ + 1).tdiv L) (by omega)).1 m1
  rw [q]
  generalize m / (1 + (at_ + 1).tdiv L) = k at *
  have t1 : 0 ≤ (((at_ + 1) * 7919).tmod 10007 + k).tmod n := Int.tmod_nonneg _ (by omega)
  have t2 : (((at_ + 1) * 7919).tmod 10007 + k).tmod n < n := Int.tmod_lt_of_pos _ (by omega)
  refine ⟨by omega, by omega, by omega, by omega, t1, t2⟩
theorem kickof_ok : tab.ok 20 := by
  refine Tab.of_ct rfl rfl ⟨_, Try.func20, by decide, rfl⟩ ?_ (fun h => by cases h)
  refine ct_ok (cx := ckickof) (Tab.cx_ok (all_cons next_ok all_nil)) Try.func20 (bds := []) (T := tkickof) (by kernel_rfl) ?_
  unfold tkickof
  simp only [VC, allC, List.map_cons, List.map_nil, List.length_cons, List.length_nil, List.getElem?_cons_zero, List.getElem?_cons_succ, List.cons.injEq, C.i.injEq, C.b.injEq, and_true, true_and, forall_const, kindsOf_nil, kindsOf_lf, kindsOf_agg, kindsOf_box, boxKinds_nil, boxKinds_lf, boxKinds_agg, boxKinds_box, List.append_nil, List.cons_append, List.nil_append, den_cmp_le, den_cmp_lt, den_cmp_eq, den_cmp_ne, den_cmp_le', den_cmp_lt', den_cmp_eq', den_cmp_ne', den_and, den_and', den_or, den_or', den_not, den_not', den_blit, den_of, ev_var, at_0, at_1, at_2, at_3, at_4, at_5, at_6, at_7, at_skip, c_int, c_bool, c_arr, c_cnt, c_vec, ev_nil, ev_join, ev_sub3, loc_s, int_i, bool_b, rows_s, cs_nil, cs_cons, E.den_lit, E.den_var, E.den_add, E.den_sub, E.den_mul, E.den_quo, E.den_rem, E.den_max, E.den_min, E.den_len, E.den_wr, E.den_cell, ctKickOf, atPre, ringSh, show ckickof.ct 26 = some ctNext from rfl, ctNext]
  rintro v rows d hty hsm at_ a1 a2 ⟨p1, p2⟩
  refine ⟨bds_nil _, by omega, ?_⟩
  rintro x0 _ _ v0 rows0 d0 _ _ at0 _ _ ⟨x1, x2, rfl, rfl, rfl⟩
  refine ⟨by omega, ?_⟩
  rintro y0 _ _ v1 rows1 d1 _ _ at1 _ _ ⟨y1, y2, rfl, rfl, rfl⟩
  have m := mul_bd (a := x0) (b := y0) (A := 2) (B := 4999) (by omega) (by omega) (by omega) (by omega)
  refine ⟨by omega, by omega, ?_⟩
  rintro z0 _ _ v2 rows2 d2 _ _ at2 _ _ ⟨z1, z2, rfl, rfl, rfl⟩
  refine ⟨by omega, ?_⟩
  rintro u0 _ _ v3 rows3 d3 _ _ at3 _ _ ⟨u1, u2, rfl, rfl, rfl⟩
  have m' := mul_bd (a := z0) (b := u0) (A := 1) (B := 299) (by omega) (by omega) (by omega) (by omega)
  refine ⟨by omega, by omega, by omega, by omega, by omega, by omega, by omega, rfl, rfl, by omega⟩
theorem lwithin_ok : tab.ok 34 := by
  refine Tab.of_ct rfl rfl ⟨_, Try.func34, by decide, rfl⟩ ?_ ctF_det
  refine ct_ok (cx := clwithin) (Tab.cx_ok (all_cons mod64_ok all_nil)) Try.func34 (bds := []) (T := tlwithin) (by kernel_rfl) ?_
  unfold tlwithin
  simp only [VC, allC, List.map_cons, List.map_nil, List.length_cons, List.length_nil, List.getElem?_cons_zero, List.getElem?_cons_succ, List.cons.injEq, C.i.injEq, C.b.injEq, and_true, true_and, forall_const, kindsOf_nil, kindsOf_lf, kindsOf_agg, kindsOf_box, boxKinds_nil, boxKinds_lf, boxKinds_agg, boxKinds_box, List.append_nil, List.cons_append, List.nil_append, den_cmp_le, den_cmp_lt, den_cmp_eq, den_cmp_ne, den_cmp_le', den_cmp_lt', den_cmp_eq', den_cmp_ne', den_and, den_and', den_or, den_or', den_not, den_not', den_blit, den_of, ev_var, at_0, at_1, at_2, at_3, at_4, at_5, at_6, at_7, at_skip, c_int, c_bool, c_arr, c_cnt, c_vec, ev_nil, ev_join, ev_sub3, loc_s, int_i, bool_b, rows_s, cs_nil, cs_cons, E.den_lit, E.den_var, E.den_add, E.den_sub, E.den_mul, E.den_quo, E.den_rem, E.den_max, E.den_min, E.den_len, E.den_wr, E.den_cell, ctLWithin, ctF, show clwithin.ct 22 = some ctMod from rfl, ctMod]
  rintro lo l1 l2 hi h1 h2 n n1 n2 ⟨p1, p2, p3⟩
  obtain ⟨e1, e2, e3, e4, e5, e6⟩ := emod_tmod (n := n) (m := hi - lo + 1) (by omega)
  refine ⟨bds_nil _, ?_⟩
  repeat (refine And.intro (by omega) ?_)
  rintro m _ _ rfl
  repeat (refine And.intro (by omega) ?_)
  rfl
theorem lin_ct : CtOK Try.prog 35 ctIn := by
  refine ct_ok (cx := clin) (Tab.cx_ok all_nil) Try.func35 (bds := []) (T := tlin) (by kernel_rfl) ?_
  unfold tlin
  simp only [VC, allC, List.map_cons, List.map_nil, List.length_cons, List.length_nil, List.getElem?_cons_zero, List.getElem?_cons_succ, List.cons.injEq, C.i.injEq, C.b.injEq, and_true, true_and, forall_const, kindsOf_nil, kindsOf_lf, kindsOf_agg, kindsOf_box, boxKinds_nil, boxKinds_lf, boxKinds_agg, boxKinds_box, List.append_nil, List.cons_append, List.nil_append, den_cmp_le, den_cmp_lt, den_cmp_eq, den_cmp_ne, den_cmp_le', den_cmp_lt', den_cmp_eq', den_cmp_ne', den_and, den_and', den_or, den_or', den_not, den_not', den_blit, den_of, ev_var, at_0, at_1, at_2, at_3, at_4, at_5, at_6, at_7, at_skip, c_int, c_bool, c_arr, c_cnt, c_vec, ev_nil, ev_join, ev_sub3, loc_s, int_i, bool_b, rows_s, cs_nil, cs_cons, E.den_lit, E.den_var, E.den_add, E.den_sub, E.den_mul, E.den_quo, E.den_rem, E.den_max, E.den_min, E.den_len, E.den_wr, E.den_cell, ctIn, ctF]
  intro a a1 a2 b b1 b2 c c1 c2 d d1 d2
  refine ⟨bds_nil _, fun h => ?_, fun h => ?_⟩
  · simp [B.den, Cmp.den, E.den_var, at_zero, at_succ, int_i, h] <;> rfl
  · have h' := Int.not_le.2 h; simp [B.den, h']
theorem lin_ok : tab.ok 35 := Tab.of_inl rfl rfl ⟨_, Try.func35, by decide, rfl⟩ (by
  refine Inl.of_ct lin_ct fun bd ρ l obs s h hn ho => ?_
  unfold inI at h
  split at h
  · cases h
    refine ⟨rfl, rfl, ho, trivial, rfl, rfl, ?_⟩
    simp [cs_, cellsOf, S0.cellsM, S0.cells, Lf.c, B.den, B.den_mkCmp hn, Cmp.den]
  · cases h)
theorem shutof_ok : tab.ok 33 := by
  refine Tab.of_ct rfl rfl ⟨_, Try.func33, by decide, rfl⟩ ?_ (fun h => by cases h)
  refine ct_ok (cx := cshutof) (Tab.cx_ok (all_cons next_ok all_nil)) Try.func33 (bds := []) (T := tshutof) (by kernel_rfl) ?_
  have hct : cshutof.ct 26 = some ctNext := rfl
  unfold tshutof
  simp only [VC, allC, List.map_cons, List.map_nil, List.length_cons, List.length_nil, List.getElem?_cons_zero, List.getElem?_cons_succ, List.cons.injEq, C.i.injEq, C.b.injEq, and_true, true_and, forall_const, kindsOf_nil, kindsOf_lf, kindsOf_agg, kindsOf_box, boxKinds_nil, boxKinds_lf, boxKinds_agg, boxKinds_box, List.append_nil, List.cons_append, List.nil_append, den_cmp_le, den_cmp_lt, den_cmp_eq, den_cmp_ne, den_cmp_le', den_cmp_lt', den_cmp_eq', den_cmp_ne', den_and, den_and', den_or, den_or', den_not, den_not', den_blit, den_of, ev_var, at_0, at_1, at_2, at_3, at_4, at_5, at_6, at_7, at_skip, c_int, c_bool, c_arr, c_cnt, c_vec, ev_nil, ev_join, ev_sub3, loc_s, int_i, bool_b, rows_s, cs_nil, cs_cons, E.den_lit, E.den_var, E.den_add, E.den_sub, E.den_mul, E.den_quo, E.den_rem, E.den_max, E.den_min, E.den_len, E.den_wr, E.den_cell, ctShutOf, shutSh, atPre, ringSh, hct, ctNext]
  rintro v rows d hty hsm at_ a1 a2 ⟨p1, p2⟩
  refine ⟨bds_nil _, by omega, ?_⟩
  rintro r1 _ _ v1 w1 d1 _ _ k1 _ _ ⟨l1, u1, rfl, rfl, rfl⟩
  unfold tshutof_8
  simp only [VC, allC, List.map_cons, List.map_nil, List.length_cons, List.length_nil, List.getElem?_cons_zero, List.getElem?_cons_succ, List.cons.injEq, C.i.injEq, C.b.injEq, and_true, true_and, forall_const, kindsOf_nil, kindsOf_lf, kindsOf_agg, kindsOf_box, boxKinds_nil, boxKinds_lf, boxKinds_agg, boxKinds_box, List.append_nil, List.cons_append, List.nil_append, den_cmp_le, den_cmp_lt, den_cmp_eq, den_cmp_ne, den_cmp_le', den_cmp_lt', den_cmp_eq', den_cmp_ne', den_and, den_and', den_or, den_or', den_not, den_not', den_blit, den_of, ev_var, at_0, at_1, at_2, at_3, at_4, at_5, at_6, at_7, at_skip, c_int, c_bool, c_arr, c_cnt, c_vec, ev_nil, ev_join, ev_sub3, loc_s, int_i, bool_b, rows_s, cs_nil, cs_cons, E.den_lit, E.den_var, E.den_add, E.den_sub, E.den_mul, E.den_quo, E.den_rem, E.den_max, E.den_min, E.den_len, E.den_wr, E.den_cell, hct, ctNext, ringSh]
  repeat (refine And.intro (by omega) ?_)
  rintro r2 _ _ v2 w2 d2 _ _ k2 _ _ ⟨l2, u2, rfl, rfl, rfl⟩
  unfold tshutof_7
  simp only [VC, allC, List.map_cons, List.map_nil, List.length_cons, List.length_nil, List.getElem?_cons_zero, List.getElem?_cons_succ, List.cons.injEq, C.i.injEq, C.b.injEq, and_true, true_and, forall_const, kindsOf_nil, kindsOf_lf, kindsOf_agg, kindsOf_box, boxKinds_nil, boxKinds_lf, boxKinds_agg, boxKinds_box, List.append_nil, List.cons_append, List.nil_append, den_cmp_le, den_cmp_lt, den_cmp_eq, den_cmp_ne, den_cmp_le', den_cmp_lt', den_cmp_eq', den_cmp_ne', den_and, den_and', den_or, den_or', den_not, den_not', den_blit, den_of, ev_var, at_0, at_1, at_2, at_3, at_4, at_5, at_6, at_7, at_skip, c_int, c_bool, c_arr, c_cnt, c_vec, ev_nil, ev_join, ev_sub3, loc_s, int_i, bool_b, rows_s, cs_nil, cs_cons, E.den_lit, E.den_var, E.den_add, E.den_sub, E.den_mul, E.den_quo, E.den_rem, E.den_max, E.den_min, E.den_len, E.den_wr, E.den_cell, hct, ctNext, ringSh]
  repeat (refine And.intro (by omega) ?_)
  rintro r3 _ _ v3 w3 d3 _ _ k3 _ _ ⟨l3, u3, rfl, rfl, rfl⟩
  unfold tshutof_6
  simp only [VC, allC, List.map_cons, List.map_nil, List.length_cons, List.length_nil, List.getElem?_cons_zero, List.getElem?_cons_succ, List.cons.injEq, C.i.injEq, C.b.injEq, and_true, true_and, forall_const, kindsOf_nil, kindsOf_lf, kindsOf_agg, kindsOf_box, boxKinds_nil, boxKinds_lf, boxKinds_agg, boxKinds_box, List.append_nil, List.cons_append, List.nil_append, den_cmp_le, den_cmp_lt, den_cmp_eq, den_cmp_ne, den_cmp_le', den_cmp_lt', den_cmp_eq', den_cmp_ne', den_and, den_and', den_or, den_or', den_not, den_not', den_blit, den_of, ev_var, at_0, at_1, at_2, at_3, at_4, at_5, at_6, at_7, at_skip, c_int, c_bool, c_arr, c_cnt, c_vec, ev_nil, ev_join, ev_sub3, loc_s, int_i, bool_b, rows_s, cs_nil, cs_cons, E.den_lit, E.den_var, E.den_add, E.den_sub, E.den_mul, E.den_quo, E.den_rem, E.den_max, E.den_min, E.den_len, E.den_wr, E.den_cell, hct, ctNext, ringSh]
  repeat (refine And.intro (by omega) ?_)
  rintro r4 _ _ v4 w4 d4 _ _ k4 _ _ ⟨l4, u4, rfl, rfl, rfl⟩
  repeat (refine And.intro (by omega) ?_)
  rintro r5 _ _ v5 w5 d5 _ _ k5 _ _ ⟨l5, u5, rfl, rfl, rfl⟩
  repeat (refine And.intro (by omega) ?_)
  rintro r6 _ _ v6 w6 d6 _ _ k6 _ _ ⟨l6, u6, rfl, rfl, rfl⟩
  have m1 := mul_bd (a := r5) (b := r6) (A := 2) (B := 262143) (by omega) (by omega) (by omega) (by omega)
  unfold tshutof_5
  simp only [VC, allC, List.map_cons, List.map_nil, List.length_cons, List.length_nil, List.getElem?_cons_zero, List.getElem?_cons_succ, List.cons.injEq, C.i.injEq, C.b.injEq, and_true, true_and, forall_const, kindsOf_nil, kindsOf_lf, kindsOf_agg, kindsOf_box, boxKinds_nil, boxKinds_lf, boxKinds_agg, boxKinds_box, List.append_nil, List.cons_append, List.nil_append, den_cmp_le, den_cmp_lt, den_cmp_eq, den_cmp_ne, den_cmp_le', den_cmp_lt', den_cmp_eq', den_cmp_ne', den_and, den_and', den_or, den_or', den_not, den_not', den_blit, den_of, ev_var, at_0, at_1, at_2, at_3, at_4, at_5, at_6, at_7, at_skip, c_int, c_bool, c_arr, c_cnt, c_vec, ev_nil, ev_join, ev_sub3, loc_s, int_i, bool_b, rows_s, cs_nil, cs_cons, E.den_lit, E.den_var, E.den_add, E.den_sub, E.den_mul, E.den_quo, E.den_rem, E.den_max, E.den_min, E.den_len, E.den_wr, E.den_cell, hct, ctNext, ringSh]
  repeat (refine And.intro (by omega) ?_)
  rintro r7 _ _ v7 w7 d7 _ _ k7 _ _ ⟨l7, u7, rfl, rfl, rfl⟩
  repeat (refine And.intro (by omega) ?_)
  rintro r8 _ _ v8 w8 d8 _ _ k8 _ _ ⟨l8, u8, rfl, rfl, rfl⟩
  have m2 := mul_bd (a := r7) (b := 1 + r8) (A := 1048575) (B := 200) (by omega) (by omega) (by omega) (by omega)
  unfold tshutof_4
  simp only [VC, allC, List.map_cons, List.map_nil, List.length_cons, List.length_nil, List.getElem?_cons_zero, List.getElem?_cons_succ, List.cons.injEq, C.i.injEq, C.b.injEq, and_true, true_and, forall_const, kindsOf_nil, kindsOf_lf, kindsOf_agg, kindsOf_box, boxKinds_nil, boxKinds_lf, boxKinds_agg, boxKinds_box, List.append_nil, List.cons_append, List.nil_append, den_cmp_le, den_cmp_lt, den_cmp_eq, den_cmp_ne, den_cmp_le', den_cmp_lt', den_cmp_eq', den_cmp_ne', den_and, den_and', den_or, den_or', den_not, den_not', den_blit, den_of, ev_var, at_0, at_1, at_2, at_3, at_4, at_5, at_6, at_7, at_skip, c_int, c_bool, c_arr, c_cnt, c_vec, ev_nil, ev_join, ev_sub3, loc_s, int_i, bool_b, rows_s, cs_nil, cs_cons, E.den_lit, E.den_var, E.den_add, E.den_sub, E.den_mul, E.den_quo, E.den_rem, E.den_max, E.den_min, E.den_len, E.den_wr, E.den_cell, hct, ctNext, ringSh]
  repeat (refine And.intro (by omega) ?_)
  rintro r9 _ _ v9 w9 d9 _ _ k9 _ _ ⟨l9, u9, rfl, rfl, rfl⟩
  repeat (refine And.intro (by omega) ?_)
  rintro r10 _ _ v10 w10 d10 _ _ k10 _ _ ⟨l10, u10, rfl, rfl, rfl⟩
  have m3 := mul_bd (a := r9) (b := r10) (A := 2) (B := 262143) (by omega) (by omega) (by omega) (by omega)
  unfold tshutof_3
  simp only [VC, allC, List.map_cons, List.map_nil, List.length_cons, List.length_nil, List.getElem?_cons_zero, List.getElem?_cons_succ, List.cons.injEq, C.i.injEq, C.b.injEq, and_true, true_and, forall_const, kindsOf_nil, kindsOf_lf, kindsOf_agg, kindsOf_box, boxKinds_nil, boxKinds_lf, boxKinds_agg, boxKinds_box, List.append_nil, List.cons_append, List.nil_append, den_cmp_le, den_cmp_lt, den_cmp_eq, den_cmp_ne, den_cmp_le', den_cmp_lt', den_cmp_eq', den_cmp_ne', den_and, den_and', den_or, den_or', den_not, den_not', den_blit, den_of, ev_var, at_0, at_1, at_2, at_3, at_4, at_5, at_6, at_7, at_skip, c_int, c_bool, c_arr, c_cnt, c_vec, ev_nil, ev_join, ev_sub3, loc_s, int_i, bool_b, rows_s, cs_nil, cs_cons, E.den_lit, E.den_var, E.den_add, E.den_sub, E.den_mul, E.den_quo, E.den_rem, E.den_max, E.den_min, E.den_len, E.den_wr, E.den_cell, hct, ctNext, ringSh]
  repeat (refine And.intro (by omega) ?_)
  rintro r11 _ _ v11 w11 d11 _ _ k11 _ _ ⟨l11, u11, rfl, rfl, rfl⟩
  unfold tshutof_2
  simp only [VC, allC, List.map_cons, List.map_nil, List.length_cons, List.length_nil, List.getElem?_cons_zero, List.getElem?_cons_succ, List.cons.injEq, C.i.injEq, C.b.injEq, and_true, true_and, forall_const, kindsOf_nil, kindsOf_lf, kindsOf_agg, kindsOf_box, boxKinds_nil, boxKinds_lf, boxKinds_agg, boxKinds_box, List.append_nil, List.cons_append, List.nil_append, den_cmp_le, den_cmp_lt, den_cmp_eq, den_cmp_ne, den_cmp_le', den_cmp_lt', den_cmp_eq', den_cmp_ne', den_and, den_and', den_or, den_or', den_not, den_not', den_blit, den_of, ev_var, at_0, at_1, at_2, at_3, at_4, at_5, at_6, at_7, at_skip, c_int, c_bool, c_arr, c_cnt, c_vec, ev_nil, ev_join, ev_sub3, loc_s, int_i, bool_b, rows_s, cs_nil, cs_cons, E.den_lit, E.den_var, E.den_add, E.den_sub, E.den_mul, E.den_quo, E.den_rem, E.den_max, E.den_min, E.den_len, E.den_wr, E.den_cell, hct, ctNext, ringSh]
  repeat (refine And.intro (by omega) ?_)
  rintro r12 _ _ v12 w12 d12 _ _ k12 _ _ ⟨l12, u12, rfl, rfl, rfl⟩
  repeat (refine And.intro (by omega) ?_)
  rintro r13 _ _ v13 w13 d13 _ _ k13 _ _ ⟨l13, u13, rfl, rfl, rfl⟩
  have m4 := mul_bd (a := r12) (b := r13) (A := 2) (B := 16383) (by omega) (by omega) (by omega) (by omega)
  unfold tshutof_1
  simp only [VC, allC, List.map_cons, List.map_nil, List.length_cons, List.length_nil, List.getElem?_cons_zero, List.getElem?_cons_succ, List.cons.injEq, C.i.injEq, C.b.injEq, and_true, true_and, forall_const, kindsOf_nil, kindsOf_lf, kindsOf_agg, kindsOf_box, boxKinds_nil, boxKinds_lf, boxKinds_agg, boxKinds_box, List.append_nil, List.cons_append, List.nil_append, den_cmp_le, den_cmp_lt, den_cmp_eq, den_cmp_ne, den_cmp_le', den_cmp_lt', den_cmp_eq', den_cmp_ne', den_and, den_and', den_or, den_or', den_not, den_not', den_blit, den_of, ev_var, at_0, at_1, at_2, at_3, at_4, at_5, at_6, at_7, at_skip, c_int, c_bool, c_arr, c_cnt, c_vec, ev_nil, ev_join, ev_sub3, loc_s, int_i, bool_b, rows_s, cs_nil, cs_cons, E.den_lit, E.den_var, E.den_add, E.den_sub, E.den_mul, E.den_quo, E.den_rem, E.den_max, E.den_min, E.den_len, E.den_wr, E.den_cell, hct, ctNext, ringSh]
  repeat (refine And.intro (by omega) ?_)
  omega
end Go.Proofs.Ytlbgcjpkegpmlaa
/- What is to be shown of each function, as the executor has it. Printed by trees.py. -/
namespace Go.Proofs.Ytlbgcjpkegpmlaa
noncomputable def ckick : Cx := tab.only [68] (fun _ => []) [] 0 []
def tkick : Tree :=
  (.split (.and (.cmp .le (.lit 0) (.var 0)) (.cmp .le (.var 0) (.lit 16777216))) (.split (.and (.cmp .le (.lit 0) (.var 1)) (.cmp .le (.var 1) (.lit 4096))) (.ret [(.int (.lit 0))]) (.ret [(.int (.lit 2))])) (.ret [(.int (.lit 2))]))
noncomputable def crkick : Cx := tab.only [69] (fun _ => []) [] 0 []
def trkick : Tree :=
  (.split (.not (.and (.cmp .le (.lit 0) (.var 0)) (.cmp .le (.var 0) (.lit 16777216)))) (.ret [(.int (.lit 2))]) (.split (.not (.and (.cmp .le (.lit 0) (.var 1)) (.cmp .le (.var 1) (.lit 4096)))) (.ret [(.int (.lit 2))]) (.ret [(.int (.lit 0))])))
noncomputable def cleast : Cx := tab.only [] (fun _ => []) [] 0 []
def tleast : Tree :=
  (.ret [(.int (.var 0)), (.int (.var 2))])
noncomputable def crleast : Cx := tab.only [] (fun _ => []) [] 0 []
def trleast : Tree :=
  (.ret [(.int (.var 0)), (.int (.var 2))])
noncomputable def ckicks : Cx := tab.only [75, 36] (fun _ => []) [] 0 []
def tkicks : Tree :=
  (.split (.cmp .lt (.var 1) (.var 0)) (.ret [(.int (.lit 2))]) (.split (.cmp .lt (.var 3) (.var 2)) (.ret [(.int (.lit 2))]) (.call 75 [(.int (.var 0)), (.int (.var 1)), (.int (.var 2)), (.int (.var 3))] (.call 36 [(.int (.var 4)), (.int (.var 5))] (.split (.cmp .ne (.var 6) (.lit 0)) (.ret [(.int (.lit 2))]) (.call 36 [(.int (.var 1)), (.int (.var 3))] (.split (.cmp .ne (.var 7) (.lit 0)) (.ret [(.int (.lit 2))]) (.ret [(.int (.lit 0))]))))))))
noncomputable def crkicks : Cx := tab.only [76, 37] (fun _ => []) [] 0 []
def trkicks : Tree :=
  (.split (.cmp .lt (.var 1) (.var 0)) (.ret [(.int (.lit 2))]) (.split (.cmp .lt (.var 3) (.var 2)) (.ret [(.int (.lit 2))]) (.call 76 [(.int (.var 0)), (.int (.var 1)), (.int (.var 2)), (.int (.var 3))] (.call 37 [(.int (.var 4)), (.int (.var 5))] (.split (.cmp .ne (.var 6) (.lit 0)) (.ret [(.int (.lit 2))]) (.call 37 [(.int (.var 1)), (.int (.var 3))] (.split (.cmp .ne (.var 7) (.lit 0)) (.ret [(.int (.lit 2))]) (.ret [(.int (.lit 0))]))))))))
noncomputable def csens : Cx := tab.only [68] (fun _ => []) [] 0 []
def tsens : Tree :=
  (.split (.cmp .ne (.var 0) (.lit 1)) (.split (.cmp .ne (.var 0) (.lit 2)) (.ret [(.int (.lit 4))]) (.split (.and (.cmp .le (.lit 1) (.var 1)) (.cmp .le (.var 1) (.lit 60))) (.split (.and (.cmp .le (.lit 0) (.var 2)) (.cmp .le (.var 2) (.lit 600))) (.split (.and (.cmp .le (.lit 0) (.var 3)) (.cmp .le (.var 3) (.lit 15))) (.split (.and (.cmp .le (.lit 1) (.var 4)) (.cmp .le (.var 4) (.lit 1048576))) (.split (.and (.cmp .le (.lit 0) (.var 5)) (.cmp .le (.var 5) (.lit 5))) (.split (.and (.cmp .le (.lit 1) (.var 6)) (.cmp .le (.var 6) (.lit 1099511627776))) (.split (.and (.cmp .le (.lit 1) (.var 7)) (.cmp .le (.var 7) (.lit 8))) (.ret [(.int (.lit 0))]) (.ret [(.int (.lit 2))])) (.ret [(.int (.lit 2))])) (.ret [(.int (.lit 2))])) (.ret [(.int (.lit 2))])) (.ret [(.int (.lit 2))])) (.ret [(.int (.lit 2))])) (.ret [(.int (.lit 2))]))) (.split (.and (.cmp .le (.lit 1) (.var 1)) (.cmp .le (.var 1) (.lit 60))) (.split (.and (.cmp .le (.lit 0) (.var 2)) (.cmp .le (.var 2) (.lit 600))) (.split (.and (.cmp .le (.lit 0) (.var 3)) (.cmp .le (.var 3) (.lit 15))) (.split (.and (.cmp .le (.lit 1) (.var 4)) (.cmp .le (.var 4) (.lit 1048576))) (.split (.and (.cmp .le (.lit 0) (.var 5)) (.cmp .le (.var 5) (.lit 5))) (.split (.and (.cmp .le (.lit 1) (.var 6)) (.cmp .le (.var 6) (.lit 1099511627776))) (.split (.and (.cmp .le (.lit 1) (.var 7)) (.cmp .le (.var 7) (.lit 8))) (.ret [(.int (.lit 0))]) (.ret [(.int (.lit 2))])) (.ret [(.int (.lit 2))])) (.ret [(.int (.lit 2))])) (.ret [(.int (.lit 2))])) (.ret [(.int (.lit 2))])) (.ret [(.int (.lit 2))])) (.ret [(.int (.lit 2))])))
noncomputable def crsens : Cx := tab.only [69] (fun _ => []) [] 0 []
def trsens : Tree :=
  (.split (.cmp .ne (.var 0) (.lit 1)) (.split (.cmp .ne (.var 0) (.lit 2)) (.ret [(.int (.lit 4))]) (.split (.not (.and (.cmp .le (.lit 1) (.var 1)) (.cmp .le (.var 1) (.lit 60)))) (.ret [(.int (.lit 2))]) (.split (.not (.and (.cmp .le (.lit 0) (.var 2)) (.cmp .le (.var 2) (.lit 600)))) (.ret [(.int (.lit 2))]) (.split (.not (.and (.cmp .le (.lit 0) (.var 3)) (.cmp .le (.var 3) (.lit 15)))) (.ret [(.int (.lit 2))]) (.split (.not (.and (.cmp .le (.lit 1) (.var 4)) (.cmp .le (.var 4) (.lit 1048576)))) (.ret [(.int (.lit 2))]) (.split (.not (.and (.cmp .le (.lit 0) (.var 5)) (.cmp .le (.var 5) (.lit 5)))) (.ret [(.int (.lit 2))]) (.split (.not (.and (.cmp .le (.lit 1) (.var 6)) (.cmp .le (.var 6) (.lit 1099511627776)))) (.ret [(.int (.lit 2))]) (.split (.not (.and (.cmp .le (.lit 1) (.var 7)) (.cmp .le (.var 7) (.lit 8)))) (.ret [(.int (.lit 2))]) (.ret [(.int (.lit 0))]))))))))) (.split (.not (.and (.cmp .le (.lit 1) (.var 1)) (.cmp .le (.var 1) (.lit 60)))) (.ret [(.int (.lit 2))]) (.split (.not (.and (.cmp .le (.lit 0) (.var 2)) (.cmp .le (.var 2) (.lit 600)))) (.ret [(.int (.lit 2))]) (.split (.not (.and (.cmp .le (.lit 0) (.var 3)) (.cmp .le (.var 3) (.lit 15)))) (.ret [(.int (.lit 2))]) (.split (.not (.and (.cmp .le (.lit 1) (.var 4)) (.cmp .le (.var 4) (.lit 1048576)))) (.ret [(.int (.lit 2))]) (.split (.not (.and (.cmp .le (.lit 0) (.var 5)) (.cmp .le (.var 5) (.lit 5)))) (.ret [(.int (.lit 2))]) (.split (.not (.and (.cmp .le (.lit 1) (.var 6)) (.cmp .le (.var 6) (.lit 1099511627776)))) (.ret [(.int (.lit 2))]) (.split (.not (.and (.cmp .le (.lit 1) (.var 7)) (.cmp .le (.var 7) (.lit 8)))) (.ret [(.int (.lit 2))]) (.ret [(.int (.lit 0))])))))))))
noncomputable def csensors : Cx := tab.only [40] (fun _ => []) [] 0 []
def tsensors : Tree :=
  (.split (.cmp .eq (.len (.var 0)) (.lit 0)) (.ret [(.int (.lit 6))]) (.split (.cmp .lt (.lit 4) (.len (.var 0))) (.ret [(.int (.lit 8))]) (.loop [.int, .int] [(.int (.lit 0)), (.int (.lit 0))] (.split (.cmp .lt (.var 2) (.len (.var 0))) (.ob (.cmp .le (.lit 0) (.var 2)) (.ob (.cmp .lt (.var 2) (.len (.var 0))) (.call 40 [(.int (.cell (.var 0) (.var 2) 0)), (.int (.cell (.var 0) (.var 2) 1)), (.int (.cell (.var 0) (.var 2) 2)), (.int (.cell (.var 0) (.var 2) 3)), (.int (.cell (.var 0) (.var 2) 4)), (.int (.cell (.var 0) (.var 2) 5)), (.int (.cell (.var 0) (.var 2) 6)), (.int (.cell (.var 0) (.var 2) 7))] (.split (.cmp .ne (.var 3) (.lit 0)) (.ret [(.int (.var 3))]) (.back 0 [(.int (.var 1)), (.int (.add (.var 2) (.lit 1)))]))))) (.ret [(.int (.lit 0))])))))
noncomputable def crsensors : Cx := tab.only [41] (fun _ => []) [] 0 []
def trsensors : Tree :=
  (.split (.cmp .eq (.len (.var 0)) (.lit 0)) (.ret [(.int (.lit 6))]) (.split (.cmp .lt (.lit 4) (.len (.var 0))) (.ret [(.int (.lit 8))]) (.loop [.int, .int] [(.int (.lit 0)), (.int (.lit 0))] (.split (.cmp .lt (.var 2) (.len (.var 0))) (.ob (.cmp .le (.lit 0) (.var 2)) (.ob (.cmp .lt (.var 2) (.len (.var 0))) (.call 41 [(.int (.cell (.var 0) (.var 2) 0)), (.int (.cell (.var 0) (.var 2) 1)), (.int (.cell (.var 0) (.var 2) 2)), (.int (.cell (.var 0) (.var 2) 3)), (.int (.cell (.var 0) (.var 2) 4)), (.int (.cell (.var 0) (.var 2) 5)), (.int (.cell (.var 0) (.var 2) 6)), (.int (.cell (.var 0) (.var 2) 7))] (.split (.cmp .ne (.var 3) (.lit 0)) (.ret [(.int (.var 3))]) (.back 0 [(.int (.var 1)), (.int (.add (.var 2) (.lit 1)))]))))) (.ret [(.int (.lit 0))])))))
noncomputable def cflow1 : Cx := tab.only [] (fun _ => []) [] 0 []
def tflow1 : Tree :=
  (.split (.cmp .lt (.var 2) (.lit 0)) (.ret [(.int (.lit 0))]) (.ob (.and (.cmp .le (.lit (-9223372036854775808)) (.mul (.var 2) (.var 1))) (.cmp .le (.mul (.var 2) (.var 1)) (.lit 9223372036854775807))) (.ob (.and (.cmp .le (.lit (-9223372036854775808)) (.add (.var 0) (.mul (.var 2) (.var 1)))) (.cmp .le (.add (.var 0) (.mul (.var 2) (.var 1))) (.lit 9223372036854775807))) (.ob (.and (.cmp .le (.lit (-9223372036854775808)) (.add (.var 0) (.mul (.var 2) (.var 1)))) (.cmp .le (.add (.var 0) (.mul (.var 2) (.var 1))) (.lit 9223372036854775807))) (.ret [(.int (.add (.var 0) (.mul (.var 2) (.var 1))))])))))
noncomputable def cgain1 : Cx := tab.only [] (fun _ => []) [] 0 []
def tgain1 : Tree :=
  (.split (.cmp .lt (.var 2) (.lit 0)) (.ret [(.int (.lit 0))]) (.ob (.and (.cmp .le (.lit (-9223372036854775808)) (.mul (.var 2) (.var 0))) (.cmp .le (.mul (.var 2) (.var 0)) (.lit 9223372036854775807))) (.ob (.and (.cmp .le (.lit (-9223372036854775808)) (.mul (.var 2) (.sub (.var 2) (.lit 1)))) (.cmp .le (.mul (.var 2) (.sub (.var 2) (.lit 1))) (.lit 9223372036854775807))) (.ob (.and (.cmp .le (.lit (-9223372036854775808)) (.quo (.mul (.var 2) (.sub (.var 2) (.lit 1))) (.lit 2))) (.cmp .le (.quo (.mul (.var 2) (.sub (.var 2) (.lit 1))) (.lit 2)) (.lit 9223372036854775807))) (.ob (.and (.cmp .le (.lit (-9223372036854775808)) (.mul (.var 1) (.quo (.mul (.var 2) (.sub (.var 2) (.lit 1))) (.lit 2)))) (.cmp .le (.mul (.var 1) (.quo (.mul (.var 2) (.sub (.var 2) (.lit 1))) (.lit 2))) (.lit 9223372036854775807))) (.ob (.and (.cmp .le (.lit (-9223372036854775808)) (.add (.mul (.var 2) (.var 0)) (.mul (.var 1) (.quo (.mul (.var 2) (.sub (.var 2) (.lit 1))) (.lit 2))))) (.cmp .le (.add (.mul (.var 2) (.var 0)) (.mul (.var 1) (.quo (.mul (.var 2) (.sub (.var 2) (.lit 1))) (.lit 2)))) (.lit 9223372036854775807))) (.ob (.and (.cmp .le (.lit (-9223372036854775808)) (.add (.mul (.var 2) (.var 0)) (.mul (.var 1) (.quo (.mul (.var 2) (.sub (.var 2) (.lit 1))) (.lit 2))))) (.cmp .le (.add (.mul (.var 2) (.var 0)) (.mul (.var 1) (.quo (.mul (.var 2) (.sub (.var 2) (.lit 1))) (.lit 2)))) (.lit 9223372036854775807))) (.ret [(.int (.add (.mul (.var 2) (.var 0)) (.mul (.var 1) (.quo (.mul (.var 2) (.sub (.var 2) (.lit 1))) (.lit 2)))))]))))))))
noncomputable def cflow : Cx := tab.only [36, 67] (fun _ => []) [] 0 []
def tflow : Tree :=
  (.call 36 [(.int (.var 0)), (.int (.var 1))] (.split (.cmp .ne (.var 3) (.lit 0)) (.ret [(.int (.lit 0))]) (.split (.cmp .lt (.lit 20000) (.var 2)) (.ret [(.int (.lit 0))]) (.call 67 [(.int (.var 0)), (.int (.var 1)), (.int (.var 2))] (.ret [(.int (.var 4))])))))
noncomputable def cgain : Cx := tab.only [36, 66] (fun _ => []) [] 0 []
def tgain : Tree :=
  (.call 36 [(.int (.var 0)), (.int (.var 1))] (.split (.cmp .ne (.var 3) (.lit 0)) (.ret [(.int (.lit 0))]) (.split (.cmp .lt (.lit 20000) (.var 2)) (.ret [(.int (.lit 0))]) (.call 66 [(.int (.var 0)), (.int (.var 1)), (.int (.var 2))] (.ret [(.int (.var 4))])))))
noncomputable def crflow : Cx := tab.only [37, 69] (fun _ => []) [] 0 []
def trflow : Tree :=
  (.call 37 [(.int (.var 0)), (.int (.var 1))] (.split (.cmp .ne (.var 3) (.lit 0)) (.ret [(.int (.lit 0))]) (.split (.not (.and (.cmp .le (.lit 0) (.var 2)) (.cmp .le (.var 2) (.lit 20000)))) (.ret [(.int (.lit 0))]) (.ob (.and (.cmp .le (.lit (-9223372036854775808)) (.mul (.var 2) (.var 1))) (.cmp .le (.mul (.var 2) (.var 1)) (.lit 9223372036854775807))) (.ob (.and (.cmp .le (.lit (-9223372036854775808)) (.add (.var 0) (.mul (.var 2) (.var 1)))) (.cmp .le (.add (.var 0) (.mul (.var 2) (.var 1))) (.lit 9223372036854775807))) (.ob (.and (.cmp .le (.lit (-9223372036854775808)) (.add (.var 0) (.mul (.var 2) (.var 1)))) (.cmp .le (.add (.var 0) (.mul (.var 2) (.var 1))) (.lit 9223372036854775807))) (.ret [(.int (.add (.var 0) (.mul (.var 2) (.var 1))))])))))))
noncomputable def crgain : Cx := tab.only [37, 69] (fun _ => []) [] 0 []
def trgain : Tree :=
  (.call 37 [(.int (.var 0)), (.int (.var 1))] (.split (.cmp .ne (.var 3) (.lit 0)) (.ret [(.int (.lit 0))]) (.split (.not (.and (.cmp .le (.lit 0) (.var 2)) (.cmp .le (.var 2) (.lit 20000)))) (.ret [(.int (.lit 0))]) (.ob (.and (.cmp .le (.lit (-9223372036854775808)) (.mul (.var 2) (.var 0))) (.cmp .le (.mul (.var 2) (.var 0)) (.lit 9223372036854775807))) (.ob (.and (.cmp .le (.lit (-9223372036854775808)) (.mul (.var 1) (.quo (.mul (.var 2) (.sub (.var 2) (.lit 1))) (.lit 2)))) (.cmp .le (.mul (.var 1) (.quo (.mul (.var 2) (.sub (.var 2) (.lit 1))) (.lit 2))) (.lit 9223372036854775807))) (.ob (.and (.cmp .le (.lit (-9223372036854775808)) (.add (.mul (.var 2) (.var 0)) (.mul (.var 1) (.quo (.mul (.var 2) (.sub (.var 2) (.lit 1))) (.lit 2))))) (.cmp .le (.add (.mul (.var 2) (.var 0)) (.mul (.var 1) (.quo (.mul (.var 2) (.sub (.var 2) (.lit 1))) (.lit 2)))) (.lit 9223372036854775807))) (.ob (.and (.cmp .le (.lit (-9223372036854775808)) (.add (.mul (.var 2) (.var 0)) (.mul (.var 1) (.quo (.mul (.var 2) (.sub (.var 2) (.lit 1))) (.lit 2))))) (.cmp .le (.add (.mul (.var 2) (.var 0)) (.mul (.var 1) (.quo (.mul (.var 2) (.sub (.var 2) (.lit 1))) (.lit 2)))) (.lit 9223372036854775807))) (.ret [(.int (.add (.mul (.var 2) (.var 0)) (.mul (.var 1) (.quo (.mul (.var 2) (.sub (.var 2) (.lit 1))) (.lit 2)))))]))))))))
noncomputable def crsays : Cx := tab.only [44, 45] (fun _ => []) [] 0 []
def trsays : Tree :=
  (.split (.cmp .eq (.var 0) (.lit 1)) (.call 45 [(.int (.var 8)), (.int (.var 9)), (.int (.var 10))] (.ret [(.int (.var 11))])) (.call 44 [(.int (.var 8)), (.int (.var 9)), (.int (.var 10))] (.ret [(.int (.var 11))])))
noncomputable def crvalue : Cx := tab.only [41, 37, 69, 78] (fun _ => []) [] 0 []
def trvalue : Tree :=
  (.call 41 [(.int (.var 0)), (.int (.var 1)), (.int (.var 2)), (.int (.var 3)), (.int (.var 4)), (.int (.var 5)), (.int (.var 6)), (.int (.var 7))] (.split (.cmp .ne (.var 12) (.lit 0)) (.ret [(.int (.lit 0))]) (.call 37 [(.int (.var 8)), (.int (.var 9))] (.split (.cmp .ne (.var 13) (.lit 0)) (.ret [(.int (.lit 0))]) (.ob (.and (.cmp .le (.lit (-9223372036854775808)) (.sub (.lit 0) (.var 3))) (.cmp .le (.sub (.lit 0) (.var 3)) (.lit 9223372036854775807))) (.ob (.and (.cmp .le (.lit (-9223372036854775808)) (.sub (.lit 0) (.var 3))) (.cmp .le (.sub (.lit 0) (.var 3)) (.lit 9223372036854775807))) (.split (.not (.and (.cmp .le (.sub (.lit 0) (.var 3)) (.var 11)) (.cmp .le (.var 11) (.var 3)))) (.ret [(.int (.lit 0))]) (.split (.cmp .lt (.lit 20000) (.var 10)) (.ret [(.int (.lit 0))]) (.call 78 [(.int (.var 0)), (.int (.var 1)), (.int (.var 2)), (.int (.var 3)), (.int (.var 4)), (.int (.var 5)), (.int (.var 6)), (.int (.var 7)), (.int (.var 8)), (.int (.var 9)), (.int (.var 10))] (.ob (.and (.cmp .le (.lit (-9223372036854775808)) (.mul (.var 11) (.var 4))) (.cmp .le (.mul (.var 11) (.var 4)) (.lit 9223372036854775807))) (.ob (.and (.cmp .le (.lit (-9223372036854775808)) (.add (.var 14) (.mul (.var 11) (.var 4)))) (.cmp .le (.add (.var 14) (.mul (.var 11) (.var 4))) (.lit 9223372036854775807))) (.ob (.and (.cmp .le (.lit (-9223372036854775808)) (.add (.var 14) (.mul (.var 11) (.var 4)))) (.cmp .le (.add (.var 14) (.mul (.var 11) (.var 4))) (.lit 9223372036854775807))) (.ret [(.int (.add (.var 14) (.mul (.var 11) (.var 4))))])))))))))))))
noncomputable def cvalue : Cx := tab.only [40, 36, 68, 77, 67, 66] (fun _ => []) [] 0 []
def tvalue : Tree :=
  (.call 40 [(.int (.var 0)), (.int (.var 1)), (.int (.var 2)), (.int (.var 3)), (.int (.var 4)), (.int (.var 5)), (.int (.var 6)), (.int (.var 7))] (.split (.cmp .ne (.var 12) (.lit 0)) (.ret [(.int (.lit 0))]) (.call 36 [(.int (.var 8)), (.int (.var 9))] (.split (.cmp .ne (.var 13) (.lit 0)) (.ret [(.int (.lit 0))]) (.ob (.and (.cmp .le (.lit (-9223372036854775808)) (.sub (.lit 0) (.var 3))) (.cmp .le (.sub (.lit 0) (.var 3)) (.lit 9223372036854775807))) (.ob (.and (.cmp .le (.lit (-9223372036854775808)) (.sub (.lit 0) (.var 3))) (.cmp .le (.sub (.lit 0) (.var 3)) (.lit 9223372036854775807))) (.split (.not (.and (.cmp .le (.sub (.lit 0) (.var 3)) (.var 11)) (.cmp .le (.var 11) (.var 3)))) (.ret [(.int (.lit 0))]) (.split (.cmp .lt (.lit 20000) (.var 10)) (.ret [(.int (.lit 0))]) (.ob (.and (.cmp .le (.lit (-9223372036854775808)) (.mul (.var 11) (.var 4))) (.cmp .le (.mul (.var 11) (.var 4)) (.lit 9223372036854775807))) (.split (.cmp .eq (.var 0) (.lit 2)) (.call 67 [(.int (.var 8)), (.int (.var 9)), (.int (.var 10))] (.ob (.and (.cmp .le (.lit (-9223372036854775808)) (.add (.var 14) (.mul (.var 11) (.var 4)))) (.cmp .le (.add (.var 14) (.mul (.var 11) (.var 4))) (.lit 9223372036854775807))) (.ob (.and (.cmp .le (.lit (-9223372036854775808)) (.add (.var 14) (.mul (.var 11) (.var 4)))) (.cmp .le (.add (.var 14) (.mul (.var 11) (.var 4))) (.lit 9223372036854775807))) (.ret [(.int (.add (.var 14) (.mul (.var 11) (.var 4))))])))) (.call 66 [(.int (.var 8)), (.int (.var 9)), (.int (.var 10))] (.ob (.and (.cmp .le (.lit (-9223372036854775808)) (.add (.var 14) (.mul (.var 11) (.var 4)))) (.cmp .le (.add (.var 14) (.mul (.var 11) (.var 4))) (.lit 9223372036854775807))) (.ob (.and (.cmp .le (.lit (-9223372036854775808)) (.add (.var 14) (.mul (.var 11) (.var 4)))) (.cmp .le (.add (.var 14) (.mul (.var 11) (.var 4))) (.lit 9223372036854775807))) (.ret [(.int (.add (.var 14) (.mul (.var 11) (.var 4))))]))))))))))))))
noncomputable def cchecks : Cx := tab.only [36, 37, 38, 39, 40, 41, 42, 43, 24, 44, 23, 45, 46, 47, 19] (fun _ => []) [] 0 []
def tchecks_1 : Tree :=
  (.call 47 [(.int (.var 6)), (.int (.var 7)), (.int (.var 8)), (.int (.var 9)), (.int (.var 10)), (.int (.var 11)), (.int (.var 12)), (.int (.var 13)), (.int (.var 0)), (.int (.var 1)), (.int (.var 15)), (.int (.var 16))] (.split (.cmp .eq (.var 29) (.var 30)) (.call 19 [] (.ret [(.bool (.of (.var 31)))])) (.ret [(.bool (.lit false))])))
def tchecks_2 : Tree :=
  (.split (.cmp .eq (.var 27) (.var 28)) (.call 46 [(.int (.var 6)), (.int (.var 7)), (.int (.var 8)), (.int (.var 9)), (.int (.var 10)), (.int (.var 11)), (.int (.var 12)), (.int (.var 13)), (.int (.var 0)), (.int (.var 1)), (.int (.var 15)), (.int (.var 16))] tchecks_1) (.ret [(.bool (.lit false))]))
def tchecks_3 : Tree :=
  (.split (.cmp .eq (.var 25) (.var 26)) (.call 23 [(.int (.var 0)), (.int (.var 1)), (.int (.var 15))] (.call 45 [(.int (.var 0)), (.int (.var 1)), (.int (.var 15))] tchecks_2)) (.ret [(.bool (.lit false))]))
def tchecks_4 : Tree :=
  (.split (.cmp .ne (.var 23) (.var 24)) (.ret [(.bool (.lit false))]) (.call 24 [(.int (.var 0)), (.int (.var 1)), (.int (.var 15))] (.call 44 [(.int (.var 0)), (.int (.var 1)), (.int (.var 15))] tchecks_3)))
def tchecks_5 : Tree :=
  (.call 41 [(.int (.var 6)), (.int (.var 7)), (.int (.var 8)), (.int (.var 9)), (.int (.var 10)), (.int (.var 11)), (.int (.var 12)), (.int (.var 13))] (.split (.cmp .ne (.var 21) (.var 22)) (.ret [(.bool (.lit false))]) (.call 42 [(.arr 23 (.var 14))] (.call 43 [(.arr 23 (.var 14))] tchecks_4))))
def tchecks_6 : Tree :=
  (.split (.cmp .ne (.var 19) (.var 20)) (.ret [(.bool (.lit false))]) (.call 40 [(.int (.var 6)), (.int (.var 7)), (.int (.var 8)), (.int (.var 9)), (.int (.var 10)), (.int (.var 11)), (.int (.var 12)), (.int (.var 13))] tchecks_5))
def tchecks_7 : Tree :=
  (.split (.cmp .ne (.var 17) (.var 18)) (.ret [(.bool (.lit false))]) (.call 38 [(.int (.var 2)), (.int (.var 3)), (.int (.var 4)), (.int (.var 5))] (.call 39 [(.int (.var 2)), (.int (.var 3)), (.int (.var 4)), (.int (.var 5))] tchecks_6)))
def tchecks : Tree :=
  (.split (.cmp .lt (.lit 6) (.len (.var 14))) (.call 19 [] (.ret [(.bool (.of (.var 17)))])) (.call 36 [(.int (.var 0)), (.int (.var 1))] (.call 37 [(.int (.var 0)), (.int (.var 1))] tchecks_7)))
end Go.Proofs.Ytlbgcjpkegpmlaa
/- Kicks and sensors: what is valid, flows, gains, values. -/
namespace Go.Proofs.Ytlbgcjpkegpmlaa
open Go.RowKit
set_option linter.unusedSimpArgs false
set_option linter.unusedVariables false

theorem kickE_yes {r g : Int} (h : KOk r g) : kickE r g = 0 := by unfold kickE; rw [if_pos h]
theorem kickE_no {r g : Int} (h : ¬ KOk r g) : kickE r g = 2 := by unfold kickE; rw [if_neg h]
theorem kick_ok : tab.ok 36 := by
  refine Tab.of_ct rfl rfl ⟨_, Try.func36, by decide, rfl⟩ ?_ ctF_det
  refine ct_ok (cx := ckick) (Tab.cx_ok (all_cons within_ok all_nil)) Try.func36 (bds := []) (T := tkick) (by kernel_rfl) ?_
  unfold tkick
  simp only [VC, allC, List.map_cons, List.map_nil, List.length_cons, List.length_nil, List.getElem?_cons_zero, List.getElem?_cons_succ, List.cons.injEq, C.i.injEq, C.b.injEq, and_true, true_and, forall_const, kindsOf_nil, kindsOf_lf, kindsOf_agg, kindsOf_box, boxKinds_nil, boxKinds_lf, boxKinds_agg, boxKinds_box, List.append_nil, List.cons_append, List.nil_append, den_cmp_le, den_cmp_lt, den_cmp_eq, den_cmp_ne, den_cmp_le', den_cmp_lt', den_cmp_eq', den_cmp_ne', den_and, den_and', den_or, den_or', den_not, den_not', den_blit, den_of, ev_var, at_0, at_1, at_2, at_3, at_4, at_5, at_6, at_7, at_skip, c_int, c_bool, c_arr, c_cnt, c_vec, ev_nil, ev_join, ev_sub3, loc_s, int_i, bool_b, rows_s, cs_nil, cs_cons, E.den_lit, E.den_var, E.den_add, E.den_sub, E.den_mul, E.den_quo, E.den_rem, E.den_max, E.den_min, E.den_len, E.den_wr, E.den_cell, ctKick, ctF, kickSh]; intro r r1 r2 g g1 g2; have k0 := @kickE_yes r g; have k2 := @kickE_no r g; unfold KOk at k0 k2; refine ⟨bds_nil _, ?_⟩; omega
theorem rkick_ok : tab.ok 37 := by
  refine Tab.of_ct rfl rfl ⟨_, Try.func37, by decide, rfl⟩ ?_ ctF_det
  refine ct_ok (cx := crkick) (Tab.cx_ok (all_cons between_ok all_nil)) Try.func37 (bds := []) (T := trkick) (by kernel_rfl) ?_
  unfold trkick
  simp only [VC, allC, List.map_cons, List.map_nil, List.length_cons, List.length_nil, List.getElem?_cons_zero, List.getElem?_cons_succ, List.cons.injEq, C.i.injEq, C.b.injEq, and_true, true_and, forall_const, kindsOf_nil, kindsOf_lf, kindsOf_agg, kindsOf_box, boxKinds_nil, boxKinds_lf, boxKinds_agg, boxKinds_box, List.append_nil, List.cons_append, List.nil_append, den_cmp_le, den_cmp_lt, den_cmp_eq, den_cmp_ne, den_cmp_le', den_cmp_lt', den_cmp_eq', den_cmp_ne', den_and, den_and', den_or, den_or', den_not, den_not', den_blit, den_of, ev_var, at_0, at_1, at_2, at_3, at_4, at_5, at_6, at_7, at_skip, c_int, c_bool, c_arr, c_cnt, c_vec, ev_nil, ev_join, ev_sub3, loc_s, int_i, bool_b, rows_s, cs_nil, cs_cons, E.den_lit, E.den_var, E.den_add, E.den_sub, E.den_mul, E.den_quo, E.den_rem, E.den_max, E.den_min, E.den_len, E.den_wr, E.den_cell, ctKick, ctF, kickSh]; intro r r1 r2 g g1 g2; have k0 := @kickE_yes r g; have k2 := @kickE_no r g; unfold KOk at k0 k2; refine ⟨bds_nil _, ?_⟩; omega
theorem least_ok : tab.ok 75 := by
  refine Tab.of_ct rfl rfl ⟨_, Try.func75, by decide, rfl⟩ ?_ ctF_det
  refine ct_ok (cx := cleast) (Tab.cx_ok all_nil) Try.func75 (bds := []) (T := tleast) (by kernel_rfl) ?_
  unfold tleast
  simp only [VC, allC, List.map_cons, List.map_nil, List.length_cons, List.length_nil, List.getElem?_cons_zero, List.getElem?_cons_succ, List.cons.injEq, C.i.injEq, C.b.injEq, and_true, true_and, forall_const, kindsOf_nil, kindsOf_lf, kindsOf_agg, kindsOf_box, boxKinds_nil, boxKinds_lf, boxKinds_agg, boxKinds_box, List.append_nil, List.cons_append, List.nil_append, den_cmp_le, den_cmp_lt, den_cmp_eq, den_cmp_ne, den_cmp_le', den_cmp_lt', den_cmp_eq', den_cmp_ne', den_and, den_and', den_or, den_or', den_not, den_not', den_blit, den_of, ev_var, at_0, at_1, at_2, at_3, at_4, at_5, at_6, at_7, at_skip, c_int, c_bool, c_arr, c_cnt, c_vec, ev_nil, ev_join, ev_sub3, loc_s, int_i, bool_b, rows_s, cs_nil, cs_cons, E.den_lit, E.den_var, E.den_add, E.den_sub, E.den_mul, E.den_quo, E.den_rem, E.den_max, E.den_min, E.den_len, E.den_wr, E.den_cell, ctLeast, ctF, kicksSh, kickSh]
  repeat' (first | exact bds_nil _ | apply And.intro | intro _)
theorem rleast_ok : tab.ok 76 := by
  refine Tab.of_ct rfl rfl ⟨_, Try.func76, by decide, rfl⟩ ?_ ctF_det
  refine ct_ok (cx := crleast) (Tab.cx_ok all_nil) Try.func76 (bds := []) (T := trleast) (by kernel_rfl) ?_
  unfold trleast
  simp only [VC, allC, List.map_cons, List.map_nil, List.length_cons, List.length_nil, List.getElem?_cons_zero, List.getElem?_cons_succ, List.cons.injEq, C.i.injEq, C.b.injEq, and_true, true_and, forall_const, kindsOf_nil, kindsOf_lf, kindsOf_agg, kindsOf_box, boxKinds_nil, boxKinds_lf, boxKinds_agg, boxKinds_box, List.append_nil, List.cons_append, List.nil_append, den_cmp_le, den_cmp_lt, den_cmp_eq, den_cmp_ne, den_cmp_le', den_cmp_lt', den_cmp_eq', den_cmp_ne', den_and, den_and', den_or, den_or', den_not, den_not', den_blit, den_of, ev_var, at_0, at_1, at_2, at_3, at_4, at_5, at_6, at_7, at_skip, c_int, c_bool, c_arr, c_cnt, c_vec, ev_nil, ev_join, ev_sub3, loc_s, int_i, bool_b, rows_s, cs_nil, cs_cons, E.den_lit, E.den_var, E.den_add, E.den_sub, E.den_mul, E.den_quo, E.den_rem, E.den_max, E.den_min, E.den_len, E.den_wr, E.den_cell, ctLeast, ctF, kicksSh, kickSh]
  repeat' (first | exact bds_nil _ | apply And.intro | intro _)
theorem kickE_iff {r g : Int} : kickE r g = 0 ↔ KOk r g := by unfold kickE; split <;> simp_all
theorem kicks_ok : tab.ok 38 := by
  refine Tab.of_ct rfl rfl ⟨_, Try.func38, by decide, rfl⟩ ?_ ctF_det
  refine ct_ok (cx := ckicks) (Tab.cx_ok (all_cons least_ok (all_cons kick_ok all_nil))) Try.func38 (bds := []) (T := tkicks) (by kernel_rfl) ?_
  have h1 : ckicks.ct 75 = some ctLeast := rfl
  have h2 : ckicks.ct 36 = some ctKick := rfl
  unfold tkicks
  simp only [VC, allC, List.map_cons, List.map_nil, List.length_cons, List.length_nil, List.getElem?_cons_zero, List.getElem?_cons_succ, List.cons.injEq, C.i.injEq, C.b.injEq, and_true, true_and, forall_const, kindsOf_nil, kindsOf_lf, kindsOf_agg, kindsOf_box, boxKinds_nil, boxKinds_lf, boxKinds_agg, boxKinds_box, List.append_nil, List.cons_append, List.nil_append, den_cmp_le, den_cmp_lt, den_cmp_eq, den_cmp_ne, den_cmp_le', den_cmp_lt', den_cmp_eq', den_cmp_ne', den_and, den_and', den_or, den_or', den_not, den_not', den_blit, den_of, ev_var, at_0, at_1, at_2, at_3, at_4, at_5, at_6, at_7, at_skip, c_int, c_bool, c_arr, c_cnt, c_vec, ev_nil, ev_join, ev_sub3, loc_s, int_i, bool_b, rows_s, cs_nil, cs_cons, E.den_lit, E.den_var, E.den_add, E.den_sub, E.den_mul, E.den_quo, E.den_rem, E.den_max, E.den_min, E.den_len, E.den_wr, E.den_cell, h1, h2, ctKicks, ctLeast, ctKick, ctF, kicksSh, kickSh]
  intro a _ _ b _ _ c _ _ d _ _
  have no : ¬ (a ≤ b ∧ c ≤ d ∧ KOk a c ∧ KOk b d) → 2 = kicksE a b c d := fun h => by unfold kicksE; rw [if_neg h]
  have yes : (a ≤ b ∧ c ≤ d ∧ KOk a c ∧ KOk b d) → 0 = kicksE a b c d := fun h => by unfold kicksE; rw [if_pos h]
  have f1 := @kickE_iff a c
  have f2 := @kickE_iff b d
  refine ⟨bds_nil _, fun h => no (by omega), fun h1 => ⟨fun h => no (by omega), fun h2 => ?_⟩⟩
  rintro x _ _ y _ _ ⟨rfl, rfl⟩ e _ _ rfl
  refine ⟨fun h => no fun h' => h (f1.2 h'.2.2.1), fun h3 => ?_⟩
  rintro e _ _ rfl
  exact ⟨fun h => no fun h' => h (f2.2 h'.2.2.2), fun h4 => yes ⟨h1, h2, f1.1 h3, f2.1 h4⟩⟩
theorem sensE_kind {ch pe de no st lo li ho : Int} (h : ch ≠ 1 ∧ ch ≠ 2) : sensE ch pe de no st lo li ho = 4 := by unfold sensE; rw [if_neg (by omega)]
theorem sensE_yes {ch pe de no st lo li ho : Int} (h : ch = 1 ∨ ch = 2) (h' : SOk pe de no st lo li ho) : sensE ch pe de no st lo li ho = 0 := by unfold sensE; rw [if_pos h, if_pos h']
theorem sensE_no {ch pe de no st lo li ho : Int} (h : ch = 1 ∨ ch = 2) (h' : ¬ SOk pe de no st lo li ho) : sensE ch pe de no st lo li ho = 2 := by unfold sensE; rw [if_pos h, if_neg h']
theorem sens_ok : tab.ok 40 := by
  refine Tab.of_ct rfl rfl ⟨_, Try.func40, by decide, rfl⟩ ?_ ctF_det
  refine ct_ok (cx := csens) (Tab.cx_ok (all_cons within_ok all_nil)) Try.func40 (bds := []) (T := tsens) (by kernel_rfl) ?_
  unfold tsens
  simp only [VC, allC, List.map_cons, List.map_nil, List.length_cons, List.length_nil, List.getElem?_cons_zero, List.getElem?_cons_succ, List.cons.injEq, C.i.injEq, C.b.injEq, and_true, true_and, forall_const, kindsOf_nil, kindsOf_lf, kindsOf_agg, kindsOf_box, boxKinds_nil, boxKinds_lf, boxKinds_agg, boxKinds_box, List.append_nil, List.cons_append, List.nil_append, den_cmp_le, den_cmp_lt, den_cmp_eq, den_cmp_ne, den_cmp_le', den_cmp_lt', den_cmp_eq', den_cmp_ne', den_and, den_and', den_or, den_or', den_not, den_not', den_blit, den_of, ev_var, at_0, at_1, at_2, at_3, at_4, at_5, at_6, at_7, at_skip, c_int, c_bool, c_arr, c_cnt, c_vec, ev_nil, ev_join, ev_sub3, loc_s, int_i, bool_b, rows_s, cs_nil, cs_cons, E.den_lit, E.den_var, E.den_add, E.den_sub, E.den_mul, E.den_quo, E.den_rem, E.den_max, E.den_min, E.den_len, E.den_wr, E.den_cell, ctSens, ctF, sensSh]; intro ch _ _ pe _ _ de _ _ no _ _ st _ _ lo _ _ li _ _ ho _ _; have k4 := @sensE_kind ch pe de no st lo li ho; have k0 := @sensE_yes ch pe de no st lo li ho; have k2 := @sensE_no ch pe de no st lo li ho; unfold SOk at k0 k2; refine ⟨bds_nil _, ?_⟩
  generalize sensE ch pe de no st lo li ho = E at *
  omega
theorem rsens_ok : tab.ok 41 := by
  refine Tab.of_ct rfl rfl ⟨_, Try.func41, by decide, rfl⟩ ?_ ctF_det
  refine ct_ok (cx := crsens) (Tab.cx_ok (all_cons between_ok all_nil)) Try.func41 (bds := []) (T := trsens) (by kernel_rfl) ?_
  unfold trsens
  simp only [VC, allC, List.map_cons, List.map_nil, List.length_cons, List.length_nil, List.getElem?_cons_zero, List.getElem?_cons_succ, List.cons.injEq, C.i.injEq, C.b.injEq, and_true, true_and, forall_const, kindsOf_nil, kindsOf_lf, kindsOf_agg, kindsOf_box, boxKinds_nil, boxKinds_lf, boxKinds_agg, boxKinds_box, List.append_nil, List.cons_append, List.nil_append, den_cmp_le, den_cmp_lt, den_cmp_eq, den_cmp_ne, den_cmp_le', den_cmp_lt', den_cmp_eq', den_cmp_ne', den_and, den_and', den_or, den_or', den_not, den_not', den_blit, den_of, ev_var, at_0, at_1, at_2, at_3, at_4, at_5, at_6, at_7, at_skip, c_int, c_bool, c_arr, c_cnt, c_vec, ev_nil, ev_join, ev_sub3, loc_s, int_i, bool_b, rows_s, cs_nil, cs_cons, E.den_lit, E.den_var, E.den_add, E.den_sub, E.den_mul, E.den_quo, E.den_rem, E.den_max, E.den_min, E.den_len, E.den_wr, E.den_cell, ctSens, ctF, sensSh]; intro ch _ _ pe _ _ de _ _ no _ _ st _ _ lo _ _ li _ _ ho _ _; have k4 := @sensE_kind ch pe de no st lo li ho; have k0 := @sensE_yes ch pe de no st lo li ho; have k2 := @sensE_no ch pe de no st lo li ho; unfold SOk at k0 k2; refine ⟨bds_nil _, ?_⟩
  generalize sensE ch pe de no st lo li ho = E at *
  omega
theorem firstE_drop {rows : List (List C)} {k : Nat} (h : k < rows.length) : firstE (rows.drop k) = if sensRow (rows.getD k []) = 0 then firstE (rows.drop (k + 1)) else sensRow (rows.getD k []) := by
  rw [List.drop_eq_getElem_cons h, firstE, List.getD_eq_getElem?_getD, List.getElem?_eq_getElem h]
  rfl
theorem sensorsE_short {rows : List (List C)} (h : (rows.length : Int) = 0) : 6 = sensorsE rows := by unfold sensorsE; rw [if_pos (by omega)]
theorem sensorsE_full {rows : List (List C)} (h : 4 < (rows.length : Int)) : 8 = sensorsE rows := by unfold sensorsE; rw [if_neg (by omega), if_pos (by omega)]
theorem sensorsE_first {rows : List (List C)} (h : (rows.length : Int) ≠ 0) (h' : (rows.length : Int) ≤ 4) : sensorsE rows = firstE rows := by unfold sensorsE; rw [if_neg (by omega), if_neg (by omega)]
theorem sensors_ok : tab.ok 42 := by
  refine Tab.of_ct rfl rfl ⟨_, Try.func42, by decide, rfl⟩ ?_ ctF_det
  refine ct_ok (cx := csensors) (Tab.cx_ok (all_cons sens_ok all_nil)) Try.func42 (bds := []) (T := tsensors) (by kernel_rfl) ?_
  have h1 : csensors.ct 40 = some ctSens := rfl
  unfold tsensors
  simp only [VC, allC, List.map_cons, List.map_nil, List.length_cons, List.length_nil, List.getElem?_cons_zero, List.getElem?_cons_succ, List.cons.injEq, C.i.injEq, C.b.injEq, and_true, true_and, forall_const, kindsOf_nil, kindsOf_lf, kindsOf_agg, kindsOf_box, boxKinds_nil, boxKinds_lf, boxKinds_agg, boxKinds_box, List.append_nil, List.cons_append, List.nil_append, den_cmp_le, den_cmp_lt, den_cmp_eq, den_cmp_ne, den_cmp_le', den_cmp_lt', den_cmp_eq', den_cmp_ne', den_and, den_and', den_or, den_or', den_not, den_not', den_blit, den_of, ev_var, at_0, at_1, at_2, at_3, at_4, at_5, at_6, at_7, at_skip, c_int, c_bool, c_arr, c_cnt, c_vec, ev_nil, ev_join, ev_sub3, loc_s, int_i, bool_b, rows_s, cs_nil, cs_cons, E.den_lit, E.den_var, E.den_add, E.den_sub, E.den_mul, E.den_quo, E.den_rem, E.den_max, E.den_min, E.den_len, E.den_wr, E.den_cell, h1, ctSensors, ctSens, ctF, sensSh]
  intro v rows d _ _
  refine ⟨bds_nil _, sensorsE_short, fun z1 => ⟨sensorsE_full, fun z2 => ?_⟩⟩; rw [sensorsE_first z1 z2]; refine ⟨fun xs => match xs with | [_, .i i] => 0 ≤ i ∧ i ≤ rows.length ∧ firstE rows = firstE (rows.drop i.toNat) | _ => False, fun xs => match xs with | [_, .i i] => ((rows.length : Int) - i).toNat | _ => 0, ⟨by omega, by omega, rfl⟩, ?_⟩; rintro x _ _ i _ _ ⟨i0, i1, hi⟩; refine ⟨fun hl => ⟨i0, hl, ?_⟩, fun hl => ?_⟩
  · rintro e _ _ he; have he' : e = sensRow (rows.getD i.toNat []) := he; have hd := firstE_drop (rows := rows) (k := i.toNat) (by omega); rw [← he'] at hd; refine ⟨fun h => (by rw [hi, hd, if_neg h]), fun h => ⟨⟨by omega, by omega, ?_⟩, (show ((rows.length : Int) - (i + 1)).toNat < ((rows.length : Int) - i).toNat from (by omega))⟩⟩; rw [hi, hd, if_pos h, show (i + 1).toNat = i.toNat + 1 by omega]
  · have e : i.toNat = rows.length := (by omega); rw [hi, e, List.drop_length]; rfl
theorem rsensors_ok : tab.ok 43 := by
  refine Tab.of_ct rfl rfl ⟨_, Try.func43, by decide, rfl⟩ ?_ ctF_det
  refine ct_ok (cx := crsensors) (Tab.cx_ok (all_cons rsens_ok all_nil)) Try.func43 (bds := []) (T := trsensors) (by kernel_rfl) ?_
  have h1 : crsensors.ct 41 = some ctSens := rfl
  unfold trsensors
  simp only [VC, allC, List.map_cons, List.map_nil, List.length_cons, List.length_nil, List.getElem?_cons_zero, List.getElem?_cons_succ, List.cons.injEq, C.i.injEq, C.b.injEq, and_true, true_and, forall_const, kindsOf_nil, kindsOf_lf, kindsOf_agg, kindsOf_box, boxKinds_nil, boxKinds_lf, boxKinds_agg, boxKinds_box, List.append_nil, List.cons_append, List.nil_append, den_cmp_le, den_cmp_lt, den_cmp_eq, den_cmp_ne, den_cmp_le', den_cmp_lt', den_cmp_eq', den_cmp_ne', den_and, den_and', den_or, den_or', den_not, den_not', den_blit, den_of, ev_var, at_0, at_1, at_2, at_3, at_4, at_5, at_6, at_7, at_skip, c_int, c_bool, c_arr, c_cnt, c_vec, ev_nil, ev_join, ev_sub3, loc_s, int_i, bool_b, rows_s, cs_nil, cs_cons, E.den_lit, E.den_var, E.den_add, E.den_sub, E.den_mul, E.den_quo, E.den_rem, E.den_max, E.den_min, E.den_len, E.den_wr, E.den_cell, h1, ctSensors, ctSens, ctF, sensSh]
  intro v rows d _ _
  refine ⟨bds_nil _, sensorsE_short, fun z1 => ⟨sensorsE_full, fun z2 => ?_⟩⟩; rw [sensorsE_first z1 z2]; refine ⟨fun xs => match xs with | [_, .i i] => 0 ≤ i ∧ i ≤ rows.length ∧ firstE rows = firstE (rows.drop i.toNat) | _ => False, fun xs => match xs with | [_, .i i] => ((rows.length : Int) - i).toNat | _ => 0, ⟨by omega, by omega, rfl⟩, ?_⟩; rintro x _ _ i _ _ ⟨i0, i1, hi⟩; refine ⟨fun hl => ⟨i0, hl, ?_⟩, fun hl => ?_⟩
  · rintro e _ _ he; have he' : e = sensRow (rows.getD i.toNat []) := he; have hd := firstE_drop (rows := rows) (k := i.toNat) (by omega); rw [← he'] at hd; refine ⟨fun h => (by rw [hi, hd, if_neg h]), fun h => ⟨⟨by omega, by omega, ?_⟩, (show ((rows.length : Int) - (i + 1)).toNat < ((rows.length : Int) - i).toNat from (by omega))⟩⟩; rw [hi, hd, if_pos h, show (i + 1).toNat = i.toNat + 1 by omega]
  · have e : i.toNat = rows.length := (by omega); rw [hi, e, List.drop_length]; rfl
theorem rkicks_ok : tab.ok 39 := by
  refine Tab.of_ct rfl rfl ⟨_, Try.func39, by decide, rfl⟩ ?_ ctF_det
  refine ct_ok (cx := crkicks) (Tab.cx_ok (all_cons rleast_ok (all_cons rkick_ok all_nil))) Try.func39 (bds := []) (T := trkicks) (by kernel_rfl) ?_
  have h1 : crkicks.ct 76 = some ctLeast := rfl
  have h2 : crkicks.ct 37 = some ctKick := rfl
  unfold trkicks
  simp only [VC, allC, List.map_cons, List.map_nil, List.length_cons, List.length_nil, List.getElem?_cons_zero, List.getElem?_cons_succ, List.cons.injEq, C.i.injEq, C.b.injEq, and_true, true_and, forall_const, kindsOf_nil, kindsOf_lf, kindsOf_agg, kindsOf_box, boxKinds_nil, boxKinds_lf, boxKinds_agg, boxKinds_box, List.append_nil, List.cons_append, List.nil_append, den_cmp_le, den_cmp_lt, den_cmp_eq, den_cmp_ne, den_cmp_le', den_cmp_lt', den_cmp_eq', den_cmp_ne', den_and, den_and', den_or, den_or', den_not, den_not', den_blit, den_of, ev_var, at_0, at_1, at_2, at_3, at_4, at_5, at_6, at_7, at_skip, c_int, c_bool, c_arr, c_cnt, c_vec, ev_nil, ev_join, ev_sub3, loc_s, int_i, bool_b, rows_s, cs_nil, cs_cons, E.den_lit, E.den_var, E.den_add, E.den_sub, E.den_mul, E.den_quo, E.den_rem, E.den_max, E.den_min, E.den_len, E.den_wr, E.den_cell, h1, h2, ctKicks, ctLeast, ctKick, ctF, kicksSh, kickSh]
  intro a _ _ b _ _ c _ _ d _ _
  have no : ¬ (a ≤ b ∧ c ≤ d ∧ KOk a c ∧ KOk b d) → 2 = kicksE a b c d := fun h => by unfold kicksE; rw [if_neg h]
  have yes : (a ≤ b ∧ c ≤ d ∧ KOk a c ∧ KOk b d) → 0 = kicksE a b c d := fun h => by unfold kicksE; rw [if_pos h]
  have f1 := @kickE_iff a c
  have f2 := @kickE_iff b d
  refine ⟨bds_nil _, fun h => no (by omega), fun h1 => ⟨fun h => no (by omega), fun h2 => ?_⟩⟩
  rintro x _ _ y _ _ ⟨rfl, rfl⟩ e _ _ rfl
  refine ⟨fun h => no fun h' => h (f1.2 h'.2.2.1), fun h3 => ?_⟩
  rintro e _ _ rfl
  exact ⟨fun h => no fun h' => h (f2.2 h'.2.2.2), fun h4 => yes ⟨h1, h2, f1.1 h3, f2.1 h4⟩⟩
theorem gain_facts {r g n : Int} (hk : KOk r g) (h0 : 0 ≤ n) (h1 : n ≤ 20000) : (0 ≤ n * r ∧ n * r ≤ 20000 * 16777216) ∧ (0 ≤ n * (n - 1) ∧ n * (n - 1) ≤ 400000000) ∧ (n * (n - 1)).tdiv 2 = n * (n - 1) / 2 ∧ (0 ≤ n * (n - 1) / 2 ∧ n * (n - 1) / 2 ≤ 200000000) ∧ (0 ≤ g * (n * (n - 1) / 2) ∧ g * (n * (n - 1) / 2) ≤ 4096 * 200000000) := by
  unfold KOk at hk
  have m1 := mul_bd (a := n) (b := r) (A := 20000) (B := 16777216) (by omega) (by omega) (by omega) (by omega)
  have m2 : 0 ≤ n * (n - 1) ∧ n * (n - 1) ≤ 400000000 := by
    rcases Int.lt_or_le n 1 with h | h
    · have e : n = 0 := by omega
      subst e; omega
    · have := mul_bd (a := n) (b := n - 1) (A := 20000) (B := 20000) (by omega) (by omega) (by omega) (by omega)
      omega
  have m3 : (n * (n - 1)).tdiv 2 = n * (n - 1) / 2 := Int.tdiv_eq_ediv_of_nonneg m2.1
  have m4 : 0 ≤ n * (n - 1) / 2 ∧ n * (n - 1) / 2 ≤ 200000000 := by omega
  have m5 := mul_bd (a := g) (b := n * (n - 1) / 2) (A := 4096) (B := 200000000) (by omega) (by omega) (by omega) (by omega)
  exact ⟨m1, m2, m3, m4, m5⟩
theorem flow1_ok : tab.ok 67 := by
  refine Tab.of_ct rfl rfl ⟨_, Try.func67, by decide, rfl⟩ ?_ ctF_det
  refine ct_ok (cx := cflow1) (Tab.cx_ok all_nil) Try.func67 (bds := []) (T := tflow1) (by kernel_rfl) ?_
  unfold tflow1
  simp only [VC, allC, List.map_cons, List.map_nil, List.length_cons, List.length_nil, List.getElem?_cons_zero, List.getElem?_cons_succ, List.cons.injEq, C.i.injEq, C.b.injEq, and_true, true_and, forall_const, kindsOf_nil, kindsOf_lf, kindsOf_agg, kindsOf_box, boxKinds_nil, boxKinds_lf, boxKinds_agg, boxKinds_box, List.append_nil, List.cons_append, List.nil_append, den_cmp_le, den_cmp_lt, den_cmp_eq, den_cmp_ne, den_cmp_le', den_cmp_lt', den_cmp_eq', den_cmp_ne', den_and, den_and', den_or, den_or', den_not, den_not', den_blit, den_of, ev_var, at_0, at_1, at_2, at_3, at_4, at_5, at_6, at_7, at_skip, c_int, c_bool, c_arr, c_cnt, c_vec, ev_nil, ev_join, ev_sub3, loc_s, int_i, bool_b, rows_s, cs_nil, cs_cons, E.den_lit, E.den_var, E.den_add, E.den_sub, E.den_mul, E.den_quo, E.den_rem, E.den_max, E.den_min, E.den_len, E.den_wr, E.den_cell, ctFlow1, ctF, kickSh]
  rintro r _ _ g _ _ n _ _ ⟨hk, hn⟩
  have hk' := hk
  unfold KOk at hk'
  refine ⟨bds_nil _, fun h => ?_, fun h => ?_⟩
  · unfold flowV; rw [if_neg (by omega)]
  · have m := mul_bd (a := n) (b := g) (A := 20000) (B := 4096) (by omega) (by omega) (by omega) (by omega)
    repeat (refine And.intro (by omega) ?_)
    unfold flowV; rw [if_pos ⟨hk, by omega, by omega⟩]
theorem gain1_ok : tab.ok 66 := by
  refine Tab.of_ct rfl rfl ⟨_, Try.func66, by decide, rfl⟩ ?_ ctF_det
  refine ct_ok (cx := cgain1) (Tab.cx_ok all_nil) Try.func66 (bds := []) (T := tgain1) (by kernel_rfl) ?_
  unfold tgain1
  simp only [VC, allC, List.map_cons, List.map_nil, List.length_cons, List.length_nil, List.getElem?_cons_zero, List.getElem?_cons_succ, List.cons.injEq, C.i.injEq, C.b.injEq, and_true, true_and, forall_const, kindsOf_nil, kindsOf_lf, kindsOf_agg, kindsOf_box, boxKinds_nil, boxKinds_lf, boxKinds_agg, boxKinds_box, List.append_nil, List.cons_append, List.nil_append, den_cmp_le, den_cmp_lt, den_cmp_eq, den_cmp_ne, den_cmp_le', den_cmp_lt', den_cmp_eq', den_cmp_ne', den_and, den_and', den_or, den_or', den_not, den_not', den_blit, den_of, ev_var, at_0, at_1, at_2, at_3, at_4, at_5, at_6, at_7, at_skip, c_int, c_bool, c_arr, c_cnt, c_vec, ev_nil, ev_join, ev_sub3, loc_s, int_i, bool_b, rows_s, cs_nil, cs_cons, E.den_lit, E.den_var, E.den_add, E.den_sub, E.den_mul, E.den_quo, E.den_rem, E.den_max, E.den_min, E.den_len, E.den_wr, E.den_cell, ctGain1, ctF, kickSh]
  rintro r _ _ g _ _ n _ _ ⟨hk, hn⟩
  have hk' := hk
  unfold KOk at hk'
  refine ⟨bds_nil _, fun h => ?_, fun h => ?_⟩
  · unfold gainV; rw [if_neg (by omega)]
  · obtain ⟨m1, m2, m3, m4, m5⟩ := gain_facts hk (n := n) (by omega) (by omega)
    rw [m3]
    repeat (refine And.intro (by omega) ?_)
    unfold gainV; rw [if_pos ⟨hk, by omega, by omega⟩]
theorem flow_ok : tab.ok 24 := by
  refine Tab.of_ct rfl rfl ⟨_, Try.func24, by decide, rfl⟩ ?_ ctF_det
  refine ct_ok (cx := cflow) (Tab.cx_ok (all_cons kick_ok (all_cons flow1_ok all_nil))) Try.func24 (bds := []) (T := tflow) (by kernel_rfl) ?_
  have h1 : cflow.ct 36 = some ctKick := rfl
  have h2 : cflow.ct 67 = some ctFlow1 := rfl
  unfold tflow
  simp only [VC, allC, List.map_cons, List.map_nil, List.length_cons, List.length_nil, List.getElem?_cons_zero, List.getElem?_cons_succ, List.cons.injEq, C.i.injEq, C.b.injEq, and_true, true_and, forall_const, kindsOf_nil, kindsOf_lf, kindsOf_agg, kindsOf_box, boxKinds_nil, boxKinds_lf, boxKinds_agg, boxKinds_box, List.append_nil, List.cons_append, List.nil_append, den_cmp_le, den_cmp_lt, den_cmp_eq, den_cmp_ne, den_cmp_le', den_cmp_lt', den_cmp_eq', den_cmp_ne', den_and, den_and', den_or, den_or', den_not, den_not', den_blit, den_of, ev_var, at_0, at_1, at_2, at_3, at_4, at_5, at_6, at_7, at_skip, c_int, c_bool, c_arr, c_cnt, c_vec, ev_nil, ev_join, ev_sub3, loc_s, int_i, bool_b, rows_s, cs_nil, cs_cons, E.den_lit, E.den_var, E.den_add, E.den_sub, E.den_mul, E.den_quo, E.den_rem, E.den_max, E.den_min, E.den_len, E.den_wr, E.den_cell, h1, h2, ctFlow, ctFlow1, ctKick, ctF, kickSh]
  intro r _ _ g _ _ n _ _
  refine ⟨bds_nil _, ?_⟩
  rintro e _ _ rfl
  refine ⟨fun h => (by unfold flowV; rw [if_neg fun h' => h (kickE_iff.2 h'.1)]), fun h => ⟨fun h' => (by unfold flowV; rw [if_neg (by omega)]), fun h' => ⟨⟨kickE_iff.1 h, by omega⟩, ?_⟩⟩⟩
  rintro x _ _ rfl
  rfl
theorem gain_ok : tab.ok 23 := by
  refine Tab.of_ct rfl rfl ⟨_, Try.func23, by decide, rfl⟩ ?_ ctF_det
  refine ct_ok (cx := cgain) (Tab.cx_ok (all_cons kick_ok (all_cons gain1_ok all_nil))) Try.func23 (bds := []) (T := tgain) (by kernel_rfl) ?_
  have h1 : cgain.ct 36 = some ctKick := rfl
  have h2 : cgain.ct 66 = some ctGain1 := rfl
  unfold tgain
  simp only [VC, allC, List.map_cons, List.map_nil, List.length_cons, List.length_nil, List.getElem?_cons_zero, List.getElem?_cons_succ, List.cons.injEq, C.i.injEq, C.b.injEq, and_true, true_and, forall_const, kindsOf_nil, kindsOf_lf, kindsOf_agg, kindsOf_box, boxKinds_nil, boxKinds_lf, boxKinds_agg, boxKinds_box, List.append_nil, List.cons_append, List.nil_append, den_cmp_le, den_cmp_lt, den_cmp_eq, den_cmp_ne, den_cmp_le', den_cmp_lt', den_cmp_eq', den_cmp_ne', den_and, den_and', den_or, den_or', den_not, den_not', den_blit, den_of, ev_var, at_0, at_1, at_2, at_3, at_4, at_5, at_6, at_7, at_skip, c_int, c_bool, c_arr, c_cnt, c_vec, ev_nil, ev_join, ev_sub3, loc_s, int_i, bool_b, rows_s, cs_nil, cs_cons, E.den_lit, E.den_var, E.den_add, E.den_sub, E.den_mul, E.den_quo, E.den_rem, E.den_max, E.den_min, E.den_len, E.den_wr, E.den_cell, h1, h2, ctGain, ctGain1, ctKick, ctF, kickSh]
  intro r _ _ g _ _ n _ _
  refine ⟨bds_nil _, ?_⟩
  rintro e _ _ rfl
  refine ⟨fun h => (by unfold gainV; rw [if_neg fun h' => h (kickE_iff.2 h'.1)]), fun h => ⟨fun h' => (by unfold gainV; rw [if_neg (by omega)]), fun h' => ⟨⟨kickE_iff.1 h, by omega⟩, ?_⟩⟩⟩
  rintro x _ _ rfl
  rfl
theorem rflow_ok : tab.ok 44 := by
  refine Tab.of_ct rfl rfl ⟨_, Try.func44, by decide, rfl⟩ ?_ ctF_det
  refine ct_ok (cx := crflow) (Tab.cx_ok (all_cons rkick_ok (all_cons between_ok all_nil))) Try.func44 (bds := []) (T := trflow) (by kernel_rfl) ?_
  have h1 : crflow.ct 37 = some ctKick := rfl
  unfold trflow
  simp only [VC, allC, List.map_cons, List.map_nil, List.length_cons, List.length_nil, List.getElem?_cons_zero, List.getElem?_cons_succ, List.cons.injEq, C.i.injEq, C.b.injEq, and_true, true_and, forall_const, kindsOf_nil, kindsOf_lf, kindsOf_agg, kindsOf_box, boxKinds_nil, boxKinds_lf, boxKinds_agg, boxKinds_box, List.append_nil, List.cons_append, List.nil_append, den_cmp_le, den_cmp_lt, den_cmp_eq, den_cmp_ne, den_cmp_le', den_cmp_lt', den_cmp_eq', den_cmp_ne', den_and, den_and', den_or, den_or', den_not, den_not', den_blit, den_of, ev_var, at_0, at_1, at_2, at_3, at_4, at_5, at_6, at_7, at_skip, c_int, c_bool, c_arr, c_cnt, c_vec, ev_nil, ev_join, ev_sub3, loc_s, int_i, bool_b, rows_s, cs_nil, cs_cons, E.den_lit, E.den_var, E.den_add, E.den_sub, E.den_mul, E.den_quo, E.den_rem, E.den_max, E.den_min, E.den_len, E.den_wr, E.den_cell, h1, ctFlow, ctKick, ctF, kickSh]
  intro r _ _ g _ _ n _ _
  refine ⟨bds_nil _, ?_⟩
  rintro e _ _ rfl
  refine ⟨fun h => (by unfold flowV; rw [if_neg fun h' => h (kickE_iff.2 h'.1)]), fun h => ⟨fun h' => (by unfold flowV; rw [if_neg (by omega)]), fun h' => ?_⟩⟩
  have hk := kickE_iff.1 h
  have hk' := hk
  unfold KOk at hk'
  have m := mul_bd (a := n) (b := g) (A := 20000) (B := 4096) (by omega) (by omega) (by omega) (by omega)
  repeat (refine And.intro (by omega) ?_)
  unfold flowV; rw [if_pos ⟨hk, by omega, by omega⟩]
theorem rgain_ok : tab.ok 45 := by
  refine Tab.of_ct rfl rfl ⟨_, Try.func45, by decide, rfl⟩ ?_ ctF_det
  refine ct_ok (cx := crgain) (Tab.cx_ok (all_cons rkick_ok (all_cons between_ok all_nil))) Try.func45 (bds := []) (T := trgain) (by kernel_rfl) ?_
  have h1 : crgain.ct 37 = some ctKick := rfl
  unfold trgain
  simp only [VC, allC, List.map_cons, List.map_nil, List.length_cons, List.length_nil, List.getElem?_cons_zero, List.getElem?_cons_succ, List.cons.injEq, C.i.injEq, C.b.injEq, and_true, true_and, forall_const, kindsOf_nil, kindsOf_lf, kindsOf_agg, kindsOf_box, boxKinds_nil, boxKinds_lf, boxKinds_agg, boxKinds_box, List.append_nil, List.cons_append, List.nil_append, den_cmp_le, den_cmp_lt, den_cmp_eq, den_cmp_ne, den_cmp_le', den_cmp_lt', den_cmp_eq', den_cmp_ne', den_and, den_and', den_or, den_or', den_not, den_not', den_blit, den_of, ev_var, at_0, at_1, at_2, at_3, at_4, at_5, at_6, at_7, at_skip, c_int, c_bool, c_arr, c_cnt, c_vec, ev_nil, ev_join, ev_sub3, loc_s, int_i, bool_b, rows_s, cs_nil, cs_cons, E.den_lit, E.den_var, E.den_add, E.den_sub, E.den_mul, E.den_quo, E.den_rem, E.den_max, E.den_min, E.den_len, E.den_wr, E.den_cell, h1, ctGain, ctKick, ctF, kickSh]
  intro r _ _ g _ _ n _ _
  refine ⟨bds_nil _, ?_⟩
  rintro e _ _ rfl
  refine ⟨fun h => (by unfold gainV; rw [if_neg fun h' => h (kickE_iff.2 h'.1)]), fun h => ⟨fun h' => (by unfold gainV; rw [if_neg (by omega)]), fun h' => ?_⟩⟩
  have hk := kickE_iff.1 h
  obtain ⟨m1, m2, m3, m4, m5⟩ := gain_facts hk (n := n) (by omega) (by omega)
  rw [m3]
  repeat (refine And.intro (by omega) ?_)
  unfold gainV; rw [if_pos ⟨hk, by omega, by omega⟩]
theorem rsays_ok : tab.ok 78 := by
  refine Tab.of_ct rfl rfl ⟨_, Try.func78, by decide, rfl⟩ ?_ ctF_det
  refine ct_ok (cx := crsays) (Tab.cx_ok (all_cons rflow_ok (all_cons rgain_ok all_nil))) Try.func78 (bds := []) (T := trsays) (by kernel_rfl) ?_
  have h1 : crsays.ct 44 = some ctFlow := rfl
  have h2 : crsays.ct 45 = some ctGain := rfl
  unfold trsays
  simp only [VC, allC, List.map_cons, List.map_nil, List.length_cons, List.length_nil, List.getElem?_cons_zero, List.getElem?_cons_succ, List.cons.injEq, C.i.injEq, C.b.injEq, and_true, true_and, forall_const, kindsOf_nil, kindsOf_lf, kindsOf_agg, kindsOf_box, boxKinds_nil, boxKinds_lf, boxKinds_agg, boxKinds_box, List.append_nil, List.cons_append, List.nil_append, den_cmp_le, den_cmp_lt, den_cmp_eq, den_cmp_ne, den_cmp_le', den_cmp_lt', den_cmp_eq', den_cmp_ne', den_and, den_and', den_or, den_or', den_not, den_not', den_blit, den_of, ev_var, at_0, at_1, at_2, at_3, at_4, at_5, at_6, at_7, at_skip, c_int, c_bool, c_arr, c_cnt, c_vec, ev_nil, ev_join, ev_sub3, loc_s, int_i, bool_b, rows_s, cs_nil, cs_cons, E.den_lit, E.den_var, E.den_add, E.den_sub, E.den_mul, E.den_quo, E.den_rem, E.den_max, E.den_min, E.den_len, E.den_wr, E.den_cell, h1, h2, ctSays, ctFlow, ctGain, ctF, kickSh, sensSh]
  intro ch _ _ pe _ _ de _ _ no _ _ st _ _ lo _ _ li _ _ ho _ _ r _ _ g _ _ n _ _
  refine ⟨bds_nil _, fun h => ?_, fun h => ?_⟩
  · rintro x _ _ rfl; unfold saysV; rw [if_pos h]
  · rintro x _ _ rfl; unfold saysV; rw [if_neg h]
theorem mul_abs {a b A B : Int} (h1 : -A ≤ a) (h2 : a ≤ A) (h3 : 0 ≤ b) (h4 : b ≤ B) : -(A * B) ≤ a * b ∧ a * b ≤ A * B := by
  have h5 : A * b ≤ A * B := Int.mul_le_mul_of_nonneg_left h4 (by omega)
  have h6 : a * b ≤ A * b := Int.mul_le_mul_of_nonneg_right h2 h3
  have h7 : -A * b ≤ a * b := Int.mul_le_mul_of_nonneg_right h1 h3
  rw [Int.neg_mul] at h7
  omega
theorem sensE_iff {ch pe de no st lo li ho : Int} : sensE ch pe de no st lo li ho = 0 ↔ (ch = 1 ∨ ch = 2) ∧ SOk pe de no st lo li ho := by
  unfold sensE
  split
  · split <;> simp_all
  · simp_all
theorem saysV_bd {ch r g n : Int} : 0 ≤ saysV ch r g n ∧ saysV ch r g n ≤ 1154744320000 := by
  unfold saysV
  split
  · unfold gainV
    split
    · rename_i h
      obtain ⟨m1, m2, m3, m4, m5⟩ := gain_facts h.1 h.2.1 h.2.2
      omega
    · omega
  · unfold flowV
    split
    · rename_i h
      obtain ⟨hk, h0, h1⟩ := h
      unfold KOk at hk
      have m := mul_bd (a := n) (b := g) (A := 20000) (B := 4096) (by omega) (by omega) (by omega) (by omega)
      omega
    · omega
theorem valueV_no {ch pe de no st lo li ho r g n e : Int} (h : ¬ (sensE ch pe de no st lo li ho = 0 ∧ KOk r g ∧ -no ≤ e ∧ e ≤ no ∧ n ≤ 20000)) : 0 = valueV ch pe de no st lo li ho r g n e := by unfold valueV; rw [if_neg h]
theorem valueV_yes {ch pe de no st lo li ho r g n e : Int} (h1 : sensE ch pe de no st lo li ho = 0) (h2 : KOk r g) (h3 : -no ≤ e) (h4 : e ≤ no) (h5 : n ≤ 20000) : saysV ch r g n + e * st = valueV ch pe de no st lo li ho r g n e := by unfold valueV; rw [if_pos ⟨h1, h2, h3, h4, h5⟩]
theorem rvalue_ok : tab.ok 47 := by
  refine Tab.of_ct rfl rfl ⟨_, Try.func47, by decide, rfl⟩ ?_ ctF_det
  refine ct_ok (cx := crvalue) (Tab.cx_ok (all_cons rsens_ok (all_cons rkick_ok (all_cons between_ok (all_cons rsays_ok all_nil))))) Try.func47 (bds := []) (T := trvalue) (by kernel_rfl) ?_
  have h1 : crvalue.ct 41 = some ctSens := rfl
  have h2 : crvalue.ct 37 = some ctKick := rfl
  have h3 : crvalue.ct 78 = some ctSays := rfl
  unfold trvalue
  simp only [VC, allC, List.map_cons, List.map_nil, List.length_cons, List.length_nil, List.getElem?_cons_zero, List.getElem?_cons_succ, List.cons.injEq, C.i.injEq, C.b.injEq, and_true, true_and, forall_const, kindsOf_nil, kindsOf_lf, kindsOf_agg, kindsOf_box, boxKinds_nil, boxKinds_lf, boxKinds_agg, boxKinds_box, List.append_nil, List.cons_append, List.nil_append, den_cmp_le, den_cmp_lt, den_cmp_eq, den_cmp_ne, den_cmp_le', den_cmp_lt', den_cmp_eq', den_cmp_ne', den_and, den_and', den_or, den_or', den_not, den_not', den_blit, den_of, ev_var, at_0, at_1, at_2, at_3, at_4, at_5, at_6, at_7, at_skip, c_int, c_bool, c_arr, c_cnt, c_vec, ev_nil, ev_join, ev_sub3, loc_s, int_i, bool_b, rows_s, cs_nil, cs_cons, E.den_lit, E.den_var, E.den_add, E.den_sub, E.den_mul, E.den_quo, E.den_rem, E.den_max, E.den_min, E.den_len, E.den_wr, E.den_cell, h1, h2, h3, ctValue, ctSens, ctKick, ctSays, ctF, kickSh, sensSh]
  intro ch _ _ pe _ _ de _ _ no _ _ st _ _ lo _ _ li _ _ ho _ _ r _ _ g _ _ n _ _ e _ _
  refine ⟨bds_nil _, ?_⟩
  rintro x _ _ hx
  subst hx
  refine ⟨fun h => valueV_no fun h' => h h'.1, fun hs => ?_⟩
  obtain ⟨-, hso⟩ := sensE_iff.1 hs
  unfold SOk at hso
  rintro x _ _ rfl
  refine ⟨fun h => valueV_no fun h' => h (kickE_iff.2 h'.2.1), fun hk => ?_⟩
  refine ⟨by omega, by omega, fun h => valueV_no (by omega), fun h => ⟨fun h' => valueV_no (by omega), fun h' => ?_⟩⟩
  rintro x _ _ rfl
  have b := @saysV_bd ch r g n
  have m := mul_abs (a := e) (b := st) (A := 15) (B := 1048576) (by omega) (by omega) (by omega) (by omega)
  exact ⟨by omega, by omega, by omega, valueV_yes hs (kickE_iff.1 hk) (by omega) (by omega) h'⟩
end Go.Proofs.Ytlbgcjpkegpmlaa
/- What a sensor's channel says: a function, flow or gain with the kick bound. By the kit's walk; then the value of a sample, by the engine. -/
namespace Go.Proofs.Ytlbgcjpkegpmlaa
open Go.RowKit
set_option linter.unusedSimpArgs false
set_option linter.unusedVariables false

theorem says_two (ch pe de no st lo li ho r g : Int) (w : World) (h : ch = 2) :
    Calls Try.prog 77 #[.agg #[.int .i64 ch, .int .i64 pe, .int .i64 de, .int .i64 no, .int .i64 st, .int .i64 lo, .int .i64 li, .int .i64 ho], .agg #[.int .i64 r, .int .i64 g]] w
      fun e w' => e = .returned (.func (Fn.func 67) #[.agg #[.int .i64 r, .int .i64 g]] #[]) ∧ Below w.heap.size w w' := by
  subst h
  go_enter Try.func77, Try.ntmps77
  go_wp2
  go_returns
  refine ⟨rfl, ?_⟩
  repeat' (first | with_reducible exact Below.refl _ _ | with_reducible refine bstep ?_ (by with_reducible assumption) | with_reducible refine balloc ?_ | with_reducible refine bdrew ?_ | with_reducible refine bdrewN ?_ _ | with_reducible refine bset ?_ (by go_size))
theorem says_else (ch pe de no st lo li ho r g : Int) (w : World) (h : ¬ ch = 2) :
    Calls Try.prog 77 #[.agg #[.int .i64 ch, .int .i64 pe, .int .i64 de, .int .i64 no, .int .i64 st, .int .i64 lo, .int .i64 li, .int .i64 ho], .agg #[.int .i64 r, .int .i64 g]] w
      fun e w' => e = .returned (.func (Fn.func 66) #[.agg #[.int .i64 r, .int .i64 g]] #[]) ∧ Below w.heap.size w w' := by
  go_enter Try.func77, Try.ntmps77
  go_wp2
  go_returns
  refine ⟨rfl, ?_⟩
  repeat' (first | with_reducible exact Below.refl _ _ | with_reducible refine bstep ?_ (by with_reducible assumption) | with_reducible refine balloc ?_ | with_reducible refine bdrew ?_ | with_reducible refine bdrewN ?_ _ | with_reducible refine bset ?_ (by go_size))
theorem says_ok : tab.ok 77 := by
  refine Tab.of_sel rfl rfl ⟨_, Try.func77, by decide, rfl⟩ rfl ?_
  intro Γ bd args obs b s1 s2 hn hg ho
  unfold saysS at hg
  split at hg
  · cases hg
    refine ⟨rfl, rfl, fun w => ?_⟩
    rename_i ch pe de no st lo li ho r g
    have hd := B.den_mkCmp hn .eq ch (.lit 2)
    by_cases h : ch.den Γ.ρ = 2
    · have e : (B.mkCmp bd .eq ch (.lit 2)).den Γ.ρ = true := by rw [hd]; simp [Cmp.den, h, E.den_lit]
      rw [if_pos e]
      exact says_two _ _ _ _ _ _ _ _ _ _ w h
    · have e : ¬ (B.mkCmp bd .eq ch (.lit 2)).den Γ.ρ = true := by rw [hd]; simp [Cmp.den, h, E.den_lit]
      rw [if_neg e]
      exact says_else _ _ _ _ _ _ _ _ _ _ w h
  · cases hg
theorem value_ok : tab.ok 46 := by
  refine Tab.of_ct rfl rfl ⟨_, Try.func46, by decide, rfl⟩ ?_ ctF_det
  refine ct_ok (cx := cvalue) (Tab.cx_ok (all_cons sens_ok (all_cons kick_ok (all_cons within_ok (all_cons says_ok (all_cons flow1_ok (all_cons gain1_ok all_nil))))))) Try.func46 (bds := []) (T := tvalue) (by kernel_rfl) ?_
  have h1 : cvalue.ct 40 = some ctSens := rfl
  have h2 : cvalue.ct 36 = some ctKick := rfl
  have h3 : cvalue.ct 67 = some ctFlow1 := rfl
  have h4 : cvalue.ct 66 = some ctGain1 := rfl
  unfold tvalue
  simp only [VC, allC, List.map_cons, List.map_nil, List.length_cons, List.length_nil, List.getElem?_cons_zero, List.getElem?_cons_succ, List.cons.injEq, C.i.injEq, C.b.injEq, and_true, true_and, forall_const, kindsOf_nil, kindsOf_lf, kindsOf_agg, kindsOf_box, boxKinds_nil, boxKinds_lf, boxKinds_agg, boxKinds_box, List.append_nil, List.cons_append, List.nil_append, den_cmp_le, den_cmp_lt, den_cmp_eq, den_cmp_ne, den_cmp_le', den_cmp_lt', den_cmp_eq', den_cmp_ne', den_and, den_and', den_or, den_or', den_not, den_not', den_blit, den_of, ev_var, at_0, at_1, at_2, at_3, at_4, at_5, at_6, at_7, at_skip, c_int, c_bool, c_arr, c_cnt, c_vec, ev_nil, ev_join, ev_sub3, loc_s, int_i, bool_b, rows_s, cs_nil, cs_cons, E.den_lit, E.den_var, E.den_add, E.den_sub, E.den_mul, E.den_quo, E.den_rem, E.den_max, E.den_min, E.den_len, E.den_wr, E.den_cell, h1, h2, h3, h4, ctValue, ctSens, ctKick, ctFlow1, ctGain1, ctF, kickSh, sensSh]
  intro ch _ _ pe _ _ de _ _ no _ _ st _ _ lo _ _ li _ _ ho _ _ r _ _ g _ _ n _ _ e _ _
  refine ⟨bds_nil _, ?_⟩
  rintro x _ _ hx
  subst hx
  refine ⟨fun h => valueV_no fun h' => h h'.1, fun hs => ?_⟩
  obtain ⟨hch, hso⟩ := sensE_iff.1 hs
  unfold SOk at hso
  rintro x _ _ rfl
  refine ⟨fun h => valueV_no fun h' => h (kickE_iff.2 h'.2.1), fun hk => ?_⟩
  have hk' := kickE_iff.1 hk
  have b := @saysV_bd ch r g n
  refine ⟨by omega, by omega, fun h => valueV_no (by omega), fun h => ⟨fun h' => valueV_no (by omega), fun h' => ?_⟩⟩
  have m := mul_abs (a := e) (b := st) (A := 15) (B := 1048576) (by omega) (by omega) (by omega) (by omega)
  have hv := valueV_yes (e := e) hs hk' (by omega) (by omega) h'
  refine ⟨by omega, fun hc => ⟨⟨hk', h'⟩, ?_⟩, fun hc => ⟨⟨hk', h'⟩, ?_⟩⟩
  · have he : saysV ch r g n = flowV r g n := by unfold saysV; rw [if_neg (by omega)]
    rw [he] at b hv
    rintro x _ _ rfl
    exact ⟨by omega, by omega, hv⟩
  · have he : saysV ch r g n = gainV r g n := by unfold saysV; rw [if_pos (by omega)]
    rw [he] at b hv
    rintro x _ _ rfl
    exact ⟨by omega, by omega, hv⟩
theorem checks_ok (awake_ok : tab.ok 19) : CtOK Try.prog 8 (ctLaw [kickSh, kicksSh, sensSh, .lf (.arr 23), .lf .int, .lf .int]) := by
  refine ct_ok (cx := cchecks) (Tab.cx_ok (all_cons kick_ok (all_cons rkick_ok (all_cons kicks_ok (all_cons rkicks_ok (all_cons sens_ok (all_cons rsens_ok (all_cons sensors_ok (all_cons rsensors_ok (all_cons flow_ok (all_cons rflow_ok (all_cons gain_ok (all_cons rgain_ok (all_cons value_ok (all_cons rvalue_ok (all_cons awake_ok all_nil)))))))))))))))) Try.func8 (bds := []) (T := tchecks) (by kernel_rfl) ?_
  have h1 : cchecks.ct 36 = some ctKick := rfl
  have h2 : cchecks.ct 37 = some ctKick := rfl
  have h3 : cchecks.ct 38 = some ctKicks := rfl
  have h4 : cchecks.ct 39 = some ctKicks := rfl
  have h5 : cchecks.ct 40 = some ctSens := rfl
  have h6 : cchecks.ct 41 = some ctSens := rfl
  have h7 : cchecks.ct 42 = some ctSensors := rfl
  have h8 : cchecks.ct 43 = some ctSensors := rfl
  have h9 : cchecks.ct 24 = some ctFlow := rfl
  have h10 : cchecks.ct 44 = some ctFlow := rfl
  have h11 : cchecks.ct 23 = some ctGain := rfl
  have h12 : cchecks.ct 45 = some ctGain := rfl
  have h13 : cchecks.ct 46 = some ctValue := rfl
  have h14 : cchecks.ct 47 = some ctValue := rfl
  have h15 : cchecks.ct 19 = some ctAwake := rfl
  unfold tchecks
  simp only [VC, allC, List.map_cons, List.map_nil, List.length_cons, List.length_nil, List.getElem?_cons_zero, List.getElem?_cons_succ, List.cons.injEq, C.i.injEq, C.b.injEq, and_true, true_and, forall_const, kindsOf_nil, kindsOf_lf, kindsOf_agg, kindsOf_box, boxKinds_nil, boxKinds_lf, boxKinds_agg, boxKinds_box, List.append_nil, List.cons_append, List.nil_append, den_cmp_le, den_cmp_lt, den_cmp_eq, den_cmp_ne, den_cmp_le', den_cmp_lt', den_cmp_eq', den_cmp_ne', den_and, den_and', den_or, den_or', den_not, den_not', den_blit, den_of, ev_var, at_0, at_1, at_2, at_3, at_4, at_5, at_6, at_7, at_skip, c_int, c_bool, c_arr, c_cnt, c_vec, ev_nil, ev_join, ev_sub3, loc_s, int_i, bool_b, rows_s, cs_nil, cs_cons, E.den_lit, E.den_var, E.den_add, E.den_sub, E.den_mul, E.den_quo, E.den_rem, E.den_max, E.den_min, E.den_len, E.den_wr, E.den_cell, ctLaw, h1, h2, h3, h4, h5, h6, h7, h8, h9, h10, h11, h12, h13, h14, h15, ctKick, ctKicks, ctSens, ctSensors, ctFlow, ctGain, ctValue, ctAwake, ctF, kickSh, kicksSh, sensSh]
  intro r _ _ g _ _ xa _ _ xb _ _ xc _ _ xd _ _ s0 _ _ s1 _ _ s2 _ _ s3 _ _ s4 _ _ s5 _ _ s6 _ _ s7 _ _ v rows d _ _ n _ _ e0 _ _
  refine ⟨bds_nil _, fun h => fun t ht => ht, fun h => ?_⟩
  rintro x _ _ hx y _ _ hy
  have e := hx.trans hy.symm
  clear hx hy
  unfold tchecks_7
  simp only [VC, allC, List.map_cons, List.map_nil, List.length_cons, List.length_nil, List.getElem?_cons_zero, List.getElem?_cons_succ, List.cons.injEq, C.i.injEq, C.b.injEq, and_true, true_and, forall_const, kindsOf_nil, kindsOf_lf, kindsOf_agg, kindsOf_box, boxKinds_nil, boxKinds_lf, boxKinds_agg, boxKinds_box, List.append_nil, List.cons_append, List.nil_append, den_cmp_le, den_cmp_lt, den_cmp_eq, den_cmp_ne, den_cmp_le', den_cmp_lt', den_cmp_eq', den_cmp_ne', den_and, den_and', den_or, den_or', den_not, den_not', den_blit, den_of, ev_var, at_0, at_1, at_2, at_3, at_4, at_5, at_6, at_7, at_skip, c_int, c_bool, c_arr, c_cnt, c_vec, ev_nil, ev_join, ev_sub3, loc_s, int_i, bool_b, rows_s, cs_nil, cs_cons, E.den_lit, E.den_var, E.den_add, E.den_sub, E.den_mul, E.den_quo, E.den_rem, E.den_max, E.den_min, E.den_len, E.den_wr, E.den_cell, h1, h2, h3, h4, h5, h6, h7, h8, h9, h10, h11, h12, h13, h14, h15, ctKick, ctKicks, ctSens, ctSensors, ctFlow, ctGain, ctValue, ctAwake, ctF, kickSh, kicksSh, sensSh]
  refine ⟨fun h => absurd e h, fun _ => ?_⟩
  rintro x _ _ hx y _ _ hy
  have e := hx.trans hy.symm
  clear hx hy
  unfold tchecks_6
  simp only [VC, allC, List.map_cons, List.map_nil, List.length_cons, List.length_nil, List.getElem?_cons_zero, List.getElem?_cons_succ, List.cons.injEq, C.i.injEq, C.b.injEq, and_true, true_and, forall_const, kindsOf_nil, kindsOf_lf, kindsOf_agg, kindsOf_box, boxKinds_nil, boxKinds_lf, boxKinds_agg, boxKinds_box, List.append_nil, List.cons_append, List.nil_append, den_cmp_le, den_cmp_lt, den_cmp_eq, den_cmp_ne, den_cmp_le', den_cmp_lt', den_cmp_eq', den_cmp_ne', den_and, den_and', den_or, den_or', den_not, den_not', den_blit, den_of, ev_var, at_0, at_1, at_2, at_3, at_4, at_5, at_6, at_7, at_skip, c_int, c_bool, c_arr, c_cnt, c_vec, ev_nil, ev_join, ev_sub3, loc_s, int_i, bool_b, rows_s, cs_nil, cs_cons, E.den_lit, E.den_var, E.den_add, E.den_sub, E.den_mul, E.den_quo, E.den_rem, E.den_max, E.den_min, E.den_len, E.den_wr, E.den_cell, h1, h2, h3, h4, h5, h6, h7, h8, h9, h10, h11, h12, h13, h14, h15, ctKick, ctKicks, ctSens, ctSensors, ctFlow, ctGain, ctValue, ctAwake, ctF, kickSh, kicksSh, sensSh]
  refine ⟨fun h => absurd e h, fun _ => ?_⟩
  rintro x _ _ hx
  unfold tchecks_5
  simp only [VC, allC, List.map_cons, List.map_nil, List.length_cons, List.length_nil, List.getElem?_cons_zero, List.getElem?_cons_succ, List.cons.injEq, C.i.injEq, C.b.injEq, and_true, true_and, forall_const, kindsOf_nil, kindsOf_lf, kindsOf_agg, kindsOf_box, boxKinds_nil, boxKinds_lf, boxKinds_agg, boxKinds_box, List.append_nil, List.cons_append, List.nil_append, den_cmp_le, den_cmp_lt, den_cmp_eq, den_cmp_ne, den_cmp_le', den_cmp_lt', den_cmp_eq', den_cmp_ne', den_and, den_and', den_or, den_or', den_not, den_not', den_blit, den_of, ev_var, at_0, at_1, at_2, at_3, at_4, at_5, at_6, at_7, at_skip, c_int, c_bool, c_arr, c_cnt, c_vec, ev_nil, ev_join, ev_sub3, loc_s, int_i, bool_b, rows_s, cs_nil, cs_cons, E.den_lit, E.den_var, E.den_add, E.den_sub, E.den_mul, E.den_quo, E.den_rem, E.den_max, E.den_min, E.den_len, E.den_wr, E.den_cell, h1, h2, h3, h4, h5, h6, h7, h8, h9, h10, h11, h12, h13, h14, h15, ctKick, ctKicks, ctSens, ctSensors, ctFlow, ctGain, ctValue, ctAwake, ctF, kickSh, kicksSh, sensSh]
  rintro y _ _ hy
  have e := hx.trans hy.symm
  clear hx hy
  refine ⟨fun h => absurd e h, fun _ => ?_⟩
  rintro x _ _ hx y _ _ hy
  have e := hx.trans hy.symm
  clear hx hy
  unfold tchecks_4
  simp only [VC, allC, List.map_cons, List.map_nil, List.length_cons, List.length_nil, List.getElem?_cons_zero, List.getElem?_cons_succ, List.cons.injEq, C.i.injEq, C.b.injEq, and_true, true_and, forall_const, kindsOf_nil, kindsOf_lf, kindsOf_agg, kindsOf_box, boxKinds_nil, boxKinds_lf, boxKinds_agg, boxKinds_box, List.append_nil, List.cons_append, List.nil_append, den_cmp_le, den_cmp_lt, den_cmp_eq, den_cmp_ne, den_cmp_le', den_cmp_lt', den_cmp_eq', den_cmp_ne', den_and, den_and', den_or, den_or', den_not, den_not', den_blit, den_of, ev_var, at_0, at_1, at_2, at_3, at_4, at_5, at_6, at_7, at_skip, c_int, c_bool, c_arr, c_cnt, c_vec, ev_nil, ev_join, ev_sub3, loc_s, int_i, bool_b, rows_s, cs_nil, cs_cons, E.den_lit, E.den_var, E.den_add, E.den_sub, E.den_mul, E.den_quo, E.den_rem, E.den_max, E.den_min, E.den_len, E.den_wr, E.den_cell, h1, h2, h3, h4, h5, h6, h7, h8, h9, h10, h11, h12, h13, h14, h15, ctKick, ctKicks, ctSens, ctSensors, ctFlow, ctGain, ctValue, ctAwake, ctF, kickSh, kicksSh, sensSh]
  refine ⟨fun h => absurd e h, fun _ => ?_⟩
  rintro x _ _ hx y _ _ hy
  have e := hx.trans hy.symm
  clear hx hy
  unfold tchecks_3
  simp only [VC, allC, List.map_cons, List.map_nil, List.length_cons, List.length_nil, List.getElem?_cons_zero, List.getElem?_cons_succ, List.cons.injEq, C.i.injEq, C.b.injEq, and_true, true_and, forall_const, kindsOf_nil, kindsOf_lf, kindsOf_agg, kindsOf_box, boxKinds_nil, boxKinds_lf, boxKinds_agg, boxKinds_box, List.append_nil, List.cons_append, List.nil_append, den_cmp_le, den_cmp_lt, den_cmp_eq, den_cmp_ne, den_cmp_le', den_cmp_lt', den_cmp_eq', den_cmp_ne', den_and, den_and', den_or, den_or', den_not, den_not', den_blit, den_of, ev_var, at_0, at_1, at_2, at_3, at_4, at_5, at_6, at_7, at_skip, c_int, c_bool, c_arr, c_cnt, c_vec, ev_nil, ev_join, ev_sub3, loc_s, int_i, bool_b, rows_s, cs_nil, cs_cons, E.den_lit, E.den_var, E.den_add, E.den_sub, E.den_mul, E.den_quo, E.den_rem, E.den_max, E.den_min, E.den_len, E.den_wr, E.den_cell, h1, h2, h3, h4, h5, h6, h7, h8, h9, h10, h11, h12, h13, h14, h15, ctKick, ctKicks, ctSens, ctSensors, ctFlow, ctGain, ctValue, ctAwake, ctF, kickSh, kicksSh, sensSh]
  refine ⟨fun _ => ?_, fun h => absurd e h⟩
  rintro x _ _ hx y _ _ hy
  have e := hx.trans hy.symm
  clear hx hy
  unfold tchecks_2
  simp only [VC, allC, List.map_cons, List.map_nil, List.length_cons, List.length_nil, List.getElem?_cons_zero, List.getElem?_cons_succ, List.cons.injEq, C.i.injEq, C.b.injEq, and_true, true_and, forall_const, kindsOf_nil, kindsOf_lf, kindsOf_agg, kindsOf_box, boxKinds_nil, boxKinds_lf, boxKinds_agg, boxKinds_box, List.append_nil, List.cons_append, List.nil_append, den_cmp_le, den_cmp_lt, den_cmp_eq, den_cmp_ne, den_cmp_le', den_cmp_lt', den_cmp_eq', den_cmp_ne', den_and, den_and', den_or, den_or', den_not, den_not', den_blit, den_of, ev_var, at_0, at_1, at_2, at_3, at_4, at_5, at_6, at_7, at_skip, c_int, c_bool, c_arr, c_cnt, c_vec, ev_nil, ev_join, ev_sub3, loc_s, int_i, bool_b, rows_s, cs_nil, cs_cons, E.den_lit, E.den_var, E.den_add, E.den_sub, E.den_mul, E.den_quo, E.den_rem, E.den_max, E.den_min, E.den_len, E.den_wr, E.den_cell, h1, h2, h3, h4, h5, h6, h7, h8, h9, h10, h11, h12, h13, h14, h15, ctKick, ctKicks, ctSens, ctSensors, ctFlow, ctGain, ctValue, ctAwake, ctF, kickSh, kicksSh, sensSh]
  refine ⟨fun _ => ?_, fun h => absurd e h⟩
  rintro x _ _ hx
  unfold tchecks_1
  simp only [VC, allC, List.map_cons, List.map_nil, List.length_cons, List.length_nil, List.getElem?_cons_zero, List.getElem?_cons_succ, List.cons.injEq, C.i.injEq, C.b.injEq, and_true, true_and, forall_const, kindsOf_nil, kindsOf_lf, kindsOf_agg, kindsOf_box, boxKinds_nil, boxKinds_lf, boxKinds_agg, boxKinds_box, List.append_nil, List.cons_append, List.nil_append, den_cmp_le, den_cmp_lt, den_cmp_eq, den_cmp_ne, den_cmp_le', den_cmp_lt', den_cmp_eq', den_cmp_ne', den_and, den_and', den_or, den_or', den_not, den_not', den_blit, den_of, ev_var, at_0, at_1, at_2, at_3, at_4, at_5, at_6, at_7, at_skip, c_int, c_bool, c_arr, c_cnt, c_vec, ev_nil, ev_join, ev_sub3, loc_s, int_i, bool_b, rows_s, cs_nil, cs_cons, E.den_lit, E.den_var, E.den_add, E.den_sub, E.den_mul, E.den_quo, E.den_rem, E.den_max, E.den_min, E.den_len, E.den_wr, E.den_cell, h1, h2, h3, h4, h5, h6, h7, h8, h9, h10, h11, h12, h13, h14, h15, ctKick, ctKicks, ctSens, ctSensors, ctFlow, ctGain, ctValue, ctAwake, ctF, kickSh, kicksSh, sensSh]
  rintro y _ _ hy
  have e := hx.trans hy.symm
  clear hx hy
  refine ⟨fun _ => ?_, fun h => absurd e h⟩
  exact fun t ht => ht
end Go.Proofs.Ytlbgcjpkegpmlaa
/- Sensors and sets of kicks made of numbers; the latest alarm. -/
namespace Go.Proofs.Ytlbgcjpkegpmlaa
open Go.RowKit
set_option linter.unusedSimpArgs false
set_option linter.unusedVariables false

theorem kicksof_ok : tab.ok 48 := by
  refine Tab.of_ct rfl rfl ⟨_, Try.func48, by decide, rfl⟩ ?_ (fun h => by cases h)
  refine ct_ok (cx := ckicksof) (Tab.cx_ok (all_cons next_ok (all_cons kickof_ok all_nil))) Try.func48 (bds := []) (T := tkicksof) (by kernel_rfl) ?_
  have hn : ckicksof.ct 26 = some ctNext := rfl
  have hk : ckicksof.ct 20 = some ctKickOf := rfl
  unfold tkicksof tkicksof_2 tkicksof_1
  simp only [VC, allC, List.map_cons, List.map_nil, List.length_cons, List.length_nil, List.getElem?_cons_zero, List.getElem?_cons_succ, List.cons.injEq, C.i.injEq, C.b.injEq, and_true, true_and, forall_const, kindsOf_nil, kindsOf_lf, kindsOf_agg, kindsOf_box, boxKinds_nil, boxKinds_lf, boxKinds_agg, boxKinds_box, List.append_nil, List.cons_append, List.nil_append, den_cmp_le, den_cmp_lt, den_cmp_eq, den_cmp_ne, den_cmp_le', den_cmp_lt', den_cmp_eq', den_cmp_ne', den_and, den_and', den_or, den_or', den_not, den_not', den_blit, den_of, ev_var, at_0, at_1, at_2, at_3, at_4, at_5, at_6, at_7, at_skip, c_int, c_bool, c_arr, c_cnt, c_vec, ev_nil, ev_join, ev_sub3, loc_s, int_i, bool_b, rows_s, cs_nil, cs_cons, E.den_lit, E.den_var, E.den_add, E.den_sub, E.den_mul, E.den_quo, E.den_rem, E.den_max, E.den_min, E.den_len, E.den_wr, E.den_cell, hn, hk, ctKicksOf, ctKickOf, ctNext, atPre, ringSh, kicksSh]
  rintro v rows d hty hsm at_ a1 a2 ⟨p1, p2⟩
  refine ⟨bds_nil _, by omega, ?_⟩
  rintro x0 _ _ y0 _ _ v0 rows0 d0 _ _ at0 _ _ ⟨x1, x2, y1, y2, rfl, rfl, rfl⟩
  refine ⟨by omega, ?_⟩
  rintro z0 _ _ v1 rows1 d1 _ _ at1 _ _ ⟨z1, z2, rfl, rfl, rfl⟩
  refine ⟨by omega, by omega, ?_⟩
  rintro u0 _ _ v2 rows2 d2 _ _ at2 _ _ ⟨u1, u2, rfl, rfl, rfl⟩
  repeat (refine And.intro (by omega) ?_)
  exact ⟨rfl, rfl, by omega⟩
theorem sensorof_ok : tab.ok 25 := by
  refine Tab.of_ct rfl rfl ⟨_, Try.func25, by decide, rfl⟩ ?_ (fun h => by cases h)
  refine ct_ok (cx := csensorof) (Tab.cx_ok (all_cons next_ok all_nil)) Try.func25 (bds := []) (T := tsensorof) (by kernel_rfl) ?_
  have hn : csensorof.ct 26 = some ctNext := rfl
  unfold tsensorof
  simp only [VC, allC, List.map_cons, List.map_nil, List.length_cons, List.length_nil, List.getElem?_cons_zero, List.getElem?_cons_succ, List.cons.injEq, C.i.injEq, C.b.injEq, and_true, true_and, forall_const, kindsOf_nil, kindsOf_lf, kindsOf_agg, kindsOf_box, boxKinds_nil, boxKinds_lf, boxKinds_agg, boxKinds_box, List.append_nil, List.cons_append, List.nil_append, den_cmp_le, den_cmp_lt, den_cmp_eq, den_cmp_ne, den_cmp_le', den_cmp_lt', den_cmp_eq', den_cmp_ne', den_and, den_and', den_or, den_or', den_not, den_not', den_blit, den_of, ev_var, at_0, at_1, at_2, at_3, at_4, at_5, at_6, at_7, at_skip, c_int, c_bool, c_arr, c_cnt, c_vec, ev_nil, ev_join, ev_sub3, loc_s, int_i, bool_b, rows_s, cs_nil, cs_cons, E.den_lit, E.den_var, E.den_add, E.den_sub, E.den_mul, E.den_quo, E.den_rem, E.den_max, E.den_min, E.den_len, E.den_wr, E.den_cell, hn, ctSensorOf, ctNext, atPre, ringSh, sensSh, SensGood]
  rintro v rows d hty hsm at_ a1 a2 ⟨p1, p2⟩
  refine ⟨bds_nil _, by omega, ?_⟩
  rintro x1 _ _ v0 rows0 d0 _ _ at0 _ _ ⟨l1, u1, rfl, rfl, rfl⟩
  unfold tsensorof_6
  simp only [VC, allC, List.map_cons, List.map_nil, List.length_cons, List.length_nil, List.getElem?_cons_zero, List.getElem?_cons_succ, List.cons.injEq, C.i.injEq, C.b.injEq, and_true, true_and, forall_const, kindsOf_nil, kindsOf_lf, kindsOf_agg, kindsOf_box, boxKinds_nil, boxKinds_lf, boxKinds_agg, boxKinds_box, List.append_nil, List.cons_append, List.nil_append, den_cmp_le, den_cmp_lt, den_cmp_eq, den_cmp_ne, den_cmp_le', den_cmp_lt', den_cmp_eq', den_cmp_ne', den_and, den_and', den_or, den_or', den_not, den_not', den_blit, den_of, ev_var, at_0, at_1, at_2, at_3, at_4, at_5, at_6, at_7, at_skip, c_int, c_bool, c_arr, c_cnt, c_vec, ev_nil, ev_join, ev_sub3, loc_s, int_i, bool_b, rows_s, cs_nil, cs_cons, E.den_lit, E.den_var, E.den_add, E.den_sub, E.den_mul, E.den_quo, E.den_rem, E.den_max, E.den_min, E.den_len, E.den_wr, E.den_cell, hn, ctNext, ringSh]
  repeat (refine And.intro (by omega) ?_)
  rintro x2 _ _ v0 rows0 d0 _ _ at0 _ _ ⟨l2, u2, rfl, rfl, rfl⟩
  unfold tsensorof_5
  simp only [VC, allC, List.map_cons, List.map_nil, List.length_cons, List.length_nil, List.getElem?_cons_zero, List.getElem?_cons_succ, List.cons.injEq, C.i.injEq, C.b.injEq, and_true, true_and, forall_const, kindsOf_nil, kindsOf_lf, kindsOf_agg, kindsOf_box, boxKinds_nil, boxKinds_lf, boxKinds_agg, boxKinds_box, List.append_nil, List.cons_append, List.nil_append, den_cmp_le, den_cmp_lt, den_cmp_eq, den_cmp_ne, den_cmp_le', den_cmp_lt', den_cmp_eq', den_cmp_ne', den_and, den_and', den_or, den_or', den_not, den_not', den_blit, den_of, ev_var, at_0, at_1, at_2, at_3, at_4, at_5, at_6, at_7, at_skip, c_int, c_bool, c_arr, c_cnt, c_vec, ev_nil, ev_join, ev_sub3, loc_s, int_i, bool_b, rows_s, cs_nil, cs_cons, E.den_lit, E.den_var, E.den_add, E.den_sub, E.den_mul, E.den_quo, E.den_rem, E.den_max, E.den_min, E.den_len, E.den_wr, E.den_cell, hn, ctNext, ringSh]
  repeat (refine And.intro (by omega) ?_)
  rintro x3 _ _ v0 rows0 d0 _ _ at0 _ _ ⟨l3, u3, rfl, rfl, rfl⟩
  repeat (refine And.intro (by omega) ?_)
  rintro x4 _ _ v0 rows0 d0 _ _ at0 _ _ ⟨l4, u4, rfl, rfl, rfl⟩
  have m := mul_bd (a := x3) (b := x4) (A := 2) (B := 19) (by omega) (by omega) (by omega) (by omega)
  unfold tsensorof_4
  simp only [VC, allC, List.map_cons, List.map_nil, List.length_cons, List.length_nil, List.getElem?_cons_zero, List.getElem?_cons_succ, List.cons.injEq, C.i.injEq, C.b.injEq, and_true, true_and, forall_const, kindsOf_nil, kindsOf_lf, kindsOf_agg, kindsOf_box, boxKinds_nil, boxKinds_lf, boxKinds_agg, boxKinds_box, List.append_nil, List.cons_append, List.nil_append, den_cmp_le, den_cmp_lt, den_cmp_eq, den_cmp_ne, den_cmp_le', den_cmp_lt', den_cmp_eq', den_cmp_ne', den_and, den_and', den_or, den_or', den_not, den_not', den_blit, den_of, ev_var, at_0, at_1, at_2, at_3, at_4, at_5, at_6, at_7, at_skip, c_int, c_bool, c_arr, c_cnt, c_vec, ev_nil, ev_join, ev_sub3, loc_s, int_i, bool_b, rows_s, cs_nil, cs_cons, E.den_lit, E.den_var, E.den_add, E.den_sub, E.den_mul, E.den_quo, E.den_rem, E.den_max, E.den_min, E.den_len, E.den_wr, E.den_cell, hn, ctNext, ringSh]
  repeat (refine And.intro (by omega) ?_)
  rintro x5 _ _ v0 rows0 d0 _ _ at0 _ _ ⟨l5, u5, rfl, rfl, rfl⟩
  repeat (refine And.intro (by omega) ?_)
  rintro x6 _ _ v0 rows0 d0 _ _ at0 _ _ ⟨l6, u6, rfl, rfl, rfl⟩
  unfold tsensorof_3
  simp only [VC, allC, List.map_cons, List.map_nil, List.length_cons, List.length_nil, List.getElem?_cons_zero, List.getElem?_cons_succ, List.cons.injEq, C.i.injEq, C.b.injEq, and_true, true_and, forall_const, kindsOf_nil, kindsOf_lf, kindsOf_agg, kindsOf_box, boxKinds_nil, boxKinds_lf, boxKinds_agg, boxKinds_box, List.append_nil, List.cons_append, List.nil_append, den_cmp_le, den_cmp_lt, den_cmp_eq, den_cmp_ne, den_cmp_le', den_cmp_lt', den_cmp_eq', den_cmp_ne', den_and, den_and', den_or, den_or', den_not, den_not', den_blit, den_of, ev_var, at_0, at_1, at_2, at_3, at_4, at_5, at_6, at_7, at_skip, c_int, c_bool, c_arr, c_cnt, c_vec, ev_nil, ev_join, ev_sub3, loc_s, int_i, bool_b, rows_s, cs_nil, cs_cons, E.den_lit, E.den_var, E.den_add, E.den_sub, E.den_mul, E.den_quo, E.den_rem, E.den_max, E.den_min, E.den_len, E.den_wr, E.den_cell, hn, ctNext, ringSh]
  repeat (refine And.intro (by omega) ?_)
  rintro x7 _ _ v0 rows0 d0 _ _ at0 _ _ ⟨l7, u7, rfl, rfl, rfl⟩
  repeat (refine And.intro (by omega) ?_)
  rintro x8 _ _ v0 rows0 d0 _ _ at0 _ _ ⟨l8, u8, rfl, rfl, rfl⟩
  unfold tsensorof_2
  simp only [VC, allC, List.map_cons, List.map_nil, List.length_cons, List.length_nil, List.getElem?_cons_zero, List.getElem?_cons_succ, List.cons.injEq, C.i.injEq, C.b.injEq, and_true, true_and, forall_const, kindsOf_nil, kindsOf_lf, kindsOf_agg, kindsOf_box, boxKinds_nil, boxKinds_lf, boxKinds_agg, boxKinds_box, List.append_nil, List.cons_append, List.nil_append, den_cmp_le, den_cmp_lt, den_cmp_eq, den_cmp_ne, den_cmp_le', den_cmp_lt', den_cmp_eq', den_cmp_ne', den_and, den_and', den_or, den_or', den_not, den_not', den_blit, den_of, ev_var, at_0, at_1, at_2, at_3, at_4, at_5, at_6, at_7, at_skip, c_int, c_bool, c_arr, c_cnt, c_vec, ev_nil, ev_join, ev_sub3, loc_s, int_i, bool_b, rows_s, cs_nil, cs_cons, E.den_lit, E.den_var, E.den_add, E.den_sub, E.den_mul, E.den_quo, E.den_rem, E.den_max, E.den_min, E.den_len, E.den_wr, E.den_cell, hn, ctNext, ringSh]
  repeat (refine And.intro (by omega) ?_)
  rintro x9 _ _ v0 rows0 d0 _ _ at0 _ _ ⟨l9, u9, rfl, rfl, rfl⟩
  unfold tsensorof_1
  simp only [VC, allC, List.map_cons, List.map_nil, List.length_cons, List.length_nil, List.getElem?_cons_zero, List.getElem?_cons_succ, List.cons.injEq, C.i.injEq, C.b.injEq, and_true, true_and, forall_const, kindsOf_nil, kindsOf_lf, kindsOf_agg, kindsOf_box, boxKinds_nil, boxKinds_lf, boxKinds_agg, boxKinds_box, List.append_nil, List.cons_append, List.nil_append, den_cmp_le, den_cmp_lt, den_cmp_eq, den_cmp_ne, den_cmp_le', den_cmp_lt', den_cmp_eq', den_cmp_ne', den_and, den_and', den_or, den_or', den_not, den_not', den_blit, den_of, ev_var, at_0, at_1, at_2, at_3, at_4, at_5, at_6, at_7, at_skip, c_int, c_bool, c_arr, c_cnt, c_vec, ev_nil, ev_join, ev_sub3, loc_s, int_i, bool_b, rows_s, cs_nil, cs_cons, E.den_lit, E.den_var, E.den_add, E.den_sub, E.den_mul, E.den_quo, E.den_rem, E.den_max, E.den_min, E.den_len, E.den_wr, E.den_cell, hn, ctNext, ringSh]
  repeat (refine And.intro (by omega) ?_)
  first | omega | (intro hc; repeat (refine And.intro (by omega) ?_); omega)
theorem skOf_mk {a b c d e f g h r q : Int} {l : List C} : skOf (.i a :: .i b :: .i c :: .i d :: .i e :: .i f :: .i g :: .i h :: .i r :: .i q :: l) = ⟨a, b, c, d, e, f, g, h, r, q⟩ := rfl
theorem cell10 {a b c d e f g h r q : C} {n : Int} {l : List C} : cell_ (a :: b :: c :: d :: e :: f :: g :: h :: r :: q :: .i n :: l) 10 = n := rfl
theorem firA_go {ch pe de no st lo li ho r g f a : Int} (h : a ≤ 10000) : firA ⟨ch, pe, de, no, st, lo, li, ho, r, g⟩ f (10001 - a).toNat a =
    if f + a * pe ≤ 10000 then (if li ≤ saysV ch r g (f + a * pe) - no * st then some a else firA ⟨ch, pe, de, no, st, lo, li, ho, r, g⟩ f (10001 - (a + 1)).toNat (a + 1)) else none := by
  rw [show (10001 - a).toNat = (10001 - (a + 1)).toNat + 1 by omega, firA]
theorem firA_end {ch pe de no st lo li ho r g f a : Int} {n : Nat} (h : 10000 < f + a * pe) : firA ⟨ch, pe, de, no, st, lo, li, ho, r, g⟩ f n a = none := by
  cases n with
  | zero => rfl
  | succ n => rw [firA]; exact if_neg (by simp only []; omega)
theorem latL_go {x : SK} {f o p q : Int} (h : f < x.pe) : latL x (x.pe - f).toNat f o p q = match firA x f 10001 0 with
    | none => none
    | some a => if 10000 < tickV x f a then none else if o < tickV x f a then latL x (x.pe - (f + 1)).toNat (f + 1) (tickV x f a) f a else latL x (x.pe - (f + 1)).toNat (f + 1) o p q := by
  rw [show (x.pe - f).toNat = (x.pe - (f + 1)).toNat + 1 by omega, latL]
  cases firA x f 10001 0 <;> rfl
theorem latek_ok : tab.ok 79 := by
  refine Tab.of_ct rfl rfl ⟨_, Try.func79, by decide, rfl⟩ ?_ ctF_det
  refine ct_ok (cx := clatek) (Tab.cx_ok (all_cons says_ok (all_cons flow1_ok (all_cons gain1_ok all_nil)))) Try.func79 (bds := []) (T := tlatek) (by kernel_rfl) ?_
  have h3 : clatek.ct 67 = some ctFlow1 := rfl
  have h4 : clatek.ct 66 = some ctGain1 := rfl
  unfold tlatek
  simp only [VC, allC, List.map_cons, List.map_nil, List.length_cons, List.length_nil, List.getElem?_cons_zero, List.getElem?_cons_succ, List.cons.injEq, C.i.injEq, C.b.injEq, and_true, true_and, forall_const, kindsOf_nil, kindsOf_lf, kindsOf_agg, kindsOf_box, boxKinds_nil, boxKinds_lf, boxKinds_agg, boxKinds_box, List.append_nil, List.cons_append, List.nil_append, den_cmp_le, den_cmp_lt, den_cmp_eq, den_cmp_ne, den_cmp_le', den_cmp_lt', den_cmp_eq', den_cmp_ne', den_and, den_and', den_or, den_or', den_not, den_not', den_blit, den_of, ev_var, at_0, at_1, at_2, at_3, at_4, at_5, at_6, at_7, at_skip, c_int, c_bool, c_arr, c_cnt, c_vec, ev_nil, ev_join, ev_sub3, loc_s, int_i, bool_b, rows_s, cs_nil, cs_cons, E.den_lit, E.den_var, E.den_add, E.den_sub, E.den_mul, E.den_quo, E.den_rem, E.den_max, E.den_min, E.den_len, E.den_wr, E.den_cell, h3, h4, ctLatek, ctFlow1, ctGain1, ctF, kickSh, sensSh, skOf_mk]
  intro ch _ _ pe _ _ de _ _ no _ _ st _ _ lo _ _ li _ _ ho _ _ r _ _ g _ _ hp
  obtain ⟨hs, hk⟩ := hp
  obtain ⟨hch, hso⟩ := sensE_iff.1 hs
  simp only [] at hch hso hk
  unfold SOk at hso
  have mn := mul_bd (a := no) (b := st) (A := 15) (B := 1048576) (by omega) (by omega) (by omega) (by omega)
  have mh := mul_bd (a := ho) (b := lo + 1) (A := 8) (B := 6) (by omega) (by omega) (by omega) (by omega)
  have mh1 : 0 < ho * (lo + 1) := Int.mul_pos (by omega) (by omega)
  have hgo := fun f a (h : a ≤ 10000) => firA_go (ch := ch) (pe := pe) (de := de) (no := no) (st := st) (lo := lo) (li := li) (ho := ho) (r := r) (g := g) (f := f) h
  have hend := fun f a n (h : 10000 < f + a * pe) => firA_end (ch := ch) (pe := pe) (de := de) (no := no) (st := st) (lo := lo) (li := li) (ho := ho) (r := r) (g := g) (n := n) h
  generalize hX : SK.mk ch pe de no st lo li ho r g = X at *
  have epe : X.pe = pe := by rw [← hX]
  have eV : latV X = latL X pe.toNat 0 (-1) 0 0 := by unfold latV; rw [epe]
  have eT : ∀ f a, tickV X f a = f + (a + ho * (lo + 1) - 1) * pe + de := fun f a => by rw [← hX]; rfl
  have lgo := fun f o p q (h : f < pe) => latL_go (x := X) (f := f) (o := o) (p := p) (q := q) (by omega)
  rw [epe] at lgo
  have bd := fun n => @saysV_bd ch r g n
  refine ⟨bds_nil _, fun h2 => ?_, fun h2 => ?_⟩
  · have he : ∀ n, saysV ch r g n = flowV r g n := fun n => by unfold saysV; rw [if_neg (by omega)]
    simp only [he] at hgo bd
    refine ⟨fun xs => match xs with | [_, .i f, .i o, .i p, .i q] => 0 ≤ f ∧ f ≤ pe ∧ latV X = latL X (pe - f).toNat f o p q ∧ -1 ≤ o ∧ o ≤ 10000 | _ => False, fun xs => match xs with | [_, .i f, _, _, _] => (pe - f).toNat | _ => 0, ⟨by omega, by omega, by rw [eV, Int.sub_zero], by omega, by omega⟩, ?_⟩; rintro b f _ _ o _ _ p _ _ q _ _ ⟨f0, f1, hI, o1, o2⟩; refine ⟨fun hf => ?_, fun hf => ?_⟩; rotate_left; (rw [hI, show (pe - f).toNat = 0 by omega]; rfl); refine ⟨fun xs => match xs with | [_, .i a] => 0 ≤ a ∧ a ≤ 10001 ∧ firA X f (10001 - a).toNat a = firA X f 10001 0 | _ => False, fun xs => match xs with | [_, .i a] => (10001 - a).toNat | _ => 0, ⟨by omega, by omega, rfl⟩, ?_⟩; rintro b' a _ _ ⟨a0, a1, hA⟩; have pm := mul_bd (a := a) (b := pe) (A := 10001) (B := 60) (by omega) (by omega) (by omega) (by omega); have pg : a ≤ a * pe := by { have := Int.mul_le_mul_of_nonneg_left (show 1 ≤ pe by omega) a0; omega }; have pt0 := mul_bd (a := a + ho * (lo + 1) - 1) (b := pe) (A := 10100) (B := 60) (by omega) (by omega) (by omega) (by omega); have pt := mul_abs (a := a + ho * (lo + 1) - 1) (b := pe) (A := 10100) (B := 60) (by omega) (by omega) (by omega) (by omega); refine ⟨by omega, by omega, fun hle => ?_, fun hgt => ?_⟩; rotate_left; (rw [hI, lgo f o p q (by omega), ← hA, hend f a _ (by omega)]; rfl); have hg := hgo f a (by omega); rw [if_pos (by omega), hA] at hg; refine ⟨by omega, by omega, by omega, by omega, ⟨hk, by omega⟩, ?_⟩; rintro v _ _ hv; have hb := bd (f + a * pe); rw [← hv] at hb hg; refine ⟨by omega, fun hlt => ?_, fun hge => ?_⟩; (rw [if_neg (by omega)] at hg; exact ⟨by omega, by omega, ⟨by omega, by omega, hg.symm⟩, show (10001 - (a + 1)).toNat < (10001 - a).toNat by omega⟩); rw [if_pos (by omega)] at hg; have et := eT f a; have hl := lgo f o p q (by omega); rw [hg] at hl; simp only [] at hl; rw [et] at hl; refine ⟨by omega, by omega, by omega, by omega, by omega, by omega, by omega, fun hlt => ?_, fun hge => ⟨fun hlt => ?_, fun hge' => ?_⟩⟩; (rw [hI, hl, if_pos hlt]; rfl); (exact ⟨by omega, ⟨by omega, by omega, by rw [hI, hl, if_neg (by omega), if_pos hlt], by omega, by omega⟩, show (pe - (f + 1)).toNat < (pe - f).toNat by omega⟩); (exact ⟨⟨by omega, by omega, by rw [hI, hl, if_neg (by omega), if_neg (by omega)], by omega, by omega⟩, show (pe - (f + 1)).toNat < (pe - f).toNat by omega⟩)
  · have he : ∀ n, saysV ch r g n = gainV r g n := fun n => by unfold saysV; rw [if_pos (by omega)]
    simp only [he] at hgo bd
    refine ⟨fun xs => match xs with | [_, .i f, .i o, .i p, .i q] => 0 ≤ f ∧ f ≤ pe ∧ latV X = latL X (pe - f).toNat f o p q ∧ -1 ≤ o ∧ o ≤ 10000 | _ => False, fun xs => match xs with | [_, .i f, _, _, _] => (pe - f).toNat | _ => 0, ⟨by omega, by omega, by rw [eV, Int.sub_zero], by omega, by omega⟩, ?_⟩; rintro b f _ _ o _ _ p _ _ q _ _ ⟨f0, f1, hI, o1, o2⟩; refine ⟨fun hf => ?_, fun hf => ?_⟩; rotate_left; (rw [hI, show (pe - f).toNat = 0 by omega]; rfl); refine ⟨fun xs => match xs with | [_, .i a] => 0 ≤ a ∧ a ≤ 10001 ∧ firA X f (10001 - a).toNat a = firA X f 10001 0 | _ => False, fun xs => match xs with | [_, .i a] => (10001 - a).toNat | _ => 0, ⟨by omega, by omega, rfl⟩, ?_⟩; rintro b' a _ _ ⟨a0, a1, hA⟩; have pm := mul_bd (a := a) (b := pe) (A := 10001) (B := 60) (by omega) (by omega) (by omega) (by omega); have pg : a ≤ a * pe := by { have := Int.mul_le_mul_of_nonneg_left (show 1 ≤ pe by omega) a0; omega }; have pt0 := mul_bd (a := a + ho * (lo + 1) - 1) (b := pe) (A := 10100) (B := 60) (by omega) (by omega) (by omega) (by omega); have pt := mul_abs (a := a + ho * (lo + 1) - 1) (b := pe) (A := 10100) (B := 60) (by omega) (by omega) (by omega) (by omega); refine ⟨by omega, by omega, fun hle => ?_, fun hgt => ?_⟩; rotate_left; (rw [hI, lgo f o p q (by omega), ← hA, hend f a _ (by omega)]; rfl); have hg := hgo f a (by omega); rw [if_pos (by omega), hA] at hg; refine ⟨by omega, by omega, by omega, by omega, ⟨hk, by omega⟩, ?_⟩; rintro v _ _ hv; have hb := bd (f + a * pe); rw [← hv] at hb hg; refine ⟨by omega, fun hlt => ?_, fun hge => ?_⟩; (rw [if_neg (by omega)] at hg; exact ⟨by omega, by omega, ⟨by omega, by omega, hg.symm⟩, show (10001 - (a + 1)).toNat < (10001 - a).toNat by omega⟩); rw [if_pos (by omega)] at hg; have et := eT f a; have hl := lgo f o p q (by omega); rw [hg] at hl; simp only [] at hl; rw [et] at hl; refine ⟨by omega, by omega, by omega, by omega, by omega, by omega, by omega, fun hlt => ?_, fun hge => ⟨fun hlt => ?_, fun hge' => ?_⟩⟩; (rw [hI, hl, if_pos hlt]; rfl); (exact ⟨by omega, ⟨by omega, by omega, by rw [hI, hl, if_neg (by omega), if_pos hlt], by omega, by omega⟩, show (pe - (f + 1)).toNat < (pe - f).toNat by omega⟩); (exact ⟨⟨by omega, by omega, by rw [hI, hl, if_neg (by omega), if_neg (by omega)], by omega, by omega⟩, show (pe - (f + 1)).toNat < (pe - f).toNat by omega⟩)
end Go.Proofs.Ytlbgcjpkegpmlaa
/- Late, earliest, Latest, Caught. -/
namespace Go.Proofs.Ytlbgcjpkegpmlaa
open Go.RowKit
set_option linter.unusedSimpArgs false
set_option linter.unusedVariables false

theorem latC_some {o p q : Int} {t : Bool} {v : Option (Int × Int × Int)} (h : [C.i o, .i p, .i q, .b t] = latC v) : (t = true → v = some (o, p, q)) ∧ (t = false → v = none ∧ o = 0) := by
  cases v with
  | none => cases h; exact ⟨fun h => (by cases h), fun _ => ⟨rfl, rfl⟩⟩
  | some v => obtain ⟨a, b, c⟩ := v; cases h; exact ⟨fun _ => rfl, fun h => (by cases h)⟩
theorem late_ok : tab.ok 49 := by
  refine Tab.of_ct rfl rfl ⟨_, Try.func49, by decide, rfl⟩ ?_ ctF_det
  refine ct_ok (cx := clate) (Tab.cx_ok (all_cons sens_ok (all_cons kick_ok (all_cons latek_ok all_nil)))) Try.func49 (bds := []) (T := tlate) (by kernel_rfl) ?_
  have h1 : clate.ct 40 = some ctSens := rfl
  have h2 : clate.ct 36 = some ctKick := rfl
  have h3 : clate.ct 79 = some ctLatek := rfl
  unfold tlate
  simp only [VC, allC, List.map_cons, List.map_nil, List.length_cons, List.length_nil, List.getElem?_cons_zero, List.getElem?_cons_succ, List.cons.injEq, C.i.injEq, C.b.injEq, and_true, true_and, forall_const, kindsOf_nil, kindsOf_lf, kindsOf_agg, kindsOf_box, boxKinds_nil, boxKinds_lf, boxKinds_agg, boxKinds_box, List.append_nil, List.cons_append, List.nil_append, den_cmp_le, den_cmp_lt, den_cmp_eq, den_cmp_ne, den_cmp_le', den_cmp_lt', den_cmp_eq', den_cmp_ne', den_and, den_and', den_or, den_or', den_not, den_not', den_blit, den_of, ev_var, at_0, at_1, at_2, at_3, at_4, at_5, at_6, at_7, at_skip, c_int, c_bool, c_arr, c_cnt, c_vec, ev_nil, ev_join, ev_sub3, loc_s, int_i, bool_b, rows_s, cs_nil, cs_cons, E.den_lit, E.den_var, E.den_add, E.den_sub, E.den_mul, E.den_quo, E.den_rem, E.den_max, E.den_min, E.den_len, E.den_wr, E.den_cell, h1, h2, h3, ctLate, ctSens, ctKick, ctLatek, ctWorst, ctF, kickSh, sensSh, skOf_mk]; intro ch _ _ pe _ _ de _ _ no _ _ st _ _ lo _ _ li _ _ ho _ _ r _ _ g _ _; generalize hX : SK.mk ch pe de no st lo li ho r g = X; have hok : SKOk X ↔ sensE ch pe de no st lo li ho = 0 ∧ KOk r g := by { rw [← hX]; exact Iff.rfl }; have no : ¬ SKOk X → latE X = [.i 0, .b false] := fun h => if_neg h; have yes : SKOk X → latE X = (match atO (latV X) with | some o => [.i o, .b true] | none => [.i 0, .b false]) := fun h => if_pos h; refine ⟨bds_nil _, ?_⟩; rintro e _ _ rfl; refine ⟨fun h => (by rw [no fun h' => h (hok.1 h').1]), fun hs => ?_⟩; rintro e _ _ rfl; refine ⟨fun h => (by rw [no fun h' => h (kickE_iff.2 (hok.1 h').2)]), fun hk => ?_⟩; have ok := hok.2 ⟨hs, kickE_iff.1 hk⟩; refine ⟨ok, ?_⟩; rintro o _ _ p _ _ q _ _ t h; obtain ⟨t1, t2⟩ := latC_some h; rw [yes ok]; cases t; (obtain ⟨t3, t4⟩ := t2 rfl; rw [t3, t4]; rfl); (rw [t1 rfl]; rfl)
theorem drop_getD {rows : List (List C)} {k : Nat} (h : k < rows.length) : rows.drop k = rows.getD k [] :: rows.drop (k + 1) := by
  rw [List.drop_eq_getElem_cons h, List.getD_eq_getElem?_getD, List.getElem?_eq_getElem h]
  rfl
theorem min_ok : tab.ok 91 := by
  refine Tab.of_ct rfl rfl ⟨_, Try.func91, by decide, rfl⟩ ?_ ctF_det
  refine ct_ok (cx := cmin) (Tab.cx_ok all_nil) Try.func91 (bds := []) (T := tmin) (by kernel_rfl) ?_
  unfold tmin
  simp only [VC, allC, List.map_cons, List.map_nil, List.length_cons, List.length_nil, List.getElem?_cons_zero, List.getElem?_cons_succ, List.cons.injEq, C.i.injEq, C.b.injEq, and_true, true_and, forall_const, kindsOf_nil, kindsOf_lf, kindsOf_agg, kindsOf_box, boxKinds_nil, boxKinds_lf, boxKinds_agg, boxKinds_box, List.append_nil, List.cons_append, List.nil_append, den_cmp_le, den_cmp_lt, den_cmp_eq, den_cmp_ne, den_cmp_le', den_cmp_lt', den_cmp_eq', den_cmp_ne', den_and, den_and', den_or, den_or', den_not, den_not', den_blit, den_of, ev_var, at_0, at_1, at_2, at_3, at_4, at_5, at_6, at_7, at_skip, c_int, c_bool, c_arr, c_cnt, c_vec, ev_nil, ev_join, ev_sub3, loc_s, int_i, bool_b, rows_s, cs_nil, cs_cons, E.den_lit, E.den_var, E.den_add, E.den_sub, E.den_mul, E.den_quo, E.den_rem, E.den_max, E.den_min, E.den_len, E.den_wr, E.den_cell, ctMin, ctF]
  intro v rows d _ _ hne
  have hpos : 0 < rows.length := List.length_pos_iff.2 hne
  refine ⟨bds_nil _, fun h => by omega, fun h => ⟨by omega, fun xs => match xs with | [.i m, .i i] => 1 ≤ i ∧ i ≤ rows.length ∧ minR rows = minL m (rows.drop i.toNat) | _ => False, fun xs => match xs with | [_, .i i] => ((rows.length : Int) - i).toNat | _ => 0, ⟨by omega, by omega, rfl⟩, ?_⟩⟩
  rintro m _ _ i _ _ ⟨i1, i2, hI⟩
  refine ⟨fun hlt => ⟨by omega, hlt, ⟨by omega, by omega, ?_⟩, show ((rows.length : Int) - (i + 1)).toNat < ((rows.length : Int) - i).toNat by omega⟩, fun hge => ?_⟩
  · rw [hI, drop_getD (by omega), minL, show (i + 1).toNat = i.toNat + 1 by omega]
    rfl
  · rw [hI, show i.toNat = rows.length by omega, List.drop_length]
    rfl
theorem atsL_snoc {r g : Int} {row : List C} : ∀ {l : List (List C)}, atsL r g (l ++ [row]) = atsL r g l ++ (match atO (latV (skR r g row)) with | some o => [[.i o]] | none => [])
  | [] => by
    show atsL r g [row] = [] ++ _
    rw [List.nil_append, atsL]
    cases atO (latV (skR r g row)) <;> rfl
  | x :: l => by
    show atsL r g (x :: (l ++ [row])) = _
    rw [atsL, atsL]
    rw [atsL_snoc (l := l)]
    cases atO (latV (skR r g x)) <;> rfl
theorem atsL_len {r g : Int} : ∀ {l : List (List C)}, (atsL r g l).length ≤ l.length
  | [] => Nat.le_refl _
  | x :: l => by
    rw [atsL]
    have := atsL_len (r := r) (g := g) (l := l)
    cases atO (latV (skR r g x)) <;> simp only [List.length_cons] <;> omega
theorem firstE_all {k : Nat} : ∀ {rows : List (List C)}, firstE rows = 0 → k < rows.length → sensRow (rows.getD k []) = 0 := by
  induction k with
  | zero =>
    intro rows h hl
    cases rows with
    | nil => cases hl
    | cons x l =>
      rw [firstE] at h
      split at h
      · rename_i h0; exact h0
      · exact h
  | succ k ih =>
    intro rows h hl
    cases rows with
    | nil => cases hl
    | cons x l =>
      rw [firstE] at h
      split at h
      · simpa using ih h (by simpa using hl)
      · rename_i h0; exact absurd h h0
theorem take_getD {rows : List (List C)} {k : Nat} (h : k < rows.length) : rows.take (k + 1) = rows.take k ++ [rows.getD k []] := by
  rw [List.take_add_one, List.getD_eq_getElem?_getD, List.getElem?_eq_getElem h]
  rfl
theorem earl_ok : tab.ok 80 := by
  refine Tab.of_ct rfl rfl ⟨_, Try.func80, by decide, rfl⟩ ?_ ctF_det
  refine ct_ok (cx := cearl) (Tab.cx_ok (all_cons latek_ok (all_cons min_ok all_nil))) Try.func80 (bds := []) (T := tearl) (by kernel_rfl) ?_
  have h1 : cearl.ct 79 = some ctLatek := rfl
  have h2 : cearl.ct 91 = some ctMin := rfl
  unfold tearl
  simp only [VC, allC, List.map_cons, List.map_nil, List.length_cons, List.length_nil, List.getElem?_cons_zero, List.getElem?_cons_succ, List.cons.injEq, C.i.injEq, C.b.injEq, and_true, true_and, forall_const, kindsOf_nil, kindsOf_lf, kindsOf_agg, kindsOf_box, boxKinds_nil, boxKinds_lf, boxKinds_agg, boxKinds_box, List.append_nil, List.cons_append, List.nil_append, den_cmp_le, den_cmp_lt, den_cmp_eq, den_cmp_ne, den_cmp_le', den_cmp_lt', den_cmp_eq', den_cmp_ne', den_and, den_and', den_or, den_or', den_not, den_not', den_blit, den_of, ev_var, at_0, at_1, at_2, at_3, at_4, at_5, at_6, at_7, at_skip, c_int, c_bool, c_arr, c_cnt, c_vec, ev_nil, ev_join, ev_sub3, loc_s, int_i, bool_b, rows_s, cs_nil, cs_cons, E.den_lit, E.den_var, E.den_add, E.den_sub, E.den_mul, E.den_quo, E.den_rem, E.den_max, E.den_min, E.den_len, E.den_wr, E.den_cell, h1, h2, ctEarl, ctLatek, ctMin, ctF, kickSh, sensSh, skOf_mk]
  intro v rows d _ _ r _ _ g _ _ hp
  obtain ⟨hl, hs, hk⟩ := hp
  refine ⟨bds_nil _, fun xs => match xs with | [.s _ all, .i i] => 0 ≤ i ∧ i ≤ rows.length ∧ all = atsL r g (rows.take i.toNat) | _ => False, fun xs => match xs with | [_, .i i] => ((rows.length : Int) - i).toNat | _ => 0, ⟨by omega, by omega, rfl⟩, ?_⟩
  rintro u all _ _ _ i _ _ ⟨i0, i1, hI⟩
  refine ⟨fun hlt => ⟨i0, hlt, ⟨?_, hk⟩, ?_⟩, fun hge => ?_⟩
  · have hz : i.toNat < rows.length := by omega
    exact firstE_all hs hz
  · have ht := take_getD (rows := rows) (k := i.toNat) (by omega)
    have hsn := atsL_snoc (r := r) (g := g) (row := rows.getD i.toNat []) (l := rows.take i.toNat)
    have hln := atsL_len (r := r) (g := g) (l := rows.take i.toNat)
    rw [← ht, show i.toNat + 1 = (i + 1).toNat by omega] at hsn
    rw [List.length_take] at hln
    rintro o _ _ p _ _ q _ _ t h
    obtain ⟨t1, t2⟩ := latC_some (v := latV (skR r g (rows.getD i.toNat []))) h
    refine ⟨fun ht => ⟨?_, fun _ => ⟨⟨by omega, by omega, ?_⟩, show ((rows.length : Int) - (i + 1)).toNat < ((rows.length : Int) - i).toNat by omega⟩⟩, fun ht => ⟨⟨by omega, by omega, ?_⟩, show ((rows.length : Int) - (i + 1)).toNat < ((rows.length : Int) - i).toNat by omega⟩⟩
    · rw [hI]; omega
    · rw [hsn, t1 ht, ← hI]; rfl
    · rw [hsn, (t2 ht).1, ← hI]; exact (List.append_nil _).symm
  · rw [show i.toNat = rows.length by omega, List.take_length] at hI
    rw [hI]
    refine ⟨fun h => ?_, fun h => ⟨fun h' => h (by rw [h']; rfl), ?_⟩⟩
    · unfold earlC
      rw [if_pos (List.eq_nil_of_length_eq_zero (by omega))]
    · rintro m _ _ rfl
      unfold earlC
      rw [if_neg (fun h' => h (by rw [h']; rfl))]
theorem sensorsE_zero {rows : List (List C)} (h : sensorsE rows = 0) : rows.length ≠ 0 ∧ rows.length ≤ 4 ∧ firstE rows = 0 := by
  unfold sensorsE at h
  split at h
  · cases h
  · split at h
    · cases h
    · rename_i h1 h2; exact ⟨h1, by omega, h⟩
theorem kicksE_zero {a b c d : Int} (h : kicksE a b c d = 0) : KOk a c ∧ a ≤ b ∧ c ≤ d ∧ KOk b d := by
  unfold kicksE at h
  split at h
  · rename_i h1; exact ⟨h1.2.2.1, h1.1, h1.2.1, h1.2.2.2⟩
  · cases h
theorem latest_ok : tab.ok 50 := by
  refine Tab.of_ct rfl rfl ⟨_, Try.func50, by decide, rfl⟩ ?_ ctF_det
  refine ct_ok (cx := clatest) (Tab.cx_ok (all_cons sensors_ok (all_cons kicks_ok (all_cons least_ok (all_cons earl_ok all_nil))))) Try.func50 (bds := []) (T := tlatest) (by kernel_rfl) ?_
  have h1 : clatest.ct 42 = some ctSensors := rfl
  have h2 : clatest.ct 38 = some ctKicks := rfl
  have h3 : clatest.ct 75 = some ctLeast := rfl
  have h4 : clatest.ct 80 = some ctEarl := rfl
  unfold tlatest
  simp only [VC, allC, List.map_cons, List.map_nil, List.length_cons, List.length_nil, List.getElem?_cons_zero, List.getElem?_cons_succ, List.cons.injEq, C.i.injEq, C.b.injEq, and_true, true_and, forall_const, kindsOf_nil, kindsOf_lf, kindsOf_agg, kindsOf_box, boxKinds_nil, boxKinds_lf, boxKinds_agg, boxKinds_box, List.append_nil, List.cons_append, List.nil_append, den_cmp_le, den_cmp_lt, den_cmp_eq, den_cmp_ne, den_cmp_le', den_cmp_lt', den_cmp_eq', den_cmp_ne', den_and, den_and', den_or, den_or', den_not, den_not', den_blit, den_of, ev_var, at_0, at_1, at_2, at_3, at_4, at_5, at_6, at_7, at_skip, c_int, c_bool, c_arr, c_cnt, c_vec, ev_nil, ev_join, ev_sub3, loc_s, int_i, bool_b, rows_s, cs_nil, cs_cons, E.den_lit, E.den_var, E.den_add, E.den_sub, E.den_mul, E.den_quo, E.den_rem, E.den_max, E.den_min, E.den_len, E.den_wr, E.den_cell, h1, h2, h3, h4, ctLatest, ctSensors, ctKicks, ctLeast, ctEarl, ctF, kickSh, kicksSh]; intro v rows d _ hsm a _ _ b _ _ c _ _ e _ _; refine ⟨bds_nil _, ?_⟩; rintro x _ _ rfl; refine ⟨fun h => (by unfold latestC; rw [if_neg h]), fun hs => ?_⟩; rintro x _ _ rfl; refine ⟨fun h => (by unfold latestC; rw [if_pos hs, if_neg h]), fun hk => ?_⟩; rintro x _ _ y _ _ ⟨rfl, rfl⟩; obtain ⟨s1, s2, s3⟩ := sensorsE_zero hs; refine ⟨⟨by omega, s3, (kicksE_zero hk).1⟩, ?_⟩; rintro m _ _ f _ _ h; rw [h]; unfold latestC; rw [if_pos hs, if_pos hk]
theorem caught_ok : tab.ok 51 := by
  refine Tab.of_ct rfl rfl ⟨_, Try.func51, by decide, rfl⟩ ?_ ctF_det
  refine ct_ok (cx := ccaught) (Tab.cx_ok (all_cons sensors_ok (all_cons kick_ok (all_cons gain_ok (all_cons earl_ok all_nil))))) Try.func51 (bds := []) (T := tcaught) (by kernel_rfl) ?_
  have h1 : ccaught.ct 42 = some ctSensors := rfl
  have h2 : ccaught.ct 36 = some ctKick := rfl
  have h3 : ccaught.ct 23 = some ctGain := rfl
  have h4 : ccaught.ct 80 = some ctEarl := rfl
  unfold tcaught
  simp only [VC, allC, List.map_cons, List.map_nil, List.length_cons, List.length_nil, List.getElem?_cons_zero, List.getElem?_cons_succ, List.cons.injEq, C.i.injEq, C.b.injEq, and_true, true_and, forall_const, kindsOf_nil, kindsOf_lf, kindsOf_agg, kindsOf_box, boxKinds_nil, boxKinds_lf, boxKinds_agg, boxKinds_box, List.append_nil, List.cons_append, List.nil_append, den_cmp_le, den_cmp_lt, den_cmp_eq, den_cmp_ne, den_cmp_le', den_cmp_lt', den_cmp_eq', den_cmp_ne', den_and, den_and', den_or, den_or', den_not, den_not', den_blit, den_of, ev_var, at_0, at_1, at_2, at_3, at_4, at_5, at_6, at_7, at_skip, c_int, c_bool, c_arr, c_cnt, c_vec, ev_nil, ev_join, ev_sub3, loc_s, int_i, bool_b, rows_s, cs_nil, cs_cons, E.den_lit, E.den_var, E.den_add, E.den_sub, E.den_mul, E.den_quo, E.den_rem, E.den_max, E.den_min, E.den_len, E.den_wr, E.den_cell, h1, h2, h3, h4, ctCaught, ctSensors, ctKick, ctGain, ctEarl, ctF, kickSh]; intro v rows d _ hsm r _ _ g _ _; refine ⟨bds_nil _, ?_⟩; rintro x _ _ rfl; refine ⟨fun h => (by unfold caughtC; rw [if_neg h]), fun hs => ?_⟩; rintro x _ _ rfl; refine ⟨fun h => (by unfold caughtC; rw [if_pos hs, if_neg h]), fun hk => ?_⟩; obtain ⟨s1, s2, s3⟩ := sensorsE_zero hs; refine ⟨⟨by omega, s3, kickE_iff.1 hk⟩, ?_⟩; rintro m _ _ f _ _ h; unfold earlC at h; unfold caughtC; rw [if_pos hs, if_pos hk]; by_cases hn : atsL r g rows = []; (rw [if_pos hn] at h ⊢; cases h; exact ⟨fun _ => rfl, fun h => absurd h (by decide)⟩); (rw [if_neg hn] at h ⊢; cases h; exact ⟨fun h => absurd rfl h, fun _ n _ _ hn => (by rw [hn])⟩)
end Go.Proofs.Ytlbgcjpkegpmlaa
/- Which values a sensor may have measured. -/
namespace Go.Proofs.Ytlbgcjpkegpmlaa
open Go.RowKit
set_option linter.unusedSimpArgs false
set_option linter.unusedVariables false

theorem meas_eq {no st ch r g n v : Int} (h : measV no st ch r g n v) : v = saysV ch r g n + (v - saysV ch r g n).tdiv st * st := by
  have h1 := Int.tmod_add_mul_tdiv (v - saysV ch r g n) st
  rw [h.2.1, Int.mul_comm] at h1
  omega
theorem meas_of {no st ch r g n e : Int} (hst : 0 < st) (hn : n ≤ 20000) (h1 : -no ≤ e) (h2 : e ≤ no) : measV no st ch r g n (saysV ch r g n + e * st) := by
  unfold measV
  rw [show saysV ch r g n + e * st - saysV ch r g n = e * st by omega]
  rw [Int.mul_tmod_left, Int.mul_tdiv_cancel _ (by omega)]
  exact ⟨hn, rfl, h1, h2⟩
theorem meas_ok : tab.ok 70 := by
  refine Tab.of_ct rfl rfl ⟨_, Try.func70, by decide, rfl⟩ ?_ ctF_det
  refine ct_ok (cx := cmeas) (Tab.cx_ok (all_cons rvalue_ok all_nil)) Try.func70 (bds := []) (T := tmeas) (by kernel_rfl) ?_
  have h1 : cmeas.ct 47 = some ctValue := rfl
  unfold tmeas
  simp only [VC, allC, List.map_cons, List.map_nil, List.length_cons, List.length_nil, List.getElem?_cons_zero, List.getElem?_cons_succ, List.cons.injEq, C.i.injEq, C.b.injEq, and_true, true_and, forall_const, kindsOf_nil, kindsOf_lf, kindsOf_agg, kindsOf_box, boxKinds_nil, boxKinds_lf, boxKinds_agg, boxKinds_box, List.append_nil, List.cons_append, List.nil_append, den_cmp_le, den_cmp_lt, den_cmp_eq, den_cmp_ne, den_cmp_le', den_cmp_lt', den_cmp_eq', den_cmp_ne', den_and, den_and', den_or, den_or', den_not, den_not', den_blit, den_of, ev_var, at_0, at_1, at_2, at_3, at_4, at_5, at_6, at_7, at_skip, c_int, c_bool, c_arr, c_cnt, c_vec, ev_nil, ev_join, ev_sub3, loc_s, int_i, bool_b, rows_s, cs_nil, cs_cons, E.den_lit, E.den_var, E.den_add, E.den_sub, E.den_mul, E.den_quo, E.den_rem, E.den_max, E.den_min, E.den_len, E.den_wr, E.den_cell, h1, ctMeas, ctValue, ctF, kickSh, sensSh]
  intro ch _ _ pe _ _ de _ _ no _ _ st _ _ lo _ _ li _ _ ho _ _ r _ _ g _ _ n _ _ v _ _ hp
  obtain ⟨⟨hs, hk⟩, n0, n1⟩ := hp
  obtain ⟨hch, hso⟩ := sensE_iff.1 hs
  simp only [] at hch hso hk hs
  unfold SOk at hso
  refine ⟨bds_nil _, by omega, by omega, fun xs => match xs with | [_, .i e] => -no ≤ e ∧ e ≤ no + 1 ∧ (measV no st ch r g n v → e ≤ (v - saysV ch r g n).tdiv st) | _ => False, fun xs => match xs with | [_, .i e] => (no + 1 - e).toNat | _ => 0, ⟨by omega, by omega, fun h => (by have := h.2.2.1; omega)⟩, ?_⟩
  rintro b e _ _ ⟨e0, e1, hI⟩
  have mu : e ≤ no → (no + 1 - (e + 1)).toNat < (no + 1 - e).toNat := fun h => by omega
  refine ⟨fun hle => ⟨fun hn => ?_, fun hn => ?_⟩, fun hgt => ?_⟩
  · rintro x _ _ hx
    rw [← valueV_yes hs hk e0 hle hn] at hx
    refine ⟨fun hv => ?_, fun hv => ⟨by omega, by omega, ⟨by omega, by omega, fun hm => ?_⟩, mu hle⟩⟩
    · have := meas_of (ch := ch) (r := r) (g := g) (n := n) (st := st) (by omega) hn e0 hle
      rw [← hx, hv] at this
      exact (decide_eq_true this).symm
    · have h2 := hI hm
      have h3 := meas_eq hm
      rcases Int.lt_or_eq_of_le h2 with h | h
      · omega
      · rw [← h] at h3; omega
  · exact ⟨by omega, by omega, ⟨by omega, by omega, fun hm => absurd hm.1 (by omega)⟩, mu hle⟩
  · have : ¬ measV no st ch r g n v := fun hm => by
      have := hI hm
      have := hm.2.2.2
      omega
    exact (decide_eq_false this).symm
theorem rposs_ok : tab.ok 30 := by
  refine Tab.of_ct rfl rfl ⟨_, Try.func30, by decide, rfl⟩ ?_ ctF_det
  refine ct_ok (cx := crposs) (Tab.cx_ok (all_cons rsens_ok (all_cons rkick_ok (all_cons between_ok (all_cons meas_ok all_nil))))) Try.func30 (bds := []) (T := trposs) (by kernel_rfl) ?_
  have h1 : crposs.ct 41 = some ctSens := rfl
  have h2 : crposs.ct 37 = some ctKick := rfl
  have h3 : crposs.ct 70 = some ctMeas := rfl
  unfold trposs trposs_1
  simp only [VC, allC, List.map_cons, List.map_nil, List.length_cons, List.length_nil, List.getElem?_cons_zero, List.getElem?_cons_succ, List.cons.injEq, C.i.injEq, C.b.injEq, and_true, true_and, forall_const, kindsOf_nil, kindsOf_lf, kindsOf_agg, kindsOf_box, boxKinds_nil, boxKinds_lf, boxKinds_agg, boxKinds_box, List.append_nil, List.cons_append, List.nil_append, den_cmp_le, den_cmp_lt, den_cmp_eq, den_cmp_ne, den_cmp_le', den_cmp_lt', den_cmp_eq', den_cmp_ne', den_and, den_and', den_or, den_or', den_not, den_not', den_blit, den_of, ev_var, at_0, at_1, at_2, at_3, at_4, at_5, at_6, at_7, at_skip, c_int, c_bool, c_arr, c_cnt, c_vec, ev_nil, ev_join, ev_sub3, loc_s, int_i, bool_b, rows_s, cs_nil, cs_cons, E.den_lit, E.den_var, E.den_add, E.den_sub, E.den_mul, E.den_quo, E.den_rem, E.den_max, E.den_min, E.den_len, E.den_wr, E.den_cell, h1, h2, h3, ctPoss, ctSens, ctKick, ctMeas, ctF, kickSh, sensSh]
  intro ch _ _ pe _ _ de _ _ no _ _ st _ _ lo _ _ li _ _ ho _ _ r _ _ g _ _ begin _ _ v rows d _ hsm
  generalize hX : SK.mk ch pe de no st lo li ho r g = X
  have hok : SKOk X ↔ sensE ch pe de no st lo li ho = 0 ∧ KOk r g := by { rw [← hX]; exact Iff.rfl }
  refine ⟨bds_nil _, ?_⟩
  rintro e _ _ rfl
  refine ⟨fun h => ?_, fun hs => ?_⟩
  · unfold possV; rw [decide_eq_false (fun h' => h (hok.1 h').1)]; rfl
  rintro e _ _ rfl
  refine ⟨fun h => ?_, fun hk => ?_⟩
  · unfold possV; rw [decide_eq_false (fun h' => h (kickE_iff.2 (hok.1 h').2))]; rfl
  have ok := hok.2 ⟨hs, kickE_iff.1 hk⟩
  obtain ⟨hch, hso⟩ := sensE_iff.1 hs
  unfold SOk at hso
  have e1 : ∀ k o, ((C.s v rows).at k o).int = cell_ (rows.getD k []) o := fun _ _ => rfl
  simp only [e1, Int.toNat_zero]
  have pv : possV X begin rows = (decide (0 ≤ begin ∧ begin ≤ 20000 ∧ rows.length ≤ 200) && possL X begin (cell_ (rows.getD 0 []) 0) ((cell_ (rows.getD 0 []) 1).tmod pe) (-1) rows) := by
    unfold possV
    rw [decide_eq_true ok, Bool.true_and, ← hX]
  have hst : ∀ last row, stepV X begin (cell_ (rows.getD 0 []) 0) ((cell_ (rows.getD 0 []) 1).tmod pe) last row ↔ 0 ≤ cell_ row 1 ∧ cell_ row 1 ≤ 40000 ∧ cell_ row 0 = cell_ (rows.getD 0 []) 0 ∧ (cell_ row 1).tmod pe = (cell_ (rows.getD 0 []) 1).tmod pe ∧ 1 ≤ (cell_ row 1).tdiv pe - last ∧ (cell_ row 1).tdiv pe - last ≤ lo + 1 ∧ measV no st ch r g (cell_ row 1 - begin) (cell_ row 2) := fun last row => by rw [← hX]; exact Iff.rfl
  have epe : X.pe = pe := by rw [← hX]
  generalize hse : cell_ (rows.getD 0 []) 0 = se at *
  generalize hph : (cell_ (rows.getD 0 []) 1).tmod pe = ph at *
  refine ⟨fun h => ?_, fun hb => ⟨fun h => ?_, fun hlen => ?_⟩⟩
  · rw [pv, decide_eq_false (by omega)]; rfl
  · rw [pv, decide_eq_false (by omega)]; rfl
  rw [decide_eq_true (by omega), Bool.true_and] at pv
  refine ⟨fun xs => match xs with | [_, .i i] => 0 ≤ i ∧ i ≤ rows.length ∧ possV X begin rows = possL X begin se ph (if 0 < i then (cell_ (rows.getD (i - 1).toNat []) 1).tdiv pe else -1) (rows.drop i.toNat) ∧ (0 < i → 0 ≤ cell_ (rows.getD (i - 1).toNat []) 1 ∧ cell_ (rows.getD (i - 1).toNat []) 1 ≤ 40000) | _ => False, fun xs => match xs with | [_, .i i] => ((rows.length : Int) - i).toNat | _ => 0, ⟨by omega, by omega, by rw [pv]; rfl, fun h => by omega⟩, ?_⟩
  rintro z i _ _ ⟨i0, i1, hI, hL⟩
  refine ⟨fun hlt => ⟨i0, hlt, ?_⟩, fun hge => ?_⟩
  · have hz : i.toNat < rows.length := by omega
    rw [drop_getD hz, possL, epe] at hI
    generalize hrow : rows.getD i.toNat [] = row at *
    generalize hla : (if 0 < i then (cell_ (rows.getD (i - 1).toNat []) 1).tdiv pe else -1) = last at *
    have no_ : ¬ stepV X begin se ph last row → false = possV X begin rows := fun h => by rw [hI, decide_eq_false h]; rfl
    have nx : rows.getD (i + 1 - 1).toNat [] = row := by rw [show (i + 1 - 1).toNat = i.toNat by omega]; exact hrow
    have back : stepV X begin se ph last row → (0 ≤ i + 1 ∧ i + 1 ≤ rows.length ∧ possV X begin rows = possL X begin se ph (if 0 < i + 1 then (cell_ (rows.getD (i + 1 - 1).toNat []) 1).tdiv pe else -1) (rows.drop (i + 1).toNat) ∧ (0 < i + 1 → 0 ≤ cell_ (rows.getD (i + 1 - 1).toNat []) 1 ∧ cell_ (rows.getD (i + 1 - 1).toNat []) 1 ≤ 40000)) ∧ ((rows.length : Int) - (i + 1)).toNat < ((rows.length : Int) - i).toNat := fun h => by
      refine ⟨⟨by omega, by omega, ?_, fun _ => ?_⟩, by omega⟩
      · rw [nx, if_pos (by omega), hI, decide_eq_true h, Bool.true_and, show (i + 1).toNat = i.toNat + 1 by omega]
      · rw [nx]; exact ⟨((hst _ _).1 h).1, ((hst _ _).1 h).2.1⟩
    rw [hst] at no_
    have hst' := hst last row
    have tq : 0 ≤ cell_ row 1 → cell_ row 1 ≤ 40000 → 0 ≤ (cell_ row 1).tdiv pe ∧ (cell_ row 1).tdiv pe ≤ 40000 := fun a b => by
      rw [Int.tdiv_eq_ediv_of_nonneg a]
      have := (ediv_bd (a := cell_ row 1) (b := pe) (by omega)).1 a
      omega
    have fin : ∀ (hpos : stepV X begin se ph last row ↔ measV no st ch r g (cell_ row 1 - begin) (cell_ row 2)) (t : Bool), t = decide (measV no st ch r g (cell_ row 1 - begin) (cell_ row 2)) → (t = false → ¬ stepV X begin se ph last row) ∧ (t = true → stepV X begin se ph last row) := fun hpos t ht => by
      subst ht
      exact ⟨fun h => fun h' => absurd (hpos.1 h') (by simpa using h), fun h => hpos.2 (by simpa using h)⟩
    refine ⟨fun h => no_ fun h' => (by have := h h'.1; have := h'.2.1; omega), fun ht => ?_⟩
    obtain ⟨t0, t1⟩ := ht
    obtain ⟨q0, q1⟩ := tq t0 t1
    refine ⟨by omega, fun h => no_ fun h' => h h'.2.2.1, fun hs1 => ⟨by omega, by omega, by omega, fun h => no_ fun h' => h h'.2.2.2.1, fun hp1 => ⟨fun hpos => ?_, fun hnp => ?_⟩⟩⟩
    · rw [if_pos hpos] at hla
      rw [hla]
      have lq : 0 ≤ last ∧ last ≤ 40000 := by
        obtain ⟨l0, l1⟩ := hL hpos
        rw [← hla, Int.tdiv_eq_ediv_of_nonneg l0]
        have := (ediv_bd (a := cell_ (rows.getD (i - 1).toNat []) 1) (b := pe) (by omega)).1 l0
        omega
      refine ⟨by omega, by omega, by omega, by omega, by omega, by omega, fun h => no_ fun h' => (by have := h'.2.2.2.2.1; omega), fun g1 => ⟨by omega, fun h => no_ fun h' => (by have := h'.2.2.2.2.2.1; omega), fun g2 => ?_⟩⟩
      refine ⟨by omega, by omega, ⟨ok, by omega, by omega⟩, fun t ht => ?_⟩
      have f := fin (hst'.trans ⟨fun h => h.2.2.2.2.2.2, fun h => ⟨t0, t1, hs1, hp1, by omega, by omega, h⟩⟩) t ht
      exact ⟨fun h => no_ fun h' => f.1 h (hst'.2 h'), fun h => back (f.2 h)⟩
    · rw [if_neg (by omega)] at hla
      subst hla
      repeat (refine And.intro (by omega) ?_)
      refine fun g1 => ⟨by omega, fun h => no_ fun h' => (by have := h'.2.2.2.2.2.1; omega), fun g2 => ?_⟩
      refine ⟨by omega, by omega, ⟨ok, by omega, by omega⟩, fun t ht => ?_⟩
      have f := fin (hst'.trans ⟨fun h => h.2.2.2.2.2.2, fun h => ⟨t0, t1, hs1, hp1, by omega, by omega, h⟩⟩) t ht
      exact ⟨fun h => no_ fun h' => f.1 h (hst'.2 h'), fun h => back (f.2 h)⟩
  · rw [show i.toNat = rows.length by omega, List.drop_length] at hI
    rw [hI]; rfl
end Go.Proofs.Ytlbgcjpkegpmlaa
/- Maps with numbers as keys: what a block holds, looked up, written, ranged over. -/
namespace Go.Proofs.Ytlbgcjpkegpmlaa
open Go.RowKit
open Go.ChangeMaps (setBlock heap_setBlock_same heap_setBlock_other)
set_option linter.unusedSimpArgs false
set_option linter.unusedVariables false

abbrev Prs := List (Int × Value)
def valAt : Prs → Int → Value → Value
  | [], _, z => z
  | (j, v) :: l, k, z => if j = k then v else valAt l k z
def putG : Prs → Int → Value → Prs
  | [], k, v => [(k, v)]
  | (j, u) :: l, k, v => if j = k then (k, v) :: l else (j, u) :: putG l k v
theorem valAt_none {k : Int} {z : Value} : ∀ {G : Prs}, (∀ g ∈ G, g.1 ≠ k) → valAt G k z = z
  | [], _ => rfl
  | (j, v) :: l, h => by
    simp only [valAt, if_neg (h (j, v) (by simp))]
    exact valAt_none fun g hg => h g (by simp [hg])
theorem valAt_some {k : Int} {v z : Value} : ∀ {G : Prs}, (G.map (·.1)).Nodup → (k, v) ∈ G → valAt G k z = v
  | [], _, h => by cases h
  | (j, u) :: l, hn, h => by
    simp only [List.map_cons, List.nodup_cons] at hn
    rcases List.mem_cons.1 h with h | h
    · cases h; simp [valAt]
    · have : j ≠ k := fun e => hn.1 (e ▸ List.mem_map_of_mem (f := (·.1)) h)
      simp only [valAt, if_neg this]
      exact valAt_some hn.2 h
theorem putG_none {k : Int} {v : Value} : ∀ {G : Prs}, (∀ g ∈ G, g.1 ≠ k) → putG G k v = G ++ [(k, v)]
  | [], _ => rfl
  | (j, u) :: l, h => by
    simp only [putG, if_neg (h (j, u) (by simp)), List.cons_append]
    rw [putG_none fun g hg => h g (by simp [hg])]
theorem putG_set {k : Int} {v : Value} : ∀ {G : Prs}, (G.map (·.1)).Nodup → ∀ {i : Nat} {u : Value}, G[i]? = some (k, u) → putG G k v = G.set i (k, v)
  | [], _, i, u, h => by simp at h
  | (j, w) :: l, hn, 0, u, h => by simp at h; obtain ⟨rfl, rfl⟩ := h; simp [putG]
  | (j, w) :: l, hn, i + 1, u, h => by
    simp only [List.map_cons, List.nodup_cons] at hn
    have h : l[i]? = some (k, u) := by simpa using h
    have : j ≠ k := fun e => hn.1 (e ▸ List.mem_map_of_mem (f := (·.1)) (List.mem_of_getElem? h))
    simp only [putG, if_neg this, List.set_cons_succ]
    rw [putG_set hn.2 h]
/-- Who stands in the map behind a store. -/
theorem putG_mem {k : Int} {v : Value} : ∀ {G : Prs} {g : Int × Value}, (G.map (·.1)).Nodup → (g ∈ putG G k v ↔ g = (k, v) ∨ (g ∈ G ∧ g.1 ≠ k))
  | [], g, _ => by simp [putG]
  | (j, u) :: l, g, hn => by
    simp only [List.map_cons, List.nodup_cons] at hn
    by_cases e : j = k
    · subst e
      simp only [putG, if_true, List.mem_cons]
      constructor
      · rintro (h | h)
        · exact .inl h
        · exact .inr ⟨.inr h, fun e => hn.1 (e ▸ List.mem_map_of_mem (f := (·.1)) h)⟩
      · rintro (h | ⟨h | h, h'⟩)
        · exact .inl h
        · subst h; exact absurd rfl h'
        · exact .inr h
    · simp only [putG, if_neg e, List.mem_cons, putG_mem hn.2]
      constructor
      · rintro (h | h | h)
        · subst h; exact .inr ⟨.inl rfl, e⟩
        · exact .inl h
        · exact .inr ⟨.inr h.1, h.2⟩
      · rintro (h | ⟨h | h, h'⟩)
        · exact .inr (.inl h)
        · exact .inl h
        · exact .inr (.inr ⟨h, h'⟩)
theorem putG_keys {k : Int} {v : Value} : ∀ {G : Prs}, (G.map (·.1)).Nodup → ((putG G k v).map (·.1)).Nodup
  | [], _ => by simp [putG]
  | (j, u) :: l, hn => by
    have hn' := hn
    simp only [List.map_cons, List.nodup_cons] at hn
    by_cases e : j = k
    · subst e; simpa [putG] using hn'
    · simp only [putG, if_neg e, List.map_cons, List.nodup_cons]
      refine ⟨fun hm => ?_, putG_keys hn.2⟩
      obtain ⟨g, hg, hj⟩ := List.mem_map.1 hm
      rcases (putG_mem hn.2).1 hg with rfl | ⟨hg, -⟩
      · exact e hj.symm
      · exact hn.1 (hj ▸ List.mem_map_of_mem (f := (·.1)) hg)
theorem putG_len {k : Int} {v : Value} : ∀ {G : Prs}, (putG G k v).length ≤ G.length + 1
  | [] => by simp [putG]
  | (j, u) :: l => by
    by_cases e : j = k
    · simp [putG, if_pos e]
    · simp only [putG, if_neg e, List.length_cons]
      have := @putG_len k v l
      omega

def PairsOf (es : Array MapEntry) (G : Prs) : Prop := es.toList.map (fun x => (x.key, x.val)) = G.map fun g => (Value.int .i64 g.1, g.2)
/-- A map's block, by its entries. -/
def MapAt (w : World) (b : Nat) (G : Prs) : Prop := ∃ es clock, w.heap[b]? = some (.map es clock) ∧ es.size ≤ maxLen ∧ MapKept.Stamped es clock ∧ PairsOf es G
theorem PairsOf.nodup {es : Array MapEntry} {G : Prs} {clock : Nat} (h : PairsOf es G) (hs : MapKept.Stamped es clock) : (G.map (·.1)).Nodup := by
  have h1 : es.toList.map (·.key) = G.map fun g => Value.int .i64 g.1 := by
    have := congrArg (List.map Prod.fst) h
    simpa [List.map_map, Function.comp_def] using this
  have h2 := hs.2.2
  rw [h1] at h2
  have e : (G.map fun g => Value.int .i64 g.1) = (G.map (·.1)).map (Value.int .i64) := by simp [List.map_map, Function.comp_def]
  rw [e] at h2
  exact (List.pairwise_map.1 h2).imp fun h e => h (by rw [e])
theorem PairsOf.at {es : Array MapEntry} {G : Prs} (h : PairsOf es G) {j : Nat} {x : MapEntry} (hx : es.toList[j]? = some x) : ∃ g, G[j]? = some g ∧ x.key = .int .i64 g.1 ∧ x.val = g.2 := by
  have := congrArg (fun l => l[j]?) h
  simp only [List.getElem?_map, hx, Option.map_some] at this
  cases hg : G[j]? with
  | none => rw [hg] at this; cases this
  | some g => rw [hg] at this; simp only [Option.map_some, Option.some.injEq, Prod.mk.injEq] at this; exact ⟨g, rfl, this.1, this.2⟩
theorem PairsOf.of {es : Array MapEntry} {G : Prs} (h : PairsOf es G) {j : Nat} {g : Int × Value} (hg : G[j]? = some g) : ∃ x, es.toList[j]? = some x ∧ x.key = .int .i64 g.1 ∧ x.val = g.2 := by
  have := congrArg (fun l => l[j]?) h
  simp only [List.getElem?_map, hg, Option.map_some] at this
  cases hx : es.toList[j]? with
  | none => rw [hx] at this; cases this
  | some x => rw [hx] at this; simp only [Option.map_some, Option.some.injEq, Prod.mk.injEq] at this; exact ⟨x, rfl, this.1, this.2⟩
theorem PairsOf.key {es : Array MapEntry} {G : Prs} (h : PairsOf es G) {x : MapEntry} (hx : x ∈ es.toList) : ∃ g ∈ G, x.key = .int .i64 g.1 ∧ x.val = g.2 := by
  obtain ⟨j, hj, e⟩ := List.getElem_of_mem hx
  obtain ⟨g, hg, h1, h2⟩ := h.at (show es.toList[j]? = some x by rw [List.getElem?_eq_getElem hj, e])
  exact ⟨g, List.mem_of_getElem? hg, h1, h2⟩
section
variable {P : Program} {t k e : TypeId} (ht : P.underlying t = some (.map k e)) (hk : P.underlying k = some (.int .i64)) {w : World} {b : Nat} {G : Prs}
theorem lit_wf {n : Int} (h : -9223372036854775808 ≤ n ∧ n ≤ 9223372036854775807) : (Lit.int .i64 n).wf = true := by
  have e1 : IntKind.i64.min = -9223372036854775808 := rfl
  have e2 : IntKind.i64.max = 9223372036854775807 := rfl
  simp [Lit.wf, e1, e2]
  omega
theorem MapAt.lt (h : MapAt w b G) : b < w.heap.size := by obtain ⟨es, clock, hb, -⟩ := h; exact (Array.getElem?_eq_some_iff.1 hb).1
theorem MapAt.nodup (h : MapAt w b G) : (G.map (·.1)).Nodup := by obtain ⟨es, clock, -, -, hs, hp⟩ := h; exact hp.nodup hs
theorem MapAt.kept {w' : World} (h : MapAt w b G) (hb : w'.heap[b]? = w.heap[b]?) : MapAt w' b G := by obtain ⟨es, clock, h1, h2⟩ := h; exact ⟨es, clock, hb.trans h1, h2⟩
theorem MapAt.made (w : World) : MapAt (w.alloc (.map #[] 0)) w.heap.size [] := ⟨#[], 0, (MapKept.heap_alloc w _).1, by simp, MapKept.stamped_empty 0, rfl⟩
include ht hk
theorem MapAt.look (h : MapAt w b G) (hG : ∀ g ∈ G, -9223372036854775808 ≤ g.1 ∧ g.1 ≤ 9223372036854775807) {n : Int} (hn : -9223372036854775808 ≤ n ∧ n ≤ 9223372036854775807) {z : Value} (hz : (zeroValue e).run P w = .ok z w) : (Instr.lookup t (.map (some b)) (.int .i64 n) false).run P w = .ok (valAt G n z) w := by
  obtain ⟨es, clock, hb, hsz, hst, hp⟩ := h
  have K := Maps.int_keyed hk
  have hkey := Maps.keyOf_int_mk hk (lit_wf hn)
  rcases K.find w hkey es.toList (fun x hx => by
    obtain ⟨g, hg, h1, -⟩ := hp.key hx
    rw [h1]
    exact ⟨_, Maps.keyOf_int_mk hk (lit_wf (hG g hg))⟩) with ⟨h1, h2⟩ | ⟨j, e0, h1, h2, h3⟩
  · rw [valAt_none fun g hg hgn => ?_]
    · simp [Instr.lookup, run_underlying ht, MapKept.run_getObj_map hb, K.check w _ hkey, h1, hz, Result.andThen]
    · obtain ⟨j, hj, ej⟩ := List.getElem_of_mem hg
      obtain ⟨x, hx, hx1, -⟩ := hp.of (show G[j]? = some g by rw [List.getElem?_eq_getElem hj, ej])
      exact h2 x (List.mem_of_getElem? hx) (by rw [hx1, hgn])
  · obtain ⟨g, hg, hg1, hg2⟩ := hp.at h2
    rw [h3] at hg1
    cases hg1
    rw [valAt_some (hp.nodup hst) (show (g.1, e0.val) ∈ G by rw [hg2]; exact List.mem_of_getElem? hg)]
    simp [Instr.lookup, run_underlying ht, MapKept.run_getObj_map hb, K.check w _ hkey, h1, Result.andThen]
theorem MapAt.store (h : MapAt w b G) (hG : ∀ g ∈ G, -9223372036854775808 ≤ g.1 ∧ g.1 ≤ 9223372036854775807) (hroom : G.length < maxLen) {n : Int} (hn : -9223372036854775808 ≤ n ∧ n ≤ 9223372036854775807) (v : Value) :
    ∃ o, (Instr.mapUpdate t (.map (some b)) (.int .i64 n) v).run P w = .ok () (setBlock w b o) ∧ MapAt (setBlock w b o) b (putG G n v) ∧ ∀ i, i ≠ b → (setBlock w b o).heap[i]? = w.heap[i]? := by
  obtain ⟨es, clock, hb, hsz, hst, hp⟩ := h
  have K := Maps.int_keyed hk
  have hkey := Maps.keyOf_int_mk hk (lit_wf hn)
  have hlen : es.size = G.length := by have := congrArg List.length hp; simpa using this
  rcases K.find w hkey es.toList (fun x hx => by
    obtain ⟨g, hg, h1, -⟩ := hp.key hx
    rw [h1]
    exact ⟨_, Maps.keyOf_int_mk hk (lit_wf (hG g hg))⟩) with ⟨h1, h2⟩ | ⟨j, e0, h1, h2, h3⟩
  · refine ⟨.map (es.push ⟨.int .i64 n, v, clock⟩) (clock + 1), ?_, ⟨_, _, heap_setBlock_same hb _, by simp; omega, MapKept.stamped_push hst h2, ?_⟩, fun i hi => heap_setBlock_other hb _ hi⟩
    · simp [Instr.mapUpdate, run_underlying ht, MapKept.run_getObj_map hb, K.check w false hkey, h1, MapKept.run_setObj_map _ hb, Result.andThen, setBlock]
    · rw [putG_none fun g hg hgn => ?_]
      · unfold PairsOf at hp ⊢
        simp [hp]
      · obtain ⟨j, hj, ej⟩ := List.getElem_of_mem hg
        obtain ⟨x, hx, hx1, -⟩ := hp.of (show G[j]? = some g by rw [List.getElem?_eq_getElem hj, ej])
        exact h2 x (List.mem_of_getElem? hx) (by rw [hx1, hgn])
  · have hj : es[j]? = some e0 := by simpa using h2
    obtain ⟨g, hg, hg1, hg2⟩ := hp.at h2
    rw [h3] at hg1
    cases hg1
    refine ⟨.map (es.modify j (fun e' => { e' with key := .int .i64 g.1, val := v })) clock, ?_, ⟨_, _, heap_setBlock_same hb _, by simpa using hsz, MapKept.stamped_modify hst _ _ (fun _ _ => rfl) (fun e' _ he' => by rw [hj] at he'; cases he'; exact h3.symm), ?_⟩, fun i hi => heap_setBlock_other hb _ hi⟩
    · simp [Instr.mapUpdate, run_underlying ht, MapKept.run_getObj_map hb, K.check w false hkey, h1, hj, h3, K.stays w hkey, MapKept.run_setObj_map _ hb, Result.andThen, setBlock]
    · rw [putG_set (hp.nodup hst) (show G[j]? = some (g.1, g.2) from hg)]
      unfold PairsOf at hp ⊢
      have hlist : (es.modify j (fun e' => { e' with key := Value.int .i64 g.1, val := v })).toList = es.toList.set j { e0 with key := .int .i64 g.1, val := v } := by
        rw [Array.toList_modify]
        apply List.ext_getElem?
        intro i
        simp only [List.getElem?_modify, List.getElem?_set]
        by_cases hij : j = i
        · subst hij
          simp only [if_true, h2, Option.map_some]
          have : j < es.toList.length := (List.getElem?_eq_some_iff.1 h2).1
          rw [if_pos (by simpa using this)]
          rfl
        · simp [hij]
      rw [hlist, List.map_set, List.map_set, hp]
omit ht hk in
/-- An iterator over a map: which keys it has handed out. -/
def IterAt (w : World) (r b : Nat) (G : Prs) (seen : List Int) : Prop :=
  ∃ es clock since sn c0, w.heap[b]? = some (.map es clock) ∧ MapKept.Stamped es clock ∧ PairsOf es G ∧ w.heap[r]? = some (.mapIter (some b) since sn c0) ∧ (∀ x ∈ es.toList, x.born < since) ∧ since ≤ c0 ∧ since ≤ clock ∧ ∀ x ∈ es.toList, ∀ g ∈ G, x.key = .int .i64 g.1 → (sn.contains x.born = true ↔ g.1 ∈ seen)
end
section
variable {P : Program} {t k e : TypeId} {w : World} {b r : Nat} {G : Prs} {seen : List Int}
theorem IterAt.kept {w' : World} (h : IterAt w r b G seen) (hb : w'.heap[b]? = w.heap[b]?) (hr : w'.heap[r]? = w.heap[r]?) : IterAt w' r b G seen := by
  obtain ⟨es, clock, since, sn, c0, h1, h2, h3, h4, h5⟩ := h
  exact ⟨es, clock, since, sn, c0, hb.trans h1, h2, h3, hr.trans h4, h5⟩
theorem IterAt.start (ht : P.underlying t = some (.map k e)) (h : MapAt w b G) : ∃ o, (Instr.range t (.map (some b))).run P w = .ok (.pointer (some ⟨w.heap.size, 0, none⟩)) (w.alloc o) ∧ IterAt (w.alloc o) w.heap.size b G [] := by
  obtain ⟨es, clock, hb, hsz, hst, hp⟩ := h
  have hlt : b < w.heap.size := (Array.getElem?_eq_some_iff.1 hb).1
  refine ⟨.mapIter (some b) clock #[] clock, run_range_map w t k e b es clock ht hb, es, clock, clock, #[], clock, (heap_alloc_old w _ hlt).trans hb, hst, hp, heap_alloc_new w _, hst.1, Nat.le_refl _, Nat.le_refl _, fun x hx g hg hxg => by simp⟩
/-- The next round: nothing is left, or some key comes that had not come. -/
theorem IterAt.next (ty : TypeId) (hbr : b ≠ r) (h : IterAt w r b G seen) :
    ((∀ g ∈ G, g.1 ∈ seen) ∧ (Instr.next (.pointer (some ⟨r, 0, none⟩)) false ty).run P w = .ok (.tuple #[.bool false]) w) ∨
    ∃ g ∈ G, g.1 ∉ seen ∧ ∃ w', (Instr.next (.pointer (some ⟨r, 0, none⟩)) false ty).run P w = .ok (.tuple #[.bool true, .int .i64 g.1, g.2]) w' ∧ IterAt w' r b G (g.1 :: seen) ∧
      w'.heap.size = w.heap.size ∧ (∀ i, i ≠ r → w'.heap[i]? = w.heap[i]?) ∧ w'.os = w.os ∧ w'.tape = w.tape ∧ w'.output = w.output ∧
      ∀ u, u.heap[b]? = w'.heap[b]? → u.heap[r]? = w'.heap[r]? → (Instr.entry (.pointer (some ⟨r, 0, none⟩))).run P u = .ok (.tuple #[.int .i64 g.1, g.2]) u := by
  obtain ⟨es, clock, since, sn, c0, hb, hst, hp, hr, hold, hsc, hcl, hseen⟩ := h
  rcases run_next_at (P := P) w ty r b since c0 sn es clock hr hb hold hsc with ⟨h0, hrun⟩ | ⟨x, hx, w1, hw1, hrun⟩
  · refine .inl ⟨fun g hg => ?_, hrun⟩
    obtain ⟨j, hj, ej⟩ := List.getElem_of_mem hg
    obtain ⟨x, hx, hx1, -⟩ := hp.of (show G[j]? = some g by rw [List.getElem?_eq_getElem hj, ej])
    have hxm := List.mem_of_getElem? hx
    exact (hseen x hxm g hg hx1).1 (all_seen es sn h0 x hxm)
  · obtain ⟨hxm, hxs⟩ := mem_left hx
    obtain ⟨g, hg, hg1, hg2⟩ := hp.key hxm
    have hns : g.1 ∉ seen := fun hin => by rw [(hseen x hxm g hg hg1).2 hin] at hxs; cases hxs
    have hr1 : w1.heap[r]? = some (.mapIter (some b) since sn c0) := by rcases hw1 with rfl | rfl <;> exact hr
    have hw1h : w1.heap = w.heap := by rcases hw1 with rfl | rfl <;> rfl
    have hset : ∀ i, i ≠ r → (setBlock w1 r (.mapIter (some b) since (sn.push x.born) clock)).heap[i]? = w.heap[i]? := fun i hi => by
      simp only [setBlock, Array.getElem?_setIfInBounds, if_neg (Ne.symm hi), hw1h]
    have hsame : (setBlock w1 r (.mapIter (some b) since (sn.push x.born) clock)).heap[r]? = some (.mapIter (some b) since (sn.push x.born) clock) := by
      have : r < w1.heap.size := (Array.getElem?_eq_some_iff.1 hr1).1
      simp [setBlock, this]
    refine .inr ⟨g, hg, hns, setBlock w1 r (.mapIter (some b) since (sn.push x.born) clock), by rw [hrun, hg1, hg2], ?_, by simp [setBlock, hw1h], hset, ?_, ?_, ?_, ?_⟩
    · refine ⟨es, clock, since, sn.push x.born, clock, (hset b hbr).trans hb, hst, hp, hsame, hold, hcl, hcl, fun y hy g' hg' hyg => ?_⟩
      · rw [contains_push]
        simp only [Bool.or_eq_true, beq_iff_eq, List.mem_cons]
        rw [hseen y hy g' hg' hyg]
        have hnod := hst.2.1
        constructor
        · rintro (h | h)
          · exact .inr h
          · have := born_inj hnod hy hxm h
            subst this
            rw [hyg] at hg1
            exact .inl (by simpa using hg1)
        · rintro (h | h)
          · have hkk : y.key = x.key := by rw [hyg, hg1, h]
            have hpk : es.toList.Pairwise (fun x y => x.key ≠ y.key) := ((MapKept.stamped_iff es clock).1 hst).2.2
            refine .inr ?_
            rw [entry_eq_of_key hpk hy hxm hkk]
          · exact .inl h
    · rcases hw1 with rfl | rfl <;> rfl
    · rcases hw1 with rfl | rfl <;> rfl
    · rcases hw1 with rfl | rfl <;> rfl
    · intro u hub hur
      rw [← hg1, ← hg2]
      exact run_entry_at u r b since sn es clock x (hur.trans hsame) (hub.trans ((hset b hbr).trans hb)) hxm hst.2.1
end
end Go.Proofs.Ytlbgcjpkegpmlaa
