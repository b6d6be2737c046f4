/- Texts laid into one: XBA XBB XS4 XT6 XC1 XC2 XS5 XS6 XT7 XM2 XC3 XC4 Fz XS7 XTF XD1 XD9 XTE XTA XT9 XM3 XC5 XD2 XD3 XT8. -/
import Derived.Test.YtmdmgpikbebejaaWindow8
import Derived.TacticsInMore
import Derived.LoopIn
import Derived.OwnWalkIn
import Derived.WalkKit
/- Kill: a moment while the gas is pushed back; moments. -/
namespace Go.Proofs.Ytmdmgpikbebejaa
open Go.RowKit
set_option linter.unusedSimpArgs false
set_option linter.unusedVariables false

set_option maxHeartbeats 1000000 in
theorem psh_ok : tab3.ok 60 := by
  refine Tab.of_ct rfl rfl ⟨_, Try.func60, by decide, rfl⟩ ?_ (fun h => by cases h)
  refine ct_ok (cx := cpsh) (Tab.cx_ok (all_cons jht_ok (all_cons gas_ok (all_cons exact_ok (all_cons under_ok (all_cons less_ok (all_cons join_ok (all_cons minus_ok all_nil))))))) fxpsh) Try.func60 (bds := []) (T := tpsh) (by kernel_rfl) ?_
  have h1 : cpsh.ct 75 = some ctJHeight := rfl
  have h2 : cpsh.ct 80 = some ctExact := rfl
  have h3 : cpsh.ct 74 = some ctGas := rfl
  have h4 : cpsh.ct 81 = some ctMinus := rfl
  have h5 : cpsh.ct 78 = some ctUnder := rfl
  have h6 : cpsh.ct 79 = some ctLess := rfl
  have h7 : cpsh.ct 76 = some ctJoin := rfl
  unfold tpsh
  simp only [VC, allC, List.map_cons, List.map_nil, List.length_cons, List.length_nil, List.getElem?_cons_zero, List.getElem?_cons_succ, List.cons.injEq, C.i.injEq, C.b.injEq, and_true, true_and, forall_const, kindsOf_nil, kindsOf_lf, kindsOf_agg, kindsOf_box, boxKinds_nil, boxKinds_lf, boxKinds_agg, boxKinds_box, List.append_nil, List.cons_append, List.nil_append, den_cmp_le, den_cmp_lt, den_cmp_eq, den_cmp_ne, den_cmp_le', den_cmp_lt', den_cmp_eq', den_cmp_ne', den_and, den_and', den_or, den_or', den_not, den_not', den_blit, den_of, ev_var, at_0, at_1, at_2, at_3, at_4, at_5, at_6, at_7, at_skip, c_int, c_bool, c_arr, c_cnt, c_vec, ev_nil, ev_join, ev_sub3, loc_s, int_i, bool_b, rows_s, cs_nil, cs_cons, E.den_lit, E.den_var, E.den_add, E.den_sub, E.den_mul, E.den_quo, E.den_rem, E.den_max, E.den_min, E.den_len, E.den_wr, E.den_cell, ev_cell, kn1, kn2, Nat.reduceAdd, h1, h2, h3, h4, h5, h6, h7, ctJHeight, ctGas, ctExact, ctMinus, ctUnder, ctLess, ctJoin, ctF, jobSh, rangeSh, momSh, momKs, kn_, n_, k_, ofKn, ctPushed]
  rintro u1 r1 _ _ _ w _ _ u2 r2 _ _ _ li _ _ pi _ _ st _ _ ka _ _ kb _ _ kc _ _ kd _ _ v _ _ po _ _ u3 r3 _ _ _ ro _ _ m _ _ b _ _ ⟨hj, hm, hb⟩
  obtain ⟨j, hjd⟩ : ∃ j, j = jobOf [.s u1 r1, .i w, .s u2 r2, .i li, .i pi, .i st, .i ka, .i kb, .i kc, .i kd, .i v, .i po, .s u3 r3, .i ro, .i m, .i b] 0 := ⟨_, rfl⟩
  rw [← hjd]
  have hf : JF j := by rw [hjd]; exact hj.jf
  have hm1 : 0 ≤ m := hm.1
  have hm2 : m ≤ 4398046511104 := hm.2
  have hro : ro = volV j.w.segs := by rw [hjd]; exact hj.2.2
  have hvn : 0 ≤ volV j.w.segs ∧ volV j.w.segs ≤ 5242880000 := ⟨by have := hf.step; omega, hf.room⟩
  have hline : ∀ u, atV (knots r3) u = htV j.w.segs u := fun u => by rw [hjd]; exact congrArg (fun l => atV l u) hj.2.1
  have hwt : j.w.weight = w := by rw [hjd]; rfl
  have hpw : j.p.weight = kb := by rw [hjd]; rfl
  have hpts : j.w.points = knots r2 := by rw [hjd]; rfl
  have hlen := knots_len r2
  have hw : 0 ≤ w ∧ w ≤ 40000 := hwt ▸ hf.weight
  have hp : 0 ≤ kb ∧ kb ≤ 40000 := hpw ▸ hf.pweight
  have hh : ∀ x, HtOK (htV j.w.segs x) := ht_ok hf.hole
  have hg := gasK_bd hf.vol hf.pore (b, b)
  have he := exact_bd hb
  have hpl := hf.len
  have hed : max 0 (ro - m) = edgeV j m := by rw [hro]; rfl
  have hedb : 0 ≤ edgeV j m ∧ edgeV j m ≤ 5242880000 := by unfold edgeV; omega
  refine ⟨bds_nil _, ?_⟩
  rintro x1 _ _ x2 _ _ ⟨e1, e2⟩
  cases e1.symm
  cases e2.symm
  unfold tpsh_12
  simp only [VC, allC, List.map_cons, List.map_nil, List.length_cons, List.length_nil, List.getElem?_cons_zero, List.getElem?_cons_succ, List.cons.injEq, C.i.injEq, C.b.injEq, and_true, true_and, forall_const, kindsOf_nil, kindsOf_lf, kindsOf_agg, kindsOf_box, boxKinds_nil, boxKinds_lf, boxKinds_agg, boxKinds_box, List.append_nil, List.cons_append, List.nil_append, den_cmp_le, den_cmp_lt, den_cmp_eq, den_cmp_ne, den_cmp_le', den_cmp_lt', den_cmp_eq', den_cmp_ne', den_and, den_and', den_or, den_or', den_not, den_not', den_blit, den_of, ev_var, at_0, at_1, at_2, at_3, at_4, at_5, at_6, at_7, at_skip, c_int, c_bool, c_arr, c_cnt, c_vec, ev_nil, ev_join, ev_sub3, loc_s, int_i, bool_b, rows_s, cs_nil, cs_cons, E.den_lit, E.den_var, E.den_add, E.den_sub, E.den_mul, E.den_quo, E.den_rem, E.den_max, E.den_min, E.den_len, E.den_wr, E.den_cell, ev_cell, kn1, kn2, Nat.reduceAdd, h1, h2, h3, h4, h5, h6, h7, ctJHeight, ctGas, ctExact, ctMinus, ctUnder, ctLess, ctJoin, ctF, jobSh, rangeSh, momSh, momKs, kn_, n_, k_, ofKn]
  refine ⟨⟨hj, he.ok (by decide) (by decide)⟩, ?_⟩
  rintro g1 _ _ g2 _ _ ⟨e1, e2⟩
  have e1 : g1 = (gasK j.k (b, b)).1 := by rw [e1, hjd]; rfl
  have e2 : g2 = (gasK j.k (b, b)).2 := by rw [e2, hjd]; rfl
  subst e1 e2
  refine ⟨⟨⟨hg.1, by show (gasK j.k (b, b)).1 ≤ _; omega, hg.2.2.1, by show (gasK j.k (b, b)).2 ≤ _; omega⟩, hm⟩, ?_⟩
  rintro g1 _ _ g2 _ _ ⟨e1, e2⟩
  have e1 : g1 = (pgasV j m b).1 := e1
  have e2 : g2 = (pgasV j m b).2 := e2
  subst e1 e2
  unfold tpsh_11
  simp only [VC, allC, List.map_cons, List.map_nil, List.length_cons, List.length_nil, List.getElem?_cons_zero, List.getElem?_cons_succ, List.cons.injEq, C.i.injEq, C.b.injEq, and_true, true_and, forall_const, kindsOf_nil, kindsOf_lf, kindsOf_agg, kindsOf_box, boxKinds_nil, boxKinds_lf, boxKinds_agg, boxKinds_box, List.append_nil, List.cons_append, List.nil_append, den_cmp_le, den_cmp_lt, den_cmp_eq, den_cmp_ne, den_cmp_le', den_cmp_lt', den_cmp_eq', den_cmp_ne', den_and, den_and', den_or, den_or', den_not, den_not', den_blit, den_of, ev_var, at_0, at_1, at_2, at_3, at_4, at_5, at_6, at_7, at_skip, c_int, c_bool, c_arr, c_cnt, c_vec, ev_nil, ev_join, ev_sub3, loc_s, int_i, bool_b, rows_s, cs_nil, cs_cons, E.den_lit, E.den_var, E.den_add, E.den_sub, E.den_mul, E.den_quo, E.den_rem, E.den_max, E.den_min, E.den_len, E.den_wr, E.den_cell, ev_cell, kn1, kn2, Nat.reduceAdd, h1, h2, h3, h4, h5, h6, h7, ctJHeight, ctGas, ctExact, ctMinus, ctUnder, ctLess, ctJoin, ctF, jobSh, rangeSh, momSh, momKs, kn_, n_, k_, ofKn, hline]
  refine ⟨⟨by omega, by omega⟩, ?_⟩
  rintro t1 _ _ t2 _ _ ⟨rfl, rfl⟩
  unfold tpsh_10
  simp only [VC, allC, List.map_cons, List.map_nil, List.length_cons, List.length_nil, List.getElem?_cons_zero, List.getElem?_cons_succ, List.cons.injEq, C.i.injEq, C.b.injEq, and_true, true_and, forall_const, kindsOf_nil, kindsOf_lf, kindsOf_agg, kindsOf_box, boxKinds_nil, boxKinds_lf, boxKinds_agg, boxKinds_box, List.append_nil, List.cons_append, List.nil_append, den_cmp_le, den_cmp_lt, den_cmp_eq, den_cmp_ne, den_cmp_le', den_cmp_lt', den_cmp_eq', den_cmp_ne', den_and, den_and', den_or, den_or', den_not, den_not', den_blit, den_of, ev_var, at_0, at_1, at_2, at_3, at_4, at_5, at_6, at_7, at_skip, c_int, c_bool, c_arr, c_cnt, c_vec, ev_nil, ev_join, ev_sub3, loc_s, int_i, bool_b, rows_s, cs_nil, cs_cons, E.den_lit, E.den_var, E.den_add, E.den_sub, E.den_mul, E.den_quo, E.den_rem, E.den_max, E.den_min, E.den_len, E.den_wr, E.den_cell, ev_cell, kn1, kn2, Nat.reduceAdd, h1, h2, h3, h4, h5, h6, h7, ctJHeight, ctGas, ctExact, ctMinus, ctUnder, ctLess, ctJoin, ctF, jobSh, rangeSh, momSh, momKs, kn_, n_, k_, ofKn, hline]
  rintro t1 _ _ t2 _ _ ⟨rfl, rfl⟩ t3 _ _ t4 _ _ ⟨e1, e2⟩
  have e1 : t3 = (ptopV j m b).1 := e1
  have e2 : t4 = (ptopV j m b).2 := e2
  subst e1 e2
  have htop : HtOK (ptopV j m b) := ⟨(hh _).1, (hh _).2.1, (hh _).2.2.1, (hh _).2.2.2⟩
  rintro vc x2 _ _ x3 _ _ ⟨e1, e2⟩
  cases e1.symm
  cases e2.symm
  unfold tpsh_9
  simp only [VC, allC, List.map_cons, List.map_nil, List.length_cons, List.length_nil, List.getElem?_cons_zero, List.getElem?_cons_succ, List.cons.injEq, C.i.injEq, C.b.injEq, and_true, true_and, forall_const, kindsOf_nil, kindsOf_lf, kindsOf_agg, kindsOf_box, boxKinds_nil, boxKinds_lf, boxKinds_agg, boxKinds_box, List.append_nil, List.cons_append, List.nil_append, den_cmp_le, den_cmp_lt, den_cmp_eq, den_cmp_ne, den_cmp_le', den_cmp_lt', den_cmp_eq', den_cmp_ne', den_and, den_and', den_or, den_or', den_not, den_not', den_blit, den_of, ev_var, at_0, at_1, at_2, at_3, at_4, at_5, at_6, at_7, at_skip, c_int, c_bool, c_arr, c_cnt, c_vec, ev_nil, ev_join, ev_sub3, loc_s, int_i, bool_b, rows_s, cs_nil, cs_cons, E.den_lit, E.den_var, E.den_add, E.den_sub, E.den_mul, E.den_quo, E.den_rem, E.den_max, E.den_min, E.den_len, E.den_wr, E.den_cell, ev_cell, kn1, kn2, Nat.reduceAdd, h1, h2, h3, h4, h5, h6, h7, ctJHeight, ctGas, ctExact, ctMinus, ctUnder, ctLess, ctJoin, ctF, jobSh, rangeSh, momSh, momKs, kn_, n_, k_, ofKn, hline, hed]
  rintro t1 _ _ t2 _ _ ⟨rfl, rfl⟩
  unfold tpsh_8
  simp only [VC, allC, List.map_cons, List.map_nil, List.length_cons, List.length_nil, List.getElem?_cons_zero, List.getElem?_cons_succ, List.cons.injEq, C.i.injEq, C.b.injEq, and_true, true_and, forall_const, kindsOf_nil, kindsOf_lf, kindsOf_agg, kindsOf_box, boxKinds_nil, boxKinds_lf, boxKinds_agg, boxKinds_box, List.append_nil, List.cons_append, List.nil_append, den_cmp_le, den_cmp_lt, den_cmp_eq, den_cmp_ne, den_cmp_le', den_cmp_lt', den_cmp_eq', den_cmp_ne', den_and, den_and', den_or, den_or', den_not, den_not', den_blit, den_of, ev_var, at_0, at_1, at_2, at_3, at_4, at_5, at_6, at_7, at_skip, c_int, c_bool, c_arr, c_cnt, c_vec, ev_nil, ev_join, ev_sub3, loc_s, int_i, bool_b, rows_s, cs_nil, cs_cons, E.den_lit, E.den_var, E.den_add, E.den_sub, E.den_mul, E.den_quo, E.den_rem, E.den_max, E.den_min, E.den_len, E.den_wr, E.den_cell, ev_cell, kn1, kn2, Nat.reduceAdd, h1, h2, h3, h4, h5, h6, h7, ctJHeight, ctGas, ctExact, ctMinus, ctUnder, ctLess, ctJoin, ctF, jobSh, rangeSh, momSh, momKs, kn_, n_, k_, ofKn, hline, hed]
  refine ⟨⟨hh _, htop⟩, ?_⟩
  rintro t1 _ _ t2 _ _ ⟨rfl, rfl⟩ x2 _ _ x3 _ _ ⟨e1, e2⟩
  cases e1.symm
  cases e2.symm
  refine ⟨⟨he.ok (by decide) (by decide), hw, less_ht (hh _) htop⟩, ?_⟩
  rintro t1 _ _ t2 _ _ ⟨rfl, rfl⟩
  unfold tpsh_7
  simp only [VC, allC, List.map_cons, List.map_nil, List.length_cons, List.length_nil, List.getElem?_cons_zero, List.getElem?_cons_succ, List.cons.injEq, C.i.injEq, C.b.injEq, and_true, true_and, forall_const, kindsOf_nil, kindsOf_lf, kindsOf_agg, kindsOf_box, boxKinds_nil, boxKinds_lf, boxKinds_agg, boxKinds_box, List.append_nil, List.cons_append, List.nil_append, den_cmp_le, den_cmp_lt, den_cmp_eq, den_cmp_ne, den_cmp_le', den_cmp_lt', den_cmp_eq', den_cmp_ne', den_and, den_and', den_or, den_or', den_not, den_not', den_blit, den_of, ev_var, at_0, at_1, at_2, at_3, at_4, at_5, at_6, at_7, at_skip, c_int, c_bool, c_arr, c_cnt, c_vec, ev_nil, ev_join, ev_sub3, loc_s, int_i, bool_b, rows_s, cs_nil, cs_cons, E.den_lit, E.den_var, E.den_add, E.den_sub, E.den_mul, E.den_quo, E.den_rem, E.den_max, E.den_min, E.den_len, E.den_wr, E.den_cell, ev_cell, kn1, kn2, Nat.reduceAdd, h1, h2, h3, h4, h5, h6, h7, ctJHeight, ctGas, ctExact, ctMinus, ctUnder, ctLess, ctJoin, ctF, jobSh, rangeSh, momSh, momKs, kn_, n_, k_, ofKn, hline, hed]
  rintro t1 _ _ t2 _ _ ⟨rfl, rfl⟩
  unfold tpsh_6
  simp only [VC, allC, List.map_cons, List.map_nil, List.length_cons, List.length_nil, List.getElem?_cons_zero, List.getElem?_cons_succ, List.cons.injEq, C.i.injEq, C.b.injEq, and_true, true_and, forall_const, kindsOf_nil, kindsOf_lf, kindsOf_agg, kindsOf_box, boxKinds_nil, boxKinds_lf, boxKinds_agg, boxKinds_box, List.append_nil, List.cons_append, List.nil_append, den_cmp_le, den_cmp_lt, den_cmp_eq, den_cmp_ne, den_cmp_le', den_cmp_lt', den_cmp_eq', den_cmp_ne', den_and, den_and', den_or, den_or', den_not, den_not', den_blit, den_of, ev_var, at_0, at_1, at_2, at_3, at_4, at_5, at_6, at_7, at_skip, c_int, c_bool, c_arr, c_cnt, c_vec, ev_nil, ev_join, ev_sub3, loc_s, int_i, bool_b, rows_s, cs_nil, cs_cons, E.den_lit, E.den_var, E.den_add, E.den_sub, E.den_mul, E.den_quo, E.den_rem, E.den_max, E.den_min, E.den_len, E.den_wr, E.den_cell, ev_cell, kn1, kn2, Nat.reduceAdd, h1, h2, h3, h4, h5, h6, h7, ctJHeight, ctGas, ctExact, ctMinus, ctUnder, ctLess, ctJoin, ctF, jobSh, rangeSh, momSh, momKs, kn_, n_, k_, ofKn, hline, hed]
  refine ⟨⟨by omega, by omega⟩, ?_⟩
  rintro t1 _ _ t2 _ _ ⟨rfl, rfl⟩
  refine ⟨⟨hh _, hh _⟩, ?_⟩
  rintro t1 _ _ t2 _ _ ⟨rfl, rfl⟩
  have hub : ∀ u, KnOK (underK (b, b) w (lessK (htV j.w.segs (min u (edgeV j m))) (ptopV j m b))) := fun u => (under_bd he hw (less_ht (hh _) htop)).ok (by decide) (by decide)
  refine ⟨⟨hub _, hp, less_ht (hh _) (hh _)⟩, ?_⟩
  have hat : ∀ u, patV j m b u = underK (underK (b, b) w (lessK (htV j.w.segs (min u (edgeV j m))) (ptopV j m b))) kb (lessK (htV j.w.segs u) (htV j.w.segs (edgeV j m))) := fun u => by rw [← hwt, ← hpw]; rfl
  rintro t1 _ _ t2 _ _ ⟨e1, e2⟩
  have e1 : t1 = (patV j m b ro).1 := by rw [hat]; exact e1
  have e2 : t2 = (patV j m b ro).2 := by rw [hat]; exact e2
  subst e1 e2
  unfold tpsh_5
  simp only [VC, allC, List.map_cons, List.map_nil, List.length_cons, List.length_nil, List.getElem?_cons_zero, List.getElem?_cons_succ, List.cons.injEq, C.i.injEq, C.b.injEq, and_true, true_and, forall_const, kindsOf_nil, kindsOf_lf, kindsOf_agg, kindsOf_box, boxKinds_nil, boxKinds_lf, boxKinds_agg, boxKinds_box, List.append_nil, List.cons_append, List.nil_append, den_cmp_le, den_cmp_lt, den_cmp_eq, den_cmp_ne, den_cmp_le', den_cmp_lt', den_cmp_eq', den_cmp_ne', den_and, den_and', den_or, den_or', den_not, den_not', den_blit, den_of, ev_var, at_0, at_1, at_2, at_3, at_4, at_5, at_6, at_7, at_skip, c_int, c_bool, c_arr, c_cnt, c_vec, ev_nil, ev_join, ev_sub3, loc_s, int_i, bool_b, rows_s, cs_nil, cs_cons, E.den_lit, E.den_var, E.den_add, E.den_sub, E.den_mul, E.den_quo, E.den_rem, E.den_max, E.den_min, E.den_len, E.den_wr, E.den_cell, ev_cell, kn1, kn2, Nat.reduceAdd, h1, h2, h3, h4, h5, h6, h7, ctJHeight, ctGas, ctExact, ctMinus, ctUnder, ctLess, ctJoin, ctF, jobSh, rangeSh, momSh, momKs, kn_, n_, k_, ofKn, hline, hed]
  rw [hpts] at hpl
  refine ⟨fun xs => match xs with | [.i i, .i a1, .i a2, .i a3, .i a4, .i a5, .i a6, .i a7, .s _ rows] => 0 ≤ i ∧ i ≤ (knots r2).length ∧ a1 = m ∧ a2 = (pgasV j m b).1 ∧ a3 = (pgasV j m b).2 ∧ a4 = b ∧ a5 = b ∧ a6 = (patV j m b ro).1 ∧ a7 = (patV j m b ro).2 ∧ knots rows = ((knots r2).take i.toNat).map (fun p => patV j m b p.1) | _ => False, fun xs => match xs with | .i i :: _ => ((r2.length : Int) - i).toNat | _ => 0, ⟨by omega, by omega, rfl, rfl, rfl, rfl, rfl, rfl, rfl, by simp [knots]⟩, ?_⟩
  rintro i _ _ a1 _ _ a2 _ _ a3 _ _ a4 _ _ a5 _ _ a6 _ _ a7 _ _ vr rows _ _ _ ⟨i0, i1, q1, q2, q3, q4, q5, q6, q7, hrows⟩
  cases q1.symm
  cases q2.symm
  cases q3.symm
  cases q4.symm
  cases q5.symm
  cases q6.symm
  cases q7.symm
  have hrl : rows.length = i.toNat := by
    have := congrArg List.length hrows
    rw [knots_len2, List.length_map, List.length_take] at this
    omega
  refine ⟨fun hlt => ⟨i0, hlt, ?_⟩, fun hge => ?_⟩
  · have hnext := map_take_succ (fun p : Kn => patV j m b p.1) (l := knots r2) (i := i.toNat) (by omega) (0, 0)
    have hmu : ((r2.length : Int) - (i + 1)).toNat < ((r2.length : Int) - i).toNat := by omega
    have ei : (i + 1).toNat = i.toNat + 1 := by omega
    obtain ⟨k, hk⟩ : ∃ k, (knots r2).getD i.toNat (0, 0) = k := ⟨_, rfl⟩
    rw [hk] at hnext
    simp only [hk]
    rintro t1 _ _ t2 _ _ ⟨rfl, rfl⟩
    unfold tpsh_4
    simp only [VC, allC, List.map_cons, List.map_nil, List.length_cons, List.length_nil, List.getElem?_cons_zero, List.getElem?_cons_succ, List.cons.injEq, C.i.injEq, C.b.injEq, and_true, true_and, forall_const, kindsOf_nil, kindsOf_lf, kindsOf_agg, kindsOf_box, boxKinds_nil, boxKinds_lf, boxKinds_agg, boxKinds_box, List.append_nil, List.cons_append, List.nil_append, den_cmp_le, den_cmp_lt, den_cmp_eq, den_cmp_ne, den_cmp_le', den_cmp_lt', den_cmp_eq', den_cmp_ne', den_and, den_and', den_or, den_or', den_not, den_not', den_blit, den_of, ev_var, at_0, at_1, at_2, at_3, at_4, at_5, at_6, at_7, at_skip, c_int, c_bool, c_arr, c_cnt, c_vec, ev_nil, ev_join, ev_sub3, loc_s, int_i, bool_b, rows_s, cs_nil, cs_cons, E.den_lit, E.den_var, E.den_add, E.den_sub, E.den_mul, E.den_quo, E.den_rem, E.den_max, E.den_min, E.den_len, E.den_wr, E.den_cell, ev_cell, kn1, kn2, Nat.reduceAdd, h1, h2, h3, h4, h5, h6, h7, ctJHeight, ctGas, ctExact, ctMinus, ctUnder, ctLess, ctJoin, ctF, jobSh, rangeSh, momSh, momKs, kn_, n_, k_, ofKn, hline, hed, hk]
    refine ⟨⟨hh _, htop⟩, ?_⟩
    rintro t1 _ _ t2 _ _ ⟨rfl, rfl⟩ x2 _ _ x3 _ _ ⟨e1, e2⟩
    cases e1.symm
    cases e2.symm
    refine ⟨⟨he.ok (by decide) (by decide), hw, less_ht (hh _) htop⟩, ?_⟩
    rintro t1 _ _ t2 _ _ ⟨rfl, rfl⟩
    unfold tpsh_3
    simp only [VC, allC, List.map_cons, List.map_nil, List.length_cons, List.length_nil, List.getElem?_cons_zero, List.getElem?_cons_succ, List.cons.injEq, C.i.injEq, C.b.injEq, and_true, true_and, forall_const, kindsOf_nil, kindsOf_lf, kindsOf_agg, kindsOf_box, boxKinds_nil, boxKinds_lf, boxKinds_agg, boxKinds_box, List.append_nil, List.cons_append, List.nil_append, den_cmp_le, den_cmp_lt, den_cmp_eq, den_cmp_ne, den_cmp_le', den_cmp_lt', den_cmp_eq', den_cmp_ne', den_and, den_and', den_or, den_or', den_not, den_not', den_blit, den_of, ev_var, at_0, at_1, at_2, at_3, at_4, at_5, at_6, at_7, at_skip, c_int, c_bool, c_arr, c_cnt, c_vec, ev_nil, ev_join, ev_sub3, loc_s, int_i, bool_b, rows_s, cs_nil, cs_cons, E.den_lit, E.den_var, E.den_add, E.den_sub, E.den_mul, E.den_quo, E.den_rem, E.den_max, E.den_min, E.den_len, E.den_wr, E.den_cell, ev_cell, kn1, kn2, Nat.reduceAdd, h1, h2, h3, h4, h5, h6, h7, ctJHeight, ctGas, ctExact, ctMinus, ctUnder, ctLess, ctJoin, ctF, jobSh, rangeSh, momSh, momKs, kn_, n_, k_, ofKn, hline, hed, hk]
    rintro t1 _ _ t2 _ _ ⟨rfl, rfl⟩
    unfold tpsh_2
    simp only [VC, allC, List.map_cons, List.map_nil, List.length_cons, List.length_nil, List.getElem?_cons_zero, List.getElem?_cons_succ, List.cons.injEq, C.i.injEq, C.b.injEq, and_true, true_and, forall_const, kindsOf_nil, kindsOf_lf, kindsOf_agg, kindsOf_box, boxKinds_nil, boxKinds_lf, boxKinds_agg, boxKinds_box, List.append_nil, List.cons_append, List.nil_append, den_cmp_le, den_cmp_lt, den_cmp_eq, den_cmp_ne, den_cmp_le', den_cmp_lt', den_cmp_eq', den_cmp_ne', den_and, den_and', den_or, den_or', den_not, den_not', den_blit, den_of, ev_var, at_0, at_1, at_2, at_3, at_4, at_5, at_6, at_7, at_skip, c_int, c_bool, c_arr, c_cnt, c_vec, ev_nil, ev_join, ev_sub3, loc_s, int_i, bool_b, rows_s, cs_nil, cs_cons, E.den_lit, E.den_var, E.den_add, E.den_sub, E.den_mul, E.den_quo, E.den_rem, E.den_max, E.den_min, E.den_len, E.den_wr, E.den_cell, ev_cell, kn1, kn2, Nat.reduceAdd, h1, h2, h3, h4, h5, h6, h7, ctJHeight, ctGas, ctExact, ctMinus, ctUnder, ctLess, ctJoin, ctF, jobSh, rangeSh, momSh, momKs, kn_, n_, k_, ofKn, hline, hed, hk]
    refine ⟨⟨by omega, by omega⟩, ?_⟩
    rintro t1 _ _ t2 _ _ ⟨rfl, rfl⟩
    refine ⟨⟨hh _, hh _⟩, ?_⟩
    rintro t1 _ _ t2 _ _ ⟨rfl, rfl⟩
    refine ⟨⟨hub _, hp, less_ht (hh _) (hh _)⟩, ?_⟩
    rintro t1 _ _ t2 _ _ ⟨e1, e2⟩
    have e1 : t1 = (patV j m b k.1).1 := by rw [hat]; exact e1
    have e2 : t2 = (patV j m b k.1).2 := by rw [hat]; exact e2
    unfold tpsh_1
    simp only [VC, allC, List.map_cons, List.map_nil, List.length_cons, List.length_nil, List.getElem?_cons_zero, List.getElem?_cons_succ, List.cons.injEq, C.i.injEq, C.b.injEq, and_true, true_and, forall_const, kindsOf_nil, kindsOf_lf, kindsOf_agg, kindsOf_box, boxKinds_nil, boxKinds_lf, boxKinds_agg, boxKinds_box, List.append_nil, List.cons_append, List.nil_append, den_cmp_le, den_cmp_lt, den_cmp_eq, den_cmp_ne, den_cmp_le', den_cmp_lt', den_cmp_eq', den_cmp_ne', den_and, den_and', den_or, den_or', den_not, den_not', den_blit, den_of, ev_var, at_0, at_1, at_2, at_3, at_4, at_5, at_6, at_7, at_skip, c_int, c_bool, c_arr, c_cnt, c_vec, ev_nil, ev_join, ev_sub3, loc_s, int_i, bool_b, rows_s, cs_nil, cs_cons, E.den_lit, E.den_var, E.den_add, E.den_sub, E.den_mul, E.den_quo, E.den_rem, E.den_max, E.den_min, E.den_len, E.den_wr, E.den_cell, ev_cell, kn1, kn2, Nat.reduceAdd, h1, h2, h3, h4, h5, h6, h7, ctJHeight, ctGas, ctExact, ctMinus, ctUnder, ctLess, ctJoin, ctF, jobSh, rangeSh, momSh, momKs, kn_, n_, k_, ofKn, hline, hed, hk]
    refine ⟨by omega, ⟨by omega, by omega, ?_⟩, hmu⟩
    rw [ei, hnext, knots_app, hrows, e1, e2]; rfl
  · rw [List.take_of_length_le (by omega)] at hrows
    refine ⟨vr, rows, ?_, by rw [hrows]; show _ = j.w.points.map _; rw [hpts]⟩
    rw [hro]; rfl
theorem moment_ok : tab3.ok 50 := mom_ok ris_ok psh_ok
end Go.Proofs.Ytmdmgpikbebejaa
/- Kill: At. -/
namespace Go.Proofs.Ytmdmgpikbebejaa
open Go.RowKit
set_option linter.unusedSimpArgs false
set_option linter.unusedVariables false

section
variable {j : Jb} {s e : Int}
theorem atE_no (h : jobV j ≠ 0) : atE j s e = jobV j := if_neg h
theorem atE_out (h : jobV j = 0) (h2 : ¬ (0 ≤ s ∧ s ≤ 400 ∧ -1 ≤ e ∧ e ≤ 1)) : atE j s e = 2 := by unfold atE; rw [if_pos h, if_neg h2]
theorem atE_in (h : jobV j = 0) (h2 : 0 ≤ s ∧ s ≤ 400 ∧ -1 ≤ e ∧ e ≤ 1) : atE j s e = 0 := by unfold atE; rw [if_pos h, if_pos h2]
theorem atMo_no (h : jobV j ≠ 0) : atMo j s e = noMo := by unfold atMo; rw [if_neg fun h2 => h h2.1]
theorem atMo_out (h2 : ¬ (0 ≤ s ∧ s ≤ 400 ∧ -1 ≤ e ∧ e ≤ 1)) : atMo j s e = noMo := by unfold atMo; rw [if_neg fun h => h2 h.2]
theorem atMo_in (h : jobV j = 0) (h2 : 0 ≤ s ∧ s ≤ 400 ∧ -1 ≤ e ∧ e ≤ 1) : atMo j s e = momentV j s e := by unfold atMo; rw [if_pos ⟨h, h2⟩]
end
theorem ex_app {P : List C → Prop} (l : List C) (x : C) {y : C} (h : P l) (e : x = y) : ∃ r1 r2, l ++ [x] = r1 ++ [r2] ∧ P r1 ∧ r2 = y := ⟨l, x, rfl, h, e⟩
theorem isMo_no (v : Value) : IsMo noMo [.i 0, .i 0, .i 0, .i 0, .i 0, .i 0, .i 0, .s v []] := ⟨v, [], rfl, rfl⟩
set_option maxHeartbeats 1000000 in
theorem kat_ok : tab3.ok 27 := by
  refine Tab.of_ct rfl rfl ⟨_, Try.func27, by decide, rfl⟩ ?_ (fun h => by cases h)
  refine ct_ok (cx := ckat) (Tab.cx_ok (all_cons chk_ok (all_cons (up3_ok hgt_ok) (all_cons (up3_ok volm_ok) (all_cons moment_ok all_nil)))) fxkat) Try.func27 (bds := []) (T := tkat) (by kernel_rfl) ?_
  have h1 : ckat.ct 48 = some ctCheckJ := rfl
  have h2 : ckat.ct 58 = some ctHeight := rfl
  have h3 : ckat.ct 30 = some ctVol := rfl
  have h4 : ckat.ct 50 = some ctMoment := rfl
  unfold tkat
  simp only [VC, allC, List.map_cons, List.map_nil, List.length_cons, List.length_nil, List.getElem?_cons_zero, List.getElem?_cons_succ, List.cons.injEq, C.i.injEq, C.b.injEq, and_true, true_and, forall_const, kindsOf_nil, kindsOf_lf, kindsOf_agg, kindsOf_box, boxKinds_nil, boxKinds_lf, boxKinds_agg, boxKinds_box, List.append_nil, List.cons_append, List.nil_append, den_cmp_le, den_cmp_lt, den_cmp_eq, den_cmp_ne, den_cmp_le', den_cmp_lt', den_cmp_eq', den_cmp_ne', den_and, den_and', den_or, den_or', den_not, den_not', den_blit, den_of, ev_var, at_0, at_1, at_2, at_3, at_4, at_5, at_6, at_7, at_skip, c_int, c_bool, c_arr, c_cnt, c_vec, ev_nil, ev_join, ev_sub3, loc_s, int_i, bool_b, rows_s, cs_nil, cs_cons, E.den_lit, E.den_var, E.den_add, E.den_sub, E.den_mul, E.den_quo, E.den_rem, E.den_max, E.den_min, E.den_len, E.den_wr, E.den_cell, Nat.reduceAdd, h1, h2, h3, h4, ctCheckJ, ctHeight, ctVol, ctMoment, ctAtK, ctF, wellSh, wellKs, progSh, bubSh, momSh, momKs, jobSh, holeSh, lineSh, n_]
  rintro u1 r1 _ _ _ w _ _ u2 r2 _ _ _ li _ _ pi _ _ st _ _ ka _ _ kb _ _ kc _ _ kd _ _ v _ _ po _ _ s _ _ e _ _
  obtain ⟨j, hjd⟩ : ∃ j, j = jobOf [.s u1 r1, .i w, .s u2 r2, .i li, .i pi, .i st, .i ka, .i kb, .i kc, .i kd, .i v, .i po, .i s, .i e] 0 := ⟨_, rfl⟩
  rw [← hjd]
  have out : jobV j = 0 → ¬ (0 ≤ s ∧ s ≤ 400 ∧ -1 ≤ e ∧ e ≤ 1) → ∃ r1 r2, ([.i 0, .i 0, .i 0, .i 0, .i 0, .i 0, .i 0, .s (.slice none 0 0) [], .i 2] : List C) = r1 ++ [r2] ∧ IsMo (atMo j s e) r1 ∧ r2 = C.i (atE j s e) := fun h h2 => ex_app [.i 0, .i 0, .i 0, .i 0, .i 0, .i 0, .i 0, .s (.slice none 0 0) []] (.i 2) (by rw [atMo_out h2]; exact isMo_no _) (by rw [atE_out h h2])
  refine ⟨bds_nil _, ?_⟩
  rintro n _ _ hn
  have hn : n = jobV j := by rw [hjd]; exact hn
  refine ⟨fun h => ?_, fun h => ?_⟩
  · exact ex_app [.i 0, .i 0, .i 0, .i 0, .i 0, .i 0, .i 0, .s (.slice none 0 0) []] (.i n) (by rw [atMo_no (by omega)]; exact isMo_no _) (by rw [atE_no (by omega), hn])
  have h0 : jobV j = 0 := by omega
  refine ⟨fun g => out h0 (by omega), fun g1 => ⟨fun g => out h0 (by omega), fun g2 => ⟨fun g => out h0 (by omega), fun g3 => ⟨fun g => out h0 (by omega), fun g4 => ?_⟩⟩⟩⟩
  rintro vl rows _ _ _ ⟨v', rows', e1, e2⟩
  cases e1
  rintro room _ _ hroom
  have hf : JF j := jf_of h0
  have hs : holeV (segsOf r1) = 0 := by have := hf.hole; rw [hjd] at this; exact this
  refine ⟨⟨⟨by rw [hjd] at h0; exact h0, e2, ?_⟩, ⟨g1, g2⟩, ⟨g3, g4⟩⟩, ?_⟩
  · show room = volV (segsOf r1)
    rw [hroom]; exact roomS_yes hs
  intro x1 _ _ x2 _ _ x3 _ _ x4 _ _ x5 _ _ x6 _ _ x7 _ _ v2 rows2 _ _ _ hx
  refine ex_app [.i x1, .i x2, .i x3, .i x4, .i x5, .i x6, .i x7, .s v2 rows2] (.i 0) ?_ (by rw [atE_in h0 ⟨g1, g2, g3, g4⟩])
  rw [atMo_in h0 ⟨g1, g2, g3, g4⟩, hjd]
  exact hx
end Go.Proofs.Ytmdmgpikbebejaa
/- Kill: what the statements' own functions compute. -/
namespace Go.Proofs.Ytmdmgpikbebejaa
set_option linter.unusedVariables false

def smallW (w : Wl) : Bool := decide (w.segs.length ≤ 18) && decide (w.points.length ≤ 10)
def ctSmallW : Ct := ctF [wellSh] [.lf .bool] (fun _ => True) (fun cs => [.b (smallW (wellOf cs 0))])
def shownW : Wl := ⟨[⟨100000, 100000, 100, 50⟩], 12000, [(2000000, 1200000000)], 500000000, 1000000, 1000000⟩
def drillerP : Pg := ⟨1, 13000, 10000000, 0⟩
def influxB : Bb := ⟨1000000, 1250000000⟩
def shownJ : Jb := ⟨shownW, drillerP, influxB⟩
def ctDriller : Ct := ctF [] [progSh] (fun _ => True) (fun _ => [.i 1, .i 13000, .i 10000000, .i 0])
def ctInflux : Ct := ctF [] [bubSh] (fun _ => True) (fun _ => [.i 1000000, .i 1250000000])
def ctAwake : Ct := ctF [] [.lf .bool] (fun _ => True) (fun _ => [.b true])
/-! The kit's wells, programs and kicks -/
def ints (rows : List (List C)) : List Int := rows.map fun r => (r.getD 0 (.i 0)).int
structure Br where
  segs : List Int
  points : List Int
  weight : Int
  limit : Int
  pipe : Int
  step : Int
  kind : Int
  kill : Int
  margin : Int
  err : Int
  vols : List Int
  pores : List Int
def l_ (cs : List C) (i : Nat) : List Int := ints (at_ cs i).rows
def brOf (cs : List C) (i : Nat) : Br := ⟨l_ cs i, l_ cs (i + 1), n_ cs (i + 2), n_ cs (i + 3), n_ cs (i + 4), n_ cs (i + 5), n_ cs (i + 6), n_ cs (i + 7), n_ cs (i + 8), n_ cs (i + 9), l_ cs (i + 10), l_ cs (i + 11)⟩
def boreSh : Sh0 := .agg [.arr 2, .arr 2, .int, .int, .int, .int, .int, .int, .int, .int, .arr 2, .arr 2]
def pickV (l : List Int) (i : Int) : Int := if l.length = 0 then 0 else l.getD (i % l.length).toNat 0 % 1099511627776
def segB (n : Int) : Sg := ⟨10000 + n % 100001, 10000 + n % 100001 - n / 11 % ((10000 + n % 100001) / 4), 50 + n / 3 % 400, 20 + n / 7 % 100⟩
def many (l : List Int) : Nat := max 1 (min l.length 3)
def segsB (x : Br) : List Sg := (List.range (many x.segs)).map fun (i : Nat) => segB (pickV x.segs (i : Int))
/-- The points: from the i-th on, so many, behind a place. -/
def ptsB (l : List Int) (room all : Int) : Nat → Nat → Int → List Kn
  | 0, _, _ => []
  | n + 1, i, a => (a + 1 + pickV l i % (room / 4), (13000 + pickV l i / 5 % 9001) * (all - all / 4 * i)) :: ptsB l room all n (i + 1) (a + 1 + pickV l i % (room / 4))
def wellB (x : Br) : Wl := ⟨segsB x, 10000 + x.weight % 6001, ptsB x.points (volV (segsB x)) (riseV (segsB x)) (min x.points.length 3) 0 0, x.limit % 1500000000, x.pipe % volV (segsB x), 1 + volV (segsB x) / (4 + x.step % 25)⟩
def progB (x : Br) : Pg := ⟨1 + x.kind % 3, 11000 + x.kill % 8001, x.margin % 30000000, x.err % 12000000⟩
def runB (l : List Int) (m : Int) : Nat → Nat → Int → List Int
  | 0, _, _ => []
  | n + 1, i, a => (a + 1 + pickV l i % m) :: runB l m n (i + 1) (a + 1 + pickV l i % m)
def volsB (x : Br) : List Int := runB x.vols 2000000 (many x.vols) 0 0
def poresB (x : Br) : List Int := runB x.pores 60000000 (many x.pores) 0 ((10000 + x.weight % 6001) * riseV (segsB x))
def ctMod : Ct := ctF [.lf .int, .lf .int] [.lf .int] (fun cs => 1 ≤ n_ cs 1) (fun cs => [.i (n_ cs 0 % n_ cs 1)])
def ctPick : Ct := ctF [.lf (.arr 2), .lf .int] [.lf .int] (fun cs => 0 ≤ n_ cs 1) (fun cs => [.i (pickV (l_ cs 0) (n_ cs 1))])
def wellVSh : Sh0 := .agg [.vec 97, .int, .vec 70, .int, .int, .int]
def ctKWell : Ct := ⟨[boreSh], [wellVSh], fun _ => True, fun cs rs => ∃ v1 r1 w v2 r2 li pi st, rs = [.s v1 r1, .i w, .s v2 r2, .i li, .i pi, .i st] ∧ wellOf rs 0 = wellB (brOf cs 0), false⟩
def pgC (p : Pg) : List C := [.i p.kind, .i p.weight, .i p.margin, .i p.err]
def ctKProg : Ct := ctF [boreSh] [progSh] (fun _ => True) (fun cs => pgC (progB (brOf cs 0)))
def ctKKicks : Ct := ⟨[boreSh], [.lf (.vec 2), .lf (.vec 2)], fun _ => True, fun cs rs => ∃ v1 r1 v2 r2, rs = [.s v1 r1, .s v2 r2] ∧ ints r1 = volsB (brOf cs 0) ∧ ints r2 = poresB (brOf cs 0), false⟩
def sameMo (x y : Mo) : Bool := x.pumped == y.pumped && x.gas == y.gas && x.base == y.base && x.surf == y.surf && x.pts == y.pts
def ctSameMo : Ct := ctF [momASh, momASh] [.lf .bool] (fun _ => True) (fun cs => [.b (sameMo (momOf cs 0) (momOf cs 8))])
def tab4 : Tab where
  ct := fun f => match f with
    | 13 => some ctSmallW
    | 33 => some ctDriller
    | 34 => some ctInflux
    | 14 => some ctAwake
    | 26 | 29 => some ctMod
    | 47 => some ctPick
    | 23 => some ctKWell
    | 24 => some ctKProg
    | 25 => some ctKKicks
    | 28 => some ctSameMo
    | f => tab3.ct f
  inl := tab3.inl
  sel := tab3.sel
theorem up4_ok {f : Nat} (h : tab3.ok f) (he : tab4.ct f = tab3.ct f := by rfl) : tab4.ok f :=
  ⟨h.1, fun ct hc => h.2.1 ct (he ▸ hc), h.2.2.1, h.2.2.2⟩
end Go.Proofs.Ytmdmgpikbebejaa
/- What is to be shown of each function, as the executor has it. Printed by trees.py. -/
namespace Go.Proofs.Ytmdmgpikbebejaa
noncomputable def cdriller : Cx := tab4.only [] (fun _ => []) [] 0 [] (fun _ => none)
def tdriller : Tree :=
  (.ret [(.int (.lit 1)), (.int (.lit 13000)), (.int (.lit 10000000)), (.int (.lit 0))])
noncomputable def cinflux : Cx := tab4.only [] (fun _ => []) [] 0 [] (fun _ => none)
def tinflux : Tree :=
  (.ret [(.int (.lit 1000000)), (.int (.lit 1250000000))])
noncomputable def flawake : List (Nat × Func) := [(32, Try.f32)]
theorem fxawake : ∀ p ∈ flawake, FnOK p := fns_cons ⟨Try.func32, ⟨_, Try.func32, by decide, rfl⟩⟩ (fns_nil)
noncomputable def cawake : Cx := tab4.only [27, 21, 33, 34] (fun _ => []) flawake 1 [] (fun _ => none)
def tawake : Tree :=
  (.dfn .nil (.dfn .nil (.arr [[(.int (.lit 100000)), (.int (.lit 100000)), (.int (.lit 100)), (.int (.lit 50))]] (.arr [[(.int (.lit 2000000)), (.int (.lit 1200000000))]] (.call 33 [] (.call 34 [] (.call 27 [(.arr 97 (.var 2)), (.int (.lit 12000)), (.arr 70 (.var 3)), (.int (.lit 500000000)), (.int (.lit 1000000)), (.int (.lit 1000000)), (.int (.var 4)), (.int (.var 5)), (.int (.var 6)), (.int (.var 7)), (.int (.var 8)), (.int (.var 9)), (.int (.lit 0)), (.int (.lit 0))] (.dfn .nil (.split (.cmp .eq (.var 18) (.lit 0)) (.split (.and (.cmp .eq (.var 11) (.lit 992063)) (.cmp .eq (.var 12) (.lit 992064))) (.split (.and (.cmp .eq (.var 15) (.lit 179040000)) (.cmp .eq (.var 16) (.lit 179052000))) (.call 33 [] (.call 34 [] (.call 21 [(.int (.var 20)), (.int (.var 21)), (.int (.var 22)), (.int (.var 23)), (.int (.var 24)), (.int (.var 25)), (.int (.lit 0))] (.ret [(.bool (.cmp .eq (.var 26) (.lit 1260000000)))])))) (.ret [(.bool (.lit false))])) (.ret [(.bool (.lit false))])) (.ret [(.bool (.lit false))]))))))))))
noncomputable def cmod : Cx := tab4.only [] (fun _ => []) [] 0 [] (fun _ => none)
def tmod : Tree :=
  (.ob (.cmp .ne (.var 1) (.lit 0)) (.split (.cmp .lt (.rem (.var 0) (.var 1)) (.lit 0)) (.ob (.and (.cmp .le (.lit (-9223372036854775808)) (.add (.rem (.var 0) (.var 1)) (.var 1))) (.cmp .le (.add (.rem (.var 0) (.var 1)) (.var 1)) (.lit 9223372036854775807))) (.ob (.and (.cmp .le (.lit (-9223372036854775808)) (.add (.rem (.var 0) (.var 1)) (.var 1))) (.cmp .le (.add (.rem (.var 0) (.var 1)) (.var 1)) (.lit 9223372036854775807))) (.ret [(.int (.add (.rem (.var 0) (.var 1)) (.var 1)))]))) (.ob (.and (.cmp .le (.lit (-9223372036854775808)) (.rem (.var 0) (.var 1))) (.cmp .le (.rem (.var 0) (.var 1)) (.lit 9223372036854775807))) (.ret [(.int (.rem (.var 0) (.var 1)))]))))
noncomputable def cmod64 : Cx := tab4.only [] (fun _ => []) [] 0 [] (fun _ => none)
def tmod64 : Tree :=
  (.ob (.cmp .ne (.var 1) (.lit 0)) (.split (.cmp .lt (.rem (.var 0) (.var 1)) (.lit 0)) (.ob (.and (.cmp .le (.lit (-9223372036854775808)) (.add (.rem (.var 0) (.var 1)) (.var 1))) (.cmp .le (.add (.rem (.var 0) (.var 1)) (.var 1)) (.lit 9223372036854775807))) (.ob (.and (.cmp .le (.lit (-9223372036854775808)) (.add (.rem (.var 0) (.var 1)) (.var 1))) (.cmp .le (.add (.rem (.var 0) (.var 1)) (.var 1)) (.lit 9223372036854775807))) (.ret [(.int (.add (.rem (.var 0) (.var 1)) (.var 1)))]))) (.ob (.and (.cmp .le (.lit (-9223372036854775808)) (.rem (.var 0) (.var 1))) (.cmp .le (.rem (.var 0) (.var 1)) (.lit 9223372036854775807))) (.ret [(.int (.rem (.var 0) (.var 1)))]))))
noncomputable def cpick : Cx := tab4.only [29] (fun _ => []) [] 0 [] (fun _ => none)
def tpick : Tree :=
  (.split (.cmp .eq (.len (.var 0)) (.lit 0)) (.ret [(.int (.lit 0))]) (.ob (.cmp .ne (.len (.var 0)) (.lit 0)) (.ob (.cmp .le (.lit 0) (.rem (.var 1) (.len (.var 0)))) (.ob (.cmp .lt (.rem (.var 1) (.len (.var 0))) (.len (.var 0))) (.call 29 [(.int (.cell (.var 0) (.rem (.var 1) (.len (.var 0))) 0)), (.int (.lit 1099511627776))] (.ret [(.int (.var 2))]))))))
noncomputable def ckprog : Cx := tab4.only [26, 29] (fun _ => []) [] 0 [] (fun _ => none)
def tkprog : Tree :=
  (.call 26 [(.int (.var 6)), (.int (.lit 3))] (.ob (.and (.cmp .le (.lit (-9223372036854775808)) (.add (.lit 1) (.var 12))) (.cmp .le (.add (.lit 1) (.var 12)) (.lit 9223372036854775807))) (.call 29 [(.int (.var 7)), (.int (.lit 8001))] (.ob (.and (.cmp .le (.lit (-9223372036854775808)) (.add (.lit 11000) (.var 13))) (.cmp .le (.add (.lit 11000) (.var 13)) (.lit 9223372036854775807))) (.call 29 [(.int (.var 8)), (.int (.lit 30000000))] (.call 29 [(.int (.var 9)), (.int (.lit 12000000))] (.ob (.and (.cmp .le (.lit (-9223372036854775808)) (.add (.lit 1) (.var 12))) (.cmp .le (.add (.lit 1) (.var 12)) (.lit 9223372036854775807))) (.ob (.and (.cmp .le (.lit (-9223372036854775808)) (.add (.lit 11000) (.var 13))) (.cmp .le (.add (.lit 11000) (.var 13)) (.lit 9223372036854775807))) (.ret [(.int (.add (.lit 1) (.var 12))), (.int (.add (.lit 11000) (.var 13))), (.int (.var 14)), (.int (.var 15))])))))))))
end Go.Proofs.Ytmdmgpikbebejaa
/- Kill: the chapter's examples; which wells, programs and kicks are valid. -/
namespace Go.Proofs.Ytmdmgpikbebejaa
open Go.RowKit
set_option linter.unusedSimpArgs false
set_option linter.unusedVariables false

theorem driller_ok : tab4.ok 33 := by
  refine Tab.of_ct rfl rfl ⟨_, Try.func33, by decide, rfl⟩ ?_ ctF_det
  refine ct_ok (cx := cdriller) (Tab.cx_ok all_nil) Try.func33 (bds := []) (T := tdriller) (by kernel_rfl) ?_
  unfold tdriller
  simp only [VC, allC, List.map_cons, List.map_nil, List.length_cons, List.length_nil, List.getElem?_cons_zero, List.getElem?_cons_succ, List.cons.injEq, C.i.injEq, C.b.injEq, and_true, true_and, forall_const, kindsOf_nil, kindsOf_lf, kindsOf_agg, kindsOf_box, boxKinds_nil, boxKinds_lf, boxKinds_agg, boxKinds_box, List.append_nil, List.cons_append, List.nil_append, den_cmp_le, den_cmp_lt, den_cmp_eq, den_cmp_ne, den_cmp_le', den_cmp_lt', den_cmp_eq', den_cmp_ne', den_and, den_and', den_or, den_or', den_not, den_not', den_blit, den_of, ev_var, at_0, at_1, at_2, at_3, at_4, at_5, at_6, at_7, at_skip, c_int, c_bool, c_arr, c_cnt, c_vec, ev_nil, ev_join, ev_sub3, loc_s, int_i, bool_b, rows_s, cs_nil, cs_cons, E.den_lit, E.den_var, E.den_add, E.den_sub, E.den_mul, E.den_quo, E.den_rem, E.den_max, E.den_min, E.den_len, E.den_wr, E.den_cell, Nat.reduceAdd, ctDriller, ctF]
  exact bds_nil _
theorem influx_ok : tab4.ok 34 := by
  refine Tab.of_ct rfl rfl ⟨_, Try.func34, by decide, rfl⟩ ?_ ctF_det
  refine ct_ok (cx := cinflux) (Tab.cx_ok all_nil) Try.func34 (bds := []) (T := tinflux) (by kernel_rfl) ?_
  unfold tinflux
  simp only [VC, allC, List.map_cons, List.map_nil, List.length_cons, List.length_nil, List.getElem?_cons_zero, List.getElem?_cons_succ, List.cons.injEq, C.i.injEq, C.b.injEq, and_true, true_and, forall_const, kindsOf_nil, kindsOf_lf, kindsOf_agg, kindsOf_box, boxKinds_nil, boxKinds_lf, boxKinds_agg, boxKinds_box, List.append_nil, List.cons_append, List.nil_append, den_cmp_le, den_cmp_lt, den_cmp_eq, den_cmp_ne, den_cmp_le', den_cmp_lt', den_cmp_eq', den_cmp_ne', den_and, den_and', den_or, den_or', den_not, den_not', den_blit, den_of, ev_var, at_0, at_1, at_2, at_3, at_4, at_5, at_6, at_7, at_skip, c_int, c_bool, c_arr, c_cnt, c_vec, ev_nil, ev_join, ev_sub3, loc_s, int_i, bool_b, rows_s, cs_nil, cs_cons, E.den_lit, E.den_var, E.den_add, E.den_sub, E.den_mul, E.den_quo, E.den_rem, E.den_max, E.den_min, E.den_len, E.den_wr, E.den_cell, Nat.reduceAdd, ctInflux, ctF]
  exact bds_nil _
set_option maxRecDepth 100000 in
theorem shown_known : atE shownJ 0 0 = 0 ∧ (atMo shownJ 0 0).gas = (992063, 992064) ∧ (atMo shownJ 0 0).surf = (179040000, 179052000) ∧ bottomV drillerP influxB 0 = 1260000000 := by decide +kernel
theorem mo_inv {x : Mo} {a1 a2 a3 a4 a5 a6 a7 : Int} {v : Value} {rows : List (List C)} (h : IsMo x [.i a1, .i a2, .i a3, .i a4, .i a5, .i a6, .i a7, .s v rows]) : a1 = x.pumped ∧ a2 = x.gas.1 ∧ a3 = x.gas.2 ∧ a4 = x.base.1 ∧ a5 = x.base.2 ∧ a6 = x.surf.1 ∧ a7 = x.surf.2 ∧ knots rows = x.pts := by
  obtain ⟨v', rows', e, hk⟩ := h
  simp only [List.cons.injEq, C.i.injEq, C.s.injEq, and_true] at e
  obtain ⟨e1, e2, e3, e4, e5, e6, e7, -, e8⟩ := e
  exact ⟨e1, e2, e3, e4, e5, e6, e7, by rw [e8]; exact hk⟩
theorem at_inv {x : Mo} {E : Int} {a1 a2 a3 a4 a5 a6 a7 er : Int} {v : Value} {rows : List (List C)} (h : ∃ r1 r2, ([.i a1, .i a2, .i a3, .i a4, .i a5, .i a6, .i a7, .s v rows, .i er] : List C) = r1 ++ [r2] ∧ IsMo x r1 ∧ r2 = .i E) : (a1 = x.pumped ∧ a2 = x.gas.1 ∧ a3 = x.gas.2 ∧ a4 = x.base.1 ∧ a5 = x.base.2 ∧ a6 = x.surf.1 ∧ a7 = x.surf.2 ∧ knots rows = x.pts) ∧ er = E := by
  obtain ⟨r1, r2, e, hm, rfl⟩ := h
  have e : ([.i a1, .i a2, .i a3, .i a4, .i a5, .i a6, .i a7, .s v rows] : List C) ++ [.i er] = r1 ++ [.i E] := e
  obtain ⟨rfl, e2⟩ := List.append_inj' e rfl
  simp only [List.cons.injEq, C.i.injEq, and_true] at e2
  exact ⟨mo_inv hm, e2⟩
theorem awake_ok : tab4.ok 14 := by
  refine Tab.of_ct rfl rfl ⟨_, Try.func14, by decide, rfl⟩ ?_ ctF_det
  refine ct_ok (cx := cawake) (Tab.cx_ok (all_cons (up4_ok kat_ok) (all_cons (up4_ok (up3_ok bottom_ok)) (all_cons driller_ok (all_cons influx_ok all_nil)))) fxawake) Try.func14 (bds := []) (T := tawake) (by kernel_rfl) ?_
  have h1 : cawake.ct 27 = some ctAtK := rfl
  have h2 : cawake.ct 21 = some ctBottom := rfl
  have h3 : cawake.ct 33 = some ctDriller := rfl
  have h4 : cawake.ct 34 = some ctInflux := rfl
  obtain ⟨k1, k2, k3, k4⟩ := shown_known
  unfold tawake
  simp only [VC, allC, List.map_cons, List.map_nil, List.length_cons, List.length_nil, List.getElem?_cons_zero, List.getElem?_cons_succ, List.cons.injEq, C.i.injEq, C.b.injEq, and_true, true_and, forall_const, kindsOf_nil, kindsOf_lf, kindsOf_agg, kindsOf_box, boxKinds_nil, boxKinds_lf, boxKinds_agg, boxKinds_box, List.append_nil, List.cons_append, List.nil_append, den_cmp_le, den_cmp_lt, den_cmp_eq, den_cmp_ne, den_cmp_le', den_cmp_lt', den_cmp_eq', den_cmp_ne', den_and, den_and', den_or, den_or', den_not, den_not', den_blit, den_of, ev_var, at_0, at_1, at_2, at_3, at_4, at_5, at_6, at_7, at_skip, c_int, c_bool, c_arr, c_cnt, c_vec, ev_nil, ev_join, ev_sub3, loc_s, int_i, bool_b, rows_s, cs_nil, cs_cons, E.den_lit, E.den_var, E.den_add, E.den_sub, E.den_mul, E.den_quo, E.den_rem, E.den_max, E.den_min, E.den_len, E.den_wr, E.den_cell, Nat.reduceAdd, h1, h2, h3, h4, ctAtK, ctBottom, ctDriller, ctInflux, ctAwake, ctF, progSh, bubSh, momSh, momKs, n_]
  refine ⟨bds_nil _, ?_⟩
  rintro v v1 a _ _ b _ _ c _ _ d _ _ ⟨rfl, rfl, rfl, rfl⟩ e _ _ f _ _ ⟨rfl, rfl⟩ x1 _ _ x2 _ _ x3 _ _ x4 _ _ x5 _ _ x6 _ _ x7 _ _ vr rows _ _ _ er _ _ h
  have h := at_inv (x := atMo shownJ 0 0) (E := atE shownJ 0 0) h
  rw [k1] at h
  rw [k2, k3] at h
  obtain ⟨⟨-, rfl, rfl, -, -, rfl, rfl, -⟩, rfl⟩ := h
  refine ⟨fun _ => ⟨fun _ => ⟨fun _ => ?_, fun h => absurd rfl (h rfl)⟩, fun h => absurd rfl (h rfl)⟩, fun h => absurd rfl h⟩
  rintro n _ _ n1 _ _ n2 _ _ n3 _ _ ⟨rfl, rfl, rfl, rfl⟩ n4 _ _ n5 _ _ ⟨rfl, rfl⟩ n6 _ _ e6
  have e6 : n6 = bottomV drillerP influxB 0 := e6
  exact e6.trans k4
end Go.Proofs.Ytmdmgpikbebejaa
/- Kill: what makes wells, programs and kicks of numbers: the small parts. -/
namespace Go.Proofs.Ytmdmgpikbebejaa
open Go.RowKit
set_option linter.unusedSimpArgs false
set_option linter.unusedVariables false

theorem ints_len (rows : List (List C)) : (ints rows).length = rows.length := by simp [ints]
theorem in1 (v : Value) (rows : List (List C)) (i : Nat) : ((C.s v rows).at i 0).int = (ints rows).getD i 0 := by
  simp only [cell_at, ints, List.getD_eq_getElem?_getD, List.getElem?_map]
  cases rows[i]? <;> rfl
theorem mod_ok : tab4.ok 26 := by
  refine Tab.of_ct rfl rfl ⟨_, Try.func26, by decide, rfl⟩ ?_ ctF_det
  refine ct_ok (cx := cmod) (Tab.cx_ok all_nil) Try.func26 (bds := []) (T := tmod) (by kernel_rfl) ?_
  unfold tmod
  simp only [VC, allC, List.map_cons, List.map_nil, List.length_cons, List.length_nil, List.getElem?_cons_zero, List.getElem?_cons_succ, List.cons.injEq, C.i.injEq, C.b.injEq, and_true, true_and, forall_const, kindsOf_nil, kindsOf_lf, kindsOf_agg, kindsOf_box, boxKinds_nil, boxKinds_lf, boxKinds_agg, boxKinds_box, List.append_nil, List.cons_append, List.nil_append, den_cmp_le, den_cmp_lt, den_cmp_eq, den_cmp_ne, den_cmp_le', den_cmp_lt', den_cmp_eq', den_cmp_ne', den_and, den_and', den_or, den_or', den_not, den_not', den_blit, den_of, ev_var, at_0, at_1, at_2, at_3, at_4, at_5, at_6, at_7, at_skip, c_int, c_bool, c_arr, c_cnt, c_vec, ev_nil, ev_join, ev_sub3, loc_s, int_i, bool_b, rows_s, cs_nil, cs_cons, E.den_lit, E.den_var, E.den_add, E.den_sub, E.den_mul, E.den_quo, E.den_rem, E.den_max, E.den_min, E.den_len, E.den_wr, E.den_cell, ctMod, ctF, n_]
  intro n n0 n1 m m0 m1 hm
  have e : n.tmod m = if n % m = 0 ∨ 0 ≤ n then n % m else n % m - m := by
    rw [Int.tmod_eq_emod]
    have h1 : (m ∣ n) ↔ n % m = 0 := Int.dvd_iff_emod_eq_zero
    by_cases h0 : 0 ≤ n
    · simp [h0]
    · by_cases h2 : n % m = 0
      · simp [h2, h1]
      · simp [h0, h2, h1]
        omega
  have h2 := Int.emod_nonneg n (b := m) (by omega)
  have h3 := Int.emod_lt_of_pos n (b := m) (by omega)
  rw [e]
  generalize n % m = r at *
  refine ⟨bds_nil _, by omega, ?_⟩
  split
  · refine ⟨fun h => by omega, fun h => ⟨by omega, rfl⟩⟩
  · refine ⟨fun h => ⟨by omega, by omega, by omega⟩, fun h => by omega⟩
theorem mod64_ok : tab4.ok 29 := by
  refine Tab.of_ct rfl rfl ⟨_, Try.func29, by decide, rfl⟩ ?_ ctF_det
  refine ct_ok (cx := cmod64) (Tab.cx_ok all_nil) Try.func29 (bds := []) (T := tmod64) (by kernel_rfl) ?_
  unfold tmod64
  simp only [VC, allC, List.map_cons, List.map_nil, List.length_cons, List.length_nil, List.getElem?_cons_zero, List.getElem?_cons_succ, List.cons.injEq, C.i.injEq, C.b.injEq, and_true, true_and, forall_const, kindsOf_nil, kindsOf_lf, kindsOf_agg, kindsOf_box, boxKinds_nil, boxKinds_lf, boxKinds_agg, boxKinds_box, List.append_nil, List.cons_append, List.nil_append, den_cmp_le, den_cmp_lt, den_cmp_eq, den_cmp_ne, den_cmp_le', den_cmp_lt', den_cmp_eq', den_cmp_ne', den_and, den_and', den_or, den_or', den_not, den_not', den_blit, den_of, ev_var, at_0, at_1, at_2, at_3, at_4, at_5, at_6, at_7, at_skip, c_int, c_bool, c_arr, c_cnt, c_vec, ev_nil, ev_join, ev_sub3, loc_s, int_i, bool_b, rows_s, cs_nil, cs_cons, E.den_lit, E.den_var, E.den_add, E.den_sub, E.den_mul, E.den_quo, E.den_rem, E.den_max, E.den_min, E.den_len, E.den_wr, E.den_cell, ctMod, ctF, n_]
  intro n n0 n1 m m0 m1 hm
  have e : n.tmod m = if n % m = 0 ∨ 0 ≤ n then n % m else n % m - m := by
    rw [Int.tmod_eq_emod]
    have h1 : (m ∣ n) ↔ n % m = 0 := Int.dvd_iff_emod_eq_zero
    by_cases h0 : 0 ≤ n
    · simp [h0]
    · by_cases h2 : n % m = 0
      · simp [h2, h1]
      · simp [h0, h2, h1]
        omega
  have h2 := Int.emod_nonneg n (b := m) (by omega)
  have h3 := Int.emod_lt_of_pos n (b := m) (by omega)
  rw [e]
  generalize n % m = r at *
  refine ⟨bds_nil _, by omega, ?_⟩
  split
  · refine ⟨fun h => by omega, fun h => ⟨by omega, rfl⟩⟩
  · refine ⟨fun h => ⟨by omega, by omega, by omega⟩, fun h => by omega⟩
theorem pick_ok : tab4.ok 47 := by
  refine Tab.of_ct rfl rfl ⟨_, Try.func47, by decide, rfl⟩ ?_ ctF_det
  refine ct_ok (cx := cpick) (Tab.cx_ok (all_cons mod64_ok all_nil)) Try.func47 (bds := []) (T := tpick) (by kernel_rfl) ?_
  have h1 : cpick.ct 29 = some ctMod := rfl
  unfold tpick
  simp only [VC, allC, List.map_cons, List.map_nil, List.length_cons, List.length_nil, List.getElem?_cons_zero, List.getElem?_cons_succ, List.cons.injEq, C.i.injEq, C.b.injEq, and_true, true_and, forall_const, kindsOf_nil, kindsOf_lf, kindsOf_agg, kindsOf_box, boxKinds_nil, boxKinds_lf, boxKinds_agg, boxKinds_box, List.append_nil, List.cons_append, List.nil_append, den_cmp_le, den_cmp_lt, den_cmp_eq, den_cmp_ne, den_cmp_le', den_cmp_lt', den_cmp_eq', den_cmp_ne', den_and, den_and', den_or, den_or', den_not, den_not', den_blit, den_of, ev_var, at_0, at_1, at_2, at_3, at_4, at_5, at_6, at_7, at_skip, c_int, c_bool, c_arr, c_cnt, c_vec, ev_nil, ev_join, ev_sub3, loc_s, int_i, bool_b, rows_s, cs_nil, cs_cons, E.den_lit, E.den_var, E.den_add, E.den_sub, E.den_mul, E.den_quo, E.den_rem, E.den_max, E.den_min, E.den_len, E.den_wr, E.den_cell, ev_cell, in1, h1, ctMod, ctPick, ctF, n_, l_]
  intro u r _ _ _ i _ _ hi
  have hl := ints_len r
  rw [← hl]
  generalize ints r = l at *
  refine ⟨bds_nil _, fun h => ?_, fun h => ⟨h, ?_⟩⟩
  · unfold pickV; rw [if_pos (by omega)]
  · rw [Int.tmod_eq_emod_of_nonneg hi]
    have e1 := Int.emod_nonneg i h
    have e2 := Int.emod_lt_of_pos i (show 0 < (l.length : Int) by omega)
    refine ⟨e1, e2, by decide, ?_⟩
    rintro n _ _ rfl
    unfold pickV; rw [if_neg (by omega)]
theorem kprog_ok : tab4.ok 24 := by
  refine Tab.of_ct rfl rfl ⟨_, Try.func24, by decide, rfl⟩ ?_ ctF_det
  refine ct_ok (cx := ckprog) (Tab.cx_ok (all_cons mod_ok (all_cons mod64_ok all_nil))) Try.func24 (bds := []) (T := tkprog) (by kernel_rfl) ?_
  have h1 : ckprog.ct 29 = some ctMod := rfl
  have h2 : ckprog.ct 26 = some ctMod := rfl
  unfold tkprog
  simp only [VC, allC, List.map_cons, List.map_nil, List.length_cons, List.length_nil, List.getElem?_cons_zero, List.getElem?_cons_succ, List.cons.injEq, C.i.injEq, C.b.injEq, and_true, true_and, forall_const, kindsOf_nil, kindsOf_lf, kindsOf_agg, kindsOf_box, boxKinds_nil, boxKinds_lf, boxKinds_agg, boxKinds_box, List.append_nil, List.cons_append, List.nil_append, den_cmp_le, den_cmp_lt, den_cmp_eq, den_cmp_ne, den_cmp_le', den_cmp_lt', den_cmp_eq', den_cmp_ne', den_and, den_and', den_or, den_or', den_not, den_not', den_blit, den_of, ev_var, at_0, at_1, at_2, at_3, at_4, at_5, at_6, at_7, at_skip, c_int, c_bool, c_arr, c_cnt, c_vec, ev_nil, ev_join, ev_sub3, loc_s, int_i, bool_b, rows_s, cs_nil, cs_cons, E.den_lit, E.den_var, E.den_add, E.den_sub, E.den_mul, E.den_quo, E.den_rem, E.den_max, E.den_min, E.den_len, E.den_wr, E.den_cell, Nat.reduceAdd, h1, h2, ctMod, ctKProg, boreSh, ctF, n_, pgC, progB, brOf]
  intro u1 r1 _ _ _ u2 r2 _ _ _ we _ _ li _ _ pi _ _ st _ _ ki _ _ kl _ _ ma _ _ er _ _ u3 r3 _ _ _ u4 r4 _ _ _
  have k0 := Int.emod_nonneg ki (b := 3) (by decide)
  have k1 := Int.emod_lt_of_pos ki (b := 3) (by decide)
  have w0 := Int.emod_nonneg kl (b := 8001) (by decide)
  have w1 := Int.emod_lt_of_pos kl (b := 8001) (by decide)
  refine ⟨bds_nil _, by decide, fun a _ _ ea => ⟨⟨by omega, by omega⟩, by decide, fun b _ _ eb => ⟨⟨by omega, by omega⟩, by decide, fun c _ _ ec => ⟨by decide, fun d _ _ ed => ⟨⟨by omega, by omega⟩, ⟨by omega, by omega⟩, ?_⟩⟩⟩⟩⟩
  rw [ea, eb, ec, ed]
  exact ⟨rfl, rfl, rfl, rfl⟩
end Go.Proofs.Ytmdmgpikbebejaa
/- Kill: what each function computes: steps, outcomes, runs. -/
namespace Go.Proofs.Ytmdmgpikbebejaa
set_option linter.unusedVariables false

/-- The least number from a on, at most n further, with a property; else a + n. -/
def firstN (p : Nat → Bool) : Nat → Nat → Nat
  | 0, a => a
  | n + 1, a => if p a then a else firstN p n (a + 1)
def overS (j : Jb) (n : Nat) : Bool := overV j (momentV j (n : Int) (-1))
def lastN (j : Jb) : Nat := firstN (overS j) 400 0
def stepEl (j : Jb) (n : Nat) : List C := [.i (n : Int), .b (overS j n)]
def stepEls (j : Jb) : List (List C) := (List.range (lastN j + 1)).map (stepEl j)
/-! Outcomes -/
structure Oc where
  is : Int
  step : Int
  err : Int
  why : Int
  point : Int
deriving DecidableEq
def noOc : Oc := ⟨0, 0, 0, 0, 0⟩
def ocC (o : Oc) : List C := [.i o.is, .i o.step, .i o.err, .i o.why, .i o.point]
def ocSh : Sh0 := .agg [.int, .int, .int, .int, .int]
def orO (a b : Oc) : Oc := if a.is = 0 then b else a
/-- The first outcome that is one, from the i-th on. -/
def firstO (f : Nat → Oc) : Nat → Nat → Oc
  | 0, _ => noOc
  | n + 1, i => orO (f i) (firstO f n (i + 1))
def overP (p : Kn) (limit : Int) : Int := if limit < p.1 then 2 else if limit < p.2 then 3 else 0
def fracO (j : Jb) (x : Mo) (step err : Int) (i : Nat) : Oc := ⟨overP (x.pts.getD i (0, 0)) (j.w.points.getD i (0, 0)).2, step, err, 2, (i : Int)⟩
def lookM (j : Jb) (x : Mo) (step err : Int) : Oc := orO (firstO (fracO j x step err) j.w.points.length 0) (orO ⟨overP (-x.surf.2, -x.surf.1) 0, step, err, 3, 0⟩ (orO ⟨overP x.surf j.w.limit, step, err, 4, 0⟩ noOc))
def lookV (j : Jb) (step err : Int) : Oc := if botV j.p j.k err < j.k.pore then ⟨2, step, err, 1, 0⟩ else lookM j (momentV j step err) step err
def allV (j : Jb) : Kn := htV j.w.segs (volV j.w.segs)
def leftV (j : Jb) (u : Int) : Kn := (j.p.weight * (lessK (allV j) (htV j.w.segs u)).1, j.p.weight * (lessK (allV j) (htV j.w.segs u)).2)
def deadO (j : Jb) (step : Int) (i : Nat) : Oc := ⟨overP (leftV j (j.w.points.getD i (0, 0)).1) (j.w.points.getD i (0, 0)).2, step, 0, 5, (i : Int)⟩
def deadV (j : Jb) (step : Int) : Oc := if j.p.weight * (allV j).1 < j.k.pore then ⟨2, step, 0, 5, 0⟩ else firstO (deadO j step) j.w.points.length 0
def stepO (j : Jb) (n : Nat) : Oc := orO (lookV j (n : Int) (-1)) (orO (lookV j (n : Int) 0) (lookV j (n : Int) 1))
def endO (j : Jb) : Oc := if overS j (lastN j) then orO (deadV j (lastN j : Int)) ⟨1, (lastN j : Int), 0, 0, 0⟩ else ⟨3, 400, 0, 6, 0⟩
def endsV (j : Jb) : Oc := orO (firstO (stepO j) (lastN j + 1) 0) (endO j)
def endsOc (j : Jb) : Oc := if jobV j = 0 then endsV j else noOc
def lastKN (j : Jb) : Int := if jobV j = 0 then (lastN j : Int) else 0
def lastKB (j : Jb) : Bool := if jobV j = 0 then overS j (lastN j) else false
def ctOverP : Ct := ctF [rangeSh, .lf .int] [.lf .int] (fun _ => True) (fun cs => [.i (overP (kn_ cs 0) (n_ cs 2))])
def ctLook : Ct := ctF [jobSh, .lf .int, .lf .int] [ocSh] (fun cs => JobOK cs 0 ∧ StepOK (n_ cs 14) ∧ ErrOK (n_ cs 15)) (fun cs => ocC (lookV (jobOf cs 0) (n_ cs 14) (n_ cs 15)))
def ctRest : Ct := ctF [jobSh, .lf .int] [ocSh] (fun cs => JobOK cs 0 ∧ StepOK (n_ cs 14)) (fun cs => ocC (deadV (jobOf cs 0) (n_ cs 14)))
def ctJLast : Ct := ctF [jobSh] [.lf .int, .lf .bool] (fun cs => JobOK cs 0) (fun cs => [.i (lastN (jobOf cs 0) : Int), .b (overS (jobOf cs 0) (lastN (jobOf cs 0)))])
def ctJEnds : Ct := ctF [jobSh] [ocSh] (fun cs => JobOK cs 0) (fun cs => ocC (endsV (jobOf cs 0)))
def ctLastK : Ct := ctF [wellSh, progSh, bubSh] [.lf .int, .lf .bool] (fun _ => True) (fun cs => [.i (lastKN (jobOf cs 0)), .b (lastKB (jobOf cs 0))])
def ctEndsK : Ct := ctF [wellSh, progSh, bubSh] [ocSh, .lf .int] (fun _ => True) (fun cs => ocC (endsOc (jobOf cs 0)) ++ [.i (jobV (jobOf cs 0))])
/-! Runs -/
def errsE (l : List Int) : Int := if 400 < l.length then 2 else if l.all (fun x => decide (-1 ≤ x) && decide (x ≤ 1)) then 0 else 2
def runE (j : Jb) (l : List Int) : Int := orE (jobV j) (errsE l)
def runM (j : Jb) (l : List Int) : List Mo := (List.range (lastN j + 1)).map fun (n : Nat) => momentV j (n : Int) (l.getD n 0)
def runV (j : Jb) (l : List Int) : List Mo := if runE j l = 0 then runM j l else []
def mosOf (rows : List (List C)) : List Mo := rows.map fun r => momOf r 0
def ctRun : Ct := ⟨[wellSh, progSh, bubSh, .lf (.arr 3)], [.lf (.vec 52), .lf .int], fun _ => True, fun cs rs => ∃ v rows, rs = [.s v rows, .i (runE (jobOf cs 0) (ints (at_ cs 12).rows))] ∧ mosOf rows = runV (jobOf cs 0) (ints (at_ cs 12).rows), false⟩
def tab5 : Tab where
  ct := fun f => match f with
    | 84 => some ctOverP
    | 63 => some ctLook
    | 64 => some ctRest
    | 52 => some ctJLast
    | 53 => some ctJEnds
    | 31 => some ctLastK
    | 35 => some ctEndsK
    | 37 => some ctRun
    | f => tab4.ct f
  inl := tab4.inl
  sel := tab4.sel
theorem up5_ok {f : Nat} (h : tab4.ok f) (he : tab5.ct f = tab4.ct f := by rfl) : tab5.ok f :=
  ⟨h.1, fun ct hc => h.2.1 ct (he ▸ hc), h.2.2.1, h.2.2.2⟩
end Go.Proofs.Ytmdmgpikbebejaa
/- Kill: what each function computes: sets of kicks. -/
namespace Go.Proofs.Ytmdmgpikbebejaa
set_option linter.unusedVariables false

def asc2 : List Int → Bool
  | a :: b :: l => decide (a < b) && asc2 (b :: l)
  | _ => true
def listE (l : List Int) : Int := if l.length = 0 then 6 else if 8 < l.length then 8 else if asc2 l then 0 else 11
def badVol (n : Int) : Bool := kickV ⟨n, 1⟩ != 0
def badPore (n : Int) : Bool := kickV ⟨1, n⟩ != 0
def setE (vs ps : List Int) : Int := orE (listE vs) (orE (listE ps) (if vs.any badVol || ps.any badPore then 2 else 0))
def bothE (w : Wl) (p : Pg) : Int := orE (wellV w) (progV p)
/-- The kicks of a set, in order. -/
def kicksOf (vs ps : List Int) : List Bb := vs.flatMap fun v => ps.map fun p => ⟨v, p⟩
def verGo (w : Wl) (p : Pg) : List Bb → Bb × Oc → Bb × Oc
  | [], x => x
  | k :: l, _ => if (endsV ⟨w, p, k⟩).is = 1 then verGo w p l (k, endsV ⟨w, p, k⟩) else (k, endsV ⟨w, p, k⟩)
def verV (w : Wl) (p : Pg) (vs ps : List Int) : Bb × Oc := verGo w p (kicksOf vs ps) (⟨0, 0⟩, noOc)
def verE (w : Wl) (p : Pg) (vs ps : List Int) : Int := orE (bothE w p) (setE vs ps)
def verOut (w : Wl) (p : Pg) (vs ps : List Int) : Bb × Oc := if verE w p vs ps = 0 then verV w p vs ps else (⟨0, 0⟩, noOc)
def bbC (k : Bb) : List C := [.i k.vol, .i k.pore]
/-- Up to how many steps all are killed. -/
def notKilled (w : Wl) (p : Pg) (pore step : Int) (n : Nat) : Bool := (endsV ⟨w, p, ⟨((n : Int) + 1) * step, pore⟩⟩).is != 1
def tolE (w : Wl) (p : Pg) (pore step most : Int) : Int := orE (bothE w p) (if kickV ⟨1, pore⟩ = 0 ∧ 1 ≤ step ∧ step ≤ 65536 ∧ 0 ≤ most ∧ most ≤ 64 then 0 else 2)
def tolV (w : Wl) (p : Pg) (pore step most : Int) : Int := if tolE w p pore step most = 0 then (firstN (notKilled w p pore step) most.toNat 0 : Int) else 0
def pgOf (r : List C) : Pg := progOf r 0
def progsOf (rows : List (List C)) : List Pg := rows.map pgOf
def choGo (w : Wl) (vs ps : List Int) : List Pg → Int → Int × Int
  | [], _ => (-1, 0)
  | p :: l, i => if verE w p vs ps = 0 then (if (verOut w p vs ps).2.is = 1 then (i, 0) else choGo w vs ps l (i + 1)) else (0, verE w p vs ps)
def choV (w : Wl) (l : List Pg) (vs ps : List Int) : Int × Int := if 8 < l.length then (0, 8) else choGo w vs ps l 0
def ctKList : Ct := ctF [.lf (.arr 2)] [.lf .int] (fun _ => True) (fun cs => [.i (listE (l_ cs 0))])
def ctKSet : Ct := ctF [.lf (.arr 2), .lf (.arr 2)] [.lf .int] (fun _ => True) (fun cs => [.i (setE (l_ cs 0) (l_ cs 1))])
def ctKBoth : Ct := ctF [wellSh, progSh] [.lf .int] (fun _ => True) (fun cs => [.i (bothE (wellOf cs 0) (progOf cs 6))])
def ctVerify : Ct := ctF [wellSh, progSh, .lf (.arr 2), .lf (.arr 2)] [bubSh, ocSh, .lf .int] (fun _ => True) (fun cs => bbC (verOut (wellOf cs 0) (progOf cs 6) (l_ cs 10) (l_ cs 11)).1 ++ ocC (verOut (wellOf cs 0) (progOf cs 6) (l_ cs 10) (l_ cs 11)).2 ++ [.i (verE (wellOf cs 0) (progOf cs 6) (l_ cs 10) (l_ cs 11))])
def ctTol : Ct := ctF [wellSh, progSh, .lf .int, .lf .int, .lf .int] [.lf .int, .lf .int] (fun _ => True) (fun cs => [.i (tolV (wellOf cs 0) (progOf cs 6) (n_ cs 10) (n_ cs 11) (n_ cs 12)), .i (tolE (wellOf cs 0) (progOf cs 6) (n_ cs 10) (n_ cs 11) (n_ cs 12))])
def ctChoose : Ct := ctF [wellSh, .lf (.arr 29), .lf (.arr 2), .lf (.arr 2)] [.lf .int, .lf .int] (fun _ => True) (fun cs => [.i (choV (wellOf cs 0) (progsOf (at_ cs 6).rows) (l_ cs 7) (l_ cs 8)).1, .i (choV (wellOf cs 0) (progsOf (at_ cs 6).rows) (l_ cs 7) (l_ cs 8)).2])
def tab6 : Tab where
  ct := fun f => match f with
    | 65 => some ctKList
    | 55 => some ctKSet
    | 54 => some ctKBoth
    | 36 => some ctVerify
    | 38 => some ctTol
    | 39 => some ctChoose
    | f => tab5.ct f
  inl := tab5.inl
  sel := tab5.sel
theorem up6_ok {f : Nat} (h : tab5.ok f) (he : tab6.ct f = tab5.ct f := by rfl) : tab6.ok f :=
  ⟨h.1, fun ct hc => h.2.1 ct (he ▸ hc), h.2.2.1, h.2.2.2⟩
end Go.Proofs.Ytmdmgpikbebejaa
/- What is to be shown of each function, as the executor has it. Printed by trees.py. -/
namespace Go.Proofs.Ytmdmgpikbebejaa
noncomputable def ckwell : Cx := tab4.only [29, 47, 43] (fun r => match r with
  | 3 => [.blk 2]
  | 17 => [.blk 2]
  | _ => []) [] 0 [] (fun _ => none)
def tkwell_1 : Tree :=
  (.ob (.and (.cmp .le (.lit (-9223372036854775808)) (.add (.lit 10000) (.rem (.var 27) (.lit 100001)))) (.cmp .le (.add (.lit 10000) (.rem (.var 27) (.lit 100001))) (.lit 9223372036854775807))) (.ob (.and (.cmp .le (.lit (-9223372036854775808)) (.quo (.var 27) (.lit 3))) (.cmp .le (.quo (.var 27) (.lit 3)) (.lit 9223372036854775807))) (.ob (.and (.cmp .le (.lit (-9223372036854775808)) (.add (.lit 50) (.rem (.quo (.var 27) (.lit 3)) (.lit 400)))) (.cmp .le (.add (.lit 50) (.rem (.quo (.var 27) (.lit 3)) (.lit 400))) (.lit 9223372036854775807))) (.ob (.and (.cmp .le (.lit (-9223372036854775808)) (.quo (.var 27) (.lit 7))) (.cmp .le (.quo (.var 27) (.lit 7)) (.lit 9223372036854775807))) (.ob (.and (.cmp .le (.lit (-9223372036854775808)) (.add (.lit 20) (.rem (.quo (.var 27) (.lit 7)) (.lit 100)))) (.cmp .le (.add (.lit 20) (.rem (.quo (.var 27) (.lit 7)) (.lit 100))) (.lit 9223372036854775807))) (.ob (.and (.cmp .le (.lit (-9223372036854775808)) (.quo (.var 27) (.lit 11))) (.cmp .le (.quo (.var 27) (.lit 11)) (.lit 9223372036854775807))) (.ob (.and (.cmp .le (.lit (-9223372036854775808)) (.quo (.add (.lit 10000) (.rem (.var 27) (.lit 100001))) (.lit 4))) (.cmp .le (.quo (.add (.lit 10000) (.rem (.var 27) (.lit 100001))) (.lit 4)) (.lit 9223372036854775807))) (.ob (.cmp .ne (.quo (.add (.lit 10000) (.rem (.var 27) (.lit 100001))) (.lit 4)) (.lit 0)) (.ob (.and (.cmp .le (.lit (-9223372036854775808)) (.sub (.add (.lit 10000) (.rem (.var 27) (.lit 100001))) (.rem (.quo (.var 27) (.lit 11)) (.quo (.add (.lit 10000) (.rem (.var 27) (.lit 100001))) (.lit 4))))) (.cmp .le (.sub (.add (.lit 10000) (.rem (.var 27) (.lit 100001))) (.rem (.quo (.var 27) (.lit 11)) (.quo (.add (.lit 10000) (.rem (.var 27) (.lit 100001))) (.lit 4)))) (.lit 9223372036854775807))) (.ob (.and (.cmp .le (.lit (-9223372036854775808)) (.add (.lit 10000) (.rem (.var 27) (.lit 100001)))) (.cmp .le (.add (.lit 10000) (.rem (.var 27) (.lit 100001))) (.lit 9223372036854775807))) (.ob (.and (.cmp .le (.lit (-9223372036854775808)) (.sub (.add (.lit 10000) (.rem (.var 27) (.lit 100001))) (.rem (.quo (.var 27) (.lit 11)) (.quo (.add (.lit 10000) (.rem (.var 27) (.lit 100001))) (.lit 4))))) (.cmp .le (.sub (.add (.lit 10000) (.rem (.var 27) (.lit 100001))) (.rem (.quo (.var 27) (.lit 11)) (.quo (.add (.lit 10000) (.rem (.var 27) (.lit 100001))) (.lit 4)))) (.lit 9223372036854775807))) (.ob (.and (.cmp .le (.lit (-9223372036854775808)) (.add (.lit 50) (.rem (.quo (.var 27) (.lit 3)) (.lit 400)))) (.cmp .le (.add (.lit 50) (.rem (.quo (.var 27) (.lit 3)) (.lit 400))) (.lit 9223372036854775807))) (.ob (.and (.cmp .le (.lit (-9223372036854775808)) (.add (.lit 20) (.rem (.quo (.var 27) (.lit 7)) (.lit 100)))) (.cmp .le (.add (.lit 20) (.rem (.quo (.var 27) (.lit 7)) (.lit 100))) (.lit 9223372036854775807))) (.arr [[(.int (.add (.lit 10000) (.rem (.var 27) (.lit 100001)))), (.int (.sub (.add (.lit 10000) (.rem (.var 27) (.lit 100001))) (.rem (.quo (.var 27) (.lit 11)) (.quo (.add (.lit 10000) (.rem (.var 27) (.lit 100001))) (.lit 4))))), (.int (.add (.lit 50) (.rem (.quo (.var 27) (.lit 3)) (.lit 400)))), (.int (.add (.lit 20) (.rem (.quo (.var 27) (.lit 7)) (.lit 100))))]] (.ob (.cmp .le (.mul (.add (.len (.var 21)) (.len (.var 28))) (.lit 32)) (.lit 140737488355328)) (.cat (.var 21) (.var 28) (.back 0 [(.int (.add (.var 20) (.lit 1))), (.cnt 97 (.var 29)), (.int (.var 22)), (.cnt 70 (.var 23)), (.int (.var 24)), (.int (.var 25)), (.int (.var 26))])))))))))))))))))
def tkwell_2 : Tree :=
  (.ob (.and (.cmp .le (.lit (-9223372036854775808)) (.add (.var 30) (.lit 1))) (.cmp .le (.add (.var 30) (.lit 1)) (.lit 9223372036854775807))) (.ob (.and (.cmp .le (.lit (-9223372036854775808)) (.quo (.var 27) (.lit 4))) (.cmp .le (.quo (.var 27) (.lit 4)) (.lit 9223372036854775807))) (.ob (.cmp .ne (.quo (.var 27) (.lit 4)) (.lit 0)) (.ob (.and (.cmp .le (.lit (-9223372036854775808)) (.add (.add (.var 30) (.lit 1)) (.rem (.var 38) (.quo (.var 27) (.lit 4))))) (.cmp .le (.add (.add (.var 30) (.lit 1)) (.rem (.var 38) (.quo (.var 27) (.lit 4)))) (.lit 9223372036854775807))) (.ob (.and (.cmp .le (.lit (-9223372036854775808)) (.quo (.var 38) (.lit 5))) (.cmp .le (.quo (.var 38) (.lit 5)) (.lit 9223372036854775807))) (.ob (.and (.cmp .le (.lit (-9223372036854775808)) (.add (.lit 13000) (.rem (.quo (.var 38) (.lit 5)) (.lit 9001)))) (.cmp .le (.add (.lit 13000) (.rem (.quo (.var 38) (.lit 5)) (.lit 9001))) (.lit 9223372036854775807))) (.ob (.and (.cmp .le (.lit (-9223372036854775808)) (.quo (.var 28) (.lit 4))) (.cmp .le (.quo (.var 28) (.lit 4)) (.lit 9223372036854775807))) (.ob (.and (.cmp .le (.lit (-9223372036854775808)) (.mul (.quo (.var 28) (.lit 4)) (.var 31))) (.cmp .le (.mul (.quo (.var 28) (.lit 4)) (.var 31)) (.lit 9223372036854775807))) (.ob (.and (.cmp .le (.lit (-9223372036854775808)) (.sub (.var 28) (.mul (.quo (.var 28) (.lit 4)) (.var 31)))) (.cmp .le (.sub (.var 28) (.mul (.quo (.var 28) (.lit 4)) (.var 31))) (.lit 9223372036854775807))) (.ob (.and (.cmp .le (.lit (-9223372036854775808)) (.mul (.add (.lit 13000) (.rem (.quo (.var 38) (.lit 5)) (.lit 9001))) (.sub (.var 28) (.mul (.quo (.var 28) (.lit 4)) (.var 31))))) (.cmp .le (.mul (.add (.lit 13000) (.rem (.quo (.var 38) (.lit 5)) (.lit 9001))) (.sub (.var 28) (.mul (.quo (.var 28) (.lit 4)) (.var 31)))) (.lit 9223372036854775807))) (.ob (.and (.cmp .le (.lit (-9223372036854775808)) (.add (.add (.var 30) (.lit 1)) (.rem (.var 38) (.quo (.var 27) (.lit 4))))) (.cmp .le (.add (.add (.var 30) (.lit 1)) (.rem (.var 38) (.quo (.var 27) (.lit 4)))) (.lit 9223372036854775807))) (.ob (.and (.cmp .le (.lit (-9223372036854775808)) (.mul (.add (.lit 13000) (.rem (.quo (.var 38) (.lit 5)) (.lit 9001))) (.sub (.var 28) (.mul (.quo (.var 28) (.lit 4)) (.var 31))))) (.cmp .le (.mul (.add (.lit 13000) (.rem (.quo (.var 38) (.lit 5)) (.lit 9001))) (.sub (.var 28) (.mul (.quo (.var 28) (.lit 4)) (.var 31)))) (.lit 9223372036854775807))) (.arr [[(.int (.add (.add (.var 30) (.lit 1)) (.rem (.var 38) (.quo (.var 27) (.lit 4))))), (.int (.mul (.add (.lit 13000) (.rem (.quo (.var 38) (.lit 5)) (.lit 9001))) (.sub (.var 28) (.mul (.quo (.var 28) (.lit 4)) (.var 31)))))]] (.ob (.cmp .le (.mul (.add (.len (.var 34)) (.len (.var 39))) (.lit 16)) (.lit 140737488355328)) (.cat (.var 34) (.var 39) (.ob (.and (.cmp .le (.lit (-9223372036854775808)) (.add (.add (.var 30) (.lit 1)) (.rem (.var 38) (.quo (.var 27) (.lit 4))))) (.cmp .le (.add (.add (.var 30) (.lit 1)) (.rem (.var 38) (.quo (.var 27) (.lit 4)))) (.lit 9223372036854775807))) (.back 2 [(.int (.add (.add (.var 30) (.lit 1)) (.rem (.var 38) (.quo (.var 27) (.lit 4))))), (.int (.add (.var 31) (.lit 1))), (.cnt 97 (.var 32)), (.int (.var 33)), (.cnt 70 (.var 40)), (.int (.var 35)), (.int (.var 36)), (.int (.var 37))])))))))))))))))))
def tkwell_3 : Tree :=
  (.ob (.and (.cmp .le (.lit (-9223372036854775808)) (.add (.lit 4) (.var 39))) (.cmp .le (.add (.lit 4) (.var 39)) (.lit 9223372036854775807))) (.ob (.cmp .ne (.add (.lit 4) (.var 39)) (.lit 0)) (.ob (.and (.cmp .le (.lit (-9223372036854775808)) (.quo (.var 27) (.add (.lit 4) (.var 39)))) (.cmp .le (.quo (.var 27) (.add (.lit 4) (.var 39))) (.lit 9223372036854775807))) (.ob (.and (.cmp .le (.lit (-9223372036854775808)) (.add (.lit 1) (.quo (.var 27) (.add (.lit 4) (.var 39))))) (.cmp .le (.add (.lit 1) (.quo (.var 27) (.add (.lit 4) (.var 39)))) (.lit 9223372036854775807))) (.ob (.and (.cmp .le (.lit (-9223372036854775808)) (.add (.lit 1) (.quo (.var 27) (.add (.lit 4) (.var 39))))) (.cmp .le (.add (.lit 1) (.quo (.var 27) (.add (.lit 4) (.var 39)))) (.lit 9223372036854775807))) (.ret [(.cnt 97 (.var 32)), (.int (.var 33)), (.cnt 70 (.var 34)), (.int (.var 35)), (.int (.var 38)), (.int (.add (.lit 1) (.quo (.var 27) (.add (.lit 4) (.var 39)))))]))))))
def tkwell_4 : Tree :=
  (.loop [.int, .int] [(.int (.lit 0)), (.int (.lit 0))] (.split (.cmp .lt (.var 29) (.len (.var 21))) (.ob (.cmp .le (.lit 0) (.var 29)) (.ob (.cmp .lt (.var 29) (.len (.var 21))) (.ob (.and (.cmp .le (.lit (-9223372036854775808)) (.add (.var 28) (.cell (.var 21) (.var 29) 1))) (.cmp .le (.add (.var 28) (.cell (.var 21) (.var 29) 1)) (.lit 9223372036854775807))) (.ob (.and (.cmp .le (.lit (-9223372036854775808)) (.add (.var 28) (.cell (.var 21) (.var 29) 1))) (.cmp .le (.add (.var 28) (.cell (.var 21) (.var 29) 1)) (.lit 9223372036854775807))) (.back 1 [(.int (.add (.var 28) (.cell (.var 21) (.var 29) 1))), (.int (.add (.var 29) (.lit 1)))]))))) (.loop [.int, .int, (.vec 97), .int, (.vec 70), .int, .int, .int] [(.int (.lit 0)), (.int (.lit 0)), (.cnt 97 (.var 21)), (.int (.var 22)), (.cnt 70 (.var 23)), (.int (.var 24)), (.int (.var 25)), (.int (.var 26))] (.split (.cmp .lt (.var 31) (.len (.var 1))) (.split (.cmp .lt (.var 31) (.lit 3)) (.call 47 [(.arr 2 (.var 1)), (.int (.var 31))] tkwell_2) (.call 29 [(.int (.var 4)), (.int (.var 27))] (.call 29 [(.int (.var 5)), (.int (.lit 25))] tkwell_3))) (.call 29 [(.int (.var 4)), (.int (.var 27))] (.call 29 [(.int (.var 5)), (.int (.lit 25))] tkwell_3))))))
def tkwell_5 : Tree :=
  (.dfn .nil (.dfn .nil (.dfn .nil (.dfn .nil (.ob (.and (.cmp .le (.lit (-9223372036854775808)) (.add (.lit 10000) (.var 14))) (.cmp .le (.add (.lit 10000) (.var 14)) (.lit 9223372036854775807))) (.loop [.int, (.vec 97), .int, (.vec 70), .int, .int, .int] [(.int (.lit 0)), (.cnt 97 (.var 16)), (.int (.add (.lit 10000) (.var 14))), (.cnt 70 (.var 17)), (.int (.var 15)), (.int (.lit 0)), (.int (.lit 0))] (.split (.cmp .lt (.var 20) (.max (.lit 1) (.min (.len (.var 0)) (.lit 3)))) (.call 47 [(.arr 2 (.var 0)), (.int (.var 20))] tkwell_1) (.call 43 [(.arr 97 (.var 21))] tkwell_4))))))))
def tkwell_6 : Tree :=
  (.ob (.and (.cmp .le (.lit (-9223372036854775808)) (.add (.lit 10000) (.var 14))) (.cmp .le (.add (.lit 10000) (.var 14)) (.lit 9223372036854775807))) (.call 29 [(.int (.var 3)), (.int (.lit 1500000000))] tkwell_5))
def tkwell : Tree :=
  (.dfn .nil (.dfn .nil (.call 29 [(.int (.var 2)), (.int (.lit 6001))] tkwell_6)))
noncomputable def ckkicks : Cx := tab4.only [23, 47] (fun _ => []) [] 0 [] (fun _ => none)
def tkkicks_1 : Tree :=
  (.ob (.and (.cmp .le (.lit (-9223372036854775808)) (.add (.add (.var 27) (.lit 1)) (.rem (.var 29) (.lit 2000000)))) (.cmp .le (.add (.add (.var 27) (.lit 1)) (.rem (.var 29) (.lit 2000000))) (.lit 9223372036854775807))) (.ob (.and (.cmp .le (.lit (-9223372036854775808)) (.add (.add (.var 27) (.lit 1)) (.rem (.var 29) (.lit 2000000)))) (.cmp .le (.add (.add (.var 27) (.lit 1)) (.rem (.var 29) (.lit 2000000))) (.lit 9223372036854775807))) (.arr [[(.int (.add (.add (.var 27) (.lit 1)) (.rem (.var 29) (.lit 2000000))))]] (.ob (.cmp .le (.mul (.add (.len (.var 26)) (.len (.var 30))) (.lit 8)) (.lit 140737488355328)) (.cat (.var 26) (.var 30) (.ob (.and (.cmp .le (.lit (-9223372036854775808)) (.add (.add (.var 27) (.lit 1)) (.rem (.var 29) (.lit 2000000)))) (.cmp .le (.add (.add (.var 27) (.lit 1)) (.rem (.var 29) (.lit 2000000))) (.lit 9223372036854775807))) (.back 1 [(.cnt 2 (.var 31)), (.int (.add (.add (.var 27) (.lit 1)) (.rem (.var 29) (.lit 2000000)))), (.int (.add (.var 28) (.lit 1)))])))))))
def tkkicks_2 : Tree :=
  (.ob (.and (.cmp .le (.lit (-9223372036854775808)) (.add (.add (.var 30) (.lit 1)) (.rem (.var 32) (.lit 60000000)))) (.cmp .le (.add (.add (.var 30) (.lit 1)) (.rem (.var 32) (.lit 60000000))) (.lit 9223372036854775807))) (.ob (.and (.cmp .le (.lit (-9223372036854775808)) (.add (.add (.var 30) (.lit 1)) (.rem (.var 32) (.lit 60000000)))) (.cmp .le (.add (.add (.var 30) (.lit 1)) (.rem (.var 32) (.lit 60000000))) (.lit 9223372036854775807))) (.arr [[(.int (.add (.add (.var 30) (.lit 1)) (.rem (.var 32) (.lit 60000000))))]] (.ob (.cmp .le (.mul (.add (.len (.var 29)) (.len (.var 33))) (.lit 8)) (.lit 140737488355328)) (.cat (.var 29) (.var 33) (.ob (.and (.cmp .le (.lit (-9223372036854775808)) (.add (.add (.var 30) (.lit 1)) (.rem (.var 32) (.lit 60000000)))) (.cmp .le (.add (.add (.var 30) (.lit 1)) (.rem (.var 32) (.lit 60000000))) (.lit 9223372036854775807))) (.back 2 [(.cnt 2 (.var 34)), (.int (.add (.add (.var 30) (.lit 1)) (.rem (.var 32) (.lit 60000000)))), (.int (.add (.var 31) (.lit 1)))])))))))
def tkkicks_3 : Tree :=
  (.dfn .nil (.dfn .nil (.loop [.int, .int] [(.int (.lit 0)), (.int (.lit 0))] (.split (.cmp .lt (.var 23) (.len (.var 14))) (.ob (.cmp .le (.lit 0) (.var 23)) (.ob (.cmp .lt (.var 23) (.len (.var 14))) (.ob (.and (.cmp .le (.lit (-9223372036854775808)) (.add (.var 22) (.cell (.var 14) (.var 23) 1))) (.cmp .le (.add (.var 22) (.cell (.var 14) (.var 23) 1)) (.lit 9223372036854775807))) (.ob (.and (.cmp .le (.lit (-9223372036854775808)) (.add (.var 22) (.cell (.var 14) (.var 23) 1))) (.cmp .le (.add (.var 22) (.cell (.var 14) (.var 23) 1)) (.lit 9223372036854775807))) (.back 0 [(.int (.add (.var 22) (.cell (.var 14) (.var 23) 1))), (.int (.add (.var 23) (.lit 1)))]))))) (.dfn .nil (.dfn .nil (.ob (.and (.cmp .le (.lit (-9223372036854775808)) (.mul (.var 15) (.var 22))) (.cmp .le (.mul (.var 15) (.var 22)) (.lit 9223372036854775807))) (.loop [(.vec 2), .int, .int] [(.cnt 2 (.var 24)), (.int (.lit 0)), (.int (.lit 0))] (.split (.cmp .lt (.var 28) (.max (.lit 1) (.min (.len (.var 10)) (.lit 3)))) (.ob (.and (.cmp .le (.lit (-9223372036854775808)) (.add (.var 27) (.lit 1))) (.cmp .le (.add (.var 27) (.lit 1)) (.lit 9223372036854775807))) (.call 47 [(.arr 2 (.var 10)), (.int (.var 28))] tkkicks_1)) (.ob (.and (.cmp .le (.lit (-9223372036854775808)) (.mul (.var 15) (.var 22))) (.cmp .le (.mul (.var 15) (.var 22)) (.lit 9223372036854775807))) (.loop [(.vec 2), .int, .int] [(.cnt 2 (.var 25)), (.int (.mul (.var 15) (.var 22))), (.int (.lit 0))] (.split (.cmp .lt (.var 31) (.max (.lit 1) (.min (.len (.var 11)) (.lit 3)))) (.ob (.and (.cmp .le (.lit (-9223372036854775808)) (.add (.var 30) (.lit 1))) (.cmp .le (.add (.var 30) (.lit 1)) (.lit 9223372036854775807))) (.call 47 [(.arr 2 (.var 11)), (.int (.var 31))] tkkicks_2)) (.ret [(.cnt 2 (.var 26)), (.cnt 2 (.var 29))])))))))))))))
def tkkicks : Tree :=
  (.dfn .nil (.dfn .nil (.call 23 [(.arr 2 (.var 0)), (.arr 2 (.var 1)), (.int (.var 2)), (.int (.var 3)), (.int (.var 4)), (.int (.var 5)), (.int (.var 6)), (.int (.var 7)), (.int (.var 8)), (.int (.var 9)), (.arr 2 (.var 10)), (.arr 2 (.var 11))] tkkicks_3)))
end Go.Proofs.Ytmdmgpikbebejaa
/- Kill: the wells, programs and kicks that are made of numbers are valid. -/
namespace Go.Proofs.Ytmdmgpikbebejaa
set_option linter.unusedVariables false
set_option linter.unusedSimpArgs false

theorem pickV_box (l : List Int) (i : Int) : 0 ≤ pickV l i ∧ pickV l i < 1099511627776 := by
  unfold pickV
  split
  · omega
  · exact ⟨Int.emod_nonneg _ (by decide), Int.emod_lt_of_pos _ (by decide)⟩
structure SegOK (s : Sg) : Prop where
  l : 10000 ≤ s.l ∧ s.l ≤ 110000
  r : 7500 ≤ s.r ∧ s.r ≤ s.l
  a : 50 ≤ s.a ∧ s.a ≤ 449
  g : 20 ≤ s.g ∧ s.g ≤ 119
theorem segB_box {n : Int} (h0 : 0 ≤ n) : SegOK (segB n) := by
  have h1 := Int.emod_nonneg (n / 11) (b := (10000 + n % 100001) / 4) (by omega)
  have h2 := Int.emod_lt_of_pos (n / 11) (show 0 < (10000 + n % 100001) / 4 by omega)
  unfold segB
  refine ⟨⟨?_, ?_⟩, ⟨?_, ?_⟩, ⟨?_, ?_⟩, ⟨?_, ?_⟩⟩ <;> simp only [] <;> omega
theorem many_box (l : List Int) : 1 ≤ many l ∧ many l ≤ 3 := by unfold many; omega
theorem segsB_len (x : Br) : (segsB x).length = many x.segs := by simp [segsB]
theorem segsB_seg (x : Br) : ∀ s ∈ segsB x, SegOK s := by
  intro s hs
  obtain ⟨i, -, rfl⟩ := List.mem_map.1 hs
  exact segB_box (pickV_box _ _).1
theorem SegOK.fair {s : Sg} (h : SegOK s) : fairV s = true := by
  obtain ⟨h1, h2, h3, h4⟩ := h
  exact fairV_iff.2 ⟨by omega, by omega, by omega, by omega⟩
theorem segs_sums : ∀ {l : List Sg}, (∀ s ∈ l, SegOK s) → (l.length : Int) * 10000 ≤ longV l ∧ longV l ≤ l.length * 110000 ∧ (l.length : Int) * 500000 ≤ volV l ∧ volV l ≤ l.length * 49390000 ∧ (l.length : Int) * 7500 ≤ riseV l ∧ riseV l ≤ longV l
  | [], _ => by simp [longV, volV, riseV]
  | s :: l, h => by
    obtain ⟨h1, h2, h3, h4⟩ := h s (by simp)
    have ih := segs_sums (l := l) fun x hx => h x (by simp [hx])
    have m1 := mul_box (a := s.l) (b := s.a) (A := 110000) (B := 449) (by omega) (by omega) (by omega) (by omega)
    have m2 : 10000 * 50 ≤ s.l * s.a := Int.mul_le_mul (by omega) (by omega) (by omega) (by omega)
    simp only [longV, volV, riseV, List.length_cons]
    omega
theorem segsB_hole (x : Br) : holeV (segsB x) = 0 := by
  have h := segs_sums (segsB_seg x)
  have hl := segsB_len x
  have hm := many_box x.segs
  unfold holeV
  rw [if_neg (by omega), if_neg (by omega), if_pos (List.all_eq_true.2 fun s hs => (segsB_seg x s hs).fair), if_neg (by omega)]
theorem segsB_box (x : Br) : 500000 ≤ volV (segsB x) ∧ volV (segsB x) ≤ 148170000 ∧ 7500 ≤ riseV (segsB x) ∧ riseV (segsB x) ≤ 330000 := by
  have h := segs_sums (segsB_seg x)
  have hl := segsB_len x
  have hm := many_box x.segs
  omega
theorem ptsB_len (l : List Int) (room all : Int) : ∀ (n i : Nat) (a : Int), (ptsB l room all n i a).length = n
  | 0, _, _ => rfl
  | n + 1, i, a => by rw [ptsB, List.length_cons, ptsB_len]
/-- Where a point lies, and its pressure. -/
theorem ptB_box {l : List Int} {room all : Int} (hr : 500000 ≤ room) (ha : 0 ≤ all ∧ all ≤ 330000) {i : Nat} (hi : i < 3) (k : Int) : (0 ≤ pickV l k % (room / 4) ∧ pickV l k % (room / 4) + 1 ≤ room / 4) ∧ 0 ≤ (13000 + pickV l k / 5 % 9001) * (all - all / 4 * i) ∧ (13000 + pickV l k / 5 % 9001) * (all - all / 4 * i) ≤ 7260000000 := by
  have h1 := Int.emod_nonneg (pickV l k) (b := room / 4) (by omega)
  have h2 := Int.emod_lt_of_pos (pickV l k) (show 0 < room / 4 by omega)
  have h3 : 0 ≤ all - all / 4 * i ∧ all - all / 4 * i ≤ all := by
    rcases (show i = 0 ∨ i = 1 ∨ i = 2 by omega) with rfl | rfl | rfl <;> simp <;> omega
  have h4 := mul_box (a := 13000 + pickV l k / 5 % 9001) (b := all - all / 4 * i) (A := 22000) (B := 330000) (by omega) (by omega) h3.1 (by omega)
  omega
theorem ptsB_ok {l : List Int} {room all : Int} (hr : 500000 ≤ room) (ha : 0 ≤ all ∧ all ≤ 330000) : ∀ (n i : Nat) (a last : Int), i + n ≤ 3 → 0 ≤ a → a ≤ room / 4 * i → last ≤ a → badKs room 68719476736 last (ptsB l room all n i a) = 0
  | 0, _, _, _, _, _, _, _ => rfl
  | n + 1, i, a, last, hi, a0, a1, hl => by
    obtain ⟨p1, p2⟩ := ptB_box (l := l) hr ha (i := i) (by omega) (i : Int)
    have ih := ptsB_ok (l := l) hr ha n (i + 1) (a + 1 + pickV l i % (room / 4)) (a + 1 + pickV l i % (room / 4)) (by omega) (by omega) (by push_cast; rw [Int.mul_add]; omega) (Int.le_refl _)
    have hb : a + 1 + pickV l i % (room / 4) ≤ room := by
      rcases (show i = 0 ∨ i = 1 ∨ i = 2 by omega) with rfl | rfl | rfl <;> simp at a1 <;> omega
    rw [ptsB, badKs_next (by show 0 ≤ a + 1 + pickV l i % (room / 4) ∧ a + 1 + pickV l i % (room / 4) ≤ room ∧ 0 ≤ (13000 + pickV l i / 5 % 9001) * (all - all / 4 * i) ∧ (13000 + pickV l i / 5 % 9001) * (all - all / 4 * i) ≤ 68719476736; omega) (by show last < a + 1 + pickV l i % (room / 4); omega)]
    exact ih
theorem wellB_ok (x : Br) : wellV (wellB x) = 0 := by
  obtain ⟨h1, h2, h3, h4⟩ := segsB_box x
  have hd : 0 ≤ volV (segsB x) / (4 + x.step % 25) ∧ volV (segsB x) / (4 + x.step % 25) ≤ volV (segsB x) / 4 := ⟨Int.ediv_nonneg (by omega) (by omega), by
    have h5 : 4 + x.step % 25 = 4 + (x.step % 25) := rfl
    rw [Int.le_ediv_iff_mul_le (by decide)]
    have h6 := Int.ediv_mul_le (volV (segsB x)) (b := 4 + x.step % 25) (by omega)
    have h7 : 0 ≤ volV (segsB x) / (4 + x.step % 25) := Int.ediv_nonneg (by omega) (by omega)
    have h8 : volV (segsB x) / (4 + x.step % 25) * 4 ≤ volV (segsB x) / (4 + x.step % 25) * (4 + x.step % 25) := Int.mul_le_mul_of_nonneg_left (by omega) h7
    omega⟩
  have p0 := Int.emod_nonneg x.pipe (b := volV (segsB x)) (by omega)
  have p1 := Int.emod_lt_of_pos x.pipe (show 0 < volV (segsB x) by omega)
  have hb := ptsB_ok (l := x.points) (room := volV (segsB x)) (all := riseV (segsB x)) h1 (by omega) (min x.points.length 3) 0 0 (-1) (by omega) (by omega) (by simp) (by omega)
  rcases wellV_last (s := segsB x) (wt := 10000 + x.weight % 6001) (ps := ptsB x.points (volV (segsB x)) (riseV (segsB x)) (min x.points.length 3) 0 0) (li := x.limit % 1500000000) (pi := x.pipe % volV (segsB x)) (st := 1 + volV (segsB x) / (4 + x.step % 25)) (segsB_hole x) (by omega) (by rw [ptsB_len]; omega) hb with h | h
  · exact h.2.2.2
  · exfalso; omega
theorem progB_ok (x : Br) : progV (progB x) = 0 := by
  have := progV_cases (1 + x.kind % 3) (11000 + x.kill % 8001) (x.margin % 30000000) (x.err % 12000000)
  unfold progB
  omega
theorem runB_len (l : List Int) (m : Int) : ∀ (n i : Nat) (a : Int), (runB l m n i a).length = n
  | 0, _, _ => rfl
  | n + 1, i, a => by rw [runB, List.length_cons, runB_len]
theorem runB_box {l : List Int} {m : Int} (hm : 1 ≤ m) : ∀ (n i : Nat) (a : Int), ∀ v ∈ runB l m n i a, a + 1 ≤ v ∧ v ≤ a + m * n
  | 0, _, _, v, hv => by cases hv
  | n + 1, i, a, v, hv => by
    have h1 := Int.emod_nonneg (pickV l i) (b := m) (by omega)
    have h2 := Int.emod_lt_of_pos (pickV l i) (show 0 < m by omega)
    have hnn : 0 ≤ m * n := Int.mul_nonneg (by omega) (by omega)
    rw [runB] at hv
    push_cast
    rw [Int.mul_add]
    rcases List.mem_cons.1 hv with rfl | hv
    · omega
    · have := runB_box (l := l) hm n (i + 1) _ v hv
      omega
theorem volsB_len (x : Br) : (volsB x).length = many x.vols := by unfold volsB; rw [runB_len]
theorem poresB_len (x : Br) : (poresB x).length = many x.pores := by unfold poresB; rw [runB_len]
theorem volsB_box (x : Br) : ∀ v ∈ volsB x, 1 ≤ v ∧ v ≤ 6000000 := by
  intro v hv
  have h := runB_box (l := x.vols) (m := 2000000) (by decide) _ 0 0 v hv
  have hm := many_box x.vols
  omega
theorem poresB_box (x : Br) : ∀ v ∈ poresB x, 1 ≤ v ∧ v ≤ 5460000000 := by
  intro v hv
  have h := runB_box (l := x.pores) (m := 60000000) (by decide) _ 0 _ v hv
  have hm := many_box x.pores
  obtain ⟨h1, h2, h3, h4⟩ := segsB_box x
  have m1 := mul_box (a := 10000 + x.weight % 6001) (b := riseV (segsB x)) (A := 16000) (B := 330000) (by omega) (by omega) (by omega) (by omega)
  omega
theorem kickB_ok {v p : Int} (h1 : 1 ≤ v ∧ v ≤ 16777216) (h2 : 1 ≤ p ∧ p ≤ 17179869184) : kickV ⟨v, p⟩ = 0 := by
  have := kickV_cases v p
  omega
end Go.Proofs.Ytmdmgpikbebejaa
/- Kill: equal moments; wells of numbers. -/
namespace Go.Proofs.Ytmdmgpikbebejaa
open Go.RowKit
set_option linter.unusedSimpArgs false
set_option linter.unusedVariables false

theorem segs_app1 (rows : List (List C)) (a b c d : Int) : segsOf (rows ++ [[.i a, .i b, .i c, .i d]]) = segsOf rows ++ [⟨a, b, c, d⟩] := by simp [segsOf, segOf, C.int]
theorem segsB_take {x : Br} {i : Nat} (h : i < many x.segs) : (segsB x).take (i + 1) = (segsB x).take i ++ [segB (pickV x.segs (i : Int))] := by
  rw [take_snoc (by rw [segsB_len]; exact h) sg0]
  congr 2
  simp [segsB, List.getD_eq_getElem?_getD, h]
theorem segB_t {n : Int} (h : 0 ≤ n) : (10000 + n.tmod 100001) = (segB n).l ∧ (10000 + n.tmod 100001) - (n.tdiv 11).tmod ((10000 + n.tmod 100001).tdiv 4) = (segB n).r ∧ 50 + (n.tdiv 3).tmod 400 = (segB n).a ∧ 20 + (n.tdiv 7).tmod 100 = (segB n).g := by
  have e1 : n.tmod 100001 = n % 100001 := Int.tmod_eq_emod_of_nonneg h
  have e2 : n.tdiv 11 = n / 11 := Int.tdiv_eq_ediv_of_nonneg h
  have e3 : n.tdiv 3 = n / 3 := Int.tdiv_eq_ediv_of_nonneg h
  have e4 : n.tdiv 7 = n / 7 := Int.tdiv_eq_ediv_of_nonneg h
  rw [e1, e2, e3, e4, Int.tmod_eq_emod_of_nonneg (a := n / 11) (by omega), Int.tmod_eq_emod_of_nonneg (a := n / 3) (by omega), Int.tmod_eq_emod_of_nonneg (a := n / 7) (by omega), Int.tdiv_eq_ediv_of_nonneg (a := 10000 + n % 100001) (by omega)]
  exact ⟨rfl, rfl, rfl, rfl⟩
set_option maxHeartbeats 1000000 in
theorem kwell_ok : tab4.ok 23 := by
  refine Tab.of_ct rfl rfl ⟨_, Try.func23, by decide, rfl⟩ ?_ (fun h => by cases h)
  refine ct_ok (cx := ckwell) (Tab.cx_ok (all_cons mod64_ok (all_cons pick_ok (all_cons (up4_ok (up3_ok rvol_ok)) all_nil)))) Try.func23 (bds := []) (T := tkwell) (by kernel_rfl) ?_
  have h1 : ckwell.ct 29 = some ctMod := rfl
  have h2 : ckwell.ct 47 = some ctPick := rfl
  have h3 : ckwell.ct 43 = some ctVol := rfl
  unfold tkwell
  simp only [VC, allC, List.map_cons, List.map_nil, List.length_cons, List.length_nil, List.getElem?_cons_zero, List.getElem?_cons_succ, List.cons.injEq, C.i.injEq, C.b.injEq, and_true, true_and, forall_const, kindsOf_nil, kindsOf_lf, kindsOf_agg, kindsOf_box, boxKinds_nil, boxKinds_lf, boxKinds_agg, boxKinds_box, List.append_nil, List.cons_append, List.nil_append, den_cmp_le, den_cmp_lt, den_cmp_eq, den_cmp_ne, den_cmp_le', den_cmp_lt', den_cmp_eq', den_cmp_ne', den_and, den_and', den_or, den_or', den_not, den_not', den_blit, den_of, ev_var, at_0, at_1, at_2, at_3, at_4, at_5, at_6, at_7, at_skip, c_int, c_bool, c_arr, c_cnt, c_vec, ev_nil, ev_join, ev_sub3, loc_s, int_i, bool_b, rows_s, cs_nil, cs_cons, E.den_lit, E.den_var, E.den_add, E.den_sub, E.den_mul, E.den_quo, E.den_rem, E.den_max, E.den_min, E.den_len, E.den_wr, E.den_cell, Nat.reduceAdd, h1, ctMod, ctF, ctKWell, boreSh, wellVSh, n_]
  intro u1 r1 _ _ _ u2 r2 _ _ _ we _ _ li _ _ pi _ _ st _ _ ki _ _ kl _ _ ma _ _ er _ _ u3 r3 _ _ _ u4 r4 _ _ _
  obtain ⟨x, hx⟩ : ∃ x, x = brOf [C.s u1 r1, C.s u2 r2, C.i we, C.i li, C.i pi, C.i st, C.i ki, C.i kl, C.i ma, C.i er, C.s u3 r3, C.s u4 r4] 0 := ⟨_, rfl⟩
  rw [← hx]
  have x1 : x.segs = ints r1 := by rw [hx]; rfl
  have x2 : x.points = ints r2 := by rw [hx]; rfl
  have x3 : x.weight = we := by rw [hx]; rfl
  have x4 : x.limit = li := by rw [hx]; rfl
  have x5 : x.pipe = pi := by rw [hx]; rfl
  have x6 : x.step = st := by rw [hx]; rfl
  clear hx
  have l1 := ints_len r1
  have l2 := ints_len r2
  rw [← x1] at l1
  rw [← x2] at l2
  refine ⟨bds_nil _, by decide, fun w0 _ _ ew => ?_⟩
  unfold tkwell_6
  simp only [VC, allC, List.map_cons, List.map_nil, List.length_cons, List.length_nil, List.getElem?_cons_zero, List.getElem?_cons_succ, List.cons.injEq, C.i.injEq, C.b.injEq, and_true, true_and, forall_const, kindsOf_nil, kindsOf_lf, kindsOf_agg, kindsOf_box, boxKinds_nil, boxKinds_lf, boxKinds_agg, boxKinds_box, List.append_nil, List.cons_append, List.nil_append, den_cmp_le, den_cmp_lt, den_cmp_eq, den_cmp_ne, den_cmp_le', den_cmp_lt', den_cmp_eq', den_cmp_ne', den_and, den_and', den_or, den_or', den_not, den_not', den_blit, den_of, ev_var, at_0, at_1, at_2, at_3, at_4, at_5, at_6, at_7, at_skip, c_int, c_bool, c_arr, c_cnt, c_vec, ev_nil, ev_join, ev_sub3, loc_s, int_i, bool_b, rows_s, cs_nil, cs_cons, E.den_lit, E.den_var, E.den_add, E.den_sub, E.den_mul, E.den_quo, E.den_rem, E.den_max, E.den_min, E.den_len, E.den_wr, E.den_cell, Nat.reduceAdd, h1, ctMod, ctF, n_]
  refine ⟨⟨by omega, by omega⟩, by decide, fun l0 _ _ el => ?_⟩
  unfold tkwell_5
  simp only [VC, allC, List.map_cons, List.map_nil, List.length_cons, List.length_nil, List.getElem?_cons_zero, List.getElem?_cons_succ, List.cons.injEq, C.i.injEq, C.b.injEq, and_true, true_and, forall_const, kindsOf_nil, kindsOf_lf, kindsOf_agg, kindsOf_box, boxKinds_nil, boxKinds_lf, boxKinds_agg, boxKinds_box, List.append_nil, List.cons_append, List.nil_append, den_cmp_le, den_cmp_lt, den_cmp_eq, den_cmp_ne, den_cmp_le', den_cmp_lt', den_cmp_eq', den_cmp_ne', den_and, den_and', den_or, den_or', den_not, den_not', den_blit, den_of, ev_var, at_0, at_1, at_2, at_3, at_4, at_5, at_6, at_7, at_skip, c_int, c_bool, c_arr, c_cnt, c_vec, ev_nil, ev_join, ev_sub3, loc_s, int_i, bool_b, rows_s, cs_nil, cs_cons, E.den_lit, E.den_var, E.den_add, E.den_sub, E.den_mul, E.den_quo, E.den_rem, E.den_max, E.den_min, E.den_len, E.den_wr, E.den_cell, Nat.reduceAdd, h2, h3, ctPick, ctVol, holeSh, ctF, n_, l_, s_]
  refine ⟨⟨by omega, by omega⟩, fun xs => match xs with | [.i i, .s _ rs, .i w, .s _ rp, .i a, .i b, .i c] => 0 ≤ i ∧ i ≤ many x.segs ∧ segsOf rs = (segsB x).take i.toNat ∧ w = 10000 + w0 ∧ rp = [] ∧ a = l0 ∧ b = 0 ∧ c = 0 | _ => False, fun xs => match xs with | [.i i, _, _, _, _, _, _] => ((many x.segs : Int) - i).toNat | _ => 0, ⟨by omega, by omega, rfl, rfl, rfl, rfl, rfl, rfl⟩, ?_⟩
  rintro i _ _ v5 rs _ _ _ w _ _ v6 rp _ _ _ a _ _ b _ _ c _ _ ⟨i0, i1, hrs, rfl, rfl, rfl, rfl, rfl⟩
  have hm : (many x.segs : Int) = max 1 (min (r1.length : Int) 3) := by unfold many; omega
  have hlr : rs.length = i.toNat := by rw [← segs_len, hrs, List.length_take, segsB_len]; omega
  refine ⟨fun hlt => ⟨i0, fun n n0 n1 hn => ?_⟩, fun hge => fun rm _ _ hrm => ?_⟩
  · rw [← x1] at hn
    have hb := pickV_box x.segs i
    rw [← hn] at hb
    obtain ⟨s1, s2, s3, s4⟩ := segB_t (n := n) hb.1
    obtain ⟨q1, q2, q3, q4⟩ := segB_box (n := n) hb.1
    unfold tkwell_1
    simp only [VC, allC, List.map_cons, List.map_nil, List.length_cons, List.length_nil, List.getElem?_cons_zero, List.getElem?_cons_succ, List.cons.injEq, C.i.injEq, C.b.injEq, and_true, true_and, forall_const, kindsOf_nil, kindsOf_lf, kindsOf_agg, kindsOf_box, boxKinds_nil, boxKinds_lf, boxKinds_agg, boxKinds_box, List.append_nil, List.cons_append, List.nil_append, den_cmp_le, den_cmp_lt, den_cmp_eq, den_cmp_ne, den_cmp_le', den_cmp_lt', den_cmp_eq', den_cmp_ne', den_and, den_and', den_or, den_or', den_not, den_not', den_blit, den_of, ev_var, at_0, at_1, at_2, at_3, at_4, at_5, at_6, at_7, at_skip, c_int, c_bool, c_arr, c_cnt, c_vec, ev_nil, ev_join, ev_sub3, loc_s, int_i, bool_b, rows_s, cs_nil, cs_cons, E.den_lit, E.den_var, E.den_add, E.den_sub, E.den_mul, E.den_quo, E.den_rem, E.den_max, E.den_min, E.den_len, E.den_wr, E.den_cell, Nat.reduceAdd]
    rw [s2, s3, s4]
    have e1 : n.tmod 100001 = n % 100001 := Int.tmod_eq_emod_of_nonneg hb.1
    have e2 : n.tdiv 11 = n / 11 := Int.tdiv_eq_ediv_of_nonneg hb.1
    have e3 : n.tdiv 3 = n / 3 := Int.tdiv_eq_ediv_of_nonneg hb.1
    have e4 : n.tdiv 7 = n / 7 := Int.tdiv_eq_ediv_of_nonneg hb.1
    have e5 : (10000 + n.tmod 100001).tdiv 4 = (10000 + n.tmod 100001) / 4 := Int.tdiv_eq_ediv_of_nonneg (by omega)
    rw [e2, e3, e4, e5]
    refine ⟨by omega, by omega, by omega, by omega, by omega, by omega, by omega, by omega, by omega, by omega, by omega, by omega, by omega, by rw [hlr]; push_cast; omega, ⟨by omega, by omega, ?_⟩, by omega⟩
    rw [segs_app1, hrs, show (i + 1).toNat = i.toNat + 1 by omega, segsB_take (by omega), show ((i.toNat : Nat) : Int) = i by omega, ← hn, s1]
  · unfold tkwell_4
    simp only [VC, allC, List.map_cons, List.map_nil, List.length_cons, List.length_nil, List.getElem?_cons_zero, List.getElem?_cons_succ, List.cons.injEq, C.i.injEq, C.b.injEq, and_true, true_and, forall_const, kindsOf_nil, kindsOf_lf, kindsOf_agg, kindsOf_box, boxKinds_nil, boxKinds_lf, boxKinds_agg, boxKinds_box, List.append_nil, List.cons_append, List.nil_append, den_cmp_le, den_cmp_lt, den_cmp_eq, den_cmp_ne, den_cmp_le', den_cmp_lt', den_cmp_eq', den_cmp_ne', den_and, den_and', den_or, den_or', den_not, den_not', den_blit, den_of, ev_var, at_0, at_1, at_2, at_3, at_4, at_5, at_6, at_7, at_skip, c_int, c_bool, c_arr, c_cnt, c_vec, ev_nil, ev_join, ev_sub3, loc_s, int_i, bool_b, rows_s, cs_nil, cs_cons, E.den_lit, E.den_var, E.den_add, E.den_sub, E.den_mul, E.den_quo, E.den_rem, E.den_max, E.den_min, E.den_len, E.den_wr, E.den_cell, Nat.reduceAdd, h1, h2, ctPick, ctMod, ctF, n_, l_, ev_cell, sr_at]
    have hS : segsOf rs = segsB x := by rw [hrs, List.take_of_length_le (by rw [segsB_len]; omega)]
    have hL : (rs.length : Int) = (segsB x).length := by rw [← hS, segs_len]
    rw [hS] at hrm
    rw [roomS_yes (segsB_hole x)] at hrm
    rw [hS, hL]
    obtain ⟨bx1, bx2, bx3, bx4⟩ := segsB_box x
    refine ⟨fun xs => match xs with | [.i a, .i k] => 0 ≤ k ∧ k ≤ (segsB x).length ∧ a = riseK (segsB x) k.toNat | _ => False, fun xs => match xs with | [_, .i k] => (((segsB x).length : Int) - k).toNat | _ => 0, ⟨by omega, by omega, rfl⟩, ?_⟩
    rintro al _ _ k _ _ ⟨k0, k1, rfl⟩
    have hk2 := riseK_box (segsB_hole x) (k.toNat + 1)
    refine ⟨fun hlt => ?_, fun hge2 => ?_⟩
    · rw [riseK_succ (show k.toNat < (segsB x).length by omega)] at hk2
      exact ⟨k0, hlt, by omega, by omega, ⟨by omega, by omega, by rw [show (k + 1).toNat = k.toNat + 1 by omega, riseK_succ (show k.toNat < (segsB x).length by omega)]⟩, (show (((segsB x).length : Int) - (k + 1)).toNat < (((segsB x).length : Int) - k).toNat by omega)⟩
    · have hall : riseK (segsB x) k.toNat = riseV (segsB x) := by unfold riseK; rw [List.take_of_length_le (by omega)]
      rw [hall]
      obtain ⟨room, hroom⟩ : ∃ r, volV (segsB x) = r := ⟨_, rfl⟩
      obtain ⟨all, halld⟩ : ∃ r, riseV (segsB x) = r := ⟨_, rfl⟩
      rw [hroom] at bx1 bx2 hrm
      rw [halld] at bx3 bx4 ⊢
      subst hrm
      obtain ⟨m, hmd⟩ : ∃ m, m = min x.points.length 3 := ⟨_, rfl⟩
      refine ⟨fun xs => match xs with | [.i q, .i k, .s _ rs2, .i w, .s _ rp, .i l, .i b, .i c] => 0 ≤ k ∧ k ≤ m ∧ 0 ≤ q ∧ q ≤ rm / 4 * k ∧ segsOf rs2 = segsB x ∧ w = 10000 + w0 ∧ rp.length = k.toNat ∧ knots rp ++ ptsB x.points rm all (m - k.toNat) k.toNat q = ptsB x.points rm all m 0 0 ∧ l = a ∧ b = 0 ∧ c = 0 | _ => False, fun xs => match xs with | [_, .i k, _, _, _, _, _, _] => ((m : Int) - k).toNat | _ => 0, ?_, ?_⟩
      · exact ⟨by omega, by omega, by omega, by simp, hS, rfl, rfl, rfl, rfl, rfl, rfl⟩
      · rintro at0 _ _ k2 _ _ v7 rs2 _ _ _ w _ _ v8 rp _ _ _ l _ _ b _ _ c _ _ ⟨k20, k21, a0, a1, hs2, rfl, hlp, hpt, rfl, rfl, rfl⟩
        refine ⟨fun hlt => ⟨fun h3 => ⟨k20, fun n n0 n1 hn => ?_⟩, fun h3 => ?_⟩, fun hge3 => ?_⟩
        · rw [← x2] at hn
          have hb := pickV_box x.points k2
          rw [← hn] at hb
          have hk3 : ((k2.toNat : Nat) : Int) = k2 := by omega
          obtain ⟨⟨p1, p2⟩, p3, p4⟩ := ptB_box (l := x.points) bx1 (show 0 ≤ all ∧ all ≤ 330000 by omega) (show k2.toNat < 3 by omega) k2
          rw [← hn, hk3] at p3 p4
          rw [← hn] at p1 p2
          have e1 : rm.tdiv 4 = rm / 4 := Int.tdiv_eq_ediv_of_nonneg (by omega)
          have e2 : n.tmod (rm / 4) = n % (rm / 4) := Int.tmod_eq_emod_of_nonneg hb.1
          have e3 : n.tdiv 5 = n / 5 := Int.tdiv_eq_ediv_of_nonneg hb.1
          have e4 : (n / 5).tmod 9001 = n / 5 % 9001 := Int.tmod_eq_emod_of_nonneg (by omega)
          have e5 : all.tdiv 4 = all / 4 := Int.tdiv_eq_ediv_of_nonneg (by omega)
          unfold tkwell_2
          simp only [VC, allC, List.map_cons, List.map_nil, List.length_cons, List.length_nil, List.getElem?_cons_zero, List.getElem?_cons_succ, List.cons.injEq, C.i.injEq, C.b.injEq, and_true, true_and, forall_const, kindsOf_nil, kindsOf_lf, kindsOf_agg, kindsOf_box, boxKinds_nil, boxKinds_lf, boxKinds_agg, boxKinds_box, List.append_nil, List.cons_append, List.nil_append, den_cmp_le, den_cmp_lt, den_cmp_eq, den_cmp_ne, den_cmp_le', den_cmp_lt', den_cmp_eq', den_cmp_ne', den_and, den_and', den_or, den_or', den_not, den_not', den_blit, den_of, ev_var, at_0, at_1, at_2, at_3, at_4, at_5, at_6, at_7, at_skip, c_int, c_bool, c_arr, c_cnt, c_vec, ev_nil, ev_join, ev_sub3, loc_s, int_i, bool_b, rows_s, cs_nil, cs_cons, E.den_lit, E.den_var, E.den_add, E.den_sub, E.den_mul, E.den_quo, E.den_rem, E.den_max, E.den_min, E.den_len, E.den_wr, E.den_cell, Nat.reduceAdd]
          rw [e1, e2, e3, e4, e5]
          have m1 : 0 ≤ all / 4 * k2 ∧ all / 4 * k2 ≤ all := by
            rcases (show k2 = 0 ∨ k2 = 1 ∨ k2 = 2 by omega) with rfl | rfl | rfl <;> omega
          have hat : at0 + 1 + n % (rm / 4) ≤ rm / 4 * (k2 + 1) := by rw [Int.mul_add]; omega
          have hat2 : rm / 4 * (k2 + 1) ≤ rm := by
            rcases (show k2 = 0 ∨ k2 = 1 ∨ k2 = 2 by omega) with rfl | rfl | rfl <;> omega
          generalize hv : (13000 + n / 5 % 9001) * (all - all / 4 * k2) = V at *
          refine ⟨by omega, by omega, by omega, by omega, by omega, by omega, by omega, by omega, by omega, by omega, by omega, by omega, by rw [hlp]; push_cast; omega, by omega, ⟨by omega, by omega, by omega, hat, hs2, by rw [List.length_append, hlp, List.length_singleton]; omega, ?_⟩, (show ((m : Int) - (k2 + 1)).toNat < ((m : Int) - k2).toNat by omega)⟩
          rw [show m - k2.toNat = (m - (k2 + 1).toNat) + 1 by omega, ptsB, hk3, ← hn, hv] at hpt
          rw [knots_app, List.append_assoc, show (k2 + 1).toNat = k2.toNat + 1 by omega] at *
          exact hpt
        all_goals
          have hkm : k2.toNat = m := by omega
          refine ⟨by omega, fun n n0 n1 hn => ⟨by decide, fun s s0 s1 hs => ?_⟩⟩
          unfold tkwell_3
          simp only [VC, allC, List.map_cons, List.map_nil, List.length_cons, List.length_nil, List.getElem?_cons_zero, List.getElem?_cons_succ, List.cons.injEq, C.i.injEq, C.b.injEq, and_true, true_and, forall_const, kindsOf_nil, kindsOf_lf, kindsOf_agg, kindsOf_box, boxKinds_nil, boxKinds_lf, boxKinds_agg, boxKinds_box, List.append_nil, List.cons_append, List.nil_append, den_cmp_le, den_cmp_lt, den_cmp_eq, den_cmp_ne, den_cmp_le', den_cmp_lt', den_cmp_eq', den_cmp_ne', den_and, den_and', den_or, den_or', den_not, den_not', den_blit, den_of, ev_var, at_0, at_1, at_2, at_3, at_4, at_5, at_6, at_7, at_skip, c_int, c_bool, c_arr, c_cnt, c_vec, ev_nil, ev_join, ev_sub3, loc_s, int_i, bool_b, rows_s, cs_nil, cs_cons, E.den_lit, E.den_var, E.den_add, E.den_sub, E.den_mul, E.den_quo, E.den_rem, E.den_max, E.den_min, E.den_len, E.den_wr, E.den_cell, Nat.reduceAdd]
          have q0 : 0 ≤ s ∧ s ≤ 24 := by omega
          have e1 : rm.tdiv (4 + s) = rm / (4 + s) := Int.tdiv_eq_ediv_of_nonneg (by omega)
          have q1 : 0 ≤ rm / (4 + s) := Int.ediv_nonneg (by omega) (by omega)
          have q2 : rm / (4 + s) ≤ rm := Int.ediv_le_self _ (by omega)
          rw [e1]
          refine ⟨by omega, by omega, by omega, by omega, by omega, v7, rs2, _, v8, rp, _, _, _, ⟨rfl, rfl, rfl, rfl, rfl, rfl⟩, ?_⟩
          rw [hkm, Nat.sub_self, ptsB, List.append_nil] at hpt
          unfold wellB
          rw [hroom, halld, x3, x4, x5, x6, ← hs2, ← hmd, ← hpt, ← ew, ← el, ← hn, ← hs]
          rfl
end Go.Proofs.Ytmdmgpikbebejaa
/- Kill: sets of kicks of numbers. -/
namespace Go.Proofs.Ytmdmgpikbebejaa
open Go.RowKit
set_option linter.unusedSimpArgs false
set_option linter.unusedVariables false

theorem ints_app1 (rows : List (List C)) (a : Int) : ints (rows ++ [[.i a]]) = ints rows ++ [a] := by simp [ints, C.int]
set_option maxHeartbeats 1000000 in
theorem kkicks_ok : tab4.ok 25 := by
  refine Tab.of_ct rfl rfl ⟨_, Try.func25, by decide, rfl⟩ ?_ (fun h => by cases h)
  refine ct_ok (cx := ckkicks) (Tab.cx_ok (all_cons kwell_ok (all_cons pick_ok all_nil))) Try.func25 (bds := []) (T := tkkicks) (by kernel_rfl) ?_
  have h1 : ckkicks.ct 23 = some ctKWell := rfl
  have h2 : ckkicks.ct 47 = some ctPick := rfl
  unfold tkkicks
  simp only [VC, allC, List.map_cons, List.map_nil, List.length_cons, List.length_nil, List.getElem?_cons_zero, List.getElem?_cons_succ, List.cons.injEq, C.i.injEq, C.b.injEq, and_true, true_and, forall_const, kindsOf_nil, kindsOf_lf, kindsOf_agg, kindsOf_box, boxKinds_nil, boxKinds_lf, boxKinds_agg, boxKinds_box, List.append_nil, List.cons_append, List.nil_append, den_cmp_le, den_cmp_lt, den_cmp_eq, den_cmp_ne, den_cmp_le', den_cmp_lt', den_cmp_eq', den_cmp_ne', den_and, den_and', den_or, den_or', den_not, den_not', den_blit, den_of, ev_var, at_0, at_1, at_2, at_3, at_4, at_5, at_6, at_7, at_skip, c_int, c_bool, c_arr, c_cnt, c_vec, ev_nil, ev_join, ev_sub3, loc_s, int_i, bool_b, rows_s, cs_nil, cs_cons, E.den_lit, E.den_var, E.den_add, E.den_sub, E.den_mul, E.den_quo, E.den_rem, E.den_max, E.den_min, E.den_len, E.den_wr, E.den_cell, Nat.reduceAdd, h1, ctKWell, ctF, ctKKicks, boreSh, wellVSh, n_]
  intro u1 r1 _ _ _ u2 r2 _ _ _ we _ _ li _ _ pi _ _ st _ _ ki _ _ kl _ _ ma _ _ er _ _ u3 r3 _ _ _ u4 r4 _ _ _
  obtain ⟨x, hx⟩ : ∃ x, x = brOf [C.s u1 r1, C.s u2 r2, C.i we, C.i li, C.i pi, C.i st, C.i ki, C.i kl, C.i ma, C.i er, C.s u3 r3, C.s u4 r4] 0 := ⟨_, rfl⟩
  rw [← hx]
  have x1 : x.vols = ints r3 := by rw [hx]; rfl
  have x2 : x.pores = ints r4 := by rw [hx]; rfl
  clear hx
  have l1 := ints_len r3
  have l2 := ints_len r4
  rw [← x1] at l1
  rw [← x2] at l2
  refine ⟨bds_nil _, ?_⟩
  rintro v1 rows _ _ _ w _ _ v2 rows2 _ _ _ _ _ _ _ _ _ _ _ _ ⟨_, _, _, _, _, _, _, _, -, hw⟩
  have hS : segsOf rows = segsB x := congrArg Wl.segs hw
  have hwt : w = 10000 + x.weight % 6001 := congrArg Wl.weight hw
  clear hw
  unfold tkkicks_3
  simp only [VC, allC, List.map_cons, List.map_nil, List.length_cons, List.length_nil, List.getElem?_cons_zero, List.getElem?_cons_succ, List.cons.injEq, C.i.injEq, C.b.injEq, and_true, true_and, forall_const, kindsOf_nil, kindsOf_lf, kindsOf_agg, kindsOf_box, boxKinds_nil, boxKinds_lf, boxKinds_agg, boxKinds_box, List.append_nil, List.cons_append, List.nil_append, den_cmp_le, den_cmp_lt, den_cmp_eq, den_cmp_ne, den_cmp_le', den_cmp_lt', den_cmp_eq', den_cmp_ne', den_and, den_and', den_or, den_or', den_not, den_not', den_blit, den_of, ev_var, at_0, at_1, at_2, at_3, at_4, at_5, at_6, at_7, at_skip, c_int, c_bool, c_arr, c_cnt, c_vec, ev_nil, ev_join, ev_sub3, loc_s, int_i, bool_b, rows_s, cs_nil, cs_cons, E.den_lit, E.den_var, E.den_add, E.den_sub, E.den_mul, E.den_quo, E.den_rem, E.den_max, E.den_min, E.den_len, E.den_wr, E.den_cell, Nat.reduceAdd, h2, ctPick, ctF, n_, l_, ev_cell, sr_at]
  have hL : (rows.length : Int) = (segsB x).length := by rw [← hS, segs_len]
  obtain ⟨bx1, bx2, bx3, bx4⟩ := segsB_box x
  have hp := mul_box (a := w) (b := riseV (segsB x)) (A := 16000) (B := 330000) (by omega) (by omega) (by omega) (by omega)
  rw [hS, hL]
  refine ⟨fun xs => match xs with | [.i a, .i k] => 0 ≤ k ∧ k ≤ (segsB x).length ∧ a = riseK (segsB x) k.toNat | _ => False, fun xs => match xs with | [_, .i k] => (((segsB x).length : Int) - k).toNat | _ => 0, ⟨by omega, by omega, rfl⟩, ?_⟩
  rintro al _ _ k _ _ ⟨k0, k1, rfl⟩
  have hk2 := riseK_box (segsB_hole x) (k.toNat + 1)
  refine ⟨fun hlt => ?_, fun hge2 => ?_⟩
  · rw [riseK_succ (show k.toNat < (segsB x).length by omega)] at hk2
    exact ⟨k0, hlt, by omega, by omega, ⟨by omega, by omega, by rw [show (k + 1).toNat = k.toNat + 1 by omega, riseK_succ (show k.toNat < (segsB x).length by omega)]⟩, (show (((segsB x).length : Int) - (k + 1)).toNat < (((segsB x).length : Int) - k).toNat by omega)⟩
  · have hall : riseK (segsB x) k.toNat = riseV (segsB x) := by unfold riseK; rw [List.take_of_length_le (by omega)]
    rw [hall]
    have hm1 : (many x.vols : Int) = max 1 (min (r3.length : Int) 3) := by unfold many; omega
    have hm2 : (many x.pores : Int) = max 1 (min (r4.length : Int) 3) := by unfold many; omega
    have hb1 := many_box x.vols
    have hb2 := many_box x.pores
    refine ⟨by omega, fun xs => match xs with | [.s _ rs, .i v, .i i] => 0 ≤ i ∧ i ≤ many x.vols ∧ rs.length = i.toNat ∧ 0 ≤ v ∧ v ≤ 2000000 * i ∧ ints rs ++ runB x.vols 2000000 (many x.vols - i.toNat) i.toNat v = volsB x | _ => False, fun xs => match xs with | [_, _, .i i] => ((many x.vols : Int) - i).toNat | _ => 0, ⟨by omega, by omega, rfl, by omega, by omega, rfl⟩, ?_⟩
    rintro v5 rs _ _ _ v _ _ i _ _ ⟨i0, i1, hl, w0, w1, hI⟩
    refine ⟨fun hlt => ⟨by omega, i0, fun n n0 n1 hn => ?_⟩, fun hge => ⟨by omega, ?_⟩⟩
    · rw [← x1] at hn
      have hb := pickV_box x.vols i
      rw [← hn] at hb
      have e1 : n.tmod 2000000 = n % 2000000 := Int.tmod_eq_emod_of_nonneg hb.1
      unfold tkkicks_1
      simp only [VC, allC, List.map_cons, List.map_nil, List.length_cons, List.length_nil, List.getElem?_cons_zero, List.getElem?_cons_succ, List.cons.injEq, C.i.injEq, C.b.injEq, and_true, true_and, forall_const, kindsOf_nil, kindsOf_lf, kindsOf_agg, kindsOf_box, boxKinds_nil, boxKinds_lf, boxKinds_agg, boxKinds_box, List.append_nil, List.cons_append, List.nil_append, den_cmp_le, den_cmp_lt, den_cmp_eq, den_cmp_ne, den_cmp_le', den_cmp_lt', den_cmp_eq', den_cmp_ne', den_and, den_and', den_or, den_or', den_not, den_not', den_blit, den_of, ev_var, at_0, at_1, at_2, at_3, at_4, at_5, at_6, at_7, at_skip, c_int, c_bool, c_arr, c_cnt, c_vec, ev_nil, ev_join, ev_sub3, loc_s, int_i, bool_b, rows_s, cs_nil, cs_cons, E.den_lit, E.den_var, E.den_add, E.den_sub, E.den_mul, E.den_quo, E.den_rem, E.den_max, E.den_min, E.den_len, E.den_wr, E.den_cell, Nat.reduceAdd]
      rw [e1]
      refine ⟨by omega, by omega, by rw [hl]; push_cast; omega, by omega, ⟨by omega, by omega, by rw [List.length_append, hl, List.length_singleton]; omega, by omega, by omega, ?_⟩, (show ((many x.vols : Int) - (i + 1)).toNat < ((many x.vols : Int) - i).toNat by omega)⟩
      rw [show many x.vols - i.toNat = (many x.vols - (i + 1).toNat) + 1 by omega, runB, show ((i.toNat : Nat) : Int) = i by omega, ← hn] at hI
      rw [ints_app1, List.append_assoc, show (i + 1).toNat = i.toNat + 1 by omega] at *
      exact hI
    · refine ⟨fun xs => match xs with | [.s _ rs, .i v, .i i] => 0 ≤ i ∧ i ≤ many x.pores ∧ rs.length = i.toNat ∧ 0 ≤ v ∧ v ≤ 5280000000 + 60000000 * i ∧ ints rs ++ runB x.pores 60000000 (many x.pores - i.toNat) i.toNat v = poresB x | _ => False, fun xs => match xs with | [_, _, .i i] => ((many x.pores : Int) - i).toNat | _ => 0, ⟨by omega, by omega, rfl, by omega, by omega, by rw [hwt]; rfl⟩, ?_⟩
      rintro v6 rs2 _ _ _ v' _ _ i' _ _ ⟨i0', i1', hl', w0', w1', hI'⟩
      refine ⟨fun hlt => ⟨by omega, i0', fun n n0 n1 hn => ?_⟩, fun hge' => ?_⟩
      · rw [← x2] at hn
        have hb := pickV_box x.pores i'
        rw [← hn] at hb
        have e1 : n.tmod 60000000 = n % 60000000 := Int.tmod_eq_emod_of_nonneg hb.1
        unfold tkkicks_2
        simp only [VC, allC, List.map_cons, List.map_nil, List.length_cons, List.length_nil, List.getElem?_cons_zero, List.getElem?_cons_succ, List.cons.injEq, C.i.injEq, C.b.injEq, and_true, true_and, forall_const, kindsOf_nil, kindsOf_lf, kindsOf_agg, kindsOf_box, boxKinds_nil, boxKinds_lf, boxKinds_agg, boxKinds_box, List.append_nil, List.cons_append, List.nil_append, den_cmp_le, den_cmp_lt, den_cmp_eq, den_cmp_ne, den_cmp_le', den_cmp_lt', den_cmp_eq', den_cmp_ne', den_and, den_and', den_or, den_or', den_not, den_not', den_blit, den_of, ev_var, at_0, at_1, at_2, at_3, at_4, at_5, at_6, at_7, at_skip, c_int, c_bool, c_arr, c_cnt, c_vec, ev_nil, ev_join, ev_sub3, loc_s, int_i, bool_b, rows_s, cs_nil, cs_cons, E.den_lit, E.den_var, E.den_add, E.den_sub, E.den_mul, E.den_quo, E.den_rem, E.den_max, E.den_min, E.den_len, E.den_wr, E.den_cell, Nat.reduceAdd]
        rw [e1]
        refine ⟨by omega, by omega, by rw [hl']; push_cast; omega, by omega, ⟨by omega, by omega, by rw [List.length_append, hl', List.length_singleton]; omega, by omega, by omega, ?_⟩, (show ((many x.pores : Int) - (i' + 1)).toNat < ((many x.pores : Int) - i').toNat by omega)⟩
        rw [show many x.pores - i'.toNat = (many x.pores - (i' + 1).toNat) + 1 by omega, runB, show ((i'.toNat : Nat) : Int) = i' by omega, ← hn] at hI'
        rw [ints_app1, List.append_assoc, show (i' + 1).toNat = i'.toNat + 1 by omega] at *
        exact hI'
      · rw [show i.toNat = many x.vols by omega, Nat.sub_self, runB, List.append_nil] at hI
        rw [show i'.toNat = many x.pores by omega, Nat.sub_self, runB, List.append_nil] at hI'
        exact ⟨v5, rs, v6, rs2, ⟨rfl, rfl⟩, hI, hI'⟩
end Go.Proofs.Ytmdmgpikbebejaa
/- A result that is a slice of one's own may be taken as any slice. -/
namespace Go.Proofs.Ytmdmgpikbebejaa
open Go.RowKit
set_option linter.unusedVariables false
section
variable {P : Program}
theorem outs_any {w : World} {B B' : Nat → Nat → Prop} : ∀ {ss : List Sh0} {vs : List Value} {cs : List C}, ss.all (fun s => !s.isBox) = true → Outs P w B ss vs cs → Outs P w B' ss vs cs
  | [], [], _, _, h => h
  | [], _ :: _, _, _, h => h
  | .lf _ :: ss, [], _, _, h => h
  | .agg _ :: ss, [], _, _, h => h
  | .box .. :: ss, [], _, _, h => h
  | .lf _ :: ss, v :: vs, cs, hno, h => outs_any (ss := ss) (vs := vs) (cs := cs) (by simp only [List.all_cons, Bool.and_eq_true] at hno; exact hno.2) h
  | .agg _ :: ss, v :: vs, cs, hno, h => outs_any (ss := ss) (vs := vs) (cs := cs) (by simp only [List.all_cons, Bool.and_eq_true] at hno; exact hno.2) h
  | .box .. :: ss, v :: vs, cs, hno, h => by simp [Sh0.isBox] at hno
def toArr : Lk → Lk
  | .vec t => .arr t
  | k => k
theorem vecB_toArr : ∀ (ks : List Lk) (cs : List C), vecB (ks.map toArr) cs = []
  | [], cs => by cases cs <;> rfl
  | k :: ks, [] => by cases k <;> rfl
  | k :: ks, c :: cs => by cases k <;> exact vecB_toArr ks cs
theorem lreps_arr {w : World} {O O' : Nat → Nat → Prop} (hO : ∀ b o, O' b o → O b o) : ∀ {ks : List Lk} {us : List Value} {cs : List C}, LReps P w O ks us cs → (∀ b ∈ vecB ks cs, ∀ o, ¬ O' b o) → LReps P w O' (ks.map toArr) us cs
  | [], [], [], _, _ => trivial
  | k :: ks, u :: us, c :: cs, ⟨h1, h2⟩, hb => by
    have hb2 : ∀ b ∈ vecB ks cs, ∀ o, ¬ O' b o := fun b hb' => hb b (by
      cases k with
      | vec t => simp only [vecB]; exact List.mem_append_right _ hb'
      | _ => exact hb')
    refine ⟨?_, lreps_arr hO h2 hb2⟩
    cases k with
    | int => exact h1
    | bool => exact h1
    | arr t => exact ⟨h1.1, h1.2.1, ArrOK.anti h1.2.2 hO⟩
    | vec t =>
      obtain ⟨hs, hu, hvec⟩ := h1
      obtain ⟨v', hc⟩ : ∃ v', c = .s v' c.rows := by obtain ⟨ks, us', -, hc, -⟩ := hvec; exact hc
      have key := VecOK.arr hvec hO (fun b hb' => hb b (by simp only [vecB]; rw [← hu, hb']; simp))
      have he : C.s u c.rows = c := by rw [hu]; rw [hc]; rfl
      rw [he] at key
      exact ⟨hs, hu, key⟩
  | [], _ :: _, _, h, _ => h.elim
  | [], [], _ :: _, h, _ => h.elim
  | _ :: _, [], _, h, _ => h.elim
  | _ :: _, _ :: _, [], h, _ => h.elim
/-- .. and one with a struct of such. -/
theorem ct_arrs {f : FuncId} {args : List Sh0} {ks : List Lk} {pre : List C → Prop} {post : List C → List C → Prop} {det : Bool} (hno : args.all (fun s => !s.isBox) = true)
    (h : CtOK P f ⟨args, [.agg ks], pre, post, det⟩) : CtOK P f ⟨args, [.agg (ks.map toArr)], pre, post, det⟩ := by
  intro Base w vs cs hB hr hp
  refine (h Base w vs cs hB hr hp).mono ?_
  rintro e w' ⟨v, rs, outs, rfl, ⟨us, hv, hres, hnd, hnew⟩, hout, hpost, hk⟩
  have hz : vecB (kindsOf [Sh0.agg (ks.map toArr)]) rs = [] := by
    rw [show kindsOf [Sh0.agg (ks.map toArr)] = ks.map toArr by simp [kindsOf, Sh0.kinds]]
    exact vecB_toArr _ _
  have hy : vecB (kindsOf [Sh0.agg ks]) rs = vecB ks rs := by
    rw [show kindsOf [Sh0.agg ks] = ks by simp [kindsOf, Sh0.kinds]]
  refine ⟨v, rs, outs, rfl, ⟨us, hv, ?_, by rw [hz]; simp, by rw [hz]; simp⟩, outs_any hno hout, hpost, hk⟩
  rw [hz]
  rw [hy] at hres hnew
  match us, hres with
  | [u], hres =>
    obtain ⟨c1, c2, rfl, ⟨us', rfl, hl⟩, h2⟩ := hres
    cases h2
    refine ⟨c1, [], rfl, ⟨us', rfl, lreps_arr (fun b o hb => ?_) hl fun b hb o hx => ?_⟩, rfl⟩
    · rcases hb with hb | hb
      · exact .inl hb
      · cases hb
    · rcases hx with hx | hx
      · have h1 := hB b o hx
        have h2 := hnew b (by rw [List.append_nil]; exact hb)
        omega
      · cases hx
  | [], hres => exact hres.elim
  | _ :: _ :: _, hres => obtain ⟨c1, c2, rfl, -, h2⟩ := hres; exact h2.elim
end
end Go.Proofs.Ytmdmgpikbebejaa
/- Kill: wells of numbers whose slices are any slices. -/
namespace Go.Proofs.Ytmdmgpikbebejaa
open Go.RowKit
set_option linter.unusedVariables false

def ctKWellA : Ct := ⟨[boreSh], [wellSh], fun _ => True, ctKWell.post, false⟩
def tab7 : Tab where
  ct := fun f => match f with
    | 23 => some ctKWellA
    | f => tab6.ct f
  inl := tab6.inl
  sel := tab6.sel
theorem up7_ok {f : Nat} (h : tab6.ok f) (he : tab7.ct f = tab6.ct f := by rfl) : tab7.ok f :=
  ⟨h.1, fun ct hc => h.2.1 ct (he ▸ hc), h.2.2.1, h.2.2.2⟩
theorem kwellA_ok : tab7.ok 23 :=
  Tab.of_ct (ct := ctKWellA) rfl rfl ⟨_, Try.func23, by decide, rfl⟩ (ct_arrs (ks := [.vec 97, .int, .vec 70, .int, .int, .int]) rfl (kwell_ok.2.1 ctKWell rfl).1) (fun h => by cases h)
end Go.Proofs.Ytmdmgpikbebejaa
/- What is to be shown of each function, as the executor has it. Printed by trees.py. -/
namespace Go.Proofs.Ytmdmgpikbebejaa
noncomputable def clwin : Cx := tab7.only [23, 24, 25, 26, 36, 37, 21, 14] (fun _ => []) [] 0 [] (fun r => match r with
  | 50001 => some ([(24, false, [.arr 97, .int, .arr 70, .int, .int, .int]), (26, false, [.int, .int, .int, .int])], [.blk 3000000])
  | 90022 => some ([(21, true, [.int])], [])
  | 50023 => some ([(158, true, [.bool])], [])
  | _ => none)
def tlwin_1 : Tree :=
  (.call 24 [(.arr 2 (.var 0)), (.arr 2 (.var 1)), (.int (.var 2)), (.int (.var 3)), (.int (.var 4)), (.int (.var 5)), (.int (.var 6)), (.int (.var 7)), (.int (.var 8)), (.int (.var 9)), (.arr 2 (.var 10)), (.arr 2 (.var 11))] (.back 0 [(.arr 97 (.var 15)), (.int (.var 16)), (.arr 70 (.var 17)), (.int (.var 18)), (.int (.var 19)), (.int (.var 20)), (.int (.var 21)), (.int (.var 22)), (.int (.var 23)), (.int (.var 24))]))
def tlwin_2 : Tree :=
  (.ob (.and (.cmp .le (.lit (-9223372036854775808)) (.sub (.var 40) (.lit 1))) (.cmp .le (.sub (.var 40) (.lit 1)) (.lit 9223372036854775807))) (.ob (.and (.cmp .le (.lit (-9223372036854775808)) (.sub (.var 40) (.lit 1))) (.cmp .le (.sub (.var 40) (.lit 1)) (.lit 9223372036854775807))) (.arr [[(.int (.sub (.var 40) (.lit 1)))]] (.ob (.cmp .le (.mul (.add (.len (.var 38)) (.len (.var 41))) (.lit 8)) (.lit 140737488355328)) (.cat (.var 38) (.var 41) (.back 1 [(.cnt 3 (.var 42)), (.int (.add (.var 39) (.lit 1)))]))))))
def tlwin_3 : Tree :=
  (.split (.cmp .ne (.var 44) (.lit 0)) (.ret [(.bool (.lit false))]) (.split (.cmp .eq (.len (.var 43)) (.lit 0)) (.ret [(.bool (.lit false))]) (.loop [.bool, .int] [(.bool (.lit false)), (.int (.lit 0))] (.split (.cmp .lt (.var 46) (.len (.var 43))) (.join [.int] (.split (.cmp .lt (.var 46) (.len (.var 42))) (.ob (.cmp .le (.lit 0) (.var 46)) (.ob (.cmp .lt (.var 46) (.len (.var 42))) (.back 3 [(.int (.cell (.var 42) (.var 46) 0))]))) (.back 3 [(.int (.lit 0))])) (.join [.bool] (.ob (.cmp .le (.lit 0) (.var 46)) (.ob (.cmp .lt (.var 46) (.len (.var 43))) (.split (.cmp .ne (.len (.cell (.var 43) (.var 46) 7)) (.len (.var 17))) (.back 4 [(.bool (.lit true))]) (.ob (.cmp .lt (.var 46) (.len (.var 43))) (.split (.cmp .lt (.cell (.var 43) (.var 46) 5) (.lit 0)) (.back 4 [(.bool (.lit true))]) (.ob (.cmp .lt (.var 46) (.len (.var 43))) (.split (.cmp .lt (.var 18) (.cell (.var 43) (.var 46) 6)) (.back 4 [(.bool (.lit true))]) (.call 21 [(.int (.var 21)), (.int (.var 22)), (.int (.var 23)), (.int (.var 24)), (.int (.cell (.var 27) (.var 40) 0)), (.int (.cell (.var 28) (.var 41) 0)), (.int (.var 47))] (.back 4 [(.bool (.cmp .lt (.var 48) (.cell (.var 28) (.var 41) 0)))]))))))))) (.split (.of (.var 48)) (.ret [(.bool (.lit false))]) (.loop [.bool, .int] [(.bool (.of (.var 45))), (.int (.lit 0))] (.split (.cmp .lt (.var 50) (.len (.var 17))) (.ob (.cmp .le (.lit 0) (.var 46)) (.ob (.cmp .lt (.var 46) (.len (.var 43))) (.ob (.cmp .le (.lit 0) (.var 50)) (.ob (.cmp .lt (.var 50) (.len (.cell (.var 43) (.var 46) 7))) (.ob (.cmp .lt (.var 50) (.len (.var 17))) (.split (.cmp .lt (.cell (.var 17) (.var 50) 1) (.cell (.cell (.var 43) (.var 46) 7) (.var 50) 1)) (.ret [(.bool (.lit false))]) (.back 5 [(.bool (.of (.var 49))), (.int (.add (.var 50) (.lit 1)))]))))))) (.back 2 [(.bool (.of (.var 49))), (.int (.add (.var 46) (.lit 1)))])))))) (.call 14 [] (.ret [(.bool (.of (.var 47)))]))))))
def tlwin_4 : Tree :=
  (.ob (.cmp .le (.lit 0) (.var 41)) (.ob (.cmp .lt (.var 41) (.len (.var 28))) (.dfn (.var 38) (.call 37 [(.arr 97 (.var 15)), (.int (.var 16)), (.arr 70 (.var 17)), (.int (.var 18)), (.int (.var 19)), (.int (.var 20)), (.int (.var 21)), (.int (.var 22)), (.int (.var 23)), (.int (.var 24)), (.int (.cell (.var 27) (.var 40) 0)), (.int (.cell (.var 28) (.var 41) 0)), (.arr 3 (.var 42))] tlwin_3))))
def tlwin_5 : Tree :=
  (.split (.cmp .ne (.var 36) (.lit 0)) (.ret [(.bool (.lit false))]) (.split (.cmp .lt (.var 31) (.lit 1)) (.ret [(.bool (.lit false))]) (.split (.cmp .lt (.lit 3) (.var 31)) (.ret [(.bool (.lit false))]) (.split (.cmp .ne (.var 31) (.lit 1)) (.call 14 [] (.ret [(.bool (.of (.var 37)))])) (.dfn .nil (.loop [(.vec 3), .int] [(.cnt 3 (.var 37)), (.int (.lit 0))] (.split (.cmp .lt (.var 39) (.len (.var 14))) (.split (.cmp .lt (.var 39) (.lit 400)) (.ob (.cmp .le (.lit 0) (.var 39)) (.ob (.cmp .lt (.var 39) (.len (.var 14))) (.call 26 [(.int (.cell (.var 14) (.var 39) 0)), (.int (.lit 3))] tlwin_2))) (.call 26 [(.int (.var 12)), (.int (.len (.var 27)))] (.ob (.cmp .le (.lit 0) (.var 40)) (.ob (.cmp .lt (.var 40) (.len (.var 27))) (.call 26 [(.int (.var 13)), (.int (.len (.var 28)))] tlwin_4))))) (.call 26 [(.int (.var 12)), (.int (.len (.var 27)))] (.ob (.cmp .le (.lit 0) (.var 40)) (.ob (.cmp .lt (.var 40) (.len (.var 27))) (.call 26 [(.int (.var 13)), (.int (.len (.var 28)))] tlwin_4)))))))))))
def tlwin_6 : Tree :=
  (.call 36 [(.arr 97 (.var 15)), (.int (.var 16)), (.arr 70 (.var 17)), (.int (.var 18)), (.int (.var 19)), (.int (.var 20)), (.int (.var 21)), (.int (.var 22)), (.int (.var 23)), (.int (.var 24)), (.arr 2 (.var 27)), (.arr 2 (.var 28))] tlwin_5)
def tlwin : Tree :=
  (.join [(.arr 97), .int, (.arr 70), .int, .int, .int, .int, .int, .int, .int] (.call 23 [(.arr 2 (.var 0)), (.arr 2 (.var 1)), (.int (.var 2)), (.int (.var 3)), (.int (.var 4)), (.int (.var 5)), (.int (.var 6)), (.int (.var 7)), (.int (.var 8)), (.int (.var 9)), (.arr 2 (.var 10)), (.arr 2 (.var 11))] tlwin_1) (.dfn .nil (.dfn .nil (.call 25 [(.arr 2 (.var 0)), (.arr 2 (.var 1)), (.int (.var 2)), (.int (.var 3)), (.int (.var 4)), (.int (.var 5)), (.int (.var 6)), (.int (.var 7)), (.int (.var 8)), (.int (.var 9)), (.arr 2 (.var 10)), (.arr 2 (.var 11))] tlwin_6))))
end Go.Proofs.Ytmdmgpikbebejaa
/- Kill: the steps as an iterator: states. -/
namespace Go.Proofs.Ytmdmgpikbebejaa
open Go.RowKit
set_option linter.unusedSimpArgs false
set_option linter.unusedVariables false

def jobKs : List Lk := [.arr 97, .int, .arr 70, .int, .int, .int, .int, .int, .int, .int, .int, .int, .arr 70, .int]
def jobLfs : List Lf := [.arr 97 (.var 0), .int (.var 1), .arr 70 (.var 2), .int (.var 3), .int (.var 4), .int (.var 5), .int (.var 6), .int (.var 7), .int (.var 8), .int (.var 9), .int (.var 10), .int (.var 11), .arr 70 (.var 12), .int (.var 13)]
def stepVal (x : List C) : Array Value := #[.int .i64 (x.getD 0 (.i 0)).int, .bool (x.getD 1 (.i 0)).bool]
def stepsIt : It := ⟨[.box 93 jobKs], fun cs => stepEls (jobOf cs 0), stepVal, fun cs => JobOK cs 0⟩
theorem stepEls_get {j : Jb} {k : Nat} {x : List C} (h : (stepEls j)[k]? = some x) : k ≤ lastN j ∧ x = stepEl j k := by
  unfold stepEls at h
  rw [List.getElem?_map] at h
  rcases Nat.lt_or_ge k (lastN j + 1) with h1 | h1
  · rw [List.getElem?_eq_getElem (by simpa using h1)] at h
    simp at h
    exact ⟨by omega, h.symm⟩
  · rw [List.getElem?_eq_none (by simpa using h1)] at h; cases h
theorem firstN_le (p : Nat → Bool) : ∀ (n a : Nat), a ≤ firstN p n a ∧ firstN p n a ≤ a + n
  | 0, a => by simp [firstN]
  | n + 1, a => by
    have ih := firstN_le p n (a + 1)
    rw [firstN]; split <;> omega
theorem firstN_no (p : Nat → Bool) : ∀ (n a k : Nat), a ≤ k → k < firstN p n a → p k = false
  | 0, a, k, h1, h2 => by rw [firstN] at h2; omega
  | n + 1, a, k, h1, h2 => by
    rw [firstN] at h2
    split at h2
    · omega
    · rename_i hp
      by_cases e : k = a
      · rw [e]; simpa using hp
      · exact firstN_no p n (a + 1) k (by omega) h2
theorem firstN_yes (p : Nat → Bool) : ∀ (n a : Nat), firstN p n a < a + n → p (firstN p n a) = true
  | 0, a, h => by rw [firstN] at h; omega
  | n + 1, a, h => by
    rw [firstN] at h ⊢
    split
    · rename_i hp; exact hp
    · rename_i hp
      rw [if_neg hp] at h
      exact firstN_yes p n (a + 1) (by omega)
theorem lastN_le (j : Jb) : lastN j ≤ 400 := by have := firstN_le (overS j) 400 0; unfold lastN; omega
theorem lreps_cons {P : Program} {w : World} {O : Nat → Nat → Prop} {k : Lk} {ks : List Lk} : ∀ {us : List Value} {cs : List C}, LReps P w O (k :: ks) us cs → ∃ u us' c cs', us = u :: us' ∧ cs = c :: cs' ∧ LRep P w O k u c ∧ LReps P w O ks us' cs'
  | u :: us, c :: cs, h => ⟨u, us, c, cs, rfl, rfl, h.1, h.2⟩
  | [], _, h => h.elim
  | _ :: _, [], h => h.elim
theorem lreps_nil {P : Program} {w : World} {O : Nat → Nat → Prop} : ∀ {us : List Value} {cs : List C}, LReps P w O [] us cs → us = [] ∧ cs = []
  | [], [], _ => ⟨rfl, rfl⟩
  | [], _ :: _, h => h.elim
  | _ :: _, _, h => h.elim
theorem lrep_cell {P : Program} {w : World} {O : Nat → Nat → Prop} {k : Lk} {u : Value} {c : C} (h : LRep P w O k u c) (hk : k.noVec = true) : u.oneCell' = true := by
  cases k with
  | int => obtain ⟨-, n, rfl, -⟩ := h; rfl
  | bool => obtain ⟨-, n, rfl, -⟩ := h; rfl
  | arr t => obtain ⟨-, rfl, hA⟩ := h; obtain ⟨a, cap, hl⟩ := hA.loc; rw [hl]; rfl
  | vec t => cases hk
theorem lreps_cells {P : Program} {w : World} {O : Nat → Nat → Prop} : ∀ {ks : List Lk} {us : List Value} {cs : List C}, LReps P w O ks us cs → ks.all Lk.noVec = true → ∀ u ∈ us, u.oneCell' = true
  | [], [], [], _, _, u, hu => by cases hu
  | k :: ks, u :: us, c :: cs, h, hk, x, hx => by
    simp only [List.all_cons, Bool.and_eq_true] at hk
    rcases List.mem_cons.1 hx with rfl | hx
    · exact lrep_cell h.1 hk.1
    · exact lreps_cells h.2 hk.2 x hx
  | [], [], _ :: _, h, _, _, _ => h.elim
  | [], _ :: _, _, h, _, _, _ => h.elim
  | _ :: _, [], _, h, _, _, _ => h.elim
  | _ :: _, _ :: _, [], h, _, _, _ => h.elim
theorem callable_steps : Callable Try.prog 69 := ⟨_, Try.func69, by decide, rfl⟩
theorem callable_mksteps : Callable Try.prog 56 := ⟨_, Try.func56, by decide, rfl⟩
theorem steps_made : ∀ O us cs w, LReps Try.prog w O jobKs us cs → Calls Try.prog 56 #[.agg us.toArray] w fun e w' => e = .returned (.func (.func 69) #[] #[.pointer (some ⟨w.heap.size, 0, none⟩)]) ∧ w' = w.alloc (.cells us.toArray 93) := by
  intro O us cs w h
  have hc := lreps_cells h rfl
  obtain ⟨u0, us, c0, cs0, rfl, rfl, -, h⟩ := lreps_cons h
  obtain ⟨u1, us, c1, cs1, rfl, rfl, -, h⟩ := lreps_cons h
  obtain ⟨u2, us, c2, cs2, rfl, rfl, -, h⟩ := lreps_cons h
  obtain ⟨u3, us, c3, cs3, rfl, rfl, -, h⟩ := lreps_cons h
  obtain ⟨u4, us, c4, cs4, rfl, rfl, -, h⟩ := lreps_cons h
  obtain ⟨u5, us, c5, cs5, rfl, rfl, -, h⟩ := lreps_cons h
  obtain ⟨u6, us, c6, cs6, rfl, rfl, -, h⟩ := lreps_cons h
  obtain ⟨u7, us, c7, cs7, rfl, rfl, -, h⟩ := lreps_cons h
  obtain ⟨u8, us, c8, cs8, rfl, rfl, -, h⟩ := lreps_cons h
  obtain ⟨u9, us, c9, cs9, rfl, rfl, -, h⟩ := lreps_cons h
  obtain ⟨u10, us, c10, cs10, rfl, rfl, -, h⟩ := lreps_cons h
  obtain ⟨u11, us, c11, cs11, rfl, rfl, -, h⟩ := lreps_cons h
  obtain ⟨u12, us, c12, cs12, rfl, rfl, -, h⟩ := lreps_cons h
  obtain ⟨u13, us, c13, cs13, rfl, rfl, -, h⟩ := lreps_cons h
  obtain ⟨rfl, rfl⟩ := lreps_nil h
  simp only [List.mem_cons, List.not_mem_nil, or_false, forall_eq_or_imp, forall_eq] at hc
  obtain ⟨o0, o1, o2, o3, o4, o5, o6, o7, o8, o9, o10, o11, o12, o13⟩ := hc
  refine (callsIn_wide (n := 0)).1 (callsIn_of_wp Try.func56 rfl trivial ?_ rfl)
  simp only [Try.ntmps56, List.size_toArray, List.length_cons, List.length_nil, Nat.reduceAdd, Nat.reduceSub, Array.replicate_succ, Array.replicate_zero, List.push_toArray, List.append_toArray, List.nil_append, List.cons_append]
  gi_wp2
  go_ret
  exact ⟨rfl, rfl⟩
def stepSv0 (n : Nat) : SV := .one (.lf (.int (.var n)))
def stepSv1 (n : Nat) : SV := .one (.lf (.bool (.of (.var (n + 1)))))
theorem step_el {j : Jb} : ∀ x ∈ stepEls j, x.length = [Lk.int, .bool].length ∧ (∀ c ∈ x, ∀ n, c.small n) ∧ ∀ (Γ' : Env) (n : Nat), (∀ i c, x[i]? = some c → at_ Γ'.ρ (n + i) = c) → stepVal x = #[(stepSv0 n).den Γ', (stepSv1 n).den Γ'] ∧ ∀ P w O, (stepSv0 n).ok P w O Γ' ∧ (stepSv1 n).ok P w O Γ' := by
  intro x hx
  obtain ⟨k, hk⟩ := List.getElem?_of_mem hx
  obtain ⟨hlt, rfl⟩ := stepEls_get hk
  have h400 := lastN_le j
  refine ⟨rfl, fun c hc m => ?_, fun Γ' n hat => ⟨?_, fun P w O => ⟨?_, ?_⟩⟩⟩
  · simp only [stepEl, List.mem_cons, List.not_mem_nil, or_false] at hc
    rcases hc with rfl | rfl
    · exact small_i (by omega) m
    · cases m <;> trivial
  · have h0 := hat 0 _ rfl
    have h1 := hat 1 _ rfl
    simp only [Nat.add_zero] at h0
    simp only [stepSv0, stepSv1, SV.den, S0.den, dens, Lf.den, E.den_var, h0, List.map_cons, List.map_nil, C.int]
    simp only [B.den, stepVal, stepEl, List.getD_cons_zero, List.getD_cons_succ]
    rw [show E.ev Γ'.ρ (E.var (n + 1)) = C.b (overS j k) from h1]
    rfl
  · exact one_ok trivial
  · exact one_ok trivial
/-- A round of the iterator, ahead of its two calls; behind them. -/
def stp0 : St := { sl := [(0, some (.one (.lf (.clo 14)))), (1, some (.one (.lf (.ptr 0 0)))), (2, some (.one (.lf (.cst undef)))), (3, some (.one (.lf (.int (.var 15))))), (5, some (.one (.lf (.int (.var 15)))))], mem := [(0, some (93, jobLfs))], nt := 22, nb := 1, nx := 16, lvl := 0, bds := [], vec := [] }
def stp1 : St := { sl := [(4, some (.one (.lf (.bool (.of (.var 16)))))), (0, some (.one (.lf (.clo 14)))), (1, some (.one (.lf (.ptr 0 0)))), (2, some (.one (.lf (.cst undef)))), (3, some (.one (.lf (.int (.var 15))))), (5, some (.one (.lf (.int (.var 15)))))], mem := [(0, some (93, jobLfs))], nt := 22, nb := 1, nx := 17, lvl := 1, bds := [], vec := [] }
def endsS0 : St := { sl := [(1, some (.one (.lf (.ptr 0 0)))), (2, some (.one (.lf (.ptr 1 0))))], mem := [(0, some (93, jobLfs)), (1, some (66, [.int (.lit 0), .int (.lit 0), .int (.lit 0), .int (.lit 0), .int (.lit 0)]))], nt := 35, nb := 2, nx := 14, lvl := 1, bds := [], vec := [] }
def endsR : RgS := ⟨endsS0, 8, 9, jobLfs, [], [], 10, 11, [.int, .bool], stepSv0, stepSv1⟩
end Go.Proofs.Ytmdmgpikbebejaa
/- Kill: runs: states. -/
namespace Go.Proofs.Ytmdmgpikbebejaa
open Go.RowKit
def runS0 : St := { sl := [(7, some (.one (.lf (.ptr 3 0)))), (13, some (.one (.lf (.ptr 8 0)))), (14, some (.one (.lf (.ptr 9 0))))], mem := [(3, some (75, [.arr 3 (.var 12)])), (8, some (93, freshL jobKs 13)), (9, some (76, [.vec 52 27]))], nt := 64, nb := 10, nx := 28, lvl := 1, bds := [], vec := [(27, some (52, .var 27))] }
def runR : RgS := ⟨runS0, 44, 45, freshL jobKs 13, [], [.blk 9], 46, 47, [.int, .bool], stepSv0, stepSv1⟩
end Go.Proofs.Ytmdmgpikbebejaa
/- What is to be shown of each function, as the executor has it. Printed by trees.py. -/
namespace Go.Proofs.Ytmdmgpikbebejaa
def trun1 : Tree :=
  (.dfn .nil (.call 48 [(.arr 97 (.var 0)), (.int (.var 1)), (.arr 70 (.var 2)), (.int (.var 3)), (.int (.var 4)), (.int (.var 5)), (.int (.var 6)), (.int (.var 7)), (.int (.var 8)), (.int (.var 9)), (.int (.var 10)), (.int (.var 11))] (.split (.cmp .ne (.var 14) (.lit 0)) (.dfn .nil (.ret [(.cnt 52 (.var 15)), (.int (.var 14))])) (.split (.cmp .lt (.lit 400) (.len (.var 12))) (.dfn .nil (.ret [(.cnt 52 (.var 15)), (.int (.lit 2))])) (.loop [(.vec 52), .int, .int] [(.cnt 52 (.var 13)), (.int (.lit 0)), (.int (.lit 0))] (.split (.cmp .lt (.var 17) (.len (.var 12))) (.ob (.cmp .le (.lit 0) (.var 17)) (.ob (.cmp .lt (.var 17) (.len (.var 12))) (.split (.cmp .lt (.cell (.var 12) (.var 17) 0) (.lit (-1))) (.dfn .nil (.ret [(.cnt 52 (.var 18)), (.int (.lit 2))])) (.split (.cmp .lt (.lit 1) (.cell (.var 12) (.var 17) 0)) (.dfn .nil (.ret [(.cnt 52 (.var 18)), (.int (.lit 2))])) (.back 1 [(.cnt 52 (.var 15)), (.int (.var 16)), (.int (.add (.var 17) (.lit 1)))]))))) (.dfn .nil (.dfn .nil (.dfn .nil (.call 58 [(.arr 97 (.var 0))] (.call 30 [(.arr 97 (.var 0))] (.dfn .nil (.dfn .nil (.dfn .nil (.dfn .nil (.back 0 [(.arr 97 (.var 0)), (.int (.var 1)), (.arr 70 (.var 2)), (.int (.var 3)), (.int (.var 4)), (.int (.var 5)), (.int (.var 6)), (.int (.var 7)), (.int (.var 8)), (.int (.var 9)), (.int (.var 10)), (.int (.var 11)), (.arr 70 (.var 21)), (.int (.var 22)), (.cnt 52 (.var 26))]))))))))))))))))
noncomputable def flrun2 : List (Nat × Func) := [(49, Try.f49)]
theorem fxrun2 : ∀ p ∈ flrun2, FnOK p := fns_cons ⟨Try.func49, ⟨_, Try.func49, by decide, rfl⟩⟩ (fns_nil)
noncomputable def crun2 : Cx := tab5.only [48, 58, 30, 50] (fun r => match r with
  | 50019 => [.blk 9, .vec 28]
  | _ => []) flrun2 1 [] (fun _ => none)
def trun2 : Tree :=
  (.split (.cmp .lt (.var 29) (.len (.var 12))) (.ob (.cmp .le (.lit 0) (.var 29)) (.ob (.cmp .lt (.var 29) (.len (.var 12))) (.call 50 [(.arr 97 (.var 13)), (.int (.var 14)), (.arr 70 (.var 15)), (.int (.var 16)), (.int (.var 17)), (.int (.var 18)), (.int (.var 19)), (.int (.var 20)), (.int (.var 21)), (.int (.var 22)), (.int (.var 23)), (.int (.var 24)), (.arr 70 (.var 25)), (.int (.var 26)), (.int (.var 29)), (.int (.cell (.var 12) (.var 29) 0))] (.dfn (.var 38) (.arr [[(.int (.var 31)), (.int (.var 32)), (.int (.var 33)), (.int (.var 34)), (.int (.var 35)), (.int (.var 36)), (.int (.var 37)), (.arr 49 (.var 39))]] (.ob (.cmp .le (.mul (.add (.len (.var 28)) (.len (.var 40))) (.lit 80)) (.lit 140737488355328)) (.cat (.var 28) (.var 40) (.back 0 [(.cnt 52 (.var 41))])))))))) (.call 50 [(.arr 97 (.var 13)), (.int (.var 14)), (.arr 70 (.var 15)), (.int (.var 16)), (.int (.var 17)), (.int (.var 18)), (.int (.var 19)), (.int (.var 20)), (.int (.var 21)), (.int (.var 22)), (.int (.var 23)), (.int (.var 24)), (.arr 70 (.var 25)), (.int (.var 26)), (.int (.var 29)), (.int (.lit 0))] (.dfn (.var 38) (.arr [[(.int (.var 31)), (.int (.var 32)), (.int (.var 33)), (.int (.var 34)), (.int (.var 35)), (.int (.var 36)), (.int (.var 37)), (.arr 49 (.var 39))]] (.ob (.cmp .le (.mul (.add (.len (.var 28)) (.len (.var 40))) (.lit 80)) (.lit 140737488355328)) (.cat (.var 28) (.var 40) (.back 0 [(.cnt 52 (.var 41))])))))))
def trun3 : Tree :=
  (.ret [(.cnt 52 (.var 28)), (.int (.lit 0))])
end Go.Proofs.Ytmdmgpikbebejaa
/- What is to be shown of each function, as the executor has it. Printed by trees.py. -/
namespace Go.Proofs.Ytmdmgpikbebejaa
noncomputable def cstp : Cx := tab5.only [50, 70] (fun _ => []) [] 0 [] (fun _ => none)
def tstp : Tree :=
  (.call 50 [(.arr 97 (.var 0)), (.int (.var 1)), (.arr 70 (.var 2)), (.int (.var 3)), (.int (.var 4)), (.int (.var 5)), (.int (.var 6)), (.int (.var 7)), (.int (.var 8)), (.int (.var 9)), (.int (.var 10)), (.int (.var 11)), (.arr 70 (.var 12)), (.int (.var 13)), (.int (.var 15)), (.int (.lit (-1)))] (.call 70 [(.arr 97 (.var 0)), (.int (.var 1)), (.arr 70 (.var 2)), (.int (.var 3)), (.int (.var 4)), (.int (.var 5)), (.int (.var 6)), (.int (.var 7)), (.int (.var 8)), (.int (.var 9)), (.int (.var 10)), (.int (.var 11)), (.arr 70 (.var 12)), (.int (.var 13)), (.int (.var 16)), (.int (.var 17)), (.int (.var 18)), (.int (.var 19)), (.int (.var 20)), (.int (.var 21)), (.int (.var 22)), (.arr 49 (.var 23))] (.back 0 [(.bool (.of (.var 24)))])))
def tends1 : Tree :=
  (.back 0 [])
noncomputable def cends2 : Cx := tab5.only [63, 64] (fun _ => []) [] 0 [] (fun _ => none)
def tends2 : Tree :=
  (.loop [.int] [(.int (.lit (-1)))] (.split (.cmp .le (.var 16) (.lit 1)) (.call 63 [(.arr 97 (.var 0)), (.int (.var 1)), (.arr 70 (.var 2)), (.int (.var 3)), (.int (.var 4)), (.int (.var 5)), (.int (.var 6)), (.int (.var 7)), (.int (.var 8)), (.int (.var 9)), (.int (.var 10)), (.int (.var 11)), (.arr 70 (.var 12)), (.int (.var 13)), (.int (.var 14)), (.int (.var 16))] (.split (.cmp .ne (.var 17) (.lit 0)) (.ret [(.int (.var 17)), (.int (.var 18)), (.int (.var 19)), (.int (.var 20)), (.int (.var 21))]) (.back 1 [(.int (.add (.var 16) (.lit 1)))]))) (.split (.of (.var 15)) (.call 64 [(.arr 97 (.var 0)), (.int (.var 1)), (.arr 70 (.var 2)), (.int (.var 3)), (.int (.var 4)), (.int (.var 5)), (.int (.var 6)), (.int (.var 7)), (.int (.var 8)), (.int (.var 9)), (.int (.var 10)), (.int (.var 11)), (.arr 70 (.var 12)), (.int (.var 13)), (.int (.var 14))] (.split (.cmp .ne (.var 17) (.lit 0)) (.ret [(.int (.var 17)), (.int (.var 18)), (.int (.var 19)), (.int (.var 20)), (.int (.var 21))]) (.ret [(.int (.lit 1)), (.int (.var 14)), (.int (.lit 0)), (.int (.lit 0)), (.int (.lit 0))]))) (.back 0 []))))
def tends3 : Tree :=
  (.ret [(.int (.lit 3)), (.int (.lit 400)), (.int (.lit 0)), (.int (.lit 6)), (.int (.lit 0))])
end Go.Proofs.Ytmdmgpikbebejaa
/- What is to be shown of each function, as the executor has it. Printed by trees.py. -/
namespace Go.Proofs.Ytmdmgpikbebejaa
end Go.Proofs.Ytmdmgpikbebejaa
/- Kill: the plain laws of moments: what was pumped lies in the pipe; more gas. -/
namespace Go.Proofs.Ytmdmgpikbebejaa
set_option linter.unusedVariables false
set_option linter.unusedSimpArgs false

/-! More gas -/
end Go.Proofs.Ytmdmgpikbebejaa
/- Kill: what was pumped lies in the pipe; more gas: the laws. -/
namespace Go.Proofs.Ytmdmgpikbebejaa
open Go.RowKit
set_option linter.unusedSimpArgs false
set_option linter.unusedVariables false

end Go.Proofs.Ytmdmgpikbebejaa
/- Kill: the steps as an iterator. -/
namespace Go.Proofs.Ytmdmgpikbebejaa
open Go.RowKit
set_option linter.unusedSimpArgs false
set_option linter.unusedVariables false

/-- How great the numbers of a moment are. -/
structure MoB (x : Mo) : Prop where
  pumped : 0 ≤ x.pumped ∧ x.pumped ≤ 4398046511104
  gas : 0 ≤ x.gas.2 ∧ x.gas.2 ≤ 288230376151711744
  surf : KnB (-200000000000) 68719476736 x.surf
theorem htx_ht {l : List Sg} (h : holeV l = 0) (u v : Int) : HtOK (spanK (htV l u) (htV l v)) := by
  have a := ht_ok h u
  have b := ht_ok h v
  exact ⟨a.1, a.2.1, b.2.2.1, b.2.2.2⟩
theorem mom_box {j : Jb} (hf : JF j) {s e : Int} (hs : StepOK s) (he : ErrOK e) : MoB (momentV j s e) := by
  have hb := bot_box hf he
  have hm := step_box hf hs
  unfold momentV
  generalize botV j.p j.k e = b at *
  generalize s * j.w.step = m at *
  split
  · have g := gasK_bd hf.vol hf.pore (b, b)
    have h0 := ht_ok hf.hole
    have u1 := under_bd (under_bd (exact_bd hb) hf.weight (less_ht (h0 (min (volV j.w.segs) (edgeV j m))) (htx_ht hf.hole (pgasV j m b).1 (pgasV j m b).2))) hf.pweight (less_ht (h0 (volV j.w.segs)) (h0 (edgeV j m)))
    obtain ⟨a1, a2, a3, a4⟩ := u1
    refine ⟨hm, ?_, ⟨?_, ?_, ?_, ?_⟩⟩
    · show 0 ≤ max 0 ((gasK j.k (b, b)).2 - m) ∧ max 0 ((gasK j.k (b, b)).2 - m) ≤ _
      have := hm.1
      omega
    · show _ ≤ (patV j m b (volV j.w.segs)).1; unfold patV; unfold ptopV; omega
    · show (patV j m b (volV j.w.segs)).1 ≤ _; unfold patV; unfold ptopV; omega
    · show _ ≤ (patV j m b (volV j.w.segs)).2; unfold patV; unfold ptopV; omega
    · show (patV j m b (volV j.w.segs)).2 ≤ _; unfold patV; unfold ptopV; omega
  · have g := gasK_bd hf.vol hf.pore (baseV j m b)
    have h0 := ht_ok hf.hole
    have d := down_bd hf hb (mudV j m) m
    have u1 := under_bd d hf.weight (less_ht (h0 (volV j.w.segs)) (htx_ht hf.hole (m + (rgasV j m b).1) (m + (rgasV j m b).2)))
    obtain ⟨a1, a2, a3, a4⟩ := u1
    exact ⟨hm, ⟨g.2.2.1, g.2.2.2⟩, ⟨by show _ ≤ (underK (downV j b (mudV j m) m) j.w.weight (lessK (htV j.w.segs (volV j.w.segs)) (spanK (htV j.w.segs (m + (rgasV j m b).1)) (htV j.w.segs (m + (rgasV j m b).2))))).1; omega, a2, by show _ ≤ (underK (downV j b (mudV j m) m) j.w.weight (lessK (htV j.w.segs (volV j.w.segs)) (spanK (htV j.w.segs (m + (rgasV j m b).1)) (htV j.w.segs (m + (rgasV j m b).2))))).2; omega, a4⟩⟩
theorem stp_cx : CxOK cstp := Tab.cx_ok (all_cons (up5_ok (up4_ok moment_ok)) (all_cons (up5_ok (up4_ok over_ok)) all_nil))
theorem stp_vc {cs : List C} (hcs : CTy Try.prog jobKs cs) (hok : JobOK cs 0) {fv : Value} {k : Int} (hk : 0 ≤ k ∧ k ≤ 400) : VC cstp (fun _ => False) tstp (cs ++ [.s fv [], .i k]) [fun xs => xs = [.b (overV (jobOf cs 0) (momentV (jobOf cs 0) k (-1)))]] := by
  have h1 : cstp.ct 50 = some ctMoment := rfl
  have h2 : cstp.ct 70 = some ctOver := rfl
  suffices key : allC Try.prog jobKs (fun cs => JobOK cs 0 → VC cstp (fun _ => False) tstp (cs ++ [.s fv [], .i k]) [fun xs => xs = [.b (overV (jobOf cs 0) (momentV (jobOf cs 0) k (-1)))]]) from allC_elim key cs hcs hok
  clear hcs hok
  unfold tstp jobKs
  simp only [VC, allC, List.map_cons, List.map_nil, List.length_cons, List.length_nil, List.getElem?_cons_zero, List.getElem?_cons_succ, List.cons.injEq, C.i.injEq, C.b.injEq, and_true, true_and, forall_const, kindsOf_nil, kindsOf_lf, kindsOf_agg, kindsOf_box, boxKinds_nil, boxKinds_lf, boxKinds_agg, boxKinds_box, List.append_nil, List.cons_append, List.nil_append, den_cmp_le, den_cmp_lt, den_cmp_eq, den_cmp_ne, den_cmp_le', den_cmp_lt', den_cmp_eq', den_cmp_ne', den_and, den_and', den_or, den_or', den_not, den_not', den_blit, den_of, ev_var, at_0, at_1, at_2, at_3, at_4, at_5, at_6, at_7, at_skip, c_int, c_bool, c_arr, c_cnt, c_vec, ev_nil, ev_join, ev_sub3, loc_s, int_i, bool_b, rows_s, cs_nil, cs_cons, E.den_lit, E.den_var, E.den_add, E.den_sub, E.den_mul, E.den_quo, E.den_rem, E.den_max, E.den_min, E.den_len, E.den_wr, E.den_cell, Nat.reduceAdd, h1, h2, ctMoment, ctOver, ctF, jobSh, momSh, momKs, momASh, n_, List.cons_append, List.nil_append]
  intro v0 r0 _ _ _ n1 _ _ v2 r2 _ _ _ n3 _ _ n4 _ _ n5 _ _ n6 _ _ n7 _ _ n8 _ _ n9 _ _ n10 _ _ n11 _ _ v12 r12 _ _ _ n13 _ _ hok
  have hs : StepOK k := ⟨hk.1, hk.2⟩
  have he : ErrOK (-1) := ⟨by decide, by decide⟩
  obtain ⟨j, hj⟩ : ∃ j, j = jobOf [C.s v0 r0, C.i n1, C.s v2 r2, C.i n3, C.i n4, C.i n5, C.i n6, C.i n7, C.i n8, C.i n9, C.i n10, C.i n11, C.s v12 r12, C.i n13] 0 := ⟨_, rfl⟩
  have hb := mom_box (j := j) (by rw [hj]; exact hok.jf) hs he
  refine ⟨⟨hok, hs, he⟩, ?_⟩
  rintro a1 _ _ a2 _ _ a3 _ _ a4 _ _ a5 _ _ a6 _ _ a7 _ _ va ra _ _ _ hm
  have hm := mo_inv (x := momentV j k (-1)) (by rw [hj]; exact hm)
  obtain ⟨p1, p2, p3, p4, p5, p6, p7, p8⟩ := hm
  have hb1 := hb.pumped
  have hb2 := hb.gas
  rw [← p1] at hb1
  rw [← p3] at hb2
  refine ⟨⟨hok, by omega, by omega, by omega, by omega⟩, ?_⟩
  rintro t ht
  rw [ht, ← hj]
  have e : momentV j k (-1) = ⟨a1, (a2, a3), (a4, a5), (a6, a7), knots ra⟩ := by rw [p1, p2, p3, p4, p5, p6, p7, p8]
  rw [e, hj]
  rfl
theorem stp_t : exec cstp (nav [1, 0, 0, 1, 1, 0, 0, 1, 0] (bodyOf Try.f69)) { stp0 with lvl := stp0.lvl + 1 } (joinK stp0 stp1 [.slot 4] [.bool] fun _ _ => none) = some tstp := by kernel_rfl
theorem steps_reg {w : World} {Base : Nat → Nat → Prop} {b : Nat} {us : List Value} {cs : List C} {fv : Value} {k : Int} {ts : Array Value} {K : Exit → Act → World → Prop} (hts : ts.size = 22) (h0 : ts.getD 0 undef = fv) (h1 : ts.getD 1 undef = .pointer (some ⟨b, 0, none⟩)) (h2 : ts.getD 2 undef = undef) (h3 : ts.getD 3 undef = .int .i64 k) (h5 : ts.getD 5 undef = .int .i64 k) (hfv : fv.oneCell' = true)
    (hblk : Blk w b 93 us.toArray) (hB : ∀ o, Base b o) (hBase : ∀ x o, Base x o → x < w.heap.size) (hrep : LReps Try.prog w (fun x o => Base x o ∨ some b = some x) jobKs us cs) (hok : JobOK cs 0) (hk : 0 ≤ k ∧ k ≤ 400)
    (hK : ∀ ts' w', ts'.size = 22 → ts'.getD 0 undef = fv → ts'.getD 1 undef = .pointer (some ⟨b, 0, none⟩) → ts'.getD 2 undef = undef → ts'.getD 3 undef = .int .i64 k → ts'.getD 5 undef = .int .i64 k → ts'.getD 4 undef = .bool (overV (jobOf cs 0) (momentV (jobOf cs 0) k (-1))) → Below w.heap.size w w' → K .normal ⟨ts', []⟩ w') :
    wpR none Try.prog (nav [1, 0, 0, 1, 1, 0, 0, 1, 0] (bodyOf Try.f69)) K ⟨ts, []⟩ w := by
  have hcs := hrep.ty
  have hlen : cs.length = 14 := hcs.len
  obtain ⟨Γ, hΓ⟩ : ∃ Γ : Env, Γ = { ρ := cs ++ [.s fv [], .i k], blk := fun _ => b, nb := 1, base := Base, up := ⟨fun _ => undef, []⟩ } := ⟨_, rfl⟩
  have hρ : Γ.ρ = cs ++ [.s fv [], .i k] := by rw [hΓ]
  have hb : ∀ i, Γ.blk i = b := fun i => by rw [hΓ]
  have hbase : Γ.base = Base := by rw [hΓ]
  have hat : ∀ j c, cs[j]? = some c → at_ Γ.ρ (0 + j) = c := fun j c hj => by
    rw [Nat.zero_add, hρ]
    unfold at_
    rw [List.getD_eq_getElem?_getD, List.getElem?_append_left (List.getElem?_eq_some_iff.1 hj).1, hj]; rfl
  have h14 : at_ Γ.ρ 14 = .s fv [] := by
    rw [hρ]; unfold at_
    rw [List.getD_eq_getElem?_getD, List.getElem?_append_right (by omega), hlen]; rfl
  have h15 : at_ Γ.ρ 15 = .i k := by
    rw [hρ]; unfold at_
    rw [List.getD_eq_getElem?_getD, List.getElem?_append_right (by omega), hlen]; rfl
  have hOwn : ∀ x o, Own Γ stp0 x o → Base x o ∨ some b = some x := fun x o h => by
    rcases h with h | ⟨j, mb, h, e⟩ | ⟨i, e, h, -⟩
    · exact .inl (by rw [← hbase]; exact h)
    · exact .inr (by rw [← e, hb])
    · cases h
  obtain ⟨f1, f2⟩ := freshL_rep (Γ := Γ) hrep 0 hat
  have f1 : jobLfs.map (Lf.den Γ) = us := f1
  have f2 : ∀ l ∈ jobLfs, l.ok Try.prog w (fun x o => Base x o ∨ some b = some x) Γ := f2
  have hsm : Smalls Γ.ρ := by
    rw [hρ]
    refine Smalls.app (by have := Smalls.app Smalls.nil (cs := cs) hcs.small; rwa [List.nil_append] at this) ?_
    intro c hc n
    rcases List.mem_cons.1 hc with rfl | hc
    · cases n with
      | zero => trivial
      | succ n => exact ⟨by simp, fun r hr => by cases hr⟩
    · rcases List.mem_cons.1 hc with rfl | hc
      · exact small_i (by omega) n
      · cases hc
  have hS : Sat cstp.P (fun i => i < w.heap.size ∧ i ≠ b) w Γ stp0 ⟨ts, []⟩ w := by
    refine ⟨fun t sv ht => ?_, hts, fun b' mb hm => ?_, fun i e he => (by cases he), fun i e he => (by cases he), fun s j s' j' x h1 h2 => ?_, ⟨rfl, rfl, rfl, Nat.le_refl _, fun _ _ => rfl⟩, fun i hi => hi.1, fun x o h => hBase x o (by rw [← hbase]; exact h), by rw [hΓ], by rw [hρ]; simp [hlen]; rfl, by rw [hΓ]; rfl, ⟨bds_nil _, hsm⟩⟩
    · obtain ⟨p, hp, rfl⟩ := look_mem ht
      simp only [stp0, List.mem_cons, List.not_mem_nil, or_false] at hp
      rcases hp with rfl | rfl | rfl | rfl | rfl
      · cases ht
        refine ⟨?_, ?_⟩
        · show ts.getD 0 undef = (at_ Γ.ρ 14).loc
          rw [h0, h14]; rfl
        · refine one_ok ?_
          show (at_ Γ.ρ 14).loc.oneCell' = true
          rw [h14]; exact hfv
      · cases ht
        refine ⟨?_, one_ok trivial⟩
        show ts.getD 1 undef = _
        rw [h1]; simp only [SV.den, S0.den, Lf.den, hb]
      · cases ht
        refine ⟨?_, one_ok trivial⟩
        show ts.getD 2 undef = _
        rw [h2]; rfl
      · cases ht
        refine ⟨?_, one_ok trivial⟩
        show ts.getD 3 undef = _
        rw [h3]; simp only [SV.den, S0.den, Lf.den, E.den_var, h15, C.int]
      · cases ht
        refine ⟨?_, one_ok trivial⟩
        show ts.getD 5 undef = _
        rw [h5]; simp only [SV.den, S0.den, Lf.den, E.den_var, h15, C.int]
    · obtain ⟨p, hp, rfl⟩ := look_mem hm
      simp only [stp0, List.mem_cons, List.not_mem_nil, or_false] at hp
      subst hp
      cases hm
      refine ⟨?_, fun l hl => Lf.ok_anti (f2 l hl) hOwn, fun h => h.2 (hb 0), by decide⟩
      show Blk w (Γ.blk 0) 93 (jobLfs.map (Lf.den Γ)).toArray
      rw [hb, f1]; exact hblk
    · rcases h1.inv with ⟨rfl, mb, hb1, -⟩ | ⟨rfl, e, he, -⟩
      · rcases h2.inv with ⟨rfl, mb', hb2, -⟩ | ⟨rfl, e, he, -⟩
        · obtain ⟨p, hp, rfl⟩ := look_mem hb1
          obtain ⟨q, hq, rfl⟩ := look_mem hb2
          simp only [stp0, List.mem_cons, List.not_mem_nil, or_false] at hp hq
          subst hp hq
          exact ⟨rfl, rfl⟩
        · cases he
      · cases he
  refine seg_sound_r (r := none) (R := fun _ => False) stp_cx (Ls := []) stp_t (by kernel_rfl) rfl (by rw [hρ]; exact stp_vc hcs hok hk) hS (fun xs Γx a' w' hxs hI hρx he hs' => ?_) (fun x st' T' Γ' Ls' _ h => by cases h)
  subst hI
  have hsl : ∀ t sv, look stp1.sl t = some sv → slotV Γx a' t = sv.den Γx := fun t sv h => (hs'.slots t sv h).1
  have g14 : at_ Γx.ρ 14 = .s fv [] := by rw [hρx]; unfold at_ at h14 ⊢; rw [List.getD_eq_getElem?_getD, List.getElem?_append_left (by rw [hρ]; simp [hlen]), ← List.getD_eq_getElem?_getD]; exact h14
  have g15 : at_ Γx.ρ 15 = .i k := by rw [hρx]; unfold at_ at h15 ⊢; rw [List.getD_eq_getElem?_getD, List.getElem?_append_left (by rw [hρ]; simp [hlen]), ← List.getD_eq_getElem?_getD]; exact h15
  have g16 : at_ Γx.ρ 16 = .b (overV (jobOf cs 0) (momentV (jobOf cs 0) k (-1))) := by rw [hρx, hρ]; unfold at_; rw [List.getD_eq_getElem?_getD, List.getElem?_append_right (by simp [hlen])]; simp [hlen]
  have gb : Γx.blk 0 = b := by rw [he.blk 0 (by rw [show Γ.nb = 1 by rw [hΓ]]; exact Nat.zero_lt_one), hb]
  obtain ⟨ts', ds'⟩ := a'
  have hds : ds' = [] := by have := hs'.defers; rw [he.up, hΓ] at this; exact this
  subst hds
  have s0 := hsl 0 _ rfl
  have s1 := hsl 1 _ rfl
  have s2 := hsl 2 _ rfl
  have s3 := hsl 3 _ rfl
  have s4 := hsl 4 _ rfl
  have s5 := hsl 5 _ rfl
  simp only [SV.den, S0.den, Lf.den, E.den_var, B.den, E.ev, g14, g15, g16, gb, C.int, C.loc, C.bool] at s0 s1 s2 s3 s4 s5
  have hblk' : Blk w' b 93 us.toArray := by
    have := (hs'.mem 0 _ rfl).1
    rw [gb] at this
    have e : jobLfs.map (Lf.den Γx) = us := by
      rw [← f1]
      exact List.map_congr_left fun l hl => Lf.den_ext he l (by
        have : l.wf 16 1 = true := List.all_eq_true.1 (show jobLfs.all (Lf.wf 16 1) = true by decide) l hl
        rw [show Γ.ρ.length = 16 by rw [hρ]; simp [hlen], show Γ.nb = 1 by rw [hΓ]]; exact this)
    show Blk w' b 93 us.toArray
    have this : Blk w' b 93 (jobLfs.map (Lf.den Γx)).toArray := this
    rwa [e] at this
  refine hK ts' w' hs'.size s0 s1 s2 s3 s5 s4 ⟨hs'.keeps.os, hs'.keeps.tape, hs'.keeps.output, hs'.keeps.size, fun i hi => ?_⟩
  by_cases e : i = b
  · subst e; exact hblk'.trans hblk.symm
  · exact hs'.keeps.block i ⟨hi, e⟩
end Go.Proofs.Ytmdmgpikbebejaa
/- Kill: the steps as an iterator: its walk. -/
namespace Go.Proofs.Ytmdmgpikbebejaa
open Go.RowKit
set_option linter.unusedSimpArgs false
set_option linter.unusedVariables false

theorem arr22 {t : Array Value} (h : t.size = 22) : ∃ x0 x1 x2 x3 x4 x5 x6 x7 x8 x9 x10 x11 x12 x13 x14 x15 x16 x17 x18 x19 x20 x21, t = #[x0, x1, x2, x3, x4, x5, x6, x7, x8, x9, x10, x11, x12, x13, x14, x15, x16, x17, x18, x19, x20, x21] := by
  obtain ⟨l⟩ := t
  have h : l.length = 22 := h
  have cons : ∀ {n : Nat} {l : List Value}, l.length = n + 1 → ∃ x l', l = x :: l' ∧ l'.length = n := fun {n l} h => by
    cases l with
    | nil => cases h
    | cons x l => exact ⟨x, l, rfl, by simpa using h⟩
  obtain ⟨x0, l1, e0, h1⟩ := cons h
  obtain ⟨x1, l2, e1, h2⟩ := cons h1
  obtain ⟨x2, l3, e2, h3⟩ := cons h2
  obtain ⟨x3, l4, e3, h4⟩ := cons h3
  obtain ⟨x4, l5, e4, h5⟩ := cons h4
  obtain ⟨x5, l6, e5, h6⟩ := cons h5
  obtain ⟨x6, l7, e6, h7⟩ := cons h6
  obtain ⟨x7, l8, e7, h8⟩ := cons h7
  obtain ⟨x8, l9, e8, h9⟩ := cons h8
  obtain ⟨x9, l10, e9, h10⟩ := cons h9
  obtain ⟨x10, l11, e10, h11⟩ := cons h10
  obtain ⟨x11, l12, e11, h12⟩ := cons h11
  obtain ⟨x12, l13, e12, h13⟩ := cons h12
  obtain ⟨x13, l14, e13, h14⟩ := cons h13
  obtain ⟨x14, l15, e14, h15⟩ := cons h14
  obtain ⟨x15, l16, e15, h16⟩ := cons h15
  obtain ⟨x16, l17, e16, h17⟩ := cons h16
  obtain ⟨x17, l18, e17, h18⟩ := cons h17
  obtain ⟨x18, l19, e18, h19⟩ := cons h18
  obtain ⟨x19, l20, e19, h20⟩ := cons h19
  obtain ⟨x20, l21, e20, h21⟩ := cons h20
  obtain ⟨x21, l22, e21, h22⟩ := cons h21
  have e22 := List.length_eq_zero_iff.1 h22
  refine ⟨x0, x1, x2, x3, x4, x5, x6, x7, x8, x9, x10, x11, x12, x13, x14, x15, x16, x17, x18, x19, x20, x21, ?_⟩
  rw [e0, e1, e2, e3, e4, e5, e6, e7, e8, e9, e10, e11, e12, e13, e14, e15, e16, e17, e18, e19, e20, e21, e22]
theorem stepEls_at {j : Jb} {k : Nat} (h : k ≤ lastN j) : (stepEls j)[k]? = some (stepEl j k) := by
  unfold stepEls
  rw [List.getElem?_map, List.getElem?_range (by omega)]
  rfl
theorem steps_rep {w : World} {Base : Nat → Nat → Prop} {vs : List Value} {cs : List C} (h : Reps Try.prog w Base none stepsIt.args vs cs) : ∃ b us, vs = [.pointer (some ⟨b, 0, none⟩)] ∧ Blk w b 93 us.toArray ∧ (∀ o, Base b o) ∧ LReps Try.prog w (fun x o => Base x o ∨ some b = some x) jobKs us cs := by
  cases vs with
  | nil => exact h.elim
  | cons v0 vs =>
  obtain ⟨c1, c2, rfl, h1, h2⟩ := h
  cases vs with
  | cons _ _ => exact h2.elim
  | nil =>
  have h2 : c2 = [] := h2
  subst h2
  obtain ⟨b, us, rfl, hb, hB, hr⟩ := h1
  rw [List.append_nil]
  exact ⟨b, us, rfl, hb, hB, hr⟩
set_option maxRecDepth 100000 in
set_option maxHeartbeats 2000000 in
theorem steps_ok : ItOK Try.prog 69 stepsIt := by
  intro Base vs cs l J Jx W hpre hrep hJ hJx hY h0
  obtain ⟨b, -, rfl, -, hB, -⟩ := steps_rep (hrep 0 W h0).2
  have hpre : JobOK cs 0 := hpre
  have hbox : ∀ k w, J k w → (∀ x o, Base x o → x < w.heap.size) ∧ ∃ us, Blk w b 93 us.toArray ∧ LReps Try.prog w (fun x o => Base x o ∨ some b = some x) jobKs us cs := fun k w hj => by
    obtain ⟨h1, h2⟩ := hrep k w hj
    obtain ⟨b2, us, e1, h3, -, h4⟩ := steps_rep h2
    simp at e1
    subst e1
    exact ⟨h1, us, h3, h4⟩
  have hlen : (stepsIt.els cs).length = lastN (jobOf cs 0) + 1 := by simp [stepsIt, stepEls]
  rw [hlen]
  have hY' : ∀ k w w', k ≤ lastN (jobOf cs 0) → J k w → Below w.heap.size w w' → YieldAt Fence.wide 0 Try.prog l #[.int .i64 (k : Int), .bool (overS (jobOf cs 0) k)] w' fun e w'' => ((e = .returned (.bool true) ∧ J (k + 1) w'') ∧ Keeps (fun i => w.heap.size ≤ i ∧ i < w'.heap.size) w' w'') ∨ (e = .returned (.bool false) ∧ Jx w'') := fun k w w' hk hj hb =>
    hY k (stepEl (jobOf cs 0) k) w w' (stepEls_at hk) hj hb
  clear hY hrep hlen
  have hreg := fun (w : World) (k : Int) (us : List Value) (ts : Array Value) (K : Exit → Act → World → Prop) hts g0 g1 g2 g3 g5 hblk hBase hr hk hK => steps_reg (w := w) (Base := Base) (b := b) (us := us) (cs := cs) (fv := .func (.yield l) #[] #[]) (k := k) (ts := ts) (K := K) hts g0 g1 g2 g3 g5 rfl hblk hB hBase hr hpre hk hK
  have hov : ∀ k : Nat, overV (jobOf cs 0) (momentV (jobOf cs 0) (k : Int) (-1)) = overS (jobOf cs 0) k := fun _ => rfl
  have h400 := lastN_le (jobOf cs 0)
  have hno : ∀ k, k < lastN (jobOf cs 0) → overS (jobOf cs 0) k = false := fun k hk => firstN_no _ 400 0 k (Nat.zero_le _) hk
  have hyes : lastN (jobOf cs 0) < 400 → overS (jobOf cs 0) (lastN (jobOf cs 0)) = true := fun h => firstN_yes _ 400 0 (by unfold lastN at h; omega)
  generalize jobOf cs 0 = j at *
  generalize hn : lastN j = n at *
  clear hB hpre
  refine callsIn_of_wp Try.func69 rfl trivial ?_ rfl
  simp only [Try.ntmps69, List.size_toArray, List.length_cons, List.length_nil, Nat.reduceAdd, Nat.reduceSub, Array.replicate_succ, Array.replicate_zero, List.push_toArray, List.append_toArray, List.nil_append, List.cons_append]
  gi_wp2
  gi_loopw [5] (fun i wr => ∃ k : Nat, (k ≤ n ∨ k = 401 ∧ n = 400) ∧ i = .int .i64 k ∧ J k wr) (fun i _ => ((402 : Int) - intOf i).toNat)
  case atStart => exact ⟨0, .inl (Nat.zero_le _), rfl, h0⟩
  case round =>
    obtain ⟨k, hk, rfl, hj⟩ := hrel
    by_cases hlt : k ≤ n
    · obtain ⟨hBase, us, hblk, hr⟩ := hbox k wr hj
      have hyk := fun w' => hY' k wr w' hlt hj
      have hov := hov k
      have hreg := fun ts K hts g0 g1 g2 g3 g5 hK => hreg wr k us ts K hts g0 g1 g2 g3 g5 hblk hBase hr ⟨by omega, by omega⟩ hK
      clear hY' hbox hblk hBase hr
      have hb0 : (0 : Int) ≤ k := by omega
      have hb1 : (k : Int) < 401 := by omega
      gi_wp2
      refine hreg _ _ rfl rfl rfl rfl rfl rfl (fun ts' w' z G0 G1 G2 G3 G5 G4 hbel => ?_)
      obtain ⟨x0, x1, x2, x3, x4, x5, x6, x7, x8, x9, x10, x11, x12, x13, x14, x15, x16, x17, x18, x19, x20, x21, rfl⟩ := arr22 z
      have g0 : x0 = _ := G0
      have g1 : x1 = _ := G1
      have g2 : x2 = _ := G2
      have g3 : x3 = _ := G3
      have g5 : x5 = _ := G5
      obtain ⟨fn, tmps, assign, body, hy1, hR⟩ := hyk w' hbel
      have hno := hno k
      have hend : overS j k = false → k + 1 ≤ n ∨ k + 1 = 401 ∧ n = 400 := fun h => by
        by_cases e : k = n
        · subst e
          by_cases e2 : k < 400
          · rw [hyes e2] at h; cases h
          · exact .inr ⟨by omega, by omega⟩
        · exact .inl (by omega)
      obtain ⟨t, ht⟩ : ∃ t, t = overS j k := ⟨_, rfl⟩
      have g4 : x4 = .bool t := by rw [ht]; exact G4
      rw [← ht] at hno hend hy1
      clear z hreg hyk hbel hov ht G0 G1 G2 G3 G4 G5
      subst g0 g1 g2 g3 g4 g5
      gi_wp2
      refine ⟨rfl, hR.mono ?_⟩
      rintro e W3 (⟨⟨rfl, hj3⟩, -⟩ | ⟨rfl, hx3⟩)
      · cases t with
        | true =>
          obtain rfl : k = n := by
            rcases Nat.lt_or_eq_of_le hlt with h | h
            · exact absurd (hno h) (by decide)
            · exact h
          clear hend hno
          gi_wp2
          refine bodyPost_ret (results_none rfl _ _ _) rfl ?_
          exact ⟨⟨_, rfl⟩, .inl hj3⟩
        | false =>
          have hend2 := hend rfl
          clear hno hend
          gi_wp2
          exact ⟨⟨k + 1, hend2, by simp, hj3⟩, by simp only [intOf]; omega⟩
      · gi_wp2
        refine bodyPost_ret (results_none rfl _ _ _) rfl ?_
        exact ⟨⟨_, rfl⟩, .inr hx3⟩
    · obtain ⟨rfl, rfl⟩ : k = 401 ∧ n = 400 := by omega
      gi_wp2
      go_end0
      exact ⟨⟨_, rfl⟩, .inl hj⟩
end Go.Proofs.Ytmdmgpikbebejaa
/- What is to be shown of each function, as the executor has it. Printed by trees.py. -/
namespace Go.Proofs.Ytmdmgpikbebejaa
noncomputable def cexc : Cx := tab5.only [] (fun _ => []) [] 0 [] (fun _ => none)
def texc : Tree :=
  (.split (.cmp .lt (.var 2) (.var 0)) (.ret [(.int (.lit 2))]) (.split (.cmp .lt (.var 2) (.var 1)) (.ret [(.int (.lit 3))]) (.ret [(.int (.lit 0))])))
noncomputable def clook : Cx := tab5.only [45, 50, 84] (fun _ => []) [] 0 [] (fun _ => none)
def tlook_1 : Tree :=
  (.split (.cmp .ne (.var 28) (.lit 0)) (.ret [(.int (.var 28)), (.int (.var 14)), (.int (.var 15)), (.int (.lit 4)), (.int (.lit 0))]) (.ret [(.int (.lit 0)), (.int (.lit 0)), (.int (.lit 0)), (.int (.lit 0)), (.int (.lit 0))]))
def tlook_2 : Tree :=
  (.split (.cmp .ne (.var 27) (.lit 0)) (.ret [(.int (.var 27)), (.int (.var 14)), (.int (.var 15)), (.int (.lit 3)), (.int (.lit 0))]) (.call 84 [(.int (.var 22)), (.int (.var 23)), (.int (.var 3))] tlook_1))
def tlook_3 : Tree :=
  (.dfn .nil (.loop [.int] [(.int (.lit 0))] (.split (.cmp .lt (.var 26) (.len (.var 24))) (.ob (.cmp .le (.lit 0) (.var 26)) (.ob (.cmp .lt (.var 26) (.len (.var 24))) (.ob (.cmp .lt (.var 26) (.len (.var 2))) (.call 84 [(.int (.cell (.var 24) (.var 26) 0)), (.int (.cell (.var 24) (.var 26) 1)), (.int (.cell (.var 2) (.var 26) 1))] (.split (.cmp .ne (.var 27) (.lit 0)) (.ret [(.int (.var 27)), (.int (.var 14)), (.int (.var 15)), (.int (.lit 2)), (.int (.var 26))]) (.back 0 [(.int (.add (.var 26) (.lit 1)))])))))) (.ob (.and (.cmp .le (.lit (-9223372036854775808)) (.sub (.lit 0) (.var 23))) (.cmp .le (.sub (.lit 0) (.var 23)) (.lit 9223372036854775807))) (.ob (.and (.cmp .le (.lit (-9223372036854775808)) (.sub (.lit 0) (.var 22))) (.cmp .le (.sub (.lit 0) (.var 22)) (.lit 9223372036854775807))) (.ob (.and (.cmp .le (.lit (-9223372036854775808)) (.sub (.lit 0) (.var 23))) (.cmp .le (.sub (.lit 0) (.var 23)) (.lit 9223372036854775807))) (.ob (.and (.cmp .le (.lit (-9223372036854775808)) (.sub (.lit 0) (.var 22))) (.cmp .le (.sub (.lit 0) (.var 22)) (.lit 9223372036854775807))) (.call 84 [(.int (.sub (.lit 0) (.var 23))), (.int (.sub (.lit 0) (.var 22))), (.int (.lit 0))] tlook_2))))))))
def tlook_4 : Tree :=
  (.split (.cmp .lt (.var 16) (.var 11)) (.ret [(.int (.lit 2)), (.int (.var 14)), (.int (.var 15)), (.int (.lit 1)), (.int (.lit 0))]) (.call 50 [(.arr 97 (.var 0)), (.int (.var 1)), (.arr 70 (.var 2)), (.int (.var 3)), (.int (.var 4)), (.int (.var 5)), (.int (.var 6)), (.int (.var 7)), (.int (.var 8)), (.int (.var 9)), (.int (.var 10)), (.int (.var 11)), (.arr 70 (.var 12)), (.int (.var 13)), (.int (.var 14)), (.int (.var 15))] tlook_3))
def tlook : Tree :=
  (.call 45 [(.arr 97 (.var 0)), (.int (.var 1)), (.arr 70 (.var 2)), (.int (.var 3)), (.int (.var 4)), (.int (.var 5)), (.int (.var 6)), (.int (.var 7)), (.int (.var 8)), (.int (.var 9)), (.int (.var 10)), (.int (.var 11)), (.arr 70 (.var 12)), (.int (.var 13)), (.int (.var 15))] tlook_4)
noncomputable def crest : Cx := tab5.only [75, 79, 84] (fun _ => []) [] 0 [] (fun _ => none)
def trest_1 : Tree :=
  (.ob (.and (.cmp .le (.lit (-9223372036854775808)) (.mul (.var 7) (.var 20))) (.cmp .le (.mul (.var 7) (.var 20)) (.lit 9223372036854775807))) (.ob (.and (.cmp .le (.lit (-9223372036854775808)) (.mul (.var 7) (.var 21))) (.cmp .le (.mul (.var 7) (.var 21)) (.lit 9223372036854775807))) (.ob (.and (.cmp .le (.lit (-9223372036854775808)) (.mul (.var 7) (.var 20))) (.cmp .le (.mul (.var 7) (.var 20)) (.lit 9223372036854775807))) (.ob (.and (.cmp .le (.lit (-9223372036854775808)) (.mul (.var 7) (.var 21))) (.cmp .le (.mul (.var 7) (.var 21)) (.lit 9223372036854775807))) (.call 84 [(.int (.mul (.var 7) (.var 20))), (.int (.mul (.var 7) (.var 21))), (.int (.cell (.var 2) (.var 17) 1))] (.split (.cmp .ne (.var 22) (.lit 0)) (.ret [(.int (.var 22)), (.int (.var 14)), (.int (.lit 0)), (.int (.lit 5)), (.int (.var 17))]) (.back 0 [(.int (.add (.var 17) (.lit 1)))])))))))
def trest_2 : Tree :=
  (.ob (.and (.cmp .le (.lit (-9223372036854775808)) (.mul (.var 7) (.var 15))) (.cmp .le (.mul (.var 7) (.var 15)) (.lit 9223372036854775807))) (.split (.cmp .lt (.mul (.var 7) (.var 15)) (.var 11)) (.ret [(.int (.lit 2)), (.int (.var 14)), (.int (.lit 0)), (.int (.lit 5)), (.int (.lit 0))]) (.loop [.int] [(.int (.lit 0))] (.split (.cmp .lt (.var 17) (.len (.var 2))) (.ob (.cmp .le (.lit 0) (.var 17)) (.ob (.cmp .lt (.var 17) (.len (.var 2))) (.call 75 [(.arr 97 (.var 0)), (.int (.var 1)), (.arr 70 (.var 2)), (.int (.var 3)), (.int (.var 4)), (.int (.var 5)), (.int (.var 6)), (.int (.var 7)), (.int (.var 8)), (.int (.var 9)), (.int (.var 10)), (.int (.var 11)), (.arr 70 (.var 12)), (.int (.var 13)), (.int (.cell (.var 2) (.var 17) 0))] (.call 79 [(.int (.var 15)), (.int (.var 16)), (.int (.var 18)), (.int (.var 19))] trest_1)))) (.ret [(.int (.lit 0)), (.int (.lit 0)), (.int (.lit 0)), (.int (.lit 0)), (.int (.lit 0))])))))
def trest : Tree :=
  (.call 75 [(.arr 97 (.var 0)), (.int (.var 1)), (.arr 70 (.var 2)), (.int (.var 3)), (.int (.var 4)), (.int (.var 5)), (.int (.var 6)), (.int (.var 7)), (.int (.var 8)), (.int (.var 9)), (.int (.var 10)), (.int (.var 11)), (.arr 70 (.var 12)), (.int (.var 13)), (.int (.var 13))] trest_2)
end Go.Proofs.Ytmdmgpikbebejaa
