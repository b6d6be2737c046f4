/- The law KillMore: for every input the call returns true, and each argument reads afterwards as it read before. The frame is printed by frame.py. -/
import Derived.Test.YtmdmgpikbebejaaMore8
import Derived.Test.YtmdmgpikbebejaaRows
import Derived.ShutString
import Derived.ChangeOld
/- Kill: a moment while the gas is pushed back; moments. -/
namespace Go.Proofs.Ytmdmgpikbebejaa
open Go.RowKit
set_option linter.unusedSimpArgs false
set_option linter.unusedVariables false

set_option maxHeartbeats 1000000 in
theorem psh_ok : tab3.ok 60 := by
  refine Tab.of_ct rfl rfl ⟨_, Try.func60, by decide, rfl⟩ ?_ (fun h => by cases h)
  refine ct_ok (cx := cpsh) (Tab.cx_ok (all_cons jht_ok (all_cons gas_ok (all_cons exact_ok (all_cons under_ok (all_cons less_ok (all_cons join_ok (all_cons minus_ok all_nil))))))) fxpsh) Try.func60 (bds := []) (T := tpsh) (by kernel_rfl) ?_
  have h1 : cpsh.ct 75 = some ctJHeight := rfl
  have h2 : cpsh.ct 80 = some ctExact := rfl
  have h3 : cpsh.ct 74 = some ctGas := rfl
  have h4 : cpsh.ct 81 = some ctMinus := rfl
  have h5 : cpsh.ct 78 = some ctUnder := rfl
  have h6 : cpsh.ct 79 = some ctLess := rfl
  have h7 : cpsh.ct 76 = some ctJoin := rfl
  unfold tpsh
  simp only [VC, allC, List.map_cons, List.map_nil, List.length_cons, List.length_nil, List.getElem?_cons_zero, List.getElem?_cons_succ, List.cons.injEq, C.i.injEq, C.b.injEq, and_true, true_and, forall_const, kindsOf_nil, kindsOf_lf, kindsOf_agg, kindsOf_box, boxKinds_nil, boxKinds_lf, boxKinds_agg, boxKinds_box, List.append_nil, List.cons_append, List.nil_append, den_cmp_le, den_cmp_lt, den_cmp_eq, den_cmp_ne, den_cmp_le', den_cmp_lt', den_cmp_eq', den_cmp_ne', den_and, den_and', den_or, den_or', den_not, den_not', den_blit, den_of, ev_var, at_0, at_1, at_2, at_3, at_4, at_5, at_6, at_7, at_skip, c_int, c_bool, c_arr, c_cnt, c_vec, ev_nil, ev_join, ev_sub3, loc_s, int_i, bool_b, rows_s, cs_nil, cs_cons, E.den_lit, E.den_var, E.den_add, E.den_sub, E.den_mul, E.den_quo, E.den_rem, E.den_max, E.den_min, E.den_len, E.den_wr, E.den_cell, ev_cell, kn1, kn2, Nat.reduceAdd, h1, h2, h3, h4, h5, h6, h7, ctJHeight, ctGas, ctExact, ctMinus, ctUnder, ctLess, ctJoin, ctF, jobSh, rangeSh, momSh, momKs, kn_, n_, k_, ofKn, ctPushed]
  rintro u1 r1 _ _ _ w _ _ u2 r2 _ _ _ li _ _ pi _ _ st _ _ ka _ _ kb _ _ kc _ _ kd _ _ v _ _ po _ _ u3 r3 _ _ _ ro _ _ m _ _ b _ _ ⟨hj, hm, hb⟩
  obtain ⟨j, hjd⟩ : ∃ j, j = jobOf [.s u1 r1, .i w, .s u2 r2, .i li, .i pi, .i st, .i ka, .i kb, .i kc, .i kd, .i v, .i po, .s u3 r3, .i ro, .i m, .i b] 0 := ⟨_, rfl⟩
  rw [← hjd]
  have hf : JF j := by rw [hjd]; exact hj.jf
  have hm1 : 0 ≤ m := hm.1
  have hm2 : m ≤ 4398046511104 := hm.2
  have hro : ro = volV j.w.segs := by rw [hjd]; exact hj.2.2
  have hvn : 0 ≤ volV j.w.segs ∧ volV j.w.segs ≤ 5242880000 := ⟨by have := hf.step; omega, hf.room⟩
  have hline : ∀ u, atV (knots r3) u = htV j.w.segs u := fun u => by rw [hjd]; exact congrArg (fun l => atV l u) hj.2.1
  have hwt : j.w.weight = w := by rw [hjd]; rfl
  have hpw : j.p.weight = kb := by rw [hjd]; rfl
  have hpts : j.w.points = knots r2 := by rw [hjd]; rfl
  have hlen := knots_len r2
  have hw : 0 ≤ w ∧ w ≤ 40000 := hwt ▸ hf.weight
  have hp : 0 ≤ kb ∧ kb ≤ 40000 := hpw ▸ hf.pweight
  have hh : ∀ x, HtOK (htV j.w.segs x) := ht_ok hf.hole
  have hg := gasK_bd hf.vol hf.pore (b, b)
  have he := exact_bd hb
  have hpl := hf.len
  have hed : max 0 (ro - m) = edgeV j m := by rw [hro]; rfl
  have hedb : 0 ≤ edgeV j m ∧ edgeV j m ≤ 5242880000 := by unfold edgeV; omega
  refine ⟨bds_nil _, ?_⟩
  rintro x1 _ _ x2 _ _ ⟨e1, e2⟩
  cases e1.symm
  cases e2.symm
  unfold tpsh_12
  simp only [VC, allC, List.map_cons, List.map_nil, List.length_cons, List.length_nil, List.getElem?_cons_zero, List.getElem?_cons_succ, List.cons.injEq, C.i.injEq, C.b.injEq, and_true, true_and, forall_const, kindsOf_nil, kindsOf_lf, kindsOf_agg, kindsOf_box, boxKinds_nil, boxKinds_lf, boxKinds_agg, boxKinds_box, List.append_nil, List.cons_append, List.nil_append, den_cmp_le, den_cmp_lt, den_cmp_eq, den_cmp_ne, den_cmp_le', den_cmp_lt', den_cmp_eq', den_cmp_ne', den_and, den_and', den_or, den_or', den_not, den_not', den_blit, den_of, ev_var, at_0, at_1, at_2, at_3, at_4, at_5, at_6, at_7, at_skip, c_int, c_bool, c_arr, c_cnt, c_vec, ev_nil, ev_join, ev_sub3, loc_s, int_i, bool_b, rows_s, cs_nil, cs_cons, E.den_lit, E.den_var, E.den_add, E.den_sub, E.den_mul, E.den_quo, E.den_rem, E.den_max, E.den_min, E.den_len, E.den_wr, E.den_cell, ev_cell, kn1, kn2, Nat.reduceAdd, h1, h2, h3, h4, h5, h6, h7, ctJHeight, ctGas, ctExact, ctMinus, ctUnder, ctLess, ctJoin, ctF, jobSh, rangeSh, momSh, momKs, kn_, n_, k_, ofKn]
  refine ⟨⟨hj, he.ok (by decide) (by decide)⟩, ?_⟩
  rintro g1 _ _ g2 _ _ ⟨e1, e2⟩
  have e1 : g1 = (gasK j.k (b, b)).1 := by rw [e1, hjd]; rfl
  have e2 : g2 = (gasK j.k (b, b)).2 := by rw [e2, hjd]; rfl
  subst e1 e2
  refine ⟨⟨⟨hg.1, by show (gasK j.k (b, b)).1 ≤ _; omega, hg.2.2.1, by show (gasK j.k (b, b)).2 ≤ _; omega⟩, hm⟩, ?_⟩
  rintro g1 _ _ g2 _ _ ⟨e1, e2⟩
  have e1 : g1 = (pgasV j m b).1 := e1
  have e2 : g2 = (pgasV j m b).2 := e2
  subst e1 e2
  unfold tpsh_11
  simp only [VC, allC, List.map_cons, List.map_nil, List.length_cons, List.length_nil, List.getElem?_cons_zero, List.getElem?_cons_succ, List.cons.injEq, C.i.injEq, C.b.injEq, and_true, true_and, forall_const, kindsOf_nil, kindsOf_lf, kindsOf_agg, kindsOf_box, boxKinds_nil, boxKinds_lf, boxKinds_agg, boxKinds_box, List.append_nil, List.cons_append, List.nil_append, den_cmp_le, den_cmp_lt, den_cmp_eq, den_cmp_ne, den_cmp_le', den_cmp_lt', den_cmp_eq', den_cmp_ne', den_and, den_and', den_or, den_or', den_not, den_not', den_blit, den_of, ev_var, at_0, at_1, at_2, at_3, at_4, at_5, at_6, at_7, at_skip, c_int, c_bool, c_arr, c_cnt, c_vec, ev_nil, ev_join, ev_sub3, loc_s, int_i, bool_b, rows_s, cs_nil, cs_cons, E.den_lit, E.den_var, E.den_add, E.den_sub, E.den_mul, E.den_quo, E.den_rem, E.den_max, E.den_min, E.den_len, E.den_wr, E.den_cell, ev_cell, kn1, kn2, Nat.reduceAdd, h1, h2, h3, h4, h5, h6, h7, ctJHeight, ctGas, ctExact, ctMinus, ctUnder, ctLess, ctJoin, ctF, jobSh, rangeSh, momSh, momKs, kn_, n_, k_, ofKn, hline]
  refine ⟨⟨by omega, by omega⟩, ?_⟩
  rintro t1 _ _ t2 _ _ ⟨rfl, rfl⟩
  unfold tpsh_10
  simp only [VC, allC, List.map_cons, List.map_nil, List.length_cons, List.length_nil, List.getElem?_cons_zero, List.getElem?_cons_succ, List.cons.injEq, C.i.injEq, C.b.injEq, and_true, true_and, forall_const, kindsOf_nil, kindsOf_lf, kindsOf_agg, kindsOf_box, boxKinds_nil, boxKinds_lf, boxKinds_agg, boxKinds_box, List.append_nil, List.cons_append, List.nil_append, den_cmp_le, den_cmp_lt, den_cmp_eq, den_cmp_ne, den_cmp_le', den_cmp_lt', den_cmp_eq', den_cmp_ne', den_and, den_and', den_or, den_or', den_not, den_not', den_blit, den_of, ev_var, at_0, at_1, at_2, at_3, at_4, at_5, at_6, at_7, at_skip, c_int, c_bool, c_arr, c_cnt, c_vec, ev_nil, ev_join, ev_sub3, loc_s, int_i, bool_b, rows_s, cs_nil, cs_cons, E.den_lit, E.den_var, E.den_add, E.den_sub, E.den_mul, E.den_quo, E.den_rem, E.den_max, E.den_min, E.den_len, E.den_wr, E.den_cell, ev_cell, kn1, kn2, Nat.reduceAdd, h1, h2, h3, h4, h5, h6, h7, ctJHeight, ctGas, ctExact, ctMinus, ctUnder, ctLess, ctJoin, ctF, jobSh, rangeSh, momSh, momKs, kn_, n_, k_, ofKn, hline]
  rintro t1 _ _ t2 _ _ ⟨rfl, rfl⟩ t3 _ _ t4 _ _ ⟨e1, e2⟩
  have e1 : t3 = (ptopV j m b).1 := e1
  have e2 : t4 = (ptopV j m b).2 := e2
  subst e1 e2
  have htop : HtOK (ptopV j m b) := ⟨(hh _).1, (hh _).2.1, (hh _).2.2.1, (hh _).2.2.2⟩
  rintro vc x2 _ _ x3 _ _ ⟨e1, e2⟩
  cases e1.symm
  cases e2.symm
  unfold tpsh_9
  simp only [VC, allC, List.map_cons, List.map_nil, List.length_cons, List.length_nil, List.getElem?_cons_zero, List.getElem?_cons_succ, List.cons.injEq, C.i.injEq, C.b.injEq, and_true, true_and, forall_const, kindsOf_nil, kindsOf_lf, kindsOf_agg, kindsOf_box, boxKinds_nil, boxKinds_lf, boxKinds_agg, boxKinds_box, List.append_nil, List.cons_append, List.nil_append, den_cmp_le, den_cmp_lt, den_cmp_eq, den_cmp_ne, den_cmp_le', den_cmp_lt', den_cmp_eq', den_cmp_ne', den_and, den_and', den_or, den_or', den_not, den_not', den_blit, den_of, ev_var, at_0, at_1, at_2, at_3, at_4, at_5, at_6, at_7, at_skip, c_int, c_bool, c_arr, c_cnt, c_vec, ev_nil, ev_join, ev_sub3, loc_s, int_i, bool_b, rows_s, cs_nil, cs_cons, E.den_lit, E.den_var, E.den_add, E.den_sub, E.den_mul, E.den_quo, E.den_rem, E.den_max, E.den_min, E.den_len, E.den_wr, E.den_cell, ev_cell, kn1, kn2, Nat.reduceAdd, h1, h2, h3, h4, h5, h6, h7, ctJHeight, ctGas, ctExact, ctMinus, ctUnder, ctLess, ctJoin, ctF, jobSh, rangeSh, momSh, momKs, kn_, n_, k_, ofKn, hline, hed]
  rintro t1 _ _ t2 _ _ ⟨rfl, rfl⟩
  unfold tpsh_8
  simp only [VC, allC, List.map_cons, List.map_nil, List.length_cons, List.length_nil, List.getElem?_cons_zero, List.getElem?_cons_succ, List.cons.injEq, C.i.injEq, C.b.injEq, and_true, true_and, forall_const, kindsOf_nil, kindsOf_lf, kindsOf_agg, kindsOf_box, boxKinds_nil, boxKinds_lf, boxKinds_agg, boxKinds_box, List.append_nil, List.cons_append, List.nil_append, den_cmp_le, den_cmp_lt, den_cmp_eq, den_cmp_ne, den_cmp_le', den_cmp_lt', den_cmp_eq', den_cmp_ne', den_and, den_and', den_or, den_or', den_not, den_not', den_blit, den_of, ev_var, at_0, at_1, at_2, at_3, at_4, at_5, at_6, at_7, at_skip, c_int, c_bool, c_arr, c_cnt, c_vec, ev_nil, ev_join, ev_sub3, loc_s, int_i, bool_b, rows_s, cs_nil, cs_cons, E.den_lit, E.den_var, E.den_add, E.den_sub, E.den_mul, E.den_quo, E.den_rem, E.den_max, E.den_min, E.den_len, E.den_wr, E.den_cell, ev_cell, kn1, kn2, Nat.reduceAdd, h1, h2, h3, h4, h5, h6, h7, ctJHeight, ctGas, ctExact, ctMinus, ctUnder, ctLess, ctJoin, ctF, jobSh, rangeSh, momSh, momKs, kn_, n_, k_, ofKn, hline, hed]
  refine ⟨⟨hh _, htop⟩, ?_⟩
  rintro t1 _ _ t2 _ _ ⟨rfl, rfl⟩ x2 _ _ x3 _ _ ⟨e1, e2⟩
  cases e1.symm
  cases e2.symm
  refine ⟨⟨he.ok (by decide) (by decide), hw, less_ht (hh _) htop⟩, ?_⟩
  rintro t1 _ _ t2 _ _ ⟨rfl, rfl⟩
  unfold tpsh_7
  simp only [VC, allC, List.map_cons, List.map_nil, List.length_cons, List.length_nil, List.getElem?_cons_zero, List.getElem?_cons_succ, List.cons.injEq, C.i.injEq, C.b.injEq, and_true, true_and, forall_const, kindsOf_nil, kindsOf_lf, kindsOf_agg, kindsOf_box, boxKinds_nil, boxKinds_lf, boxKinds_agg, boxKinds_box, List.append_nil, List.cons_append, List.nil_append, den_cmp_le, den_cmp_lt, den_cmp_eq, den_cmp_ne, den_cmp_le', den_cmp_lt', den_cmp_eq', den_cmp_ne', den_and, den_and', den_or, den_or', den_not, den_not', den_blit, den_of, ev_var, at_0, at_1, at_2, at_3, at_4, at_5, at_6, at_7, at_skip, c_int, c_bool, c_arr, c_cnt, c_vec, ev_nil, ev_join, ev_sub3, loc_s, int_i, bool_b, rows_s, cs_nil, cs_cons, E.den_lit, E.den_var, E.den_add, E.den_sub, E.den_mul, E.den_quo, E.den_rem, E.den_max, E.den_min, E.den_len, E.den_wr, E.den_cell, ev_cell, kn1, kn2, Nat.reduceAdd, h1, h2, h3, h4, h5, h6, h7, ctJHeight, ctGas, ctExact, ctMinus, ctUnder, ctLess, ctJoin, ctF, jobSh, rangeSh, momSh, momKs, kn_, n_, k_, ofKn, hline, hed]
  rintro t1 _ _ t2 _ _ ⟨rfl, rfl⟩
  unfold tpsh_6
  simp only [VC, allC, List.map_cons, List.map_nil, List.length_cons, List.length_nil, List.getElem?_cons_zero, List.getElem?_cons_succ, List.cons.injEq, C.i.injEq, C.b.injEq, and_true, true_and, forall_const, kindsOf_nil, kindsOf_lf, kindsOf_agg, kindsOf_box, boxKinds_nil, boxKinds_lf, boxKinds_agg, boxKinds_box, List.append_nil, List.cons_append, List.nil_append, den_cmp_le, den_cmp_lt, den_cmp_eq, den_cmp_ne, den_cmp_le', den_cmp_lt', den_cmp_eq', den_cmp_ne', den_and, den_and', den_or, den_or', den_not, den_not', den_blit, den_of, ev_var, at_0, at_1, at_2, at_3, at_4, at_5, at_6, at_7, at_skip, c_int, c_bool, c_arr, c_cnt, c_vec, ev_nil, ev_join, ev_sub3, loc_s, int_i, bool_b, rows_s, cs_nil, cs_cons, E.den_lit, E.den_var, E.den_add, E.den_sub, E.den_mul, E.den_quo, E.den_rem, E.den_max, E.den_min, E.den_len, E.den_wr, E.den_cell, ev_cell, kn1, kn2, Nat.reduceAdd, h1, h2, h3, h4, h5, h6, h7, ctJHeight, ctGas, ctExact, ctMinus, ctUnder, ctLess, ctJoin, ctF, jobSh, rangeSh, momSh, momKs, kn_, n_, k_, ofKn, hline, hed]
  refine ⟨⟨by omega, by omega⟩, ?_⟩
  rintro t1 _ _ t2 _ _ ⟨rfl, rfl⟩
  refine ⟨⟨hh _, hh _⟩, ?_⟩
  rintro t1 _ _ t2 _ _ ⟨rfl, rfl⟩
  have hub : ∀ u, KnOK (underK (b, b) w (lessK (htV j.w.segs (min u (edgeV j m))) (ptopV j m b))) := fun u => (under_bd he hw (less_ht (hh _) htop)).ok (by decide) (by decide)
  refine ⟨⟨hub _, hp, less_ht (hh _) (hh _)⟩, ?_⟩
  have hat : ∀ u, patV j m b u = underK (underK (b, b) w (lessK (htV j.w.segs (min u (edgeV j m))) (ptopV j m b))) kb (lessK (htV j.w.segs u) (htV j.w.segs (edgeV j m))) := fun u => by rw [← hwt, ← hpw]; rfl
  rintro t1 _ _ t2 _ _ ⟨e1, e2⟩
  have e1 : t1 = (patV j m b ro).1 := by rw [hat]; exact e1
  have e2 : t2 = (patV j m b ro).2 := by rw [hat]; exact e2
  subst e1 e2
  unfold tpsh_5
  simp only [VC, allC, List.map_cons, List.map_nil, List.length_cons, List.length_nil, List.getElem?_cons_zero, List.getElem?_cons_succ, List.cons.injEq, C.i.injEq, C.b.injEq, and_true, true_and, forall_const, kindsOf_nil, kindsOf_lf, kindsOf_agg, kindsOf_box, boxKinds_nil, boxKinds_lf, boxKinds_agg, boxKinds_box, List.append_nil, List.cons_append, List.nil_append, den_cmp_le, den_cmp_lt, den_cmp_eq, den_cmp_ne, den_cmp_le', den_cmp_lt', den_cmp_eq', den_cmp_ne', den_and, den_and', den_or, den_or', den_not, den_not', den_blit, den_of, ev_var, at_0, at_1, at_2, at_3, at_4, at_5, at_6, at_7, at_skip, c_int, c_bool, c_arr, c_cnt, c_vec, ev_nil, ev_join, ev_sub3, loc_s, int_i, bool_b, rows_s, cs_nil, cs_cons, E.den_lit, E.den_var, E.den_add, E.den_sub, E.den_mul, E.den_quo, E.den_rem, E.den_max, E.den_min, E.den_len, E.den_wr, E.den_cell, ev_cell, kn1, kn2, Nat.reduceAdd, h1, h2, h3, h4, h5, h6, h7, ctJHeight, ctGas, ctExact, ctMinus, ctUnder, ctLess, ctJoin, ctF, jobSh, rangeSh, momSh, momKs, kn_, n_, k_, ofKn, hline, hed]
  rw [hpts] at hpl
  refine ⟨fun xs => match xs with | [.i i, .i a1, .i a2, .i a3, .i a4, .i a5, .i a6, .i a7, .s _ rows] => 0 ≤ i ∧ i ≤ (knots r2).length ∧ a1 = m ∧ a2 = (pgasV j m b).1 ∧ a3 = (pgasV j m b).2 ∧ a4 = b ∧ a5 = b ∧ a6 = (patV j m b ro).1 ∧ a7 = (patV j m b ro).2 ∧ knots rows = ((knots r2).take i.toNat).map (fun p => patV j m b p.1) | _ => False, fun xs => match xs with | .i i :: _ => ((r2.length : Int) - i).toNat | _ => 0, ⟨by omega, by omega, rfl, rfl, rfl, rfl, rfl, rfl, rfl, by simp [knots]⟩, ?_⟩
  rintro i _ _ a1 _ _ a2 _ _ a3 _ _ a4 _ _ a5 _ _ a6 _ _ a7 _ _ vr rows _ _ _ ⟨i0, i1, q1, q2, q3, q4, q5, q6, q7, hrows⟩
  cases q1.symm
  cases q2.symm
  cases q3.symm
  cases q4.symm
  cases q5.symm
  cases q6.symm
  cases q7.symm
  have hrl : rows.length = i.toNat := by
    have := congrArg List.length hrows
    rw [knots_len2, List.length_map, List.length_take] at this
    omega
  refine ⟨fun hlt => ⟨i0, hlt, ?_⟩, fun hge => ?_⟩
  · have hnext := map_take_succ (fun p : Kn => patV j m b p.1) (l := knots r2) (i := i.toNat) (by omega) (0, 0)
    have hmu : ((r2.length : Int) - (i + 1)).toNat < ((r2.length : Int) - i).toNat := by omega
    have ei : (i + 1).toNat = i.toNat + 1 := by omega
    obtain ⟨k, hk⟩ : ∃ k, (knots r2).getD i.toNat (0, 0) = k := ⟨_, rfl⟩
    rw [hk] at hnext
    simp only [hk]
    rintro t1 _ _ t2 _ _ ⟨rfl, rfl⟩
    unfold tpsh_4
    simp only [VC, allC, List.map_cons, List.map_nil, List.length_cons, List.length_nil, List.getElem?_cons_zero, List.getElem?_cons_succ, List.cons.injEq, C.i.injEq, C.b.injEq, and_true, true_and, forall_const, kindsOf_nil, kindsOf_lf, kindsOf_agg, kindsOf_box, boxKinds_nil, boxKinds_lf, boxKinds_agg, boxKinds_box, List.append_nil, List.cons_append, List.nil_append, den_cmp_le, den_cmp_lt, den_cmp_eq, den_cmp_ne, den_cmp_le', den_cmp_lt', den_cmp_eq', den_cmp_ne', den_and, den_and', den_or, den_or', den_not, den_not', den_blit, den_of, ev_var, at_0, at_1, at_2, at_3, at_4, at_5, at_6, at_7, at_skip, c_int, c_bool, c_arr, c_cnt, c_vec, ev_nil, ev_join, ev_sub3, loc_s, int_i, bool_b, rows_s, cs_nil, cs_cons, E.den_lit, E.den_var, E.den_add, E.den_sub, E.den_mul, E.den_quo, E.den_rem, E.den_max, E.den_min, E.den_len, E.den_wr, E.den_cell, ev_cell, kn1, kn2, Nat.reduceAdd, h1, h2, h3, h4, h5, h6, h7, ctJHeight, ctGas, ctExact, ctMinus, ctUnder, ctLess, ctJoin, ctF, jobSh, rangeSh, momSh, momKs, kn_, n_, k_, ofKn, hline, hed, hk]
    refine ⟨⟨hh _, htop⟩, ?_⟩
    rintro t1 _ _ t2 _ _ ⟨rfl, rfl⟩ x2 _ _ x3 _ _ ⟨e1, e2⟩
    cases e1.symm
    cases e2.symm
    refine ⟨⟨he.ok (by decide) (by decide), hw, less_ht (hh _) htop⟩, ?_⟩
    rintro t1 _ _ t2 _ _ ⟨rfl, rfl⟩
    unfold tpsh_3
    simp only [VC, allC, List.map_cons, List.map_nil, List.length_cons, List.length_nil, List.getElem?_cons_zero, List.getElem?_cons_succ, List.cons.injEq, C.i.injEq, C.b.injEq, and_true, true_and, forall_const, kindsOf_nil, kindsOf_lf, kindsOf_agg, kindsOf_box, boxKinds_nil, boxKinds_lf, boxKinds_agg, boxKinds_box, List.append_nil, List.cons_append, List.nil_append, den_cmp_le, den_cmp_lt, den_cmp_eq, den_cmp_ne, den_cmp_le', den_cmp_lt', den_cmp_eq', den_cmp_ne', den_and, den_and', den_or, den_or', den_not, den_not', den_blit, den_of, ev_var, at_0, at_1, at_2, at_3, at_4, at_5, at_6, at_7, at_skip, c_int, c_bool, c_arr, c_cnt, c_vec, ev_nil, ev_join, ev_sub3, loc_s, int_i, bool_b, rows_s, cs_nil, cs_cons, E.den_lit, E.den_var, E.den_add, E.den_sub, E.den_mul, E.den_quo, E.den_rem, E.den_max, E.den_min, E.den_len, E.den_wr, E.den_cell, ev_cell, kn1, kn2, Nat.reduceAdd, h1, h2, h3, h4, h5, h6, h7, ctJHeight, ctGas, ctExact, ctMinus, ctUnder, ctLess, ctJoin, ctF, jobSh, rangeSh, momSh, momKs, kn_, n_, k_, ofKn, hline, hed, hk]
    rintro t1 _ _ t2 _ _ ⟨rfl, rfl⟩
    unfold tpsh_2
    simp only [VC, allC, List.map_cons, List.map_nil, List.length_cons, List.length_nil, List.getElem?_cons_zero, List.getElem?_cons_succ, List.cons.injEq, C.i.injEq, C.b.injEq, and_true, true_and, forall_const, kindsOf_nil, kindsOf_lf, kindsOf_agg, kindsOf_box, boxKinds_nil, boxKinds_lf, boxKinds_agg, boxKinds_box, List.append_nil, List.cons_append, List.nil_append, den_cmp_le, den_cmp_lt, den_cmp_eq, den_cmp_ne, den_cmp_le', den_cmp_lt', den_cmp_eq', den_cmp_ne', den_and, den_and', den_or, den_or', den_not, den_not', den_blit, den_of, ev_var, at_0, at_1, at_2, at_3, at_4, at_5, at_6, at_7, at_skip, c_int, c_bool, c_arr, c_cnt, c_vec, ev_nil, ev_join, ev_sub3, loc_s, int_i, bool_b, rows_s, cs_nil, cs_cons, E.den_lit, E.den_var, E.den_add, E.den_sub, E.den_mul, E.den_quo, E.den_rem, E.den_max, E.den_min, E.den_len, E.den_wr, E.den_cell, ev_cell, kn1, kn2, Nat.reduceAdd, h1, h2, h3, h4, h5, h6, h7, ctJHeight, ctGas, ctExact, ctMinus, ctUnder, ctLess, ctJoin, ctF, jobSh, rangeSh, momSh, momKs, kn_, n_, k_, ofKn, hline, hed, hk]
    refine ⟨⟨by omega, by omega⟩, ?_⟩
    rintro t1 _ _ t2 _ _ ⟨rfl, rfl⟩
    refine ⟨⟨hh _, hh _⟩, ?_⟩
    rintro t1 _ _ t2 _ _ ⟨rfl, rfl⟩
    refine ⟨⟨hub _, hp, less_ht (hh _) (hh _)⟩, ?_⟩
    rintro t1 _ _ t2 _ _ ⟨e1, e2⟩
    have e1 : t1 = (patV j m b k.1).1 := by rw [hat]; exact e1
    have e2 : t2 = (patV j m b k.1).2 := by rw [hat]; exact e2
    unfold tpsh_1
    simp only [VC, allC, List.map_cons, List.map_nil, List.length_cons, List.length_nil, List.getElem?_cons_zero, List.getElem?_cons_succ, List.cons.injEq, C.i.injEq, C.b.injEq, and_true, true_and, forall_const, kindsOf_nil, kindsOf_lf, kindsOf_agg, kindsOf_box, boxKinds_nil, boxKinds_lf, boxKinds_agg, boxKinds_box, List.append_nil, List.cons_append, List.nil_append, den_cmp_le, den_cmp_lt, den_cmp_eq, den_cmp_ne, den_cmp_le', den_cmp_lt', den_cmp_eq', den_cmp_ne', den_and, den_and', den_or, den_or', den_not, den_not', den_blit, den_of, ev_var, at_0, at_1, at_2, at_3, at_4, at_5, at_6, at_7, at_skip, c_int, c_bool, c_arr, c_cnt, c_vec, ev_nil, ev_join, ev_sub3, loc_s, int_i, bool_b, rows_s, cs_nil, cs_cons, E.den_lit, E.den_var, E.den_add, E.den_sub, E.den_mul, E.den_quo, E.den_rem, E.den_max, E.den_min, E.den_len, E.den_wr, E.den_cell, ev_cell, kn1, kn2, Nat.reduceAdd, h1, h2, h3, h4, h5, h6, h7, ctJHeight, ctGas, ctExact, ctMinus, ctUnder, ctLess, ctJoin, ctF, jobSh, rangeSh, momSh, momKs, kn_, n_, k_, ofKn, hline, hed, hk]
    refine ⟨by omega, ⟨by omega, by omega, ?_⟩, hmu⟩
    rw [ei, hnext, knots_app, hrows, e1, e2]; rfl
  · rw [List.take_of_length_le (by omega)] at hrows
    refine ⟨vr, rows, ?_, by rw [hrows]; show _ = j.w.points.map _; rw [hpts]⟩
    rw [hro]; rfl
theorem moment_ok : tab3.ok 50 := mom_ok ris_ok psh_ok
end Go.Proofs.Ytmdmgpikbebejaa
/- Kill: At. -/
namespace Go.Proofs.Ytmdmgpikbebejaa
open Go.RowKit
set_option linter.unusedSimpArgs false
set_option linter.unusedVariables false

section
variable {j : Jb} {s e : Int}
theorem atE_no (h : jobV j ≠ 0) : atE j s e = jobV j := if_neg h
theorem atE_out (h : jobV j = 0) (h2 : ¬ (0 ≤ s ∧ s ≤ 400 ∧ -1 ≤ e ∧ e ≤ 1)) : atE j s e = 2 := by unfold atE; rw [if_pos h, if_neg h2]
theorem atE_in (h : jobV j = 0) (h2 : 0 ≤ s ∧ s ≤ 400 ∧ -1 ≤ e ∧ e ≤ 1) : atE j s e = 0 := by unfold atE; rw [if_pos h, if_pos h2]
theorem atMo_no (h : jobV j ≠ 0) : atMo j s e = noMo := by unfold atMo; rw [if_neg fun h2 => h h2.1]
theorem atMo_out (h2 : ¬ (0 ≤ s ∧ s ≤ 400 ∧ -1 ≤ e ∧ e ≤ 1)) : atMo j s e = noMo := by unfold atMo; rw [if_neg fun h => h2 h.2]
theorem atMo_in (h : jobV j = 0) (h2 : 0 ≤ s ∧ s ≤ 400 ∧ -1 ≤ e ∧ e ≤ 1) : atMo j s e = momentV j s e := by unfold atMo; rw [if_pos ⟨h, h2⟩]
end
theorem ex_app {P : List C → Prop} (l : List C) (x : C) {y : C} (h : P l) (e : x = y) : ∃ r1 r2, l ++ [x] = r1 ++ [r2] ∧ P r1 ∧ r2 = y := ⟨l, x, rfl, h, e⟩
theorem isMo_no (v : Value) : IsMo noMo [.i 0, .i 0, .i 0, .i 0, .i 0, .i 0, .i 0, .s v []] := ⟨v, [], rfl, rfl⟩
set_option maxHeartbeats 1000000 in
theorem kat_ok : tab3.ok 27 := by
  refine Tab.of_ct rfl rfl ⟨_, Try.func27, by decide, rfl⟩ ?_ (fun h => by cases h)
  refine ct_ok (cx := ckat) (Tab.cx_ok (all_cons chk_ok (all_cons (up3_ok hgt_ok) (all_cons (up3_ok volm_ok) (all_cons moment_ok all_nil)))) fxkat) Try.func27 (bds := []) (T := tkat) (by kernel_rfl) ?_
  have h1 : ckat.ct 48 = some ctCheckJ := rfl
  have h2 : ckat.ct 58 = some ctHeight := rfl
  have h3 : ckat.ct 30 = some ctVol := rfl
  have h4 : ckat.ct 50 = some ctMoment := rfl
  unfold tkat
  simp only [VC, allC, List.map_cons, List.map_nil, List.length_cons, List.length_nil, List.getElem?_cons_zero, List.getElem?_cons_succ, List.cons.injEq, C.i.injEq, C.b.injEq, and_true, true_and, forall_const, kindsOf_nil, kindsOf_lf, kindsOf_agg, kindsOf_box, boxKinds_nil, boxKinds_lf, boxKinds_agg, boxKinds_box, List.append_nil, List.cons_append, List.nil_append, den_cmp_le, den_cmp_lt, den_cmp_eq, den_cmp_ne, den_cmp_le', den_cmp_lt', den_cmp_eq', den_cmp_ne', den_and, den_and', den_or, den_or', den_not, den_not', den_blit, den_of, ev_var, at_0, at_1, at_2, at_3, at_4, at_5, at_6, at_7, at_skip, c_int, c_bool, c_arr, c_cnt, c_vec, ev_nil, ev_join, ev_sub3, loc_s, int_i, bool_b, rows_s, cs_nil, cs_cons, E.den_lit, E.den_var, E.den_add, E.den_sub, E.den_mul, E.den_quo, E.den_rem, E.den_max, E.den_min, E.den_len, E.den_wr, E.den_cell, Nat.reduceAdd, h1, h2, h3, h4, ctCheckJ, ctHeight, ctVol, ctMoment, ctAtK, ctF, wellSh, wellKs, progSh, bubSh, momSh, momKs, jobSh, holeSh, lineSh, n_]
  rintro u1 r1 _ _ _ w _ _ u2 r2 _ _ _ li _ _ pi _ _ st _ _ ka _ _ kb _ _ kc _ _ kd _ _ v _ _ po _ _ s _ _ e _ _
  obtain ⟨j, hjd⟩ : ∃ j, j = jobOf [.s u1 r1, .i w, .s u2 r2, .i li, .i pi, .i st, .i ka, .i kb, .i kc, .i kd, .i v, .i po, .i s, .i e] 0 := ⟨_, rfl⟩
  rw [← hjd]
  have out : jobV j = 0 → ¬ (0 ≤ s ∧ s ≤ 400 ∧ -1 ≤ e ∧ e ≤ 1) → ∃ r1 r2, ([.i 0, .i 0, .i 0, .i 0, .i 0, .i 0, .i 0, .s (.slice none 0 0) [], .i 2] : List C) = r1 ++ [r2] ∧ IsMo (atMo j s e) r1 ∧ r2 = C.i (atE j s e) := fun h h2 => ex_app [.i 0, .i 0, .i 0, .i 0, .i 0, .i 0, .i 0, .s (.slice none 0 0) []] (.i 2) (by rw [atMo_out h2]; exact isMo_no _) (by rw [atE_out h h2])
  refine ⟨bds_nil _, ?_⟩
  rintro n _ _ hn
  have hn : n = jobV j := by rw [hjd]; exact hn
  refine ⟨fun h => ?_, fun h => ?_⟩
  · exact ex_app [.i 0, .i 0, .i 0, .i 0, .i 0, .i 0, .i 0, .s (.slice none 0 0) []] (.i n) (by rw [atMo_no (by omega)]; exact isMo_no _) (by rw [atE_no (by omega), hn])
  have h0 : jobV j = 0 := by omega
  refine ⟨fun g => out h0 (by omega), fun g1 => ⟨fun g => out h0 (by omega), fun g2 => ⟨fun g => out h0 (by omega), fun g3 => ⟨fun g => out h0 (by omega), fun g4 => ?_⟩⟩⟩⟩
  rintro vl rows _ _ _ ⟨v', rows', e1, e2⟩
  cases e1
  rintro room _ _ hroom
  have hf : JF j := jf_of h0
  have hs : holeV (segsOf r1) = 0 := by have := hf.hole; rw [hjd] at this; exact this
  refine ⟨⟨⟨by rw [hjd] at h0; exact h0, e2, ?_⟩, ⟨g1, g2⟩, ⟨g3, g4⟩⟩, ?_⟩
  · show room = volV (segsOf r1)
    rw [hroom]; exact roomS_yes hs
  intro x1 _ _ x2 _ _ x3 _ _ x4 _ _ x5 _ _ x6 _ _ x7 _ _ v2 rows2 _ _ _ hx
  refine ex_app [.i x1, .i x2, .i x3, .i x4, .i x5, .i x6, .i x7, .s v2 rows2] (.i 0) ?_ (by rw [atE_in h0 ⟨g1, g2, g3, g4⟩])
  rw [atMo_in h0 ⟨g1, g2, g3, g4⟩, hjd]
  exact hx
end Go.Proofs.Ytmdmgpikbebejaa
/- Kill: what the statements' own functions compute. -/
namespace Go.Proofs.Ytmdmgpikbebejaa
set_option linter.unusedVariables false

def smallW (w : Wl) : Bool := decide (w.segs.length ≤ 18) && decide (w.points.length ≤ 10)
def ctSmallW : Ct := ctF [wellSh] [.lf .bool] (fun _ => True) (fun cs => [.b (smallW (wellOf cs 0))])
def shownW : Wl := ⟨[⟨100000, 100000, 100, 50⟩], 12000, [(2000000, 1200000000)], 500000000, 1000000, 1000000⟩
def drillerP : Pg := ⟨1, 13000, 10000000, 0⟩
def influxB : Bb := ⟨1000000, 1250000000⟩
def shownJ : Jb := ⟨shownW, drillerP, influxB⟩
def ctDriller : Ct := ctF [] [progSh] (fun _ => True) (fun _ => [.i 1, .i 13000, .i 10000000, .i 0])
def ctInflux : Ct := ctF [] [bubSh] (fun _ => True) (fun _ => [.i 1000000, .i 1250000000])
def ctAwake : Ct := ctF [] [.lf .bool] (fun _ => True) (fun _ => [.b true])
/-! The kit's wells, programs and kicks -/
def ints (rows : List (List C)) : List Int := rows.map fun r => (r.getD 0 (.i 0)).int
structure Br where
  segs : List Int
  points : List Int
  weight : Int
  limit : Int
  pipe : Int
  step : Int
  kind : Int
  kill : Int
  margin : Int
  err : Int
  vols : List Int
  pores : List Int
def l_ (cs : List C) (i : Nat) : List Int := ints (at_ cs i).rows
def brOf (cs : List C) (i : Nat) : Br := ⟨l_ cs i, l_ cs (i + 1), n_ cs (i + 2), n_ cs (i + 3), n_ cs (i + 4), n_ cs (i + 5), n_ cs (i + 6), n_ cs (i + 7), n_ cs (i + 8), n_ cs (i + 9), l_ cs (i + 10), l_ cs (i + 11)⟩
def boreSh : Sh0 := .agg [.arr 2, .arr 2, .int, .int, .int, .int, .int, .int, .int, .int, .arr 2, .arr 2]
def pickV (l : List Int) (i : Int) : Int := if l.length = 0 then 0 else l.getD (i % l.length).toNat 0 % 1099511627776
def segB (n : Int) : Sg := ⟨10000 + n % 100001, 10000 + n % 100001 - n / 11 % ((10000 + n % 100001) / 4), 50 + n / 3 % 400, 20 + n / 7 % 100⟩
def many (l : List Int) : Nat := max 1 (min l.length 3)
def segsB (x : Br) : List Sg := (List.range (many x.segs)).map fun (i : Nat) => segB (pickV x.segs (i : Int))
/-- The points: from the i-th on, so many, behind a place. -/
def ptsB (l : List Int) (room all : Int) : Nat → Nat → Int → List Kn
  | 0, _, _ => []
  | n + 1, i, a => (a + 1 + pickV l i % (room / 4), (13000 + pickV l i / 5 % 9001) * (all - all / 4 * i)) :: ptsB l room all n (i + 1) (a + 1 + pickV l i % (room / 4))
def wellB (x : Br) : Wl := ⟨segsB x, 10000 + x.weight % 6001, ptsB x.points (volV (segsB x)) (riseV (segsB x)) (min x.points.length 3) 0 0, x.limit % 1500000000, x.pipe % volV (segsB x), 1 + volV (segsB x) / (4 + x.step % 25)⟩
def progB (x : Br) : Pg := ⟨1 + x.kind % 3, 11000 + x.kill % 8001, x.margin % 30000000, x.err % 12000000⟩
def runB (l : List Int) (m : Int) : Nat → Nat → Int → List Int
  | 0, _, _ => []
  | n + 1, i, a => (a + 1 + pickV l i % m) :: runB l m n (i + 1) (a + 1 + pickV l i % m)
def volsB (x : Br) : List Int := runB x.vols 2000000 (many x.vols) 0 0
def poresB (x : Br) : List Int := runB x.pores 60000000 (many x.pores) 0 ((10000 + x.weight % 6001) * riseV (segsB x))
def ctMod : Ct := ctF [.lf .int, .lf .int] [.lf .int] (fun cs => 1 ≤ n_ cs 1) (fun cs => [.i (n_ cs 0 % n_ cs 1)])
def ctPick : Ct := ctF [.lf (.arr 2), .lf .int] [.lf .int] (fun cs => 0 ≤ n_ cs 1) (fun cs => [.i (pickV (l_ cs 0) (n_ cs 1))])
def wellVSh : Sh0 := .agg [.vec 97, .int, .vec 70, .int, .int, .int]
def ctKWell : Ct := ⟨[boreSh], [wellVSh], fun _ => True, fun cs rs => ∃ v1 r1 w v2 r2 li pi st, rs = [.s v1 r1, .i w, .s v2 r2, .i li, .i pi, .i st] ∧ wellOf rs 0 = wellB (brOf cs 0), false⟩
def pgC (p : Pg) : List C := [.i p.kind, .i p.weight, .i p.margin, .i p.err]
def ctKProg : Ct := ctF [boreSh] [progSh] (fun _ => True) (fun cs => pgC (progB (brOf cs 0)))
def ctKKicks : Ct := ⟨[boreSh], [.lf (.vec 2), .lf (.vec 2)], fun _ => True, fun cs rs => ∃ v1 r1 v2 r2, rs = [.s v1 r1, .s v2 r2] ∧ ints r1 = volsB (brOf cs 0) ∧ ints r2 = poresB (brOf cs 0), false⟩
def sameMo (x y : Mo) : Bool := x.pumped == y.pumped && x.gas == y.gas && x.base == y.base && x.surf == y.surf && x.pts == y.pts
def ctSameMo : Ct := ctF [momASh, momASh] [.lf .bool] (fun _ => True) (fun cs => [.b (sameMo (momOf cs 0) (momOf cs 8))])
def tab4 : Tab where
  ct := fun f => match f with
    | 13 => some ctSmallW
    | 33 => some ctDriller
    | 34 => some ctInflux
    | 14 => some ctAwake
    | 26 | 29 => some ctMod
    | 47 => some ctPick
    | 23 => some ctKWell
    | 24 => some ctKProg
    | 25 => some ctKKicks
    | 28 => some ctSameMo
    | f => tab3.ct f
  inl := tab3.inl
  sel := tab3.sel
theorem up4_ok {f : Nat} (h : tab3.ok f) (he : tab4.ct f = tab3.ct f := by rfl) : tab4.ok f :=
  ⟨h.1, fun ct hc => h.2.1 ct (he ▸ hc), h.2.2.1, h.2.2.2⟩
end Go.Proofs.Ytmdmgpikbebejaa
/- What is to be shown of each function, as the executor has it. Printed by trees.py. -/
namespace Go.Proofs.Ytmdmgpikbebejaa
noncomputable def clmore : Cx := tab4.only [23, 24, 25, 26, 29, 27, 30, 14] (fun _ => []) [] 0 [] (fun r => match r with
  | 50002 => some ([(25, false, [.vec 97, .int, .vec 70, .int, .int, .int]), (27, false, [.int, .int, .int, .int])], [.blk 3000000])
  | _ => none)
def tlmore_1 : Tree :=
  (.call 24 [(.arr 2 (.var 0)), (.arr 2 (.var 1)), (.int (.var 2)), (.int (.var 3)), (.int (.var 4)), (.int (.var 5)), (.int (.var 15)), (.int (.var 7)), (.int (.var 8)), (.int (.var 9)), (.arr 2 (.var 10)), (.arr 2 (.var 11))] (.back 0 [(.cnt 97 (.var 16)), (.int (.var 17)), (.cnt 70 (.var 18)), (.int (.var 19)), (.int (.var 20)), (.int (.var 21)), (.int (.var 22)), (.int (.var 23)), (.int (.var 24)), (.int (.var 25))]))
def tlmore_2 : Tree :=
  (.dfn .nil (.split (.cmp .ne (.var 41) (.lit 0)) (.ret [(.bool (.lit false))]) (.split (.cmp .ne (.var 51) (.lit 0)) (.ret [(.bool (.lit false))]) (.split (.cmp .ne (.len (.var 40)) (.len (.var 18))) (.ret [(.bool (.lit false))]) (.split (.cmp .ne (.len (.var 50)) (.len (.var 40))) (.ret [(.bool (.lit false))]) (.split (.not (.and (.cmp .eq (.var 36) (.var 46)) (.cmp .eq (.var 37) (.var 47)))) (.ret [(.bool (.lit false))]) (.split (.cmp .lt (.var 48) (.var 38)) (.ret [(.bool (.lit false))]) (.split (.cmp .lt (.var 49) (.var 39)) (.ret [(.bool (.lit false))]) (.loop [.bool, .int] [(.bool (.lit false)), (.int (.lit 0))] (.split (.cmp .lt (.var 54) (.len (.var 40))) (.ob (.cmp .le (.lit 0) (.var 54)) (.ob (.cmp .lt (.var 54) (.len (.var 50))) (.ob (.cmp .lt (.var 54) (.len (.var 40))) (.split (.cmp .lt (.cell (.var 50) (.var 54) 0) (.cell (.var 40) (.var 54) 0)) (.ret [(.bool (.lit false))]) (.ob (.cmp .lt (.var 54) (.len (.var 50))) (.ob (.cmp .lt (.var 54) (.len (.var 40))) (.split (.cmp .lt (.cell (.var 50) (.var 54) 1) (.cell (.var 40) (.var 54) 1)) (.ret [(.bool (.lit false))]) (.back 1 [(.bool (.of (.var 53))), (.int (.add (.var 54) (.lit 1)))])))))))) (.call 30 [(.arr 97 (.var 16))] (.split (.cmp .lt (.lit 0) (.var 55)) (.call 14 [] (.ret [(.bool (.of (.var 56)))])) (.ret [(.bool (.lit false))])))))))))))))
def tlmore_3 : Tree :=
  (.dfn .nil (.ob (.and (.cmp .le (.lit (-9223372036854775808)) (.add (.cell (.var 28) (.lit 0) 0) (.var 30))) (.cmp .le (.add (.cell (.var 28) (.lit 0) 0) (.var 30)) (.lit 9223372036854775807))) (.ob (.and (.cmp .le (.lit (-9223372036854775808)) (.sub (.var 32) (.lit 1))) (.cmp .le (.sub (.var 32) (.lit 1)) (.lit 9223372036854775807))) (.call 27 [(.arr 97 (.var 16)), (.int (.var 17)), (.arr 70 (.var 18)), (.int (.var 19)), (.int (.var 20)), (.int (.var 21)), (.int (.var 22)), (.int (.var 23)), (.int (.var 24)), (.int (.var 25)), (.int (.add (.cell (.var 28) (.lit 0) 0) (.var 30))), (.int (.cell (.var 29) (.lit 0) 0)), (.int (.var 31)), (.int (.sub (.var 32) (.lit 1)))] tlmore_2))))
def tlmore_4 : Tree :=
  (.ob (.and (.cmp .le (.lit (-9223372036854775808)) (.sub (.var 32) (.lit 1))) (.cmp .le (.sub (.var 32) (.lit 1)) (.lit 9223372036854775807))) (.ob (.and (.cmp .le (.lit (-9223372036854775808)) (.sub (.var 32) (.lit 1))) (.cmp .le (.sub (.var 32) (.lit 1)) (.lit 9223372036854775807))) (.call 27 [(.arr 97 (.var 16)), (.int (.var 17)), (.arr 70 (.var 18)), (.int (.var 19)), (.int (.var 20)), (.int (.var 21)), (.int (.var 22)), (.int (.var 23)), (.int (.var 24)), (.int (.var 25)), (.int (.cell (.var 28) (.lit 0) 0)), (.int (.cell (.var 29) (.lit 0) 0)), (.int (.var 31)), (.int (.sub (.var 32) (.lit 1)))] tlmore_3)))
def tlmore_5 : Tree :=
  (.ob (.and (.cmp .le (.lit (-9223372036854775808)) (.add (.cell (.var 28) (.lit 0) 0) (.var 30))) (.cmp .le (.add (.cell (.var 28) (.lit 0) 0) (.var 30)) (.lit 9223372036854775807))) (.call 26 [(.int (.var 13)), (.int (.lit 30))] (.call 26 [(.int (.var 14)), (.int (.lit 3))] tlmore_4)))
def tlmore_6 : Tree :=
  (.join [(.vec 97), .int, (.vec 70), .int, .int, .int, .int, .int, .int, .int] (.call 23 [(.arr 2 (.var 0)), (.arr 2 (.var 1)), (.int (.var 2)), (.int (.var 3)), (.int (.var 4)), (.int (.var 5)), (.int (.var 15)), (.int (.var 7)), (.int (.var 8)), (.int (.var 9)), (.arr 2 (.var 10)), (.arr 2 (.var 11))] tlmore_1) (.dfn .nil (.dfn .nil (.call 25 [(.arr 2 (.var 0)), (.arr 2 (.var 1)), (.int (.var 2)), (.int (.var 3)), (.int (.var 4)), (.int (.var 5)), (.int (.var 15)), (.int (.var 7)), (.int (.var 8)), (.int (.var 9)), (.arr 2 (.var 10)), (.arr 2 (.var 11))] (.ob (.cmp .lt (.lit 0) (.len (.var 28))) (.ob (.cmp .lt (.lit 0) (.len (.var 29))) (.call 29 [(.int (.var 12)), (.int (.lit 1000000))] tlmore_5)))))))
def tlmore : Tree :=
  (.call 26 [(.int (.var 6)), (.int (.lit 2))] tlmore_6)
end Go.Proofs.Ytmdmgpikbebejaa
/- What is to be shown of each function, as the executor has it. Printed by trees.py. -/
namespace Go.Proofs.Ytmdmgpikbebejaa
noncomputable def cdriller : Cx := tab4.only [] (fun _ => []) [] 0 [] (fun _ => none)
def tdriller : Tree :=
  (.ret [(.int (.lit 1)), (.int (.lit 13000)), (.int (.lit 10000000)), (.int (.lit 0))])
noncomputable def cinflux : Cx := tab4.only [] (fun _ => []) [] 0 [] (fun _ => none)
def tinflux : Tree :=
  (.ret [(.int (.lit 1000000)), (.int (.lit 1250000000))])
noncomputable def flawake : List (Nat × Func) := [(32, Try.f32)]
theorem fxawake : ∀ p ∈ flawake, FnOK p := fns_cons ⟨Try.func32, ⟨_, Try.func32, by decide, rfl⟩⟩ (fns_nil)
noncomputable def cawake : Cx := tab4.only [27, 21, 33, 34] (fun _ => []) flawake 1 [] (fun _ => none)
def tawake : Tree :=
  (.dfn .nil (.dfn .nil (.arr [[(.int (.lit 100000)), (.int (.lit 100000)), (.int (.lit 100)), (.int (.lit 50))]] (.arr [[(.int (.lit 2000000)), (.int (.lit 1200000000))]] (.call 33 [] (.call 34 [] (.call 27 [(.arr 97 (.var 2)), (.int (.lit 12000)), (.arr 70 (.var 3)), (.int (.lit 500000000)), (.int (.lit 1000000)), (.int (.lit 1000000)), (.int (.var 4)), (.int (.var 5)), (.int (.var 6)), (.int (.var 7)), (.int (.var 8)), (.int (.var 9)), (.int (.lit 0)), (.int (.lit 0))] (.dfn .nil (.split (.cmp .eq (.var 18) (.lit 0)) (.split (.and (.cmp .eq (.var 11) (.lit 992063)) (.cmp .eq (.var 12) (.lit 992064))) (.split (.and (.cmp .eq (.var 15) (.lit 179040000)) (.cmp .eq (.var 16) (.lit 179052000))) (.call 33 [] (.call 34 [] (.call 21 [(.int (.var 20)), (.int (.var 21)), (.int (.var 22)), (.int (.var 23)), (.int (.var 24)), (.int (.var 25)), (.int (.lit 0))] (.ret [(.bool (.cmp .eq (.var 26) (.lit 1260000000)))])))) (.ret [(.bool (.lit false))])) (.ret [(.bool (.lit false))])) (.ret [(.bool (.lit false))]))))))))))
noncomputable def cmod : Cx := tab4.only [] (fun _ => []) [] 0 [] (fun _ => none)
def tmod : Tree :=
  (.ob (.cmp .ne (.var 1) (.lit 0)) (.split (.cmp .lt (.rem (.var 0) (.var 1)) (.lit 0)) (.ob (.and (.cmp .le (.lit (-9223372036854775808)) (.add (.rem (.var 0) (.var 1)) (.var 1))) (.cmp .le (.add (.rem (.var 0) (.var 1)) (.var 1)) (.lit 9223372036854775807))) (.ob (.and (.cmp .le (.lit (-9223372036854775808)) (.add (.rem (.var 0) (.var 1)) (.var 1))) (.cmp .le (.add (.rem (.var 0) (.var 1)) (.var 1)) (.lit 9223372036854775807))) (.ret [(.int (.add (.rem (.var 0) (.var 1)) (.var 1)))]))) (.ob (.and (.cmp .le (.lit (-9223372036854775808)) (.rem (.var 0) (.var 1))) (.cmp .le (.rem (.var 0) (.var 1)) (.lit 9223372036854775807))) (.ret [(.int (.rem (.var 0) (.var 1)))]))))
noncomputable def cmod64 : Cx := tab4.only [] (fun _ => []) [] 0 [] (fun _ => none)
def tmod64 : Tree :=
  (.ob (.cmp .ne (.var 1) (.lit 0)) (.split (.cmp .lt (.rem (.var 0) (.var 1)) (.lit 0)) (.ob (.and (.cmp .le (.lit (-9223372036854775808)) (.add (.rem (.var 0) (.var 1)) (.var 1))) (.cmp .le (.add (.rem (.var 0) (.var 1)) (.var 1)) (.lit 9223372036854775807))) (.ob (.and (.cmp .le (.lit (-9223372036854775808)) (.add (.rem (.var 0) (.var 1)) (.var 1))) (.cmp .le (.add (.rem (.var 0) (.var 1)) (.var 1)) (.lit 9223372036854775807))) (.ret [(.int (.add (.rem (.var 0) (.var 1)) (.var 1)))]))) (.ob (.and (.cmp .le (.lit (-9223372036854775808)) (.rem (.var 0) (.var 1))) (.cmp .le (.rem (.var 0) (.var 1)) (.lit 9223372036854775807))) (.ret [(.int (.rem (.var 0) (.var 1)))]))))
noncomputable def cpick : Cx := tab4.only [29] (fun _ => []) [] 0 [] (fun _ => none)
def tpick : Tree :=
  (.split (.cmp .eq (.len (.var 0)) (.lit 0)) (.ret [(.int (.lit 0))]) (.ob (.cmp .ne (.len (.var 0)) (.lit 0)) (.ob (.cmp .le (.lit 0) (.rem (.var 1) (.len (.var 0)))) (.ob (.cmp .lt (.rem (.var 1) (.len (.var 0))) (.len (.var 0))) (.call 29 [(.int (.cell (.var 0) (.rem (.var 1) (.len (.var 0))) 0)), (.int (.lit 1099511627776))] (.ret [(.int (.var 2))]))))))
noncomputable def ckprog : Cx := tab4.only [26, 29] (fun _ => []) [] 0 [] (fun _ => none)
def tkprog : Tree :=
  (.call 26 [(.int (.var 6)), (.int (.lit 3))] (.ob (.and (.cmp .le (.lit (-9223372036854775808)) (.add (.lit 1) (.var 12))) (.cmp .le (.add (.lit 1) (.var 12)) (.lit 9223372036854775807))) (.call 29 [(.int (.var 7)), (.int (.lit 8001))] (.ob (.and (.cmp .le (.lit (-9223372036854775808)) (.add (.lit 11000) (.var 13))) (.cmp .le (.add (.lit 11000) (.var 13)) (.lit 9223372036854775807))) (.call 29 [(.int (.var 8)), (.int (.lit 30000000))] (.call 29 [(.int (.var 9)), (.int (.lit 12000000))] (.ob (.and (.cmp .le (.lit (-9223372036854775808)) (.add (.lit 1) (.var 12))) (.cmp .le (.add (.lit 1) (.var 12)) (.lit 9223372036854775807))) (.ob (.and (.cmp .le (.lit (-9223372036854775808)) (.add (.lit 11000) (.var 13))) (.cmp .le (.add (.lit 11000) (.var 13)) (.lit 9223372036854775807))) (.ret [(.int (.add (.lit 1) (.var 12))), (.int (.add (.lit 11000) (.var 13))), (.int (.var 14)), (.int (.var 15))])))))))))
end Go.Proofs.Ytmdmgpikbebejaa
/- Kill: the chapter's examples; which wells, programs and kicks are valid. -/
namespace Go.Proofs.Ytmdmgpikbebejaa
open Go.RowKit
set_option linter.unusedSimpArgs false
set_option linter.unusedVariables false

theorem driller_ok : tab4.ok 33 := by
  refine Tab.of_ct rfl rfl ⟨_, Try.func33, by decide, rfl⟩ ?_ ctF_det
  refine ct_ok (cx := cdriller) (Tab.cx_ok all_nil) Try.func33 (bds := []) (T := tdriller) (by kernel_rfl) ?_
  unfold tdriller
  simp only [VC, allC, List.map_cons, List.map_nil, List.length_cons, List.length_nil, List.getElem?_cons_zero, List.getElem?_cons_succ, List.cons.injEq, C.i.injEq, C.b.injEq, and_true, true_and, forall_const, kindsOf_nil, kindsOf_lf, kindsOf_agg, kindsOf_box, boxKinds_nil, boxKinds_lf, boxKinds_agg, boxKinds_box, List.append_nil, List.cons_append, List.nil_append, den_cmp_le, den_cmp_lt, den_cmp_eq, den_cmp_ne, den_cmp_le', den_cmp_lt', den_cmp_eq', den_cmp_ne', den_and, den_and', den_or, den_or', den_not, den_not', den_blit, den_of, ev_var, at_0, at_1, at_2, at_3, at_4, at_5, at_6, at_7, at_skip, c_int, c_bool, c_arr, c_cnt, c_vec, ev_nil, ev_join, ev_sub3, loc_s, int_i, bool_b, rows_s, cs_nil, cs_cons, E.den_lit, E.den_var, E.den_add, E.den_sub, E.den_mul, E.den_quo, E.den_rem, E.den_max, E.den_min, E.den_len, E.den_wr, E.den_cell, Nat.reduceAdd, ctDriller, ctF]
  exact bds_nil _
theorem influx_ok : tab4.ok 34 := by
  refine Tab.of_ct rfl rfl ⟨_, Try.func34, by decide, rfl⟩ ?_ ctF_det
  refine ct_ok (cx := cinflux) (Tab.cx_ok all_nil) Try.func34 (bds := []) (T := tinflux) (by kernel_rfl) ?_
  unfold tinflux
  simp only [VC, allC, List.map_cons, List.map_nil, List.length_cons, List.length_nil, List.getElem?_cons_zero, List.getElem?_cons_succ, List.cons.injEq, C.i.injEq, C.b.injEq, and_true, true_and, forall_const, kindsOf_nil, kindsOf_lf, kindsOf_agg, kindsOf_box, boxKinds_nil, boxKinds_lf, boxKinds_agg, boxKinds_box, List.append_nil, List.cons_append, List.nil_append, den_cmp_le, den_cmp_lt, den_cmp_eq, den_cmp_ne, den_cmp_le', den_cmp_lt', den_cmp_eq', den_cmp_ne', den_and, den_and', den_or, den_or', den_not, den_not', den_blit, den_of, ev_var, at_0, at_1, at_2, at_3, at_4, at_5, at_6, at_7, at_skip, c_int, c_bool, c_arr, c_cnt, c_vec, ev_nil, ev_join, ev_sub3, loc_s, int_i, bool_b, rows_s, cs_nil, cs_cons, E.den_lit, E.den_var, E.den_add, E.den_sub, E.den_mul, E.den_quo, E.den_rem, E.den_max, E.den_min, E.den_len, E.den_wr, E.den_cell, Nat.reduceAdd, ctInflux, ctF]
  exact bds_nil _
set_option maxRecDepth 100000 in
theorem shown_known : atE shownJ 0 0 = 0 ∧ (atMo shownJ 0 0).gas = (992063, 992064) ∧ (atMo shownJ 0 0).surf = (179040000, 179052000) ∧ bottomV drillerP influxB 0 = 1260000000 := by decide +kernel
theorem mo_inv {x : Mo} {a1 a2 a3 a4 a5 a6 a7 : Int} {v : Value} {rows : List (List C)} (h : IsMo x [.i a1, .i a2, .i a3, .i a4, .i a5, .i a6, .i a7, .s v rows]) : a1 = x.pumped ∧ a2 = x.gas.1 ∧ a3 = x.gas.2 ∧ a4 = x.base.1 ∧ a5 = x.base.2 ∧ a6 = x.surf.1 ∧ a7 = x.surf.2 ∧ knots rows = x.pts := by
  obtain ⟨v', rows', e, hk⟩ := h
  simp only [List.cons.injEq, C.i.injEq, C.s.injEq, and_true] at e
  obtain ⟨e1, e2, e3, e4, e5, e6, e7, -, e8⟩ := e
  exact ⟨e1, e2, e3, e4, e5, e6, e7, by rw [e8]; exact hk⟩
theorem at_inv {x : Mo} {E : Int} {a1 a2 a3 a4 a5 a6 a7 er : Int} {v : Value} {rows : List (List C)} (h : ∃ r1 r2, ([.i a1, .i a2, .i a3, .i a4, .i a5, .i a6, .i a7, .s v rows, .i er] : List C) = r1 ++ [r2] ∧ IsMo x r1 ∧ r2 = .i E) : (a1 = x.pumped ∧ a2 = x.gas.1 ∧ a3 = x.gas.2 ∧ a4 = x.base.1 ∧ a5 = x.base.2 ∧ a6 = x.surf.1 ∧ a7 = x.surf.2 ∧ knots rows = x.pts) ∧ er = E := by
  obtain ⟨r1, r2, e, hm, rfl⟩ := h
  have e : ([.i a1, .i a2, .i a3, .i a4, .i a5, .i a6, .i a7, .s v rows] : List C) ++ [.i er] = r1 ++ [.i E] := e
  obtain ⟨rfl, e2⟩ := List.append_inj' e rfl
  simp only [List.cons.injEq, C.i.injEq, and_true] at e2
  exact ⟨mo_inv hm, e2⟩
theorem awake_ok : tab4.ok 14 := by
  refine Tab.of_ct rfl rfl ⟨_, Try.func14, by decide, rfl⟩ ?_ ctF_det
  refine ct_ok (cx := cawake) (Tab.cx_ok (all_cons (up4_ok kat_ok) (all_cons (up4_ok (up3_ok bottom_ok)) (all_cons driller_ok (all_cons influx_ok all_nil)))) fxawake) Try.func14 (bds := []) (T := tawake) (by kernel_rfl) ?_
  have h1 : cawake.ct 27 = some ctAtK := rfl
  have h2 : cawake.ct 21 = some ctBottom := rfl
  have h3 : cawake.ct 33 = some ctDriller := rfl
  have h4 : cawake.ct 34 = some ctInflux := rfl
  obtain ⟨k1, k2, k3, k4⟩ := shown_known
  unfold tawake
  simp only [VC, allC, List.map_cons, List.map_nil, List.length_cons, List.length_nil, List.getElem?_cons_zero, List.getElem?_cons_succ, List.cons.injEq, C.i.injEq, C.b.injEq, and_true, true_and, forall_const, kindsOf_nil, kindsOf_lf, kindsOf_agg, kindsOf_box, boxKinds_nil, boxKinds_lf, boxKinds_agg, boxKinds_box, List.append_nil, List.cons_append, List.nil_append, den_cmp_le, den_cmp_lt, den_cmp_eq, den_cmp_ne, den_cmp_le', den_cmp_lt', den_cmp_eq', den_cmp_ne', den_and, den_and', den_or, den_or', den_not, den_not', den_blit, den_of, ev_var, at_0, at_1, at_2, at_3, at_4, at_5, at_6, at_7, at_skip, c_int, c_bool, c_arr, c_cnt, c_vec, ev_nil, ev_join, ev_sub3, loc_s, int_i, bool_b, rows_s, cs_nil, cs_cons, E.den_lit, E.den_var, E.den_add, E.den_sub, E.den_mul, E.den_quo, E.den_rem, E.den_max, E.den_min, E.den_len, E.den_wr, E.den_cell, Nat.reduceAdd, h1, h2, h3, h4, ctAtK, ctBottom, ctDriller, ctInflux, ctAwake, ctF, progSh, bubSh, momSh, momKs, n_]
  refine ⟨bds_nil _, ?_⟩
  rintro v v1 a _ _ b _ _ c _ _ d _ _ ⟨rfl, rfl, rfl, rfl⟩ e _ _ f _ _ ⟨rfl, rfl⟩ x1 _ _ x2 _ _ x3 _ _ x4 _ _ x5 _ _ x6 _ _ x7 _ _ vr rows _ _ _ er _ _ h
  have h := at_inv (x := atMo shownJ 0 0) (E := atE shownJ 0 0) h
  rw [k1] at h
  rw [k2, k3] at h
  obtain ⟨⟨-, rfl, rfl, -, -, rfl, rfl, -⟩, rfl⟩ := h
  refine ⟨fun _ => ⟨fun _ => ⟨fun _ => ?_, fun h => absurd rfl (h rfl)⟩, fun h => absurd rfl (h rfl)⟩, fun h => absurd rfl h⟩
  rintro n _ _ n1 _ _ n2 _ _ n3 _ _ ⟨rfl, rfl, rfl, rfl⟩ n4 _ _ n5 _ _ ⟨rfl, rfl⟩ n6 _ _ e6
  have e6 : n6 = bottomV drillerP influxB 0 := e6
  exact e6.trans k4
end Go.Proofs.Ytmdmgpikbebejaa
/- Kill: what makes wells, programs and kicks of numbers: the small parts. -/
namespace Go.Proofs.Ytmdmgpikbebejaa
open Go.RowKit
set_option linter.unusedSimpArgs false
set_option linter.unusedVariables false

theorem ints_len (rows : List (List C)) : (ints rows).length = rows.length := by simp [ints]
theorem in1 (v : Value) (rows : List (List C)) (i : Nat) : ((C.s v rows).at i 0).int = (ints rows).getD i 0 := by
  simp only [cell_at, ints, List.getD_eq_getElem?_getD, List.getElem?_map]
  cases rows[i]? <;> rfl
theorem mod_ok : tab4.ok 26 := by
  refine Tab.of_ct rfl rfl ⟨_, Try.func26, by decide, rfl⟩ ?_ ctF_det
  refine ct_ok (cx := cmod) (Tab.cx_ok all_nil) Try.func26 (bds := []) (T := tmod) (by kernel_rfl) ?_
  unfold tmod
  simp only [VC, allC, List.map_cons, List.map_nil, List.length_cons, List.length_nil, List.getElem?_cons_zero, List.getElem?_cons_succ, List.cons.injEq, C.i.injEq, C.b.injEq, and_true, true_and, forall_const, kindsOf_nil, kindsOf_lf, kindsOf_agg, kindsOf_box, boxKinds_nil, boxKinds_lf, boxKinds_agg, boxKinds_box, List.append_nil, List.cons_append, List.nil_append, den_cmp_le, den_cmp_lt, den_cmp_eq, den_cmp_ne, den_cmp_le', den_cmp_lt', den_cmp_eq', den_cmp_ne', den_and, den_and', den_or, den_or', den_not, den_not', den_blit, den_of, ev_var, at_0, at_1, at_2, at_3, at_4, at_5, at_6, at_7, at_skip, c_int, c_bool, c_arr, c_cnt, c_vec, ev_nil, ev_join, ev_sub3, loc_s, int_i, bool_b, rows_s, cs_nil, cs_cons, E.den_lit, E.den_var, E.den_add, E.den_sub, E.den_mul, E.den_quo, E.den_rem, E.den_max, E.den_min, E.den_len, E.den_wr, E.den_cell, ctMod, ctF, n_]
  intro n n0 n1 m m0 m1 hm
  have e : n.tmod m = if n % m = 0 ∨ 0 ≤ n then n % m else n % m - m := by
    rw [Int.tmod_eq_emod]
    have h1 : (m ∣ n) ↔ n % m = 0 := Int.dvd_iff_emod_eq_zero
    by_cases h0 : 0 ≤ n
    · simp [h0]
    · by_cases h2 : n % m = 0
      · simp [h2, h1]
      · simp [h0, h2, h1]
        omega
  have h2 := Int.emod_nonneg n (b := m) (by omega)
  have h3 := Int.emod_lt_of_pos n (b := m) (by omega)
  rw [e]
  generalize n % m = r at *
  refine ⟨bds_nil _, by omega, ?_⟩
  split
  · refine ⟨fun h => by omega, fun h => ⟨by omega, rfl⟩⟩
  · refine ⟨fun h => ⟨by omega, by omega, by omega⟩, fun h => by omega⟩
theorem mod64_ok : tab4.ok 29 := by
  refine Tab.of_ct rfl rfl ⟨_, Try.func29, by decide, rfl⟩ ?_ ctF_det
  refine ct_ok (cx := cmod64) (Tab.cx_ok all_nil) Try.func29 (bds := []) (T := tmod64) (by kernel_rfl) ?_
  unfold tmod64
  simp only [VC, allC, List.map_cons, List.map_nil, List.length_cons, List.length_nil, List.getElem?_cons_zero, List.getElem?_cons_succ, List.cons.injEq, C.i.injEq, C.b.injEq, and_true, true_and, forall_const, kindsOf_nil, kindsOf_lf, kindsOf_agg, kindsOf_box, boxKinds_nil, boxKinds_lf, boxKinds_agg, boxKinds_box, List.append_nil, List.cons_append, List.nil_append, den_cmp_le, den_cmp_lt, den_cmp_eq, den_cmp_ne, den_cmp_le', den_cmp_lt', den_cmp_eq', den_cmp_ne', den_and, den_and', den_or, den_or', den_not, den_not', den_blit, den_of, ev_var, at_0, at_1, at_2, at_3, at_4, at_5, at_6, at_7, at_skip, c_int, c_bool, c_arr, c_cnt, c_vec, ev_nil, ev_join, ev_sub3, loc_s, int_i, bool_b, rows_s, cs_nil, cs_cons, E.den_lit, E.den_var, E.den_add, E.den_sub, E.den_mul, E.den_quo, E.den_rem, E.den_max, E.den_min, E.den_len, E.den_wr, E.den_cell, ctMod, ctF, n_]
  intro n n0 n1 m m0 m1 hm
  have e : n.tmod m = if n % m = 0 ∨ 0 ≤ n then n % m else n % m - m := by
    rw [Int.tmod_eq_emod]
    have h1 : (m ∣ n) ↔ n % m = 0 := Int.dvd_iff_emod_eq_zero
    by_cases h0 : 0 ≤ n
    · simp [h0]
    · by_cases h2 : n % m = 0
      · simp [h2, h1]
      · simp [h0, h2, h1]
        omega
  have h2 := Int.emod_nonneg n (b := m) (by omega)
  have h3 := Int.emod_lt_of_pos n (b := m) (by omega)
  rw [e]
  generalize n % m = r at *
  refine ⟨bds_nil _, by omega, ?_⟩
  split
  · refine ⟨fun h => by omega, fun h => ⟨by omega, rfl⟩⟩
  · refine ⟨fun h => ⟨by omega, by omega, by omega⟩, fun h => by omega⟩
theorem pick_ok : tab4.ok 47 := by
  refine Tab.of_ct rfl rfl ⟨_, Try.func47, by decide, rfl⟩ ?_ ctF_det
  refine ct_ok (cx := cpick) (Tab.cx_ok (all_cons mod64_ok all_nil)) Try.func47 (bds := []) (T := tpick) (by kernel_rfl) ?_
  have h1 : cpick.ct 29 = some ctMod := rfl
  unfold tpick
  simp only [VC, allC, List.map_cons, List.map_nil, List.length_cons, List.length_nil, List.getElem?_cons_zero, List.getElem?_cons_succ, List.cons.injEq, C.i.injEq, C.b.injEq, and_true, true_and, forall_const, kindsOf_nil, kindsOf_lf, kindsOf_agg, kindsOf_box, boxKinds_nil, boxKinds_lf, boxKinds_agg, boxKinds_box, List.append_nil, List.cons_append, List.nil_append, den_cmp_le, den_cmp_lt, den_cmp_eq, den_cmp_ne, den_cmp_le', den_cmp_lt', den_cmp_eq', den_cmp_ne', den_and, den_and', den_or, den_or', den_not, den_not', den_blit, den_of, ev_var, at_0, at_1, at_2, at_3, at_4, at_5, at_6, at_7, at_skip, c_int, c_bool, c_arr, c_cnt, c_vec, ev_nil, ev_join, ev_sub3, loc_s, int_i, bool_b, rows_s, cs_nil, cs_cons, E.den_lit, E.den_var, E.den_add, E.den_sub, E.den_mul, E.den_quo, E.den_rem, E.den_max, E.den_min, E.den_len, E.den_wr, E.den_cell, ev_cell, in1, h1, ctMod, ctPick, ctF, n_, l_]
  intro u r _ _ _ i _ _ hi
  have hl := ints_len r
  rw [← hl]
  generalize ints r = l at *
  refine ⟨bds_nil _, fun h => ?_, fun h => ⟨h, ?_⟩⟩
  · unfold pickV; rw [if_pos (by omega)]
  · rw [Int.tmod_eq_emod_of_nonneg hi]
    have e1 := Int.emod_nonneg i h
    have e2 := Int.emod_lt_of_pos i (show 0 < (l.length : Int) by omega)
    refine ⟨e1, e2, by decide, ?_⟩
    rintro n _ _ rfl
    unfold pickV; rw [if_neg (by omega)]
theorem kprog_ok : tab4.ok 24 := by
  refine Tab.of_ct rfl rfl ⟨_, Try.func24, by decide, rfl⟩ ?_ ctF_det
  refine ct_ok (cx := ckprog) (Tab.cx_ok (all_cons mod_ok (all_cons mod64_ok all_nil))) Try.func24 (bds := []) (T := tkprog) (by kernel_rfl) ?_
  have h1 : ckprog.ct 29 = some ctMod := rfl
  have h2 : ckprog.ct 26 = some ctMod := rfl
  unfold tkprog
  simp only [VC, allC, List.map_cons, List.map_nil, List.length_cons, List.length_nil, List.getElem?_cons_zero, List.getElem?_cons_succ, List.cons.injEq, C.i.injEq, C.b.injEq, and_true, true_and, forall_const, kindsOf_nil, kindsOf_lf, kindsOf_agg, kindsOf_box, boxKinds_nil, boxKinds_lf, boxKinds_agg, boxKinds_box, List.append_nil, List.cons_append, List.nil_append, den_cmp_le, den_cmp_lt, den_cmp_eq, den_cmp_ne, den_cmp_le', den_cmp_lt', den_cmp_eq', den_cmp_ne', den_and, den_and', den_or, den_or', den_not, den_not', den_blit, den_of, ev_var, at_0, at_1, at_2, at_3, at_4, at_5, at_6, at_7, at_skip, c_int, c_bool, c_arr, c_cnt, c_vec, ev_nil, ev_join, ev_sub3, loc_s, int_i, bool_b, rows_s, cs_nil, cs_cons, E.den_lit, E.den_var, E.den_add, E.den_sub, E.den_mul, E.den_quo, E.den_rem, E.den_max, E.den_min, E.den_len, E.den_wr, E.den_cell, Nat.reduceAdd, h1, h2, ctMod, ctKProg, boreSh, ctF, n_, pgC, progB, brOf]
  intro u1 r1 _ _ _ u2 r2 _ _ _ we _ _ li _ _ pi _ _ st _ _ ki _ _ kl _ _ ma _ _ er _ _ u3 r3 _ _ _ u4 r4 _ _ _
  have k0 := Int.emod_nonneg ki (b := 3) (by decide)
  have k1 := Int.emod_lt_of_pos ki (b := 3) (by decide)
  have w0 := Int.emod_nonneg kl (b := 8001) (by decide)
  have w1 := Int.emod_lt_of_pos kl (b := 8001) (by decide)
  refine ⟨bds_nil _, by decide, fun a _ _ ea => ⟨⟨by omega, by omega⟩, by decide, fun b _ _ eb => ⟨⟨by omega, by omega⟩, by decide, fun c _ _ ec => ⟨by decide, fun d _ _ ed => ⟨⟨by omega, by omega⟩, ⟨by omega, by omega⟩, ?_⟩⟩⟩⟩⟩
  rw [ea, eb, ec, ed]
  exact ⟨rfl, rfl, rfl, rfl⟩
end Go.Proofs.Ytmdmgpikbebejaa
/- Kill: the wells, programs and kicks that are made of numbers are valid. -/
namespace Go.Proofs.Ytmdmgpikbebejaa
set_option linter.unusedVariables false
set_option linter.unusedSimpArgs false

theorem pickV_box (l : List Int) (i : Int) : 0 ≤ pickV l i ∧ pickV l i < 1099511627776 := by
  unfold pickV
  split
  · omega
  · exact ⟨Int.emod_nonneg _ (by decide), Int.emod_lt_of_pos _ (by decide)⟩
structure SegOK (s : Sg) : Prop where
  l : 10000 ≤ s.l ∧ s.l ≤ 110000
  r : 7500 ≤ s.r ∧ s.r ≤ s.l
  a : 50 ≤ s.a ∧ s.a ≤ 449
  g : 20 ≤ s.g ∧ s.g ≤ 119
theorem segB_box {n : Int} (h0 : 0 ≤ n) : SegOK (segB n) := by
  have h1 := Int.emod_nonneg (n / 11) (b := (10000 + n % 100001) / 4) (by omega)
  have h2 := Int.emod_lt_of_pos (n / 11) (show 0 < (10000 + n % 100001) / 4 by omega)
  unfold segB
  refine ⟨⟨?_, ?_⟩, ⟨?_, ?_⟩, ⟨?_, ?_⟩, ⟨?_, ?_⟩⟩ <;> simp only [] <;> omega
theorem many_box (l : List Int) : 1 ≤ many l ∧ many l ≤ 3 := by unfold many; omega
theorem segsB_len (x : Br) : (segsB x).length = many x.segs := by simp [segsB]
theorem segsB_seg (x : Br) : ∀ s ∈ segsB x, SegOK s := by
  intro s hs
  obtain ⟨i, -, rfl⟩ := List.mem_map.1 hs
  exact segB_box (pickV_box _ _).1
theorem SegOK.fair {s : Sg} (h : SegOK s) : fairV s = true := by
  obtain ⟨h1, h2, h3, h4⟩ := h
  exact fairV_iff.2 ⟨by omega, by omega, by omega, by omega⟩
theorem segs_sums : ∀ {l : List Sg}, (∀ s ∈ l, SegOK s) → (l.length : Int) * 10000 ≤ longV l ∧ longV l ≤ l.length * 110000 ∧ (l.length : Int) * 500000 ≤ volV l ∧ volV l ≤ l.length * 49390000 ∧ (l.length : Int) * 7500 ≤ riseV l ∧ riseV l ≤ longV l
  | [], _ => by simp [longV, volV, riseV]
  | s :: l, h => by
    obtain ⟨h1, h2, h3, h4⟩ := h s (by simp)
    have ih := segs_sums (l := l) fun x hx => h x (by simp [hx])
    have m1 := mul_box (a := s.l) (b := s.a) (A := 110000) (B := 449) (by omega) (by omega) (by omega) (by omega)
    have m2 : 10000 * 50 ≤ s.l * s.a := Int.mul_le_mul (by omega) (by omega) (by omega) (by omega)
    simp only [longV, volV, riseV, List.length_cons]
    omega
theorem segsB_hole (x : Br) : holeV (segsB x) = 0 := by
  have h := segs_sums (segsB_seg x)
  have hl := segsB_len x
  have hm := many_box x.segs
  unfold holeV
  rw [if_neg (by omega), if_neg (by omega), if_pos (List.all_eq_true.2 fun s hs => (segsB_seg x s hs).fair), if_neg (by omega)]
theorem segsB_box (x : Br) : 500000 ≤ volV (segsB x) ∧ volV (segsB x) ≤ 148170000 ∧ 7500 ≤ riseV (segsB x) ∧ riseV (segsB x) ≤ 330000 := by
  have h := segs_sums (segsB_seg x)
  have hl := segsB_len x
  have hm := many_box x.segs
  omega
theorem ptsB_len (l : List Int) (room all : Int) : ∀ (n i : Nat) (a : Int), (ptsB l room all n i a).length = n
  | 0, _, _ => rfl
  | n + 1, i, a => by rw [ptsB, List.length_cons, ptsB_len]
/-- Where a point lies, and its pressure. -/
theorem ptB_box {l : List Int} {room all : Int} (hr : 500000 ≤ room) (ha : 0 ≤ all ∧ all ≤ 330000) {i : Nat} (hi : i < 3) (k : Int) : (0 ≤ pickV l k % (room / 4) ∧ pickV l k % (room / 4) + 1 ≤ room / 4) ∧ 0 ≤ (13000 + pickV l k / 5 % 9001) * (all - all / 4 * i) ∧ (13000 + pickV l k / 5 % 9001) * (all - all / 4 * i) ≤ 7260000000 := by
  have h1 := Int.emod_nonneg (pickV l k) (b := room / 4) (by omega)
  have h2 := Int.emod_lt_of_pos (pickV l k) (show 0 < room / 4 by omega)
  have h3 : 0 ≤ all - all / 4 * i ∧ all - all / 4 * i ≤ all := by
    rcases (show i = 0 ∨ i = 1 ∨ i = 2 by omega) with rfl | rfl | rfl <;> simp <;> omega
  have h4 := mul_box (a := 13000 + pickV l k / 5 % 9001) (b := all - all / 4 * i) (A := 22000) (B := 330000) (by omega) (by omega) h3.1 (by omega)
  omega
theorem ptsB_ok {l : List Int} {room all : Int} (hr : 500000 ≤ room) (ha : 0 ≤ all ∧ all ≤ 330000) : ∀ (n i : Nat) (a last : Int), i + n ≤ 3 → 0 ≤ a → a ≤ room / 4 * i → last ≤ a → badKs room 68719476736 last (ptsB l room all n i a) = 0
  | 0, _, _, _, _, _, _, _ => rfl
  | n + 1, i, a, last, hi, a0, a1, hl => by
    obtain ⟨p1, p2⟩ := ptB_box (l := l) hr ha (i := i) (by omega) (i : Int)
    have ih := ptsB_ok (l := l) hr ha n (i + 1) (a + 1 + pickV l i % (room / 4)) (a + 1 + pickV l i % (room / 4)) (by omega) (by omega) (by push_cast; rw [Int.mul_add]; omega) (Int.le_refl _)
    have hb : a + 1 + pickV l i % (room / 4) ≤ room := by
      rcases (show i = 0 ∨ i = 1 ∨ i = 2 by omega) with rfl | rfl | rfl <;> simp at a1 <;> omega
    rw [ptsB, badKs_next (by show 0 ≤ a + 1 + pickV l i % (room / 4) ∧ a + 1 + pickV l i % (room / 4) ≤ room ∧ 0 ≤ (13000 + pickV l i / 5 % 9001) * (all - all / 4 * i) ∧ (13000 + pickV l i / 5 % 9001) * (all - all / 4 * i) ≤ 68719476736; omega) (by show last < a + 1 + pickV l i % (room / 4); omega)]
    exact ih
theorem wellB_ok (x : Br) : wellV (wellB x) = 0 := by
  obtain ⟨h1, h2, h3, h4⟩ := segsB_box x
  have hd : 0 ≤ volV (segsB x) / (4 + x.step % 25) ∧ volV (segsB x) / (4 + x.step % 25) ≤ volV (segsB x) / 4 := ⟨Int.ediv_nonneg (by omega) (by omega), by
    have h5 : 4 + x.step % 25 = 4 + (x.step % 25) := rfl
    rw [Int.le_ediv_iff_mul_le (by decide)]
    have h6 := Int.ediv_mul_le (volV (segsB x)) (b := 4 + x.step % 25) (by omega)
    have h7 : 0 ≤ volV (segsB x) / (4 + x.step % 25) := Int.ediv_nonneg (by omega) (by omega)
    have h8 : volV (segsB x) / (4 + x.step % 25) * 4 ≤ volV (segsB x) / (4 + x.step % 25) * (4 + x.step % 25) := Int.mul_le_mul_of_nonneg_left (by omega) h7
    omega⟩
  have p0 := Int.emod_nonneg x.pipe (b := volV (segsB x)) (by omega)
  have p1 := Int.emod_lt_of_pos x.pipe (show 0 < volV (segsB x) by omega)
  have hb := ptsB_ok (l := x.points) (room := volV (segsB x)) (all := riseV (segsB x)) h1 (by omega) (min x.points.length 3) 0 0 (-1) (by omega) (by omega) (by simp) (by omega)
  rcases wellV_last (s := segsB x) (wt := 10000 + x.weight % 6001) (ps := ptsB x.points (volV (segsB x)) (riseV (segsB x)) (min x.points.length 3) 0 0) (li := x.limit % 1500000000) (pi := x.pipe % volV (segsB x)) (st := 1 + volV (segsB x) / (4 + x.step % 25)) (segsB_hole x) (by omega) (by rw [ptsB_len]; omega) hb with h | h
  · exact h.2.2.2
  · exfalso; omega
theorem progB_ok (x : Br) : progV (progB x) = 0 := by
  have := progV_cases (1 + x.kind % 3) (11000 + x.kill % 8001) (x.margin % 30000000) (x.err % 12000000)
  unfold progB
  omega
theorem runB_len (l : List Int) (m : Int) : ∀ (n i : Nat) (a : Int), (runB l m n i a).length = n
  | 0, _, _ => rfl
  | n + 1, i, a => by rw [runB, List.length_cons, runB_len]
theorem runB_box {l : List Int} {m : Int} (hm : 1 ≤ m) : ∀ (n i : Nat) (a : Int), ∀ v ∈ runB l m n i a, a + 1 ≤ v ∧ v ≤ a + m * n
  | 0, _, _, v, hv => by cases hv
  | n + 1, i, a, v, hv => by
    have h1 := Int.emod_nonneg (pickV l i) (b := m) (by omega)
    have h2 := Int.emod_lt_of_pos (pickV l i) (show 0 < m by omega)
    have hnn : 0 ≤ m * n := Int.mul_nonneg (by omega) (by omega)
    rw [runB] at hv
    push_cast
    rw [Int.mul_add]
    rcases List.mem_cons.1 hv with rfl | hv
    · omega
    · have := runB_box (l := l) hm n (i + 1) _ v hv
      omega
theorem volsB_len (x : Br) : (volsB x).length = many x.vols := by unfold volsB; rw [runB_len]
theorem poresB_len (x : Br) : (poresB x).length = many x.pores := by unfold poresB; rw [runB_len]
theorem volsB_box (x : Br) : ∀ v ∈ volsB x, 1 ≤ v ∧ v ≤ 6000000 := by
  intro v hv
  have h := runB_box (l := x.vols) (m := 2000000) (by decide) _ 0 0 v hv
  have hm := many_box x.vols
  omega
theorem poresB_box (x : Br) : ∀ v ∈ poresB x, 1 ≤ v ∧ v ≤ 5460000000 := by
  intro v hv
  have h := runB_box (l := x.pores) (m := 60000000) (by decide) _ 0 _ v hv
  have hm := many_box x.pores
  obtain ⟨h1, h2, h3, h4⟩ := segsB_box x
  have m1 := mul_box (a := 10000 + x.weight % 6001) (b := riseV (segsB x)) (A := 16000) (B := 330000) (by omega) (by omega) (by omega) (by omega)
  omega
theorem kickB_ok {v p : Int} (h1 : 1 ≤ v ∧ v ≤ 16777216) (h2 : 1 ≤ p ∧ p ≤ 17179869184) : kickV ⟨v, p⟩ = 0 := by
  have := kickV_cases v p
  omega
end Go.Proofs.Ytmdmgpikbebejaa
/- Kill: the plain laws of moments: what was pumped lies in the pipe; more gas. -/
namespace Go.Proofs.Ytmdmgpikbebejaa
set_option linter.unusedVariables false
set_option linter.unusedSimpArgs false

/-! More gas -/
theorem less_dn {a b c : Kn} (h : b.1 ≤ c.1 ∧ b.2 ≤ c.2) : (lessK a c).1 ≤ (lessK a b).1 ∧ (lessK a c).2 ≤ (lessK a b).2 := by
  unfold lessK; omega
theorem under_dn {p h g : Kn} {w : Int} (hw : 0 ≤ w) (hh : h.1 ≤ g.1 ∧ h.2 ≤ g.2) : (underK p w g).1 ≤ (underK p w h).1 ∧ (underK p w g).2 ≤ (underK p w h).2 := by
  have h1 := Int.mul_le_mul_of_nonneg_left hh.1 hw
  have h2 := Int.mul_le_mul_of_nonneg_left hh.2 hw
  unfold underK
  simp only []
  omega
theorem gas_up {v d r : Int} (hv : 0 ≤ v) (hd : 0 ≤ d) (hr : 0 ≤ r) (p : Kn) : (gasK ⟨v, r⟩ p).1 ≤ (gasK ⟨v + d, r⟩ p).1 ∧ (gasK ⟨v, r⟩ p).2 ≤ (gasK ⟨v + d, r⟩ p).2 := by
  have h1 : v * r ≤ (v + d) * r := Int.mul_le_mul_of_nonneg_right (by omega) hr
  unfold gasK
  exact ⟨Int.ediv_le_ediv (by omega) h1, Int.ediv_le_ediv (by omega) (by show v * r + max 1 p.1 - 1 ≤ (v + d) * r + max 1 p.1 - 1; omega)⟩
theorem more_law {w : Wl} {p : Pg} {v d r : Int} (hh : holeV w.segs = 0) (hw : 0 ≤ w.weight) (hv : 0 ≤ v) (hd : 0 ≤ d) (hr : 0 ≤ r) (hk : p.kind ≠ 3) (s e : Int) :
    (momentV ⟨w, p, ⟨v, r⟩⟩ s e).base = (momentV ⟨w, p, ⟨v + d, r⟩⟩ s e).base ∧ (momentV ⟨w, p, ⟨v, r⟩⟩ s e).pts.length = w.points.length ∧ (momentV ⟨w, p, ⟨v + d, r⟩⟩ s e).pts.length = w.points.length ∧
    ((momentV ⟨w, p, ⟨v, r⟩⟩ s e).surf.1 ≤ (momentV ⟨w, p, ⟨v + d, r⟩⟩ s e).surf.1 ∧ (momentV ⟨w, p, ⟨v, r⟩⟩ s e).surf.2 ≤ (momentV ⟨w, p, ⟨v + d, r⟩⟩ s e).surf.2) ∧
    ∀ i, i < w.points.length → ((momentV ⟨w, p, ⟨v, r⟩⟩ s e).pts.getD i (0, 0)).1 ≤ ((momentV ⟨w, p, ⟨v + d, r⟩⟩ s e).pts.getD i (0, 0)).1 ∧ ((momentV ⟨w, p, ⟨v, r⟩⟩ s e).pts.getD i (0, 0)).2 ≤ ((momentV ⟨w, p, ⟨v + d, r⟩⟩ s e).pts.getD i (0, 0)).2 := by
  unfold momentV
  simp only [if_neg hk]
  rw [show botV p ⟨v + d, r⟩ e = botV p ⟨v, r⟩ e from rfl]
  generalize botV p ⟨v, r⟩ e = b
  generalize s * w.step = m
  have hm : mudV ⟨w, p, ⟨v + d, r⟩⟩ m = mudV ⟨w, p, ⟨v, r⟩⟩ m := rfl
  have hdn : ∀ c u, downV ⟨w, p, ⟨v + d, r⟩⟩ b c u = downV ⟨w, p, ⟨v, r⟩⟩ b c u := fun c u => rfl
  have hb : baseV ⟨w, p, ⟨v + d, r⟩⟩ m b = baseV ⟨w, p, ⟨v, r⟩⟩ m b := rfl
  have hg := gas_up hv hd hr (baseV ⟨w, p, ⟨v, r⟩⟩ m b)
  have ht : (rtopV ⟨w, p, ⟨v, r⟩⟩ m b).1 ≤ (rtopV ⟨w, p, ⟨v + d, r⟩⟩ m b).1 ∧ (rtopV ⟨w, p, ⟨v, r⟩⟩ m b).2 ≤ (rtopV ⟨w, p, ⟨v + d, r⟩⟩ m b).2 := by
    have e1 := (ht_up hh (u := m + (gasK ⟨v, r⟩ (baseV ⟨w, p, ⟨v, r⟩⟩ m b)).1) (v := m + (gasK ⟨v + d, r⟩ (baseV ⟨w, p, ⟨v, r⟩⟩ m b)).1) (by omega)).1
    have e2 := (ht_up hh (u := m + (gasK ⟨v, r⟩ (baseV ⟨w, p, ⟨v, r⟩⟩ m b)).2) (v := m + (gasK ⟨v + d, r⟩ (baseV ⟨w, p, ⟨v, r⟩⟩ m b)).2) (by omega)).2
    exact ⟨e1, e2⟩
  have hat : ∀ u, (ratV ⟨w, p, ⟨v, r⟩⟩ m b u).1 ≤ (ratV ⟨w, p, ⟨v + d, r⟩⟩ m b u).1 ∧ (ratV ⟨w, p, ⟨v, r⟩⟩ m b u).2 ≤ (ratV ⟨w, p, ⟨v + d, r⟩⟩ m b u).2 := fun u => by
    unfold ratV
    rw [hm, hb]
    split
    · rw [hdn]; exact ⟨Int.le_refl _, Int.le_refl _⟩
    · exact under_dn hw (less_dn ht)
  refine ⟨hb.symm, by simp [risingV], by simp [risingV], ?_, fun i hi => ?_⟩
  · show _ ≤ (underK (baseV ⟨w, p, ⟨v + d, r⟩⟩ m b) w.weight (lessK (htV w.segs (volV w.segs)) (rtopV ⟨w, p, ⟨v + d, r⟩⟩ m b))).1 ∧ _ ≤ (underK (baseV ⟨w, p, ⟨v + d, r⟩⟩ m b) w.weight (lessK (htV w.segs (volV w.segs)) (rtopV ⟨w, p, ⟨v + d, r⟩⟩ m b))).2
    rw [hb]
    exact under_dn hw (less_dn ht)
  · have e : ∀ d', ((risingV ⟨w, p, ⟨d', r⟩⟩ m b).pts.getD i (0, 0)) = ratV ⟨w, p, ⟨d', r⟩⟩ m b (w.points.getD i (0, 0)).1 := fun d' => by
      simp only [risingV, List.getD_eq_getElem?_getD, List.getElem?_map, List.getElem?_eq_getElem hi, Option.map_some, Option.getD_some]
    rw [e, e]
    exact hat _
end Go.Proofs.Ytmdmgpikbebejaa
/- What is to be shown of each function, as the executor has it. Printed by trees.py. -/
namespace Go.Proofs.Ytmdmgpikbebejaa
noncomputable def ckwell : Cx := tab4.only [29, 47, 43] (fun r => match r with
  | 3 => [.blk 2]
  | 17 => [.blk 2]
  | _ => []) [] 0 [] (fun _ => none)
def tkwell_1 : Tree :=
  (.ob (.and (.cmp .le (.lit (-9223372036854775808)) (.add (.lit 10000) (.rem (.var 27) (.lit 100001)))) (.cmp .le (.add (.lit 10000) (.rem (.var 27) (.lit 100001))) (.lit 9223372036854775807))) (.ob (.and (.cmp .le (.lit (-9223372036854775808)) (.quo (.var 27) (.lit 3))) (.cmp .le (.quo (.var 27) (.lit 3)) (.lit 9223372036854775807))) (.ob (.and (.cmp .le (.lit (-9223372036854775808)) (.add (.lit 50) (.rem (.quo (.var 27) (.lit 3)) (.lit 400)))) (.cmp .le (.add (.lit 50) (.rem (.quo (.var 27) (.lit 3)) (.lit 400))) (.lit 9223372036854775807))) (.ob (.and (.cmp .le (.lit (-9223372036854775808)) (.quo (.var 27) (.lit 7))) (.cmp .le (.quo (.var 27) (.lit 7)) (.lit 9223372036854775807))) (.ob (.and (.cmp .le (.lit (-9223372036854775808)) (.add (.lit 20) (.rem (.quo (.var 27) (.lit 7)) (.lit 100)))) (.cmp .le (.add (.lit 20) (.rem (.quo (.var 27) (.lit 7)) (.lit 100))) (.lit 9223372036854775807))) (.ob (.and (.cmp .le (.lit (-9223372036854775808)) (.quo (.var 27) (.lit 11))) (.cmp .le (.quo (.var 27) (.lit 11)) (.lit 9223372036854775807))) (.ob (.and (.cmp .le (.lit (-9223372036854775808)) (.quo (.add (.lit 10000) (.rem (.var 27) (.lit 100001))) (.lit 4))) (.cmp .le (.quo (.add (.lit 10000) (.rem (.var 27) (.lit 100001))) (.lit 4)) (.lit 9223372036854775807))) (.ob (.cmp .ne (.quo (.add (.lit 10000) (.rem (.var 27) (.lit 100001))) (.lit 4)) (.lit 0)) (.ob (.and (.cmp .le (.lit (-9223372036854775808)) (.sub (.add (.lit 10000) (.rem (.var 27) (.lit 100001))) (.rem (.quo (.var 27) (.lit 11)) (.quo (.add (.lit 10000) (.rem (.var 27) (.lit 100001))) (.lit 4))))) (.cmp .le (.sub (.add (.lit 10000) (.rem (.var 27) (.lit 100001))) (.rem (.quo (.var 27) (.lit 11)) (.quo (.add (.lit 10000) (.rem (.var 27) (.lit 100001))) (.lit 4)))) (.lit 9223372036854775807))) (.ob (.and (.cmp .le (.lit (-9223372036854775808)) (.add (.lit 10000) (.rem (.var 27) (.lit 100001)))) (.cmp .le (.add (.lit 10000) (.rem (.var 27) (.lit 100001))) (.lit 9223372036854775807))) (.ob (.and (.cmp .le (.lit (-9223372036854775808)) (.sub (.add (.lit 10000) (.rem (.var 27) (.lit 100001))) (.rem (.quo (.var 27) (.lit 11)) (.quo (.add (.lit 10000) (.rem (.var 27) (.lit 100001))) (.lit 4))))) (.cmp .le (.sub (.add (.lit 10000) (.rem (.var 27) (.lit 100001))) (.rem (.quo (.var 27) (.lit 11)) (.quo (.add (.lit 10000) (.rem (.var 27) (.lit 100001))) (.lit 4)))) (.lit 9223372036854775807))) (.ob (.and (.cmp .le (.lit (-9223372036854775808)) (.add (.lit 50) (.rem (.quo (.var 27) (.lit 3)) (.lit 400)))) (.cmp .le (.add (.lit 50) (.rem (.quo (.var 27) (.lit 3)) (.lit 400))) (.lit 9223372036854775807))) (.ob (.and (.cmp .le (.lit (-9223372036854775808)) (.add (.lit 20) (.rem (.quo (.var 27) (.lit 7)) (.lit 100)))) (.cmp .le (.add (.lit 20) (.rem (.quo (.var 27) (.lit 7)) (.lit 100))) (.lit 9223372036854775807))) (.arr [[(.int (.add (.lit 10000) (.rem (.var 27) (.lit 100001)))), (.int (.sub (.add (.lit 10000) (.rem (.var 27) (.lit 100001))) (.rem (.quo (.var 27) (.lit 11)) (.quo (.add (.lit 10000) (.rem (.var 27) (.lit 100001))) (.lit 4))))), (.int (.add (.lit 50) (.rem (.quo (.var 27) (.lit 3)) (.lit 400)))), (.int (.add (.lit 20) (.rem (.quo (.var 27) (.lit 7)) (.lit 100))))]] (.ob (.cmp .le (.mul (.add (.len (.var 21)) (.len (.var 28))) (.lit 32)) (.lit 140737488355328)) (.cat (.var 21) (.var 28) (.back 0 [(.int (.add (.var 20) (.lit 1))), (.cnt 97 (.var 29)), (.int (.var 22)), (.cnt 70 (.var 23)), (.int (.var 24)), (.int (.var 25)), (.int (.var 26))])))))))))))))))))
def tkwell_2 : Tree :=
  (.ob (.and (.cmp .le (.lit (-9223372036854775808)) (.add (.var 30) (.lit 1))) (.cmp .le (.add (.var 30) (.lit 1)) (.lit 9223372036854775807))) (.ob (.and (.cmp .le (.lit (-9223372036854775808)) (.quo (.var 27) (.lit 4))) (.cmp .le (.quo (.var 27) (.lit 4)) (.lit 9223372036854775807))) (.ob (.cmp .ne (.quo (.var 27) (.lit 4)) (.lit 0)) (.ob (.and (.cmp .le (.lit (-9223372036854775808)) (.add (.add (.var 30) (.lit 1)) (.rem (.var 38) (.quo (.var 27) (.lit 4))))) (.cmp .le (.add (.add (.var 30) (.lit 1)) (.rem (.var 38) (.quo (.var 27) (.lit 4)))) (.lit 9223372036854775807))) (.ob (.and (.cmp .le (.lit (-9223372036854775808)) (.quo (.var 38) (.lit 5))) (.cmp .le (.quo (.var 38) (.lit 5)) (.lit 9223372036854775807))) (.ob (.and (.cmp .le (.lit (-9223372036854775808)) (.add (.lit 13000) (.rem (.quo (.var 38) (.lit 5)) (.lit 9001)))) (.cmp .le (.add (.lit 13000) (.rem (.quo (.var 38) (.lit 5)) (.lit 9001))) (.lit 9223372036854775807))) (.ob (.and (.cmp .le (.lit (-9223372036854775808)) (.quo (.var 28) (.lit 4))) (.cmp .le (.quo (.var 28) (.lit 4)) (.lit 9223372036854775807))) (.ob (.and (.cmp .le (.lit (-9223372036854775808)) (.mul (.quo (.var 28) (.lit 4)) (.var 31))) (.cmp .le (.mul (.quo (.var 28) (.lit 4)) (.var 31)) (.lit 9223372036854775807))) (.ob (.and (.cmp .le (.lit (-9223372036854775808)) (.sub (.var 28) (.mul (.quo (.var 28) (.lit 4)) (.var 31)))) (.cmp .le (.sub (.var 28) (.mul (.quo (.var 28) (.lit 4)) (.var 31))) (.lit 9223372036854775807))) (.ob (.and (.cmp .le (.lit (-9223372036854775808)) (.mul (.add (.lit 13000) (.rem (.quo (.var 38) (.lit 5)) (.lit 9001))) (.sub (.var 28) (.mul (.quo (.var 28) (.lit 4)) (.var 31))))) (.cmp .le (.mul (.add (.lit 13000) (.rem (.quo (.var 38) (.lit 5)) (.lit 9001))) (.sub (.var 28) (.mul (.quo (.var 28) (.lit 4)) (.var 31)))) (.lit 9223372036854775807))) (.ob (.and (.cmp .le (.lit (-9223372036854775808)) (.add (.add (.var 30) (.lit 1)) (.rem (.var 38) (.quo (.var 27) (.lit 4))))) (.cmp .le (.add (.add (.var 30) (.lit 1)) (.rem (.var 38) (.quo (.var 27) (.lit 4)))) (.lit 9223372036854775807))) (.ob (.and (.cmp .le (.lit (-9223372036854775808)) (.mul (.add (.lit 13000) (.rem (.quo (.var 38) (.lit 5)) (.lit 9001))) (.sub (.var 28) (.mul (.quo (.var 28) (.lit 4)) (.var 31))))) (.cmp .le (.mul (.add (.lit 13000) (.rem (.quo (.var 38) (.lit 5)) (.lit 9001))) (.sub (.var 28) (.mul (.quo (.var 28) (.lit 4)) (.var 31)))) (.lit 9223372036854775807))) (.arr [[(.int (.add (.add (.var 30) (.lit 1)) (.rem (.var 38) (.quo (.var 27) (.lit 4))))), (.int (.mul (.add (.lit 13000) (.rem (.quo (.var 38) (.lit 5)) (.lit 9001))) (.sub (.var 28) (.mul (.quo (.var 28) (.lit 4)) (.var 31)))))]] (.ob (.cmp .le (.mul (.add (.len (.var 34)) (.len (.var 39))) (.lit 16)) (.lit 140737488355328)) (.cat (.var 34) (.var 39) (.ob (.and (.cmp .le (.lit (-9223372036854775808)) (.add (.add (.var 30) (.lit 1)) (.rem (.var 38) (.quo (.var 27) (.lit 4))))) (.cmp .le (.add (.add (.var 30) (.lit 1)) (.rem (.var 38) (.quo (.var 27) (.lit 4)))) (.lit 9223372036854775807))) (.back 2 [(.int (.add (.add (.var 30) (.lit 1)) (.rem (.var 38) (.quo (.var 27) (.lit 4))))), (.int (.add (.var 31) (.lit 1))), (.cnt 97 (.var 32)), (.int (.var 33)), (.cnt 70 (.var 40)), (.int (.var 35)), (.int (.var 36)), (.int (.var 37))])))))))))))))))))
def tkwell_3 : Tree :=
  (.ob (.and (.cmp .le (.lit (-9223372036854775808)) (.add (.lit 4) (.var 39))) (.cmp .le (.add (.lit 4) (.var 39)) (.lit 9223372036854775807))) (.ob (.cmp .ne (.add (.lit 4) (.var 39)) (.lit 0)) (.ob (.and (.cmp .le (.lit (-9223372036854775808)) (.quo (.var 27) (.add (.lit 4) (.var 39)))) (.cmp .le (.quo (.var 27) (.add (.lit 4) (.var 39))) (.lit 9223372036854775807))) (.ob (.and (.cmp .le (.lit (-9223372036854775808)) (.add (.lit 1) (.quo (.var 27) (.add (.lit 4) (.var 39))))) (.cmp .le (.add (.lit 1) (.quo (.var 27) (.add (.lit 4) (.var 39)))) (.lit 9223372036854775807))) (.ob (.and (.cmp .le (.lit (-9223372036854775808)) (.add (.lit 1) (.quo (.var 27) (.add (.lit 4) (.var 39))))) (.cmp .le (.add (.lit 1) (.quo (.var 27) (.add (.lit 4) (.var 39)))) (.lit 9223372036854775807))) (.ret [(.cnt 97 (.var 32)), (.int (.var 33)), (.cnt 70 (.var 34)), (.int (.var 35)), (.int (.var 38)), (.int (.add (.lit 1) (.quo (.var 27) (.add (.lit 4) (.var 39)))))]))))))
def tkwell_4 : Tree :=
  (.loop [.int, .int] [(.int (.lit 0)), (.int (.lit 0))] (.split (.cmp .lt (.var 29) (.len (.var 21))) (.ob (.cmp .le (.lit 0) (.var 29)) (.ob (.cmp .lt (.var 29) (.len (.var 21))) (.ob (.and (.cmp .le (.lit (-9223372036854775808)) (.add (.var 28) (.cell (.var 21) (.var 29) 1))) (.cmp .le (.add (.var 28) (.cell (.var 21) (.var 29) 1)) (.lit 9223372036854775807))) (.ob (.and (.cmp .le (.lit (-9223372036854775808)) (.add (.var 28) (.cell (.var 21) (.var 29) 1))) (.cmp .le (.add (.var 28) (.cell (.var 21) (.var 29) 1)) (.lit 9223372036854775807))) (.back 1 [(.int (.add (.var 28) (.cell (.var 21) (.var 29) 1))), (.int (.add (.var 29) (.lit 1)))]))))) (.loop [.int, .int, (.vec 97), .int, (.vec 70), .int, .int, .int] [(.int (.lit 0)), (.int (.lit 0)), (.cnt 97 (.var 21)), (.int (.var 22)), (.cnt 70 (.var 23)), (.int (.var 24)), (.int (.var 25)), (.int (.var 26))] (.split (.cmp .lt (.var 31) (.len (.var 1))) (.split (.cmp .lt (.var 31) (.lit 3)) (.call 47 [(.arr 2 (.var 1)), (.int (.var 31))] tkwell_2) (.call 29 [(.int (.var 4)), (.int (.var 27))] (.call 29 [(.int (.var 5)), (.int (.lit 25))] tkwell_3))) (.call 29 [(.int (.var 4)), (.int (.var 27))] (.call 29 [(.int (.var 5)), (.int (.lit 25))] tkwell_3))))))
def tkwell_5 : Tree :=
  (.dfn .nil (.dfn .nil (.dfn .nil (.dfn .nil (.ob (.and (.cmp .le (.lit (-9223372036854775808)) (.add (.lit 10000) (.var 14))) (.cmp .le (.add (.lit 10000) (.var 14)) (.lit 9223372036854775807))) (.loop [.int, (.vec 97), .int, (.vec 70), .int, .int, .int] [(.int (.lit 0)), (.cnt 97 (.var 16)), (.int (.add (.lit 10000) (.var 14))), (.cnt 70 (.var 17)), (.int (.var 15)), (.int (.lit 0)), (.int (.lit 0))] (.split (.cmp .lt (.var 20) (.max (.lit 1) (.min (.len (.var 0)) (.lit 3)))) (.call 47 [(.arr 2 (.var 0)), (.int (.var 20))] tkwell_1) (.call 43 [(.arr 97 (.var 21))] tkwell_4))))))))
def tkwell_6 : Tree :=
  (.ob (.and (.cmp .le (.lit (-9223372036854775808)) (.add (.lit 10000) (.var 14))) (.cmp .le (.add (.lit 10000) (.var 14)) (.lit 9223372036854775807))) (.call 29 [(.int (.var 3)), (.int (.lit 1500000000))] tkwell_5))
def tkwell : Tree :=
  (.dfn .nil (.dfn .nil (.call 29 [(.int (.var 2)), (.int (.lit 6001))] tkwell_6)))
noncomputable def ckkicks : Cx := tab4.only [23, 47] (fun _ => []) [] 0 [] (fun _ => none)
def tkkicks_1 : Tree :=
  (.ob (.and (.cmp .le (.lit (-9223372036854775808)) (.add (.add (.var 27) (.lit 1)) (.rem (.var 29) (.lit 2000000)))) (.cmp .le (.add (.add (.var 27) (.lit 1)) (.rem (.var 29) (.lit 2000000))) (.lit 9223372036854775807))) (.ob (.and (.cmp .le (.lit (-9223372036854775808)) (.add (.add (.var 27) (.lit 1)) (.rem (.var 29) (.lit 2000000)))) (.cmp .le (.add (.add (.var 27) (.lit 1)) (.rem (.var 29) (.lit 2000000))) (.lit 9223372036854775807))) (.arr [[(.int (.add (.add (.var 27) (.lit 1)) (.rem (.var 29) (.lit 2000000))))]] (.ob (.cmp .le (.mul (.add (.len (.var 26)) (.len (.var 30))) (.lit 8)) (.lit 140737488355328)) (.cat (.var 26) (.var 30) (.ob (.and (.cmp .le (.lit (-9223372036854775808)) (.add (.add (.var 27) (.lit 1)) (.rem (.var 29) (.lit 2000000)))) (.cmp .le (.add (.add (.var 27) (.lit 1)) (.rem (.var 29) (.lit 2000000))) (.lit 9223372036854775807))) (.back 1 [(.cnt 2 (.var 31)), (.int (.add (.add (.var 27) (.lit 1)) (.rem (.var 29) (.lit 2000000)))), (.int (.add (.var 28) (.lit 1)))])))))))
def tkkicks_2 : Tree :=
  (.ob (.and (.cmp .le (.lit (-9223372036854775808)) (.add (.add (.var 30) (.lit 1)) (.rem (.var 32) (.lit 60000000)))) (.cmp .le (.add (.add (.var 30) (.lit 1)) (.rem (.var 32) (.lit 60000000))) (.lit 9223372036854775807))) (.ob (.and (.cmp .le (.lit (-9223372036854775808)) (.add (.add (.var 30) (.lit 1)) (.rem (.var 32) (.lit 60000000)))) (.cmp .le (.add (.add (.var 30) (.lit 1)) (.rem (.var 32) (.lit 60000000))) (.lit 9223372036854775807))) (.arr [[(.int (.add (.add (.var 30) (.lit 1)) (.rem (.var 32) (.lit 60000000))))]] (.ob (.cmp .le (.mul (.add (.len (.var 29)) (.len (.var 33))) (.lit 8)) (.lit 140737488355328)) (.cat (.var 29) (.var 33) (.ob (.and (.cmp .le (.lit (-9223372036854775808)) (.add (.add (.var 30) (.lit 1)) (.rem (.var 32) (.lit 60000000)))) (.cmp .le (.add (.add (.var 30) (.lit 1)) (.rem (.var 32) (.lit 60000000))) (.lit 9223372036854775807))) (.back 2 [(.cnt 2 (.var 34)), (.int (.add (.add (.var 30) (.lit 1)) (.rem (.var 32) (.lit 60000000)))), (.int (.add (.var 31) (.lit 1)))])))))))
def tkkicks_3 : Tree :=
  (.dfn .nil (.dfn .nil (.loop [.int, .int] [(.int (.lit 0)), (.int (.lit 0))] (.split (.cmp .lt (.var 23) (.len (.var 14))) (.ob (.cmp .le (.lit 0) (.var 23)) (.ob (.cmp .lt (.var 23) (.len (.var 14))) (.ob (.and (.cmp .le (.lit (-9223372036854775808)) (.add (.var 22) (.cell (.var 14) (.var 23) 1))) (.cmp .le (.add (.var 22) (.cell (.var 14) (.var 23) 1)) (.lit 9223372036854775807))) (.ob (.and (.cmp .le (.lit (-9223372036854775808)) (.add (.var 22) (.cell (.var 14) (.var 23) 1))) (.cmp .le (.add (.var 22) (.cell (.var 14) (.var 23) 1)) (.lit 9223372036854775807))) (.back 0 [(.int (.add (.var 22) (.cell (.var 14) (.var 23) 1))), (.int (.add (.var 23) (.lit 1)))]))))) (.dfn .nil (.dfn .nil (.ob (.and (.cmp .le (.lit (-9223372036854775808)) (.mul (.var 15) (.var 22))) (.cmp .le (.mul (.var 15) (.var 22)) (.lit 9223372036854775807))) (.loop [(.vec 2), .int, .int] [(.cnt 2 (.var 24)), (.int (.lit 0)), (.int (.lit 0))] (.split (.cmp .lt (.var 28) (.max (.lit 1) (.min (.len (.var 10)) (.lit 3)))) (.ob (.and (.cmp .le (.lit (-9223372036854775808)) (.add (.var 27) (.lit 1))) (.cmp .le (.add (.var 27) (.lit 1)) (.lit 9223372036854775807))) (.call 47 [(.arr 2 (.var 10)), (.int (.var 28))] tkkicks_1)) (.ob (.and (.cmp .le (.lit (-9223372036854775808)) (.mul (.var 15) (.var 22))) (.cmp .le (.mul (.var 15) (.var 22)) (.lit 9223372036854775807))) (.loop [(.vec 2), .int, .int] [(.cnt 2 (.var 25)), (.int (.mul (.var 15) (.var 22))), (.int (.lit 0))] (.split (.cmp .lt (.var 31) (.max (.lit 1) (.min (.len (.var 11)) (.lit 3)))) (.ob (.and (.cmp .le (.lit (-9223372036854775808)) (.add (.var 30) (.lit 1))) (.cmp .le (.add (.var 30) (.lit 1)) (.lit 9223372036854775807))) (.call 47 [(.arr 2 (.var 11)), (.int (.var 31))] tkkicks_2)) (.ret [(.cnt 2 (.var 26)), (.cnt 2 (.var 29))])))))))))))))
def tkkicks : Tree :=
  (.dfn .nil (.dfn .nil (.call 23 [(.arr 2 (.var 0)), (.arr 2 (.var 1)), (.int (.var 2)), (.int (.var 3)), (.int (.var 4)), (.int (.var 5)), (.int (.var 6)), (.int (.var 7)), (.int (.var 8)), (.int (.var 9)), (.arr 2 (.var 10)), (.arr 2 (.var 11))] tkkicks_3)))
end Go.Proofs.Ytmdmgpikbebejaa
/- Kill: equal moments; wells of numbers. -/
namespace Go.Proofs.Ytmdmgpikbebejaa
open Go.RowKit
set_option linter.unusedSimpArgs false
set_option linter.unusedVariables false

theorem segs_app1 (rows : List (List C)) (a b c d : Int) : segsOf (rows ++ [[.i a, .i b, .i c, .i d]]) = segsOf rows ++ [⟨a, b, c, d⟩] := by simp [segsOf, segOf, C.int]
theorem segsB_take {x : Br} {i : Nat} (h : i < many x.segs) : (segsB x).take (i + 1) = (segsB x).take i ++ [segB (pickV x.segs (i : Int))] := by
  rw [take_snoc (by rw [segsB_len]; exact h) sg0]
  congr 2
  simp [segsB, List.getD_eq_getElem?_getD, h]
theorem segB_t {n : Int} (h : 0 ≤ n) : (10000 + n.tmod 100001) = (segB n).l ∧ (10000 + n.tmod 100001) - (n.tdiv 11).tmod ((10000 + n.tmod 100001).tdiv 4) = (segB n).r ∧ 50 + (n.tdiv 3).tmod 400 = (segB n).a ∧ 20 + (n.tdiv 7).tmod 100 = (segB n).g := by
  have e1 : n.tmod 100001 = n % 100001 := Int.tmod_eq_emod_of_nonneg h
  have e2 : n.tdiv 11 = n / 11 := Int.tdiv_eq_ediv_of_nonneg h
  have e3 : n.tdiv 3 = n / 3 := Int.tdiv_eq_ediv_of_nonneg h
  have e4 : n.tdiv 7 = n / 7 := Int.tdiv_eq_ediv_of_nonneg h
  rw [e1, e2, e3, e4, Int.tmod_eq_emod_of_nonneg (a := n / 11) (by omega), Int.tmod_eq_emod_of_nonneg (a := n / 3) (by omega), Int.tmod_eq_emod_of_nonneg (a := n / 7) (by omega), Int.tdiv_eq_ediv_of_nonneg (a := 10000 + n % 100001) (by omega)]
  exact ⟨rfl, rfl, rfl, rfl⟩
set_option maxHeartbeats 1000000 in
theorem kwell_ok : tab4.ok 23 := by
  refine Tab.of_ct rfl rfl ⟨_, Try.func23, by decide, rfl⟩ ?_ (fun h => by cases h)
  refine ct_ok (cx := ckwell) (Tab.cx_ok (all_cons mod64_ok (all_cons pick_ok (all_cons (up4_ok (up3_ok rvol_ok)) all_nil)))) Try.func23 (bds := []) (T := tkwell) (by kernel_rfl) ?_
  have h1 : ckwell.ct 29 = some ctMod := rfl
  have h2 : ckwell.ct 47 = some ctPick := rfl
  have h3 : ckwell.ct 43 = some ctVol := rfl
  unfold tkwell
  simp only [VC, allC, List.map_cons, List.map_nil, List.length_cons, List.length_nil, List.getElem?_cons_zero, List.getElem?_cons_succ, List.cons.injEq, C.i.injEq, C.b.injEq, and_true, true_and, forall_const, kindsOf_nil, kindsOf_lf, kindsOf_agg, kindsOf_box, boxKinds_nil, boxKinds_lf, boxKinds_agg, boxKinds_box, List.append_nil, List.cons_append, List.nil_append, den_cmp_le, den_cmp_lt, den_cmp_eq, den_cmp_ne, den_cmp_le', den_cmp_lt', den_cmp_eq', den_cmp_ne', den_and, den_and', den_or, den_or', den_not, den_not', den_blit, den_of, ev_var, at_0, at_1, at_2, at_3, at_4, at_5, at_6, at_7, at_skip, c_int, c_bool, c_arr, c_cnt, c_vec, ev_nil, ev_join, ev_sub3, loc_s, int_i, bool_b, rows_s, cs_nil, cs_cons, E.den_lit, E.den_var, E.den_add, E.den_sub, E.den_mul, E.den_quo, E.den_rem, E.den_max, E.den_min, E.den_len, E.den_wr, E.den_cell, Nat.reduceAdd, h1, ctMod, ctF, ctKWell, boreSh, wellVSh, n_]
  intro u1 r1 _ _ _ u2 r2 _ _ _ we _ _ li _ _ pi _ _ st _ _ ki _ _ kl _ _ ma _ _ er _ _ u3 r3 _ _ _ u4 r4 _ _ _
  obtain ⟨x, hx⟩ : ∃ x, x = brOf [C.s u1 r1, C.s u2 r2, C.i we, C.i li, C.i pi, C.i st, C.i ki, C.i kl, C.i ma, C.i er, C.s u3 r3, C.s u4 r4] 0 := ⟨_, rfl⟩
  rw [← hx]
  have x1 : x.segs = ints r1 := by rw [hx]; rfl
  have x2 : x.points = ints r2 := by rw [hx]; rfl
  have x3 : x.weight = we := by rw [hx]; rfl
  have x4 : x.limit = li := by rw [hx]; rfl
  have x5 : x.pipe = pi := by rw [hx]; rfl
  have x6 : x.step = st := by rw [hx]; rfl
  clear hx
  have l1 := ints_len r1
  have l2 := ints_len r2
  rw [← x1] at l1
  rw [← x2] at l2
  refine ⟨bds_nil _, by decide, fun w0 _ _ ew => ?_⟩
  unfold tkwell_6
  simp only [VC, allC, List.map_cons, List.map_nil, List.length_cons, List.length_nil, List.getElem?_cons_zero, List.getElem?_cons_succ, List.cons.injEq, C.i.injEq, C.b.injEq, and_true, true_and, forall_const, kindsOf_nil, kindsOf_lf, kindsOf_agg, kindsOf_box, boxKinds_nil, boxKinds_lf, boxKinds_agg, boxKinds_box, List.append_nil, List.cons_append, List.nil_append, den_cmp_le, den_cmp_lt, den_cmp_eq, den_cmp_ne, den_cmp_le', den_cmp_lt', den_cmp_eq', den_cmp_ne', den_and, den_and', den_or, den_or', den_not, den_not', den_blit, den_of, ev_var, at_0, at_1, at_2, at_3, at_4, at_5, at_6, at_7, at_skip, c_int, c_bool, c_arr, c_cnt, c_vec, ev_nil, ev_join, ev_sub3, loc_s, int_i, bool_b, rows_s, cs_nil, cs_cons, E.den_lit, E.den_var, E.den_add, E.den_sub, E.den_mul, E.den_quo, E.den_rem, E.den_max, E.den_min, E.den_len, E.den_wr, E.den_cell, Nat.reduceAdd, h1, ctMod, ctF, n_]
  refine ⟨⟨by omega, by omega⟩, by decide, fun l0 _ _ el => ?_⟩
  unfold tkwell_5
  simp only [VC, allC, List.map_cons, List.map_nil, List.length_cons, List.length_nil, List.getElem?_cons_zero, List.getElem?_cons_succ, List.cons.injEq, C.i.injEq, C.b.injEq, and_true, true_and, forall_const, kindsOf_nil, kindsOf_lf, kindsOf_agg, kindsOf_box, boxKinds_nil, boxKinds_lf, boxKinds_agg, boxKinds_box, List.append_nil, List.cons_append, List.nil_append, den_cmp_le, den_cmp_lt, den_cmp_eq, den_cmp_ne, den_cmp_le', den_cmp_lt', den_cmp_eq', den_cmp_ne', den_and, den_and', den_or, den_or', den_not, den_not', den_blit, den_of, ev_var, at_0, at_1, at_2, at_3, at_4, at_5, at_6, at_7, at_skip, c_int, c_bool, c_arr, c_cnt, c_vec, ev_nil, ev_join, ev_sub3, loc_s, int_i, bool_b, rows_s, cs_nil, cs_cons, E.den_lit, E.den_var, E.den_add, E.den_sub, E.den_mul, E.den_quo, E.den_rem, E.den_max, E.den_min, E.den_len, E.den_wr, E.den_cell, Nat.reduceAdd, h2, h3, ctPick, ctVol, holeSh, ctF, n_, l_, s_]
  refine ⟨⟨by omega, by omega⟩, fun xs => match xs with | [.i i, .s _ rs, .i w, .s _ rp, .i a, .i b, .i c] => 0 ≤ i ∧ i ≤ many x.segs ∧ segsOf rs = (segsB x).take i.toNat ∧ w = 10000 + w0 ∧ rp = [] ∧ a = l0 ∧ b = 0 ∧ c = 0 | _ => False, fun xs => match xs with | [.i i, _, _, _, _, _, _] => ((many x.segs : Int) - i).toNat | _ => 0, ⟨by omega, by omega, rfl, rfl, rfl, rfl, rfl, rfl⟩, ?_⟩
  rintro i _ _ v5 rs _ _ _ w _ _ v6 rp _ _ _ a _ _ b _ _ c _ _ ⟨i0, i1, hrs, rfl, rfl, rfl, rfl, rfl⟩
  have hm : (many x.segs : Int) = max 1 (min (r1.length : Int) 3) := by unfold many; omega
  have hlr : rs.length = i.toNat := by rw [← segs_len, hrs, List.length_take, segsB_len]; omega
  refine ⟨fun hlt => ⟨i0, fun n n0 n1 hn => ?_⟩, fun hge => fun rm _ _ hrm => ?_⟩
  · rw [← x1] at hn
    have hb := pickV_box x.segs i
    rw [← hn] at hb
    obtain ⟨s1, s2, s3, s4⟩ := segB_t (n := n) hb.1
    obtain ⟨q1, q2, q3, q4⟩ := segB_box (n := n) hb.1
    unfold tkwell_1
    simp only [VC, allC, List.map_cons, List.map_nil, List.length_cons, List.length_nil, List.getElem?_cons_zero, List.getElem?_cons_succ, List.cons.injEq, C.i.injEq, C.b.injEq, and_true, true_and, forall_const, kindsOf_nil, kindsOf_lf, kindsOf_agg, kindsOf_box, boxKinds_nil, boxKinds_lf, boxKinds_agg, boxKinds_box, List.append_nil, List.cons_append, List.nil_append, den_cmp_le, den_cmp_lt, den_cmp_eq, den_cmp_ne, den_cmp_le', den_cmp_lt', den_cmp_eq', den_cmp_ne', den_and, den_and', den_or, den_or', den_not, den_not', den_blit, den_of, ev_var, at_0, at_1, at_2, at_3, at_4, at_5, at_6, at_7, at_skip, c_int, c_bool, c_arr, c_cnt, c_vec, ev_nil, ev_join, ev_sub3, loc_s, int_i, bool_b, rows_s, cs_nil, cs_cons, E.den_lit, E.den_var, E.den_add, E.den_sub, E.den_mul, E.den_quo, E.den_rem, E.den_max, E.den_min, E.den_len, E.den_wr, E.den_cell, Nat.reduceAdd]
    rw [s2, s3, s4]
    have e1 : n.tmod 100001 = n % 100001 := Int.tmod_eq_emod_of_nonneg hb.1
    have e2 : n.tdiv 11 = n / 11 := Int.tdiv_eq_ediv_of_nonneg hb.1
    have e3 : n.tdiv 3 = n / 3 := Int.tdiv_eq_ediv_of_nonneg hb.1
    have e4 : n.tdiv 7 = n / 7 := Int.tdiv_eq_ediv_of_nonneg hb.1
    have e5 : (10000 + n.tmod 100001).tdiv 4 = (10000 + n.tmod 100001) / 4 := Int.tdiv_eq_ediv_of_nonneg (by omega)
    rw [e2, e3, e4, e5]
    refine ⟨by omega, by omega, by omega, by omega, by omega, by omega, by omega, by omega, by omega, by omega, by omega, by omega, by omega, by rw [hlr]; push_cast; omega, ⟨by omega, by omega, ?_⟩, by omega⟩
    rw [segs_app1, hrs, show (i + 1).toNat = i.toNat + 1 by omega, segsB_take (by omega), show ((i.toNat : Nat) : Int) = i by omega, ← hn, s1]
  · unfold tkwell_4
    simp only [VC, allC, List.map_cons, List.map_nil, List.length_cons, List.length_nil, List.getElem?_cons_zero, List.getElem?_cons_succ, List.cons.injEq, C.i.injEq, C.b.injEq, and_true, true_and, forall_const, kindsOf_nil, kindsOf_lf, kindsOf_agg, kindsOf_box, boxKinds_nil, boxKinds_lf, boxKinds_agg, boxKinds_box, List.append_nil, List.cons_append, List.nil_append, den_cmp_le, den_cmp_lt, den_cmp_eq, den_cmp_ne, den_cmp_le', den_cmp_lt', den_cmp_eq', den_cmp_ne', den_and, den_and', den_or, den_or', den_not, den_not', den_blit, den_of, ev_var, at_0, at_1, at_2, at_3, at_4, at_5, at_6, at_7, at_skip, c_int, c_bool, c_arr, c_cnt, c_vec, ev_nil, ev_join, ev_sub3, loc_s, int_i, bool_b, rows_s, cs_nil, cs_cons, E.den_lit, E.den_var, E.den_add, E.den_sub, E.den_mul, E.den_quo, E.den_rem, E.den_max, E.den_min, E.den_len, E.den_wr, E.den_cell, Nat.reduceAdd, h1, h2, ctPick, ctMod, ctF, n_, l_, ev_cell, sr_at]
    have hS : segsOf rs = segsB x := by rw [hrs, List.take_of_length_le (by rw [segsB_len]; omega)]
    have hL : (rs.length : Int) = (segsB x).length := by rw [← hS, segs_len]
    rw [hS] at hrm
    rw [roomS_yes (segsB_hole x)] at hrm
    rw [hS, hL]
    obtain ⟨bx1, bx2, bx3, bx4⟩ := segsB_box x
    refine ⟨fun xs => match xs with | [.i a, .i k] => 0 ≤ k ∧ k ≤ (segsB x).length ∧ a = riseK (segsB x) k.toNat | _ => False, fun xs => match xs with | [_, .i k] => (((segsB x).length : Int) - k).toNat | _ => 0, ⟨by omega, by omega, rfl⟩, ?_⟩
    rintro al _ _ k _ _ ⟨k0, k1, rfl⟩
    have hk2 := riseK_box (segsB_hole x) (k.toNat + 1)
    refine ⟨fun hlt => ?_, fun hge2 => ?_⟩
    · rw [riseK_succ (show k.toNat < (segsB x).length by omega)] at hk2
      exact ⟨k0, hlt, by omega, by omega, ⟨by omega, by omega, by rw [show (k + 1).toNat = k.toNat + 1 by omega, riseK_succ (show k.toNat < (segsB x).length by omega)]⟩, (show (((segsB x).length : Int) - (k + 1)).toNat < (((segsB x).length : Int) - k).toNat by omega)⟩
    · have hall : riseK (segsB x) k.toNat = riseV (segsB x) := by unfold riseK; rw [List.take_of_length_le (by omega)]
      rw [hall]
      obtain ⟨room, hroom⟩ : ∃ r, volV (segsB x) = r := ⟨_, rfl⟩
      obtain ⟨all, halld⟩ : ∃ r, riseV (segsB x) = r := ⟨_, rfl⟩
      rw [hroom] at bx1 bx2 hrm
      rw [halld] at bx3 bx4 ⊢
      subst hrm
      obtain ⟨m, hmd⟩ : ∃ m, m = min x.points.length 3 := ⟨_, rfl⟩
      refine ⟨fun xs => match xs with | [.i q, .i k, .s _ rs2, .i w, .s _ rp, .i l, .i b, .i c] => 0 ≤ k ∧ k ≤ m ∧ 0 ≤ q ∧ q ≤ rm / 4 * k ∧ segsOf rs2 = segsB x ∧ w = 10000 + w0 ∧ rp.length = k.toNat ∧ knots rp ++ ptsB x.points rm all (m - k.toNat) k.toNat q = ptsB x.points rm all m 0 0 ∧ l = a ∧ b = 0 ∧ c = 0 | _ => False, fun xs => match xs with | [_, .i k, _, _, _, _, _, _] => ((m : Int) - k).toNat | _ => 0, ?_, ?_⟩
      · exact ⟨by omega, by omega, by omega, by simp, hS, rfl, rfl, rfl, rfl, rfl, rfl⟩
      · rintro at0 _ _ k2 _ _ v7 rs2 _ _ _ w _ _ v8 rp _ _ _ l _ _ b _ _ c _ _ ⟨k20, k21, a0, a1, hs2, rfl, hlp, hpt, rfl, rfl, rfl⟩
        refine ⟨fun hlt => ⟨fun h3 => ⟨k20, fun n n0 n1 hn => ?_⟩, fun h3 => ?_⟩, fun hge3 => ?_⟩
        · rw [← x2] at hn
          have hb := pickV_box x.points k2
          rw [← hn] at hb
          have hk3 : ((k2.toNat : Nat) : Int) = k2 := by omega
          obtain ⟨⟨p1, p2⟩, p3, p4⟩ := ptB_box (l := x.points) bx1 (show 0 ≤ all ∧ all ≤ 330000 by omega) (show k2.toNat < 3 by omega) k2
          rw [← hn, hk3] at p3 p4
          rw [← hn] at p1 p2
          have e1 : rm.tdiv 4 = rm / 4 := Int.tdiv_eq_ediv_of_nonneg (by omega)
          have e2 : n.tmod (rm / 4) = n % (rm / 4) := Int.tmod_eq_emod_of_nonneg hb.1
          have e3 : n.tdiv 5 = n / 5 := Int.tdiv_eq_ediv_of_nonneg hb.1
          have e4 : (n / 5).tmod 9001 = n / 5 % 9001 := Int.tmod_eq_emod_of_nonneg (by omega)
          have e5 : all.tdiv 4 = all / 4 := Int.tdiv_eq_ediv_of_nonneg (by omega)
          unfold tkwell_2
          simp only [VC, allC, List.map_cons, List.map_nil, List.length_cons, List.length_nil, List.getElem?_cons_zero, List.getElem?_cons_succ, List.cons.injEq, C.i.injEq, C.b.injEq, and_true, true_and, forall_const, kindsOf_nil, kindsOf_lf, kindsOf_agg, kindsOf_box, boxKinds_nil, boxKinds_lf, boxKinds_agg, boxKinds_box, List.append_nil, List.cons_append, List.nil_append, den_cmp_le, den_cmp_lt, den_cmp_eq, den_cmp_ne, den_cmp_le', den_cmp_lt', den_cmp_eq', den_cmp_ne', den_and, den_and', den_or, den_or', den_not, den_not', den_blit, den_of, ev_var, at_0, at_1, at_2, at_3, at_4, at_5, at_6, at_7, at_skip, c_int, c_bool, c_arr, c_cnt, c_vec, ev_nil, ev_join, ev_sub3, loc_s, int_i, bool_b, rows_s, cs_nil, cs_cons, E.den_lit, E.den_var, E.den_add, E.den_sub, E.den_mul, E.den_quo, E.den_rem, E.den_max, E.den_min, E.den_len, E.den_wr, E.den_cell, Nat.reduceAdd]
          rw [e1, e2, e3, e4, e5]
          have m1 : 0 ≤ all / 4 * k2 ∧ all / 4 * k2 ≤ all := by
            rcases (show k2 = 0 ∨ k2 = 1 ∨ k2 = 2 by omega) with rfl | rfl | rfl <;> omega
          have hat : at0 + 1 + n % (rm / 4) ≤ rm / 4 * (k2 + 1) := by rw [Int.mul_add]; omega
          have hat2 : rm / 4 * (k2 + 1) ≤ rm := by
            rcases (show k2 = 0 ∨ k2 = 1 ∨ k2 = 2 by omega) with rfl | rfl | rfl <;> omega
          generalize hv : (13000 + n / 5 % 9001) * (all - all / 4 * k2) = V at *
          refine ⟨by omega, by omega, by omega, by omega, by omega, by omega, by omega, by omega, by omega, by omega, by omega, by omega, by rw [hlp]; push_cast; omega, by omega, ⟨by omega, by omega, by omega, hat, hs2, by rw [List.length_append, hlp, List.length_singleton]; omega, ?_⟩, (show ((m : Int) - (k2 + 1)).toNat < ((m : Int) - k2).toNat by omega)⟩
          rw [show m - k2.toNat = (m - (k2 + 1).toNat) + 1 by omega, ptsB, hk3, ← hn, hv] at hpt
          rw [knots_app, List.append_assoc, show (k2 + 1).toNat = k2.toNat + 1 by omega] at *
          exact hpt
        all_goals
          have hkm : k2.toNat = m := by omega
          refine ⟨by omega, fun n n0 n1 hn => ⟨by decide, fun s s0 s1 hs => ?_⟩⟩
          unfold tkwell_3
          simp only [VC, allC, List.map_cons, List.map_nil, List.length_cons, List.length_nil, List.getElem?_cons_zero, List.getElem?_cons_succ, List.cons.injEq, C.i.injEq, C.b.injEq, and_true, true_and, forall_const, kindsOf_nil, kindsOf_lf, kindsOf_agg, kindsOf_box, boxKinds_nil, boxKinds_lf, boxKinds_agg, boxKinds_box, List.append_nil, List.cons_append, List.nil_append, den_cmp_le, den_cmp_lt, den_cmp_eq, den_cmp_ne, den_cmp_le', den_cmp_lt', den_cmp_eq', den_cmp_ne', den_and, den_and', den_or, den_or', den_not, den_not', den_blit, den_of, ev_var, at_0, at_1, at_2, at_3, at_4, at_5, at_6, at_7, at_skip, c_int, c_bool, c_arr, c_cnt, c_vec, ev_nil, ev_join, ev_sub3, loc_s, int_i, bool_b, rows_s, cs_nil, cs_cons, E.den_lit, E.den_var, E.den_add, E.den_sub, E.den_mul, E.den_quo, E.den_rem, E.den_max, E.den_min, E.den_len, E.den_wr, E.den_cell, Nat.reduceAdd]
          have q0 : 0 ≤ s ∧ s ≤ 24 := by omega
          have e1 : rm.tdiv (4 + s) = rm / (4 + s) := Int.tdiv_eq_ediv_of_nonneg (by omega)
          have q1 : 0 ≤ rm / (4 + s) := Int.ediv_nonneg (by omega) (by omega)
          have q2 : rm / (4 + s) ≤ rm := Int.ediv_le_self _ (by omega)
          rw [e1]
          refine ⟨by omega, by omega, by omega, by omega, by omega, v7, rs2, _, v8, rp, _, _, _, ⟨rfl, rfl, rfl, rfl, rfl, rfl⟩, ?_⟩
          rw [hkm, Nat.sub_self, ptsB, List.append_nil] at hpt
          unfold wellB
          rw [hroom, halld, x3, x4, x5, x6, ← hs2, ← hmd, ← hpt, ← ew, ← el, ← hn, ← hs]
          rfl
end Go.Proofs.Ytmdmgpikbebejaa
/- Kill: sets of kicks of numbers. -/
namespace Go.Proofs.Ytmdmgpikbebejaa
open Go.RowKit
set_option linter.unusedSimpArgs false
set_option linter.unusedVariables false

theorem ints_app1 (rows : List (List C)) (a : Int) : ints (rows ++ [[.i a]]) = ints rows ++ [a] := by simp [ints, C.int]
set_option maxHeartbeats 1000000 in
theorem kkicks_ok : tab4.ok 25 := by
  refine Tab.of_ct rfl rfl ⟨_, Try.func25, by decide, rfl⟩ ?_ (fun h => by cases h)
  refine ct_ok (cx := ckkicks) (Tab.cx_ok (all_cons kwell_ok (all_cons pick_ok all_nil))) Try.func25 (bds := []) (T := tkkicks) (by kernel_rfl) ?_
  have h1 : ckkicks.ct 23 = some ctKWell := rfl
  have h2 : ckkicks.ct 47 = some ctPick := rfl
  unfold tkkicks
  simp only [VC, allC, List.map_cons, List.map_nil, List.length_cons, List.length_nil, List.getElem?_cons_zero, List.getElem?_cons_succ, List.cons.injEq, C.i.injEq, C.b.injEq, and_true, true_and, forall_const, kindsOf_nil, kindsOf_lf, kindsOf_agg, kindsOf_box, boxKinds_nil, boxKinds_lf, boxKinds_agg, boxKinds_box, List.append_nil, List.cons_append, List.nil_append, den_cmp_le, den_cmp_lt, den_cmp_eq, den_cmp_ne, den_cmp_le', den_cmp_lt', den_cmp_eq', den_cmp_ne', den_and, den_and', den_or, den_or', den_not, den_not', den_blit, den_of, ev_var, at_0, at_1, at_2, at_3, at_4, at_5, at_6, at_7, at_skip, c_int, c_bool, c_arr, c_cnt, c_vec, ev_nil, ev_join, ev_sub3, loc_s, int_i, bool_b, rows_s, cs_nil, cs_cons, E.den_lit, E.den_var, E.den_add, E.den_sub, E.den_mul, E.den_quo, E.den_rem, E.den_max, E.den_min, E.den_len, E.den_wr, E.den_cell, Nat.reduceAdd, h1, ctKWell, ctF, ctKKicks, boreSh, wellVSh, n_]
  intro u1 r1 _ _ _ u2 r2 _ _ _ we _ _ li _ _ pi _ _ st _ _ ki _ _ kl _ _ ma _ _ er _ _ u3 r3 _ _ _ u4 r4 _ _ _
  obtain ⟨x, hx⟩ : ∃ x, x = brOf [C.s u1 r1, C.s u2 r2, C.i we, C.i li, C.i pi, C.i st, C.i ki, C.i kl, C.i ma, C.i er, C.s u3 r3, C.s u4 r4] 0 := ⟨_, rfl⟩
  rw [← hx]
  have x1 : x.vols = ints r3 := by rw [hx]; rfl
  have x2 : x.pores = ints r4 := by rw [hx]; rfl
  clear hx
  have l1 := ints_len r3
  have l2 := ints_len r4
  rw [← x1] at l1
  rw [← x2] at l2
  refine ⟨bds_nil _, ?_⟩
  rintro v1 rows _ _ _ w _ _ v2 rows2 _ _ _ _ _ _ _ _ _ _ _ _ ⟨_, _, _, _, _, _, _, _, -, hw⟩
  have hS : segsOf rows = segsB x := congrArg Wl.segs hw
  have hwt : w = 10000 + x.weight % 6001 := congrArg Wl.weight hw
  clear hw
  unfold tkkicks_3
  simp only [VC, allC, List.map_cons, List.map_nil, List.length_cons, List.length_nil, List.getElem?_cons_zero, List.getElem?_cons_succ, List.cons.injEq, C.i.injEq, C.b.injEq, and_true, true_and, forall_const, kindsOf_nil, kindsOf_lf, kindsOf_agg, kindsOf_box, boxKinds_nil, boxKinds_lf, boxKinds_agg, boxKinds_box, List.append_nil, List.cons_append, List.nil_append, den_cmp_le, den_cmp_lt, den_cmp_eq, den_cmp_ne, den_cmp_le', den_cmp_lt', den_cmp_eq', den_cmp_ne', den_and, den_and', den_or, den_or', den_not, den_not', den_blit, den_of, ev_var, at_0, at_1, at_2, at_3, at_4, at_5, at_6, at_7, at_skip, c_int, c_bool, c_arr, c_cnt, c_vec, ev_nil, ev_join, ev_sub3, loc_s, int_i, bool_b, rows_s, cs_nil, cs_cons, E.den_lit, E.den_var, E.den_add, E.den_sub, E.den_mul, E.den_quo, E.den_rem, E.den_max, E.den_min, E.den_len, E.den_wr, E.den_cell, Nat.reduceAdd, h2, ctPick, ctF, n_, l_, ev_cell, sr_at]
  have hL : (rows.length : Int) = (segsB x).length := by rw [← hS, segs_len]
  obtain ⟨bx1, bx2, bx3, bx4⟩ := segsB_box x
  have hp := mul_box (a := w) (b := riseV (segsB x)) (A := 16000) (B := 330000) (by omega) (by omega) (by omega) (by omega)
  rw [hS, hL]
  refine ⟨fun xs => match xs with | [.i a, .i k] => 0 ≤ k ∧ k ≤ (segsB x).length ∧ a = riseK (segsB x) k.toNat | _ => False, fun xs => match xs with | [_, .i k] => (((segsB x).length : Int) - k).toNat | _ => 0, ⟨by omega, by omega, rfl⟩, ?_⟩
  rintro al _ _ k _ _ ⟨k0, k1, rfl⟩
  have hk2 := riseK_box (segsB_hole x) (k.toNat + 1)
  refine ⟨fun hlt => ?_, fun hge2 => ?_⟩
  · rw [riseK_succ (show k.toNat < (segsB x).length by omega)] at hk2
    exact ⟨k0, hlt, by omega, by omega, ⟨by omega, by omega, by rw [show (k + 1).toNat = k.toNat + 1 by omega, riseK_succ (show k.toNat < (segsB x).length by omega)]⟩, (show (((segsB x).length : Int) - (k + 1)).toNat < (((segsB x).length : Int) - k).toNat by omega)⟩
  · have hall : riseK (segsB x) k.toNat = riseV (segsB x) := by unfold riseK; rw [List.take_of_length_le (by omega)]
    rw [hall]
    have hm1 : (many x.vols : Int) = max 1 (min (r3.length : Int) 3) := by unfold many; omega
    have hm2 : (many x.pores : Int) = max 1 (min (r4.length : Int) 3) := by unfold many; omega
    have hb1 := many_box x.vols
    have hb2 := many_box x.pores
    refine ⟨by omega, fun xs => match xs with | [.s _ rs, .i v, .i i] => 0 ≤ i ∧ i ≤ many x.vols ∧ rs.length = i.toNat ∧ 0 ≤ v ∧ v ≤ 2000000 * i ∧ ints rs ++ runB x.vols 2000000 (many x.vols - i.toNat) i.toNat v = volsB x | _ => False, fun xs => match xs with | [_, _, .i i] => ((many x.vols : Int) - i).toNat | _ => 0, ⟨by omega, by omega, rfl, by omega, by omega, rfl⟩, ?_⟩
    rintro v5 rs _ _ _ v _ _ i _ _ ⟨i0, i1, hl, w0, w1, hI⟩
    refine ⟨fun hlt => ⟨by omega, i0, fun n n0 n1 hn => ?_⟩, fun hge => ⟨by omega, ?_⟩⟩
    · rw [← x1] at hn
      have hb := pickV_box x.vols i
      rw [← hn] at hb
      have e1 : n.tmod 2000000 = n % 2000000 := Int.tmod_eq_emod_of_nonneg hb.1
      unfold tkkicks_1
      simp only [VC, allC, List.map_cons, List.map_nil, List.length_cons, List.length_nil, List.getElem?_cons_zero, List.getElem?_cons_succ, List.cons.injEq, C.i.injEq, C.b.injEq, and_true, true_and, forall_const, kindsOf_nil, kindsOf_lf, kindsOf_agg, kindsOf_box, boxKinds_nil, boxKinds_lf, boxKinds_agg, boxKinds_box, List.append_nil, List.cons_append, List.nil_append, den_cmp_le, den_cmp_lt, den_cmp_eq, den_cmp_ne, den_cmp_le', den_cmp_lt', den_cmp_eq', den_cmp_ne', den_and, den_and', den_or, den_or', den_not, den_not', den_blit, den_of, ev_var, at_0, at_1, at_2, at_3, at_4, at_5, at_6, at_7, at_skip, c_int, c_bool, c_arr, c_cnt, c_vec, ev_nil, ev_join, ev_sub3, loc_s, int_i, bool_b, rows_s, cs_nil, cs_cons, E.den_lit, E.den_var, E.den_add, E.den_sub, E.den_mul, E.den_quo, E.den_rem, E.den_max, E.den_min, E.den_len, E.den_wr, E.den_cell, Nat.reduceAdd]
      rw [e1]
      refine ⟨by omega, by omega, by rw [hl]; push_cast; omega, by omega, ⟨by omega, by omega, by rw [List.length_append, hl, List.length_singleton]; omega, by omega, by omega, ?_⟩, (show ((many x.vols : Int) - (i + 1)).toNat < ((many x.vols : Int) - i).toNat by omega)⟩
      rw [show many x.vols - i.toNat = (many x.vols - (i + 1).toNat) + 1 by omega, runB, show ((i.toNat : Nat) : Int) = i by omega, ← hn] at hI
      rw [ints_app1, List.append_assoc, show (i + 1).toNat = i.toNat + 1 by omega] at *
      exact hI
    · refine ⟨fun xs => match xs with | [.s _ rs, .i v, .i i] => 0 ≤ i ∧ i ≤ many x.pores ∧ rs.length = i.toNat ∧ 0 ≤ v ∧ v ≤ 5280000000 + 60000000 * i ∧ ints rs ++ runB x.pores 60000000 (many x.pores - i.toNat) i.toNat v = poresB x | _ => False, fun xs => match xs with | [_, _, .i i] => ((many x.pores : Int) - i).toNat | _ => 0, ⟨by omega, by omega, rfl, by omega, by omega, by rw [hwt]; rfl⟩, ?_⟩
      rintro v6 rs2 _ _ _ v' _ _ i' _ _ ⟨i0', i1', hl', w0', w1', hI'⟩
      refine ⟨fun hlt => ⟨by omega, i0', fun n n0 n1 hn => ?_⟩, fun hge' => ?_⟩
      · rw [← x2] at hn
        have hb := pickV_box x.pores i'
        rw [← hn] at hb
        have e1 : n.tmod 60000000 = n % 60000000 := Int.tmod_eq_emod_of_nonneg hb.1
        unfold tkkicks_2
        simp only [VC, allC, List.map_cons, List.map_nil, List.length_cons, List.length_nil, List.getElem?_cons_zero, List.getElem?_cons_succ, List.cons.injEq, C.i.injEq, C.b.injEq, and_true, true_and, forall_const, kindsOf_nil, kindsOf_lf, kindsOf_agg, kindsOf_box, boxKinds_nil, boxKinds_lf, boxKinds_agg, boxKinds_box, List.append_nil, List.cons_append, List.nil_append, den_cmp_le, den_cmp_lt, den_cmp_eq, den_cmp_ne, den_cmp_le', den_cmp_lt', den_cmp_eq', den_cmp_ne', den_and, den_and', den_or, den_or', den_not, den_not', den_blit, den_of, ev_var, at_0, at_1, at_2, at_3, at_4, at_5, at_6, at_7, at_skip, c_int, c_bool, c_arr, c_cnt, c_vec, ev_nil, ev_join, ev_sub3, loc_s, int_i, bool_b, rows_s, cs_nil, cs_cons, E.den_lit, E.den_var, E.den_add, E.den_sub, E.den_mul, E.den_quo, E.den_rem, E.den_max, E.den_min, E.den_len, E.den_wr, E.den_cell, Nat.reduceAdd]
        rw [e1]
        refine ⟨by omega, by omega, by rw [hl']; push_cast; omega, by omega, ⟨by omega, by omega, by rw [List.length_append, hl', List.length_singleton]; omega, by omega, by omega, ?_⟩, (show ((many x.pores : Int) - (i' + 1)).toNat < ((many x.pores : Int) - i').toNat by omega)⟩
        rw [show many x.pores - i'.toNat = (many x.pores - (i' + 1).toNat) + 1 by omega, runB, show ((i'.toNat : Nat) : Int) = i' by omega, ← hn] at hI'
        rw [ints_app1, List.append_assoc, show (i' + 1).toNat = i'.toNat + 1 by omega] at *
        exact hI'
      · rw [show i.toNat = many x.vols by omega, Nat.sub_self, runB, List.append_nil] at hI
        rw [show i'.toNat = many x.pores by omega, Nat.sub_self, runB, List.append_nil] at hI'
        exact ⟨v5, rs, v6, rs2, ⟨rfl, rfl⟩, hI, hI'⟩
end Go.Proofs.Ytmdmgpikbebejaa
/- Kill: what was pumped lies in the pipe; more gas: the laws. -/
namespace Go.Proofs.Ytmdmgpikbebejaa
open Go.RowKit
set_option linter.unusedSimpArgs false
set_option linter.unusedVariables false

/-- The first kick of a set of numbers. -/
theorem kick_first {x : Br} {l1 l2 : List Int} (h1 : l1 = volsB x) (h2 : l2 = poresB x) : (1 ≤ l1.getD 0 0 ∧ l1.getD 0 0 ≤ 6000000) ∧ 1 ≤ l2.getD 0 0 ∧ l2.getD 0 0 ≤ 5460000000 := by
  have a := many_box x.vols
  have b := many_box x.pores
  rw [← volsB_len] at a
  rw [← poresB_len] at b
  subst h1 h2
  exact ⟨volsB_box x _ (getD_mem (by omega) 0), poresB_box x _ (getD_mem (by omega) 0)⟩
theorem atE_zero {j : Jb} {s e : Int} (hj : jobV j = 0) (h : 0 ≤ s ∧ s ≤ 400 ∧ -1 ≤ e ∧ e ≤ 1) : atE j s e = 0 ∧ atMo j s e = momentV j s e := by
  unfold atE atMo
  rw [if_pos hj, if_pos h, if_pos ⟨hj, h⟩]
  exact ⟨rfl, rfl⟩
end Go.Proofs.Ytmdmgpikbebejaa
/- Kill: more gas: the law. -/
namespace Go.Proofs.Ytmdmgpikbebejaa
open Go.RowKit
set_option linter.unusedSimpArgs false
set_option linter.unusedVariables false

theorem lmore_ok : CtOK Try.prog 5 (ctLaw [boreSh, .lf .int, .lf .int, .lf .int]) := by
  refine ct_ok (cx := clmore) (Tab.cx_ok (all_cons kwell_ok (all_cons kprog_ok (all_cons kkicks_ok (all_cons mod_ok (all_cons mod64_ok (all_cons (up4_ok kat_ok) (all_cons (up4_ok (up3_ok volm_ok)) (all_cons awake_ok all_nil))))))))) Try.func5 (bds := []) (T := tlmore) (by kernel_rfl) ?_
  have h1 : clmore.ct 23 = some ctKWell := rfl
  have h2 : clmore.ct 24 = some ctKProg := rfl
  have h3 : clmore.ct 25 = some ctKKicks := rfl
  have h4 : clmore.ct 26 = some ctMod := rfl
  have h4' : clmore.ct 29 = some ctMod := rfl
  have h5 : clmore.ct 27 = some ctAtK := rfl
  have h6 : clmore.ct 30 = some ctVol := rfl
  have h7 : clmore.ct 14 = some ctAwake := rfl
  unfold tlmore
  simp only [VC, allC, List.map_cons, List.map_nil, List.length_cons, List.length_nil, List.getElem?_cons_zero, List.getElem?_cons_succ, List.cons.injEq, C.i.injEq, C.b.injEq, and_true, true_and, forall_const, kindsOf_nil, kindsOf_lf, kindsOf_agg, kindsOf_box, boxKinds_nil, boxKinds_lf, boxKinds_agg, boxKinds_box, List.append_nil, List.cons_append, List.nil_append, den_cmp_le, den_cmp_lt, den_cmp_eq, den_cmp_ne, den_cmp_le', den_cmp_lt', den_cmp_eq', den_cmp_ne', den_and, den_and', den_or, den_or', den_not, den_not', den_blit, den_of, ev_var, at_0, at_1, at_2, at_3, at_4, at_5, at_6, at_7, at_skip, c_int, c_bool, c_arr, c_cnt, c_vec, ev_nil, ev_join, ev_sub3, loc_s, int_i, bool_b, rows_s, cs_nil, cs_cons, E.den_lit, E.den_var, E.den_add, E.den_sub, E.den_mul, E.den_quo, E.den_rem, E.den_max, E.den_min, E.den_len, E.den_wr, E.den_cell, Nat.reduceAdd, h4, ctMod, ctLaw, ctF, boreSh, n_]
  intro u1 r1 _ _ _ u2 r2 _ _ _ we _ _ li _ _ pi _ _ st _ _ ki _ _ kl _ _ ma _ _ er _ _ u3 r3 _ _ _ u4 r4 _ _ _ mo _ _ s _ _ e _ _
  refine ⟨bds_nil _, by decide, fun ki' _ _ eki => ?_⟩
  obtain ⟨x, hx⟩ : ∃ x, x = brOf [C.s u1 r1, C.s u2 r2, C.i we, C.i li, C.i pi, C.i st, C.i ki', C.i kl, C.i ma, C.i er, C.s u3 r3, C.s u4 r4] 0 := ⟨_, rfl⟩
  unfold tlmore_6
  simp only [VC, allC, List.map_cons, List.map_nil, List.length_cons, List.length_nil, List.getElem?_cons_zero, List.getElem?_cons_succ, List.cons.injEq, C.i.injEq, C.b.injEq, and_true, true_and, forall_const, kindsOf_nil, kindsOf_lf, kindsOf_agg, kindsOf_box, boxKinds_nil, boxKinds_lf, boxKinds_agg, boxKinds_box, List.append_nil, List.cons_append, List.nil_append, den_cmp_le, den_cmp_lt, den_cmp_eq, den_cmp_ne, den_cmp_le', den_cmp_lt', den_cmp_eq', den_cmp_ne', den_and, den_and', den_or, den_or', den_not, den_not', den_blit, den_of, ev_var, at_0, at_1, at_2, at_3, at_4, at_5, at_6, at_7, at_skip, c_int, c_bool, c_arr, c_cnt, c_vec, ev_nil, ev_join, ev_sub3, loc_s, int_i, bool_b, rows_s, cs_nil, cs_cons, E.den_lit, E.den_var, E.den_add, E.den_sub, E.den_mul, E.den_quo, E.den_rem, E.den_max, E.den_min, E.den_len, E.den_wr, E.den_cell, Nat.reduceAdd, h1, h2, h3, h4', ctKWell, ctKProg, ctKKicks, ctMod, ctLaw, ctF, boreSh, wellVSh, n_, ev_cell, in1]
  rw [← hx]
  have xk : x.kind = ki' := by rw [hx]; rfl
  refine ⟨fun xs => wellOf xs 0 = wellB x ∧ progOf xs 6 = progB x, ?_, ?_⟩
  · rintro v1 ro1 _ _ _ w _ _ v2 ro2 _ _ _ li2 _ _ pi2 _ _ st2 _ _ ⟨_, _, _, _, _, _, _, _, -, hw⟩
    unfold tlmore_1
    simp only [VC, allC, List.map_cons, List.map_nil, List.length_cons, List.length_nil, List.getElem?_cons_zero, List.getElem?_cons_succ, List.cons.injEq, C.i.injEq, C.b.injEq, and_true, true_and, forall_const, kindsOf_nil, kindsOf_lf, kindsOf_agg, kindsOf_box, boxKinds_nil, boxKinds_lf, boxKinds_agg, boxKinds_box, List.append_nil, List.cons_append, List.nil_append, den_cmp_le, den_cmp_lt, den_cmp_eq, den_cmp_ne, den_cmp_le', den_cmp_lt', den_cmp_eq', den_cmp_ne', den_and, den_and', den_or, den_or', den_not, den_not', den_blit, den_of, ev_var, at_0, at_1, at_2, at_3, at_4, at_5, at_6, at_7, at_skip, c_int, c_bool, c_arr, c_cnt, c_vec, ev_nil, ev_join, ev_sub3, loc_s, int_i, bool_b, rows_s, cs_nil, cs_cons, E.den_lit, E.den_var, E.den_add, E.den_sub, E.den_mul, E.den_quo, E.den_rem, E.den_max, E.den_min, E.den_len, E.den_wr, E.den_cell, Nat.reduceAdd, h2, ctKProg, boreSh, progSh, ctF, n_, pgC]
    rw [← hx]
    rintro k1 _ _ k2 _ _ k3 _ _ k4 _ _ ⟨e1, e2, e3, e4⟩
    refine ⟨hw, ?_⟩
    show Pg.mk k1 k2 k3 k4 = _
    rw [e1, e2, e3, e4]
  · rintro v1 ro1 _ _ _ w _ _ v2 ro2 _ _ _ li2 _ _ pi2 _ _ st2 _ _ k1 _ _ k2 _ _ k3 _ _ k4 _ _ ⟨hw, hp⟩ v3 ro3 _ _ _ v4 ro4 _ _ _ ⟨_, _, _, _, ⟨q1, q2⟩, hv, hr⟩
    cases q1; cases q2
    have lv : ro3.length = (volsB x).length := by rw [← hv, ints_len]
    have lr : ro4.length = (poresB x).length := by rw [← hr, ints_len]
    have lv2 := many_box x.vols
    have lr2 := many_box x.pores
    rw [← volsB_len] at lv2
    rw [← poresB_len] at lr2
    have hw0 : wellV ⟨segsOf ro1, w, knots ro2, li2, pi2, st2⟩ = 0 := by rw [show (⟨segsOf ro1, w, knots ro2, li2, pi2, st2⟩ : Wl) = wellB x from hw]; exact wellB_ok x
    have hp0 : progV ⟨k1, k2, k3, k4⟩ = 0 := by rw [show (⟨k1, k2, k3, k4⟩ : Pg) = progB x from hp]; exact progB_ok x
    have hk1 : k1 = 1 + ki' % 3 := by rw [← xk]; exact congrArg Pg.kind hp
    have hk := kick_first hv hr
    obtain ⟨w1, w2, w3, w4, w5, w6, w7⟩ := wellV_ok hw0
    have hroom := vol_le w1
    refine ⟨by omega, by omega, by decide, fun d _ _ ed => ?_⟩
    have bd : 0 ≤ d ∧ d ≤ 999999 := by omega
    unfold tlmore_5
    simp only [VC, allC, List.map_cons, List.map_nil, List.length_cons, List.length_nil, List.getElem?_cons_zero, List.getElem?_cons_succ, List.cons.injEq, C.i.injEq, C.b.injEq, and_true, true_and, forall_const, kindsOf_nil, kindsOf_lf, kindsOf_agg, kindsOf_box, boxKinds_nil, boxKinds_lf, boxKinds_agg, boxKinds_box, List.append_nil, List.cons_append, List.nil_append, den_cmp_le, den_cmp_lt, den_cmp_eq, den_cmp_ne, den_cmp_le', den_cmp_lt', den_cmp_eq', den_cmp_ne', den_and, den_and', den_or, den_or', den_not, den_not', den_blit, den_of, ev_var, at_0, at_1, at_2, at_3, at_4, at_5, at_6, at_7, at_skip, c_int, c_bool, c_arr, c_cnt, c_vec, ev_nil, ev_join, ev_sub3, loc_s, int_i, bool_b, rows_s, cs_nil, cs_cons, E.den_lit, E.den_var, E.den_add, E.den_sub, E.den_mul, E.den_quo, E.den_rem, E.den_max, E.den_min, E.den_len, E.den_wr, E.den_cell, Nat.reduceAdd, h4, ctMod, ctF, n_, ev_cell, in1, Int.toNat_zero]
    refine ⟨by omega, by decide, fun s2 _ _ es => ⟨by decide, fun e2 _ _ ee => ?_⟩⟩
    have bs : 0 ≤ s2 ∧ s2 ≤ 29 := by omega
    have be : 0 ≤ e2 ∧ e2 ≤ 2 := by omega
    obtain ⟨W, hW⟩ : ∃ W : Wl, W = ⟨segsOf ro1, w, knots ro2, li2, pi2, st2⟩ := ⟨_, rfl⟩
    obtain ⟨G, hG⟩ : ∃ G : Pg, G = ⟨k1, k2, k3, k4⟩ := ⟨_, rfl⟩
    obtain ⟨vo, hvo⟩ : ∃ v, v = (ints ro3).getD 0 0 := ⟨_, rfl⟩
    obtain ⟨po, hpo⟩ : ∃ v, v = (ints ro4).getD 0 0 := ⟨_, rfl⟩
    rw [← hvo, ← hpo] at hk
    have hj : ∀ d, 0 ≤ d ∧ d ≤ 999999 → jobV ⟨W, G, ⟨vo + d, po⟩⟩ = 0 := fun a ha => jobV_iff.2 ⟨by rw [hW]; exact hw0, by rw [hG]; exact hp0, kickB_ok (by omega) (by omega)⟩
    have hj0 : jobV ⟨W, G, ⟨vo, po⟩⟩ = 0 := jobV_iff.2 ⟨by rw [hW]; exact hw0, by rw [hG]; exact hp0, kickB_ok (by omega) (by omega)⟩
    have e1 := atE_zero (s := s2) (e := e2 - 1) hj0 (by omega)
    have e2' := atE_zero (s := s2) (e := e2 - 1) (hj d bd) (by omega)
    have law := more_law (w := W) (p := G) (v := vo) (d := d) (r := po) (by rw [hW]; exact w1) (by rw [hW]; exact w2.1) (by omega) bd.1 (by omega) (by rw [hG]; show k1 ≠ 3; omega) s2 (e2 - 1)
    have hlen : W.points.length = ro2.length := by rw [hW]; exact knots_len2 ro2
    unfold tlmore_4
    simp only [VC, allC, List.map_cons, List.map_nil, List.length_cons, List.length_nil, List.getElem?_cons_zero, List.getElem?_cons_succ, List.cons.injEq, C.i.injEq, C.b.injEq, and_true, true_and, forall_const, kindsOf_nil, kindsOf_lf, kindsOf_agg, kindsOf_box, boxKinds_nil, boxKinds_lf, boxKinds_agg, boxKinds_box, List.append_nil, List.cons_append, List.nil_append, den_cmp_le, den_cmp_lt, den_cmp_eq, den_cmp_ne, den_cmp_le', den_cmp_lt', den_cmp_eq', den_cmp_ne', den_and, den_and', den_or, den_or', den_not, den_not', den_blit, den_of, ev_var, at_0, at_1, at_2, at_3, at_4, at_5, at_6, at_7, at_skip, c_int, c_bool, c_arr, c_cnt, c_vec, ev_nil, ev_join, ev_sub3, loc_s, int_i, bool_b, rows_s, cs_nil, cs_cons, E.den_lit, E.den_var, E.den_add, E.den_sub, E.den_mul, E.den_quo, E.den_rem, E.den_max, E.den_min, E.den_len, E.den_wr, E.den_cell, Nat.reduceAdd, h5, ctAtK, wellSh, wellKs, progSh, bubSh, momSh, momKs, n_, ev_cell, in1]
    refine ⟨by omega, by omega, ?_⟩
    rintro a1 _ _ a2 _ _ a3 _ _ a4 _ _ a5 _ _ a6 _ _ a7 _ _ va ra _ _ _ ea _ _ hA
    have hA := at_inv (x := atMo ⟨⟨segsOf ro1, w, knots ro2, li2, pi2, st2⟩, ⟨k1, k2, k3, k4⟩, ⟨(ints ro3).getD 0 0, (ints ro4).getD 0 0⟩⟩ s2 (e2 - 1)) (E := atE ⟨⟨segsOf ro1, w, knots ro2, li2, pi2, st2⟩, ⟨k1, k2, k3, k4⟩, ⟨(ints ro3).getD 0 0, (ints ro4).getD 0 0⟩⟩ s2 (e2 - 1)) hA
    rw [← hW, ← hG, ← hvo, ← hpo, e1.1, e1.2] at hA
    unfold tlmore_3
    simp only [VC, allC, List.map_cons, List.map_nil, List.length_cons, List.length_nil, List.getElem?_cons_zero, List.getElem?_cons_succ, List.cons.injEq, C.i.injEq, C.b.injEq, and_true, true_and, forall_const, kindsOf_nil, kindsOf_lf, kindsOf_agg, kindsOf_box, boxKinds_nil, boxKinds_lf, boxKinds_agg, boxKinds_box, List.append_nil, List.cons_append, List.nil_append, den_cmp_le, den_cmp_lt, den_cmp_eq, den_cmp_ne, den_cmp_le', den_cmp_lt', den_cmp_eq', den_cmp_ne', den_and, den_and', den_or, den_or', den_not, den_not', den_blit, den_of, ev_var, at_0, at_1, at_2, at_3, at_4, at_5, at_6, at_7, at_skip, c_int, c_bool, c_arr, c_cnt, c_vec, ev_nil, ev_join, ev_sub3, loc_s, int_i, bool_b, rows_s, cs_nil, cs_cons, E.den_lit, E.den_var, E.den_add, E.den_sub, E.den_mul, E.den_quo, E.den_rem, E.den_max, E.den_min, E.den_len, E.den_wr, E.den_cell, Nat.reduceAdd, h5, ctAtK, wellSh, wellKs, progSh, bubSh, momSh, momKs, n_, ev_cell, in1, Int.toNat_zero]
    rw [← hvo]
    refine ⟨by omega, by omega, ?_⟩
    rintro b1 _ _ b2 _ _ b3 _ _ b4 _ _ b5 _ _ b6 _ _ b7 _ _ vb rb _ _ _ eb _ _ hB
    have hB := at_inv (x := atMo ⟨⟨segsOf ro1, w, knots ro2, li2, pi2, st2⟩, ⟨k1, k2, k3, k4⟩, ⟨vo + d, (ints ro4).getD 0 0⟩⟩ s2 (e2 - 1)) (E := atE ⟨⟨segsOf ro1, w, knots ro2, li2, pi2, st2⟩, ⟨k1, k2, k3, k4⟩, ⟨vo + d, (ints ro4).getD 0 0⟩⟩ s2 (e2 - 1)) hB
    rw [← hW, ← hG, ← hpo, e2'.1, e2'.2] at hB
    generalize momentV ⟨W, G, ⟨vo, po⟩⟩ s2 (e2 - 1) = A at *
    generalize momentV ⟨W, G, ⟨vo + d, po⟩⟩ s2 (e2 - 1) = B at *
    obtain ⟨l1, l2, l3, l4, l5⟩ := law
    obtain ⟨⟨p1, p2, p3, p4, p5, p6, p7, p8⟩, p9⟩ := hA
    obtain ⟨⟨q1, q2, q3, q4, q5, q6, q7, q8⟩, q9⟩ := hB
    have lra : ra.length = ro2.length := by rw [← knots_len2, p8, l2, hlen]
    have lrb : rb.length = ro2.length := by rw [← knots_len2, q8, l3, hlen]
    unfold tlmore_2
    simp only [VC, allC, List.map_cons, List.map_nil, List.length_cons, List.length_nil, List.getElem?_cons_zero, List.getElem?_cons_succ, List.cons.injEq, C.i.injEq, C.b.injEq, and_true, true_and, forall_const, kindsOf_nil, kindsOf_lf, kindsOf_agg, kindsOf_box, boxKinds_nil, boxKinds_lf, boxKinds_agg, boxKinds_box, List.append_nil, List.cons_append, List.nil_append, den_cmp_le, den_cmp_lt, den_cmp_eq, den_cmp_ne, den_cmp_le', den_cmp_lt', den_cmp_eq', den_cmp_ne', den_and, den_and', den_or, den_or', den_not, den_not', den_blit, den_of, ev_var, at_0, at_1, at_2, at_3, at_4, at_5, at_6, at_7, at_skip, c_int, c_bool, c_arr, c_cnt, c_vec, ev_nil, ev_join, ev_sub3, loc_s, int_i, bool_b, rows_s, cs_nil, cs_cons, E.den_lit, E.den_var, E.den_add, E.den_sub, E.den_mul, E.den_quo, E.den_rem, E.den_max, E.den_min, E.den_len, E.den_wr, E.den_cell, Nat.reduceAdd, h6, h7, ctVol, ctAwake, holeSh, ctF, n_, s_, ev_cell, kn1, kn2]
    rw [l1] at p4 p5
    refine ⟨fun h => absurd p9 h, fun _ => ⟨fun h => absurd q9 h, fun _ => ⟨fun h => by omega, fun _ => ⟨fun h => by omega, fun _ => ⟨fun h => by omega, fun _ => ⟨fun h => by omega, fun _ => ⟨fun h => by omega, fun _ => ?_⟩⟩⟩⟩⟩⟩⟩
    refine ⟨fun xs => match xs with | [_, .i n] => 0 ≤ n ∧ n ≤ ra.length | _ => False, fun xs => match xs with | [_, .i n] => ((ra.length : Int) - n).toNat | _ => 0, ⟨by omega, by omega⟩, ?_⟩
    rintro t n _ _ ⟨n0, n1⟩
    rw [p8, q8]
    refine ⟨fun hlt => ?_, fun hge => ?_⟩
    · have := l5 n.toNat (by omega)
      refine ⟨n0, by omega, hlt, fun h => by omega, fun _ => ⟨by omega, hlt, fun h => by omega, fun _ => ⟨⟨by omega, by omega⟩, ?_⟩⟩⟩
      show ((ra.length : Int) - (n + 1)).toNat < ((ra.length : Int) - n).toNat; omega
    · intro rm _ _ hrm
      rw [roomS_yes w1] at hrm
      exact ⟨fun _ t h => h, fun h => by omega⟩
end Go.Proofs.Ytmdmgpikbebejaa
/- Arguments of any shape that the engine knows, opened: structs, and slices within slices. -/
namespace Go.Proofs.Ytmdmgpikbebejaa
open Go.ChangeShapes Go.WideShapes Go.RowKit
set_option linter.unusedVariables false
/-- A type of integers, truth values and slices, without arrays. -/
def flatB (P : Program) : Nat → TypeId → Bool
  | 0, _ => false
  | d + 1, t => match P.underlying t with
    | some (.int .i64) => true
    | some .bool => true
    | some (.slice _) => true
    | some (.struct fs) => fs.toList.all fun f => flatB P d f.type
    | _ => false
/-- What a slice of this kind holds is known, to depth n. -/
def deepB (P : Program) : Nat → Lk → Bool
  | _, .int => true
  | _, .bool => true
  | n + 1, .arr e => match kinds P e with
    | some ks => ks.all (deepB P n) && (P.cellsOf e == ks.length) && flatB P 6 e
    | none => false
  | _, _ => false
def CellN (P : Program) (w : World) (n : Nat) (k : Lk) (u : Value) (c : C) : Prop := (∀ m, c.small m) ∧ match k with
  | .int => ∃ n, u = .int .i64 n ∧ c = .i n
  | .bool => ∃ t, u = .bool t ∧ c = .b t
  | .arr t => ∃ rows', c = .s u rows' ∧ ArrN P (fun b _ => b < w.heap.size) w n t u rows'
  | .vec _ => False
def kStep (P : Program) (d : Nat) (acc : Option (List Lk)) (f : Field) : Option (List Lk) := match acc, kindsF P d f.type with
  | some l, some m => if l.length = f.offset then some (l ++ m) else none
  | _, _ => none
theorem kStep_none {P : Program} {d : Nat} : ∀ {fs : List Field}, fs.foldl (kStep P d) none = none
  | [] => rfl
  | f :: fs => by rw [List.foldl_cons]; exact kStep_none
theorem kStep_at {P : Program} {d : Nat} : ∀ {fs : List Field} {a ks : List Lk}, fs.foldl (kStep P d) (some a) = some ks → ∀ (j : Nat) (k : Lk), ks[j]? = some k →
    a[j]? = some k ∨ ∃ f ∈ fs, ∃ m, kindsF P d f.type = some m ∧ f.offset ≤ j ∧ m[j - f.offset]? = some k
  | [], a, ks, h, j, k, hj => by cases h; exact .inl hj
  | f :: fs, a, ks, h, j, k, hj => by
    rw [List.foldl_cons] at h
    cases hm : kindsF P d f.type with
    | none => rw [show kStep P d (some a) f = none by simp [kStep, hm], kStep_none] at h; cases h
    | some m =>
      by_cases hl : a.length = f.offset
      · rw [show kStep P d (some a) f = some (a ++ m) by simp [kStep, hm, hl]] at h
        rcases kStep_at h j k hj with h1 | ⟨g, hg, m', h2⟩
        · by_cases hja : j < a.length
          · rw [List.getElem?_append_left hja] at h1; exact .inl h1
          · rw [List.getElem?_append_right (by omega), hl] at h1
            exact .inr ⟨f, List.mem_cons_self .., m, hm, by omega, h1⟩
        · exact .inr ⟨g, List.mem_cons_of_mem _ hg, m', h2⟩
      · rw [show kStep P d (some a) f = none by simp [kStep, hm, hl], kStep_none] at h; cases h
theorem kinds_F {P : Program} {t : TypeId} {ks : List Lk} (h : kinds P t = some ks) : kindsF P 6 t = some ks := by
  unfold kinds at h
  split at h
  · rename_i l hl
    split at h
    · cases h; exact hl
    · cases h
  · cases h
section
variable {H : Type} {enc : TypeId × Value → H} {P : Program} {w : World} {base : Nat} {spare : Nat → Bool} {held : Bool}
theorem small_int {n : Int} (h : -9223372036854775808 ≤ n ∧ n ≤ 9223372036854775807) : ∀ m, (C.i n).small m := fun m => by cases m <;> exact h
theorem cells_deep : ∀ (fuel n d : Nat) (t : TypeId) (ks : List Lk) (cs : List Value) (x : DataW H × List MemPlace), kindsF P d t = some ks → flatB P d t = true →
    DataW.trod enc P w base spare held fuel t cs = some x → ∀ (j : Nat) (k : Lk), ks[j]? = some k → deepB P n k = true → ∃ u c, cs[j]? = some u ∧ CellN P w n k u c := by
  intro fuel
  induction fuel with
  | zero => intro n d t ks cs x _ _ hx; simp [DataW.trod] at hx
  | succ fuel ih =>
    intro n d t ks cs x hk hfl hx j k hj hall
    cases d with
    | zero => simp [kindsF] at hk
    | succ d =>
      unfold flatB at hfl
      cases hu : P.underlying t with
      | none => rw [hu] at hfl; cases hfl
      | some ty =>
      rw [hu] at hfl
      unfold kindsF at hk
      rw [hu] at hk
      match ty, hu, hfl, hk with
      | .int .i64, hu, hfl, hk =>
        cases hk
        obtain ⟨z, rfl, -, hwf⟩ := DataW.trod_int hu hx
        match j, hj with
        | 0, hj => cases hj; exact ⟨_, .i z, rfl, small_int (wf_bd hwf), z, rfl, rfl⟩
      | .bool, hu, hfl, hk =>
        cases hk
        obtain ⟨z, rfl, -⟩ := DataW.trod_bool hu hx
        match j, hj with
        | 0, hj => cases hj; exact ⟨_, .b z, rfl, fun m => by cases m <;> trivial, z, rfl, rfl⟩
      | .slice e, hu, hfl, hk =>
        cases hk
        match j, hj with
        | 0, hj =>
        cases hj
        cases n with
        | zero => simp [deepB] at hall
        | succ n =>
        have hd : deepB P (n + 1) (.arr e) = true := hall
        unfold deepB at hd
        cases hke : kinds P e with
        | none => rw [hke] at hd; cases hd
        | some kse =>
        rw [hke] at hd
        simp only [Bool.and_eq_true, beq_iff_eq] at hd
        obtain ⟨⟨hd1, hd2⟩, hd3⟩ := hd
        rcases DataW.trod_slice hu hx with ⟨rfl, -⟩ | ⟨a, len, cap, elems, rest, m, hm, rfl, -, -, hl, hc, hlen, hel, -, -⟩
        · refine ⟨_, .s (.slice none 0 0) [], rfl, fun m => ?_, [], rfl, kse, hke, none, 0, rfl, fun h => absurd rfl h⟩
          cases m with
          | zero => trivial
          | succ m => exact ⟨by simp, fun r hr => by cases hr⟩
        · cases hm
          have each : ∀ i, i < len → ∀ (j : Nat) (k : Lk), kse[j]? = some k → ∃ u c, w.cell? (a.add (i * kse.length + j)) = some u ∧ CellN P w n k u c := by
            intro i hi j k hj
            have h1 := hel i hi
            rw [List.getElem?_eq_getElem (by omega), hd2] at h1
            obtain ⟨cs', h2, h3⟩ := Option.bind_eq_some_iff.1 h1
            obtain ⟨_, hlen', hcell⟩ := World.cells?_some h2
            obtain ⟨u, c, h4, h5⟩ := ih n 6 e kse cs' _ (kinds_F hke) hd3 h3 j k hj (List.all_eq_true.1 hd1 k (List.mem_of_getElem? hj))
            refine ⟨u, c, ?_, h5⟩
            have hjl : j < kse.length := by
              rcases Nat.lt_or_ge j kse.length with h | h
              · exact h
              · rw [List.getElem?_eq_none h] at hj; cases hj
            rw [← h4, ← hcell j hjl, Go.Deep.add_add]
          have each2 : ∀ i j, ∃ c : C, i < len → ∀ k, kse[j]? = some k → ∃ u, w.cell? (a.add (i * kse.length + j)) = some u ∧ CellN P w n k u c := by
            intro i j
            by_cases hi : i < len
            · cases hj : kse[j]? with
              | none => exact ⟨.i 0, fun _ k h => by cases h⟩
              | some k =>
                obtain ⟨u, c, h1, h2⟩ := each i hi j k hj
                exact ⟨c, fun _ k' h => by cases h; exact ⟨u, h1, h2⟩⟩
            · exact ⟨.i 0, fun h => absurd h hi⟩
          let f : Nat → Nat → C := fun i j => (each2 i j).choose
          have hf : ∀ i j, i < len → ∀ k, kse[j]? = some k → ∃ u, w.cell? (a.add (i * kse.length + j)) = some u ∧ CellN P w n k u (f i j) := fun i j => (each2 i j).choose_spec
          let rows : List (List C) := (List.range len).map fun i => (List.range kse.length).map fun j => f i j
          have hrl : rows.length = len := by simp [rows]
          refine ⟨_, .s (.slice (some a) len cap) rows, rfl, fun q => ?_, rows, rfl, kse, hke, some a, cap, by rw [hrl], fun hne => ?_⟩
          · cases q with
            | zero => trivial
            | succ q =>
              refine ⟨by rw [hrl]; unfold maxLen at hc; omega, fun r hr c hcr => ?_⟩
              obtain ⟨i, hi, rfl⟩ := List.mem_map.1 hr
              obtain ⟨j, hj, rfl⟩ := List.mem_map.1 hcr
              rw [List.mem_range] at hi hj
              obtain ⟨u, -, h⟩ := hf i j hi _ (List.getElem?_eq_getElem hj)
              exact h.1 q
          · have hpos : 0 < len := by
              rcases Nat.eq_zero_or_pos len with h | h
              · exact absurd (List.eq_nil_of_length_eq_zero (by rw [hrl]; exact h)) hne
              · exact h
            have hk0 : 0 < kse.length := Nat.pos_of_ne_zero (kinds_size hke).2
            obtain ⟨u0, h0, -⟩ := hf 0 0 hpos _ (List.getElem?_eq_getElem hk0)
            obtain ⟨b, o, s⟩ := a
            have hs : s = none := by simpa [Addr.add] using World.cell?_spot h0
            subst hs
            have hblk : b < w.heap.size := by
              have := World.block_lt_of_cell? _ _ h0
              simpa [Addr.add] using this
            refine ⟨b, o, rfl, by rw [hrl]; exact hl, fun i r hi => ?_⟩
            have hi' : i < len := by
              rcases Nat.lt_or_ge i len with h | h
              · exact h
              · rw [List.getElem?_eq_none (by rw [hrl]; exact h)] at hi; cases hi
            have hr : r = (List.range kse.length).map fun j => f i j := by
              simp only [rows, List.getElem?_map, List.getElem?_range hi', Option.map_some] at hi
              exact (Option.some.inj hi).symm
            subst hr
            refine ⟨by simp, fun j k hj => ⟨hblk, ?_⟩⟩
            have hjl : j < kse.length := by
              rcases Nat.lt_or_ge j kse.length with h | h
              · exact h
              · rw [List.getElem?_eq_none h] at hj; cases hj
            obtain ⟨u, h1, h2⟩ := hf i j hi' k hj
            refine ⟨u, f i j, by rw [← Go.WideShapes.add_plain]; exact h1, by simp [List.getElem?_range hjl], ?_⟩
            exact h2.2
      | .struct fs, hu, hfl, hk =>
        obtain ⟨xs, m, hm, -, -, hxl, hf⟩ := DataW.trod_struct hu hx
        cases hm
        have hk' : fs.toList.foldl (kStep P d) (some []) = some ks := hk
        rcases kStep_at hk' j k hj with h | ⟨f, hfm, m', hm', ho, hmj⟩
        · simp at h
        · obtain ⟨i, hi⟩ := List.mem_iff_getElem?.1 hfm
          have hi' : fs[i]? = some f := by rw [← hi]; simp
          have hil : i < xs.length := by
            rw [hxl]
            rcases Nat.lt_or_ge i fs.size with h | h
            · exact h
            · rw [Array.getElem?_eq_none h] at hi'; cases hi'
          have hg := hf i f hi'
          rw [List.getElem?_eq_getElem hil] at hg
          obtain ⟨u, c, h1, h2⟩ := ih n d f.type m' _ _ hm' (List.all_eq_true.1 hfl f hfm) hg (j - f.offset) k hmj hall
          refine ⟨u, c, ?_, h2⟩
          rw [List.getElem?_take] at h1
          split at h1
          · rw [List.getElem?_drop] at h1
            rw [← h1]; congr 1; omega
          · cases h1
theorem CellN.rep {n : Nat} {k : Lk} {u : Value} {c : C} (h : CellN P w n k u c) : LRep P w (fun _ _ => False) k u c := by
  refine ⟨h.1, ?_⟩
  cases k with
  | int => exact h.2
  | bool => exact h.2
  | arr t =>
    obtain ⟨rows, rfl, hA⟩ := h.2
    exact ⟨rfl, u, rows, rfl, n, _, fun b o hb => ⟨hb, fun h => h⟩, hA⟩
  | vec t => exact h.2.elim
theorem lreps_of : ∀ {ks : List Lk} {us : List Value} {n : Nat}, us.length = ks.length → (∀ (j : Nat) (k : Lk), ks[j]? = some k → ∃ u c, us[j]? = some u ∧ CellN P w n k u c) → ∃ rs, LReps P w (fun _ _ => False) ks us rs
  | [], [], _, _, _ => ⟨[], trivial⟩
  | k :: ks, u :: us, n, hl, h => by
    obtain ⟨u', c, hu, hc⟩ := h 0 k rfl
    cases hu
    obtain ⟨rs, hr⟩ := lreps_of (ks := ks) (us := us) (n := n) (by simpa using hl) fun j k hj => h (j + 1) k hj
    exact ⟨c :: rs, hc.rep, hr⟩
  | [], _ :: _, _, hl, _ => by simp at hl
  | _ :: _, [], _, hl, _ => by simp at hl
/-- A struct of integers, truth values and slices among the arguments. -/
theorem open_agg {r : Reach} {b0 n : Nat} {t : TypeId} {fs : Array Field} {v : Value} {d : DataW H} {p : List MemPlace} {ks : List Lk} (hu : P.underlying t = some (.struct fs)) (hk : kindsF P 6 t = some ks) (hfl : flatB P 6 t = true)
    (hd : ks.all (deepB P n) = true) (hc : P.cellsOf t = ks.length) (hv : Value.okWide P w r b0 t v) (hx : DataW.Trod enc P w base spare held t v d p) :
    ∃ us : List Value, v = .agg us.toArray ∧ ∃ rs, LReps P w (fun _ _ => False) ks us rs := by
  obtain ⟨cs, rfl, hsz⟩ := okWide_struct hu hv
  obtain ⟨fuel, hf⟩ := hx
  have hf : DataW.trod enc P w base spare held fuel t cs.toList = some (d, p) := hf
  obtain ⟨-, -, -, -, hlen, -, -⟩ := DataW.trod_struct hu hf
  exact ⟨cs.toList, by simp, lreps_of (n := n) (hlen.trans hc) fun j k hj => cells_deep fuel n 6 t ks _ _ hk hfl hf j k hj (List.all_eq_true.1 hd k (List.mem_of_getElem? hj))⟩
end
theorem rep_struct {W : World} {O : Nat → Nat → Prop} {ss : List Sh0} {vs : List Value} {cs rs : List C} {us : List Value} {ks : List Lk} {old : Option Nat} (h : LReps Try.prog W O ks us rs) (hr : Reps Try.prog W O old ss vs cs) :
    Reps Try.prog W O old (.agg ks :: ss) (.agg us.toArray :: vs) (rs ++ cs) :=
  ⟨rs, _, rfl, ⟨us, rfl, h⟩, hr⟩
end Go.Proofs.Ytmdmgpikbebejaa
/- The call of KillMore. -/
namespace Go.Proofs.Ytmdmgpikbebejaa
open Go.RowKit
theorem walk_KillMore (V0 : Value) (a1 : Int) (a2 : Int) (a3 : Int) (W : World) (h0 : ∃ us : List Value, V0 = .agg us.toArray ∧ ∃ rs, LReps Try.prog W (fun _ _ => False) [.arr 2, .arr 2, .int, .int, .int, .int, .int, .int, .int, .int, .arr 2, .arr 2] us rs) (h1 : -9223372036854775808 ≤ a1 ∧ a1 ≤ 9223372036854775807) (h2 : -9223372036854775808 ≤ a2 ∧ a2 ≤ 9223372036854775807) (h3 : -9223372036854775808 ≤ a3 ∧ a3 ≤ 9223372036854775807) :
    Calls Try.prog 5 #[V0, .int .i64 a1, .int .i64 a2, .int .i64 a3] W fun e w' => e = .returned (.bool true) ∧ Below W.heap.size W w' := by
  obtain ⟨us0, rfl, rs0, h0⟩ := h0
  exact law_walk lmore_ok rfl (rep_struct h0 (rep_lf h1 (rep_lf h2 (rep_lf h3 rfl))))
end Go.Proofs.Ytmdmgpikbebejaa
namespace Go.Proofs.Ytmdmgpikbebejaa.lawKillMore
open Go.ChangeShapes Go.WideShapes Go.ChangeAt Go.RowKit
set_option linter.unusedVariables false

set_option maxRecDepth 100000 in
theorem lifted (os : Os) (started : os.Started) (H : Type) (enc : TypeId × Value → H) :
    ReturnsInHanded {} Try.checked os 5 .any (Rows.killMoreSpec.pre6 enc Try.prog Try.f5 Rows.killMoreRow.domain false) (Rows.killMoreSpec.post enc Try.prog Try.f5 false true false false) := by
  refine returnsInHanded_of_change (C := Try.checked) own started (by kernel_rfl) Try.func5
    (ChangeSpec.witness6 (enc := enc) (C := Try.checked) false ⟨#[], #[.agg #[.slice none 0 0, .slice none 0 0, .int .i64 0, .int .i64 0, .int .i64 0, .int .i64 0, .int .i64 0, .int .i64 0, .int .i64 0, .int .i64 0, .slice none 0 0, .slice none 0 0], .int .i64 0, .int .i64 0, .int .i64 0], []⟩ 8 (by kernel_rfl) (by kernel_rfl) (by kernel_rfl) (by kernel_rfl)) ?_
  intro W base args ds gs before hval0 hW hcnd _
  have hval : ∀ (j : Nat) t v, Try.f5.params[j]? = some t → args[j]? = some v → Value.okWide Try.prog W .any base t v := hval0
  have hW' := hW
  obtain ⟨p, q, hA0, hV, rfl, hfz, hnd⟩ := hW
  have hA : DataW.TrodAll enc Try.prog W 0 (fun _ => true) true Try.f5.params.toList args.toList ds p := hA0
  rw [Try.params5] at hA hval
  obtain ⟨v0, vs0, d0, ds0, p0, q0, hargs, rfl, rfl, h0, r0⟩ := trodAll_cons hA
  obtain ⟨v1, vs1, d1, ds1, p1, q1, rfl, rfl, rfl, h1, r1⟩ := trodAll_cons r0
  obtain ⟨v2, vs2, d2, ds2, p2, q2, rfl, rfl, rfl, h2, r2⟩ := trodAll_cons r1
  obtain ⟨v3, vs3, d3, ds3, p3, q3, rfl, rfl, rfl, h3, r3⟩ := trodAll_cons r2
  obtain ⟨rfl, rfl, rfl⟩ := trodAll_nil r3
  obtain rfl : args = #[v0, v1, v2, v3] := by cases args; simp_all
  obtain ⟨rfl, rfl⟩ := trodVars_none hV
  have k0 := h0
  have lt0 : ∀ x ∈ p0, x.block < W.heap.size := by obtain ⟨m, hm⟩ := k0; exact DataW.trod_lt m _ _ _ hm
  obtain ⟨us0, e0, b0⟩ := open_agg (n := 4) (ks := [.arr 2, .arr 2, .int, .int, .int, .int, .int, .int, .int, .int, .arr 2, .arr 2]) Try.underlying42 (by kernel_rfl) (by kernel_rfl) (by kernel_rfl) (by kernel_rfl) (hval 0 42 v0 rfl rfl) h0
  have k1 := h1
  have lt1 : ∀ x ∈ p1, x.block < W.heap.size := by obtain ⟨m, hm⟩ := k1; exact DataW.trod_lt m _ _ _ hm
  obtain ⟨a1, e1, -, -, wf1⟩ := open_int Try.underlying2 (hval 1 2 v1 rfl rfl) h1
  subst e1
  have b1 := wf_bd wf1
  have k2 := h2
  have lt2 : ∀ x ∈ p2, x.block < W.heap.size := by obtain ⟨m, hm⟩ := k2; exact DataW.trod_lt m _ _ _ hm
  obtain ⟨a2, e2, -, -, wf2⟩ := open_int Try.underlying3 (hval 2 3 v2 rfl rfl) h2
  subst e2
  have b2 := wf_bd wf2
  have k3 := h3
  have lt3 : ∀ x ∈ p3, x.block < W.heap.size := by obtain ⟨m, hm⟩ := k3; exact DataW.trod_lt m _ _ _ hm
  obtain ⟨a3, e3, -, -, wf3⟩ := open_int Try.underlying3 (hval 3 3 v3 rfl rfl) h3
  subst e3
  have b3 := wf_bd wf3
  clear hA0 hval0
  refine (walk_KillMore v0 a1 a2 a3 W ⟨us0, e0, b0⟩ b1 b2 b3).mono fun e W' ⟨he, bel⟩ => ?_
  subst he
  exact ⟨_, rfl, _, _, _, [], _, [], hW', trodAll_mk1 (shut_bool Try.underlying4 _), (trodAll_cons_mk (Below.trod laidOut (by kernel_rfl) (of_decide_eq_true (by kernel_rfl)) k0 bel lt0) (trodAll_cons_mk (Below.trod laidOut (by kernel_rfl) (of_decide_eq_true (by kernel_rfl)) k1 bel lt1) (trodAll_cons_mk (Below.trod laidOut (by kernel_rfl) (of_decide_eq_true (by kernel_rfl)) k2 bel lt2) (trodAll_cons_mk (Below.trod laidOut (by kernel_rfl) (of_decide_eq_true (by kernel_rfl)) k3 bel lt3) trodAll_mk0)))), rfl, bel.frame _, fun h => by cases h⟩

theorem over : Rows.killMoreRow.holds Try.pinned (OpenSpec.ofChange Rows.killMoreSpec) :=
  OpenClaim.holds_of_wide 5 Try.f5 rfl rfl rfl rfl rfl rfl rfl ⟨rfl, rfl, rfl, rfl, rfl⟩ rfl rfl rfl rfl rfl (by kernel_rfl) Try.func5 (by kernel_rfl)
    (of_decide_eq_true (by kernel_rfl)) (by unfold Func.isWrapper; first | (rw [if_pos (by decide +kernel)]; kernel_rfl) | (rw [if_neg (by decide +kernel)]; exact ⟨rfl, rfl⟩))
    (fun os started H enc _ => lifted os started H enc)

theorem proved : Rows.KillMoreSaid := over
#print axioms proved
end Go.Proofs.Ytmdmgpikbebejaa.lawKillMore
