/- The law KillChecks: for every input the call returns true, and each argument reads afterwards as it read before. The frame is printed by frame.py. -/
import Derived.Test.YtmdmgpikbebejaaChecks8
import Derived.Test.YtmdmgpikbebejaaRows
import Derived.ShutString
import Derived.ChangeOld
/- Kill: a moment while the gas rises. -/
namespace Go.Proofs.Ytmdmgpikbebejaa
open Go.RowKit
set_option linter.unusedSimpArgs false
set_option linter.unusedVariables false

theorem gasK_bd {k : Bb} (hv : 1 ≤ k.vol ∧ k.vol ≤ 16777216) (hp : 1 ≤ k.pore ∧ k.pore ≤ 17179869184) (p : Kn) : 0 ≤ (gasK k p).1 ∧ (gasK k p).1 ≤ 288230376151711744 ∧ 0 ≤ (gasK k p).2 ∧ (gasK k p).2 ≤ 288230376151711744 := by
  have hn := mul_box (a := k.vol) (b := k.pore) (A := 16777216) (B := 17179869184) (by omega) (by omega) (by omega) (by omega)
  have h1 : 1 * 1 ≤ k.vol * k.pore := Int.mul_le_mul hv.1 hp.1 (by omega) (by omega)
  unfold gasK
  generalize k.vol * k.pore = n at *
  have q1 := quo_box (n := n) (d := max 1 p.2) (by omega) (by omega)
  have q2 := quo_box (n := n + max 1 p.1 - 1) (d := max 1 p.1) (by omega) (by omega)
  have hd : 1 ≤ max 1 p.1 := by omega
  generalize max 1 p.1 = d at *
  have h3 : 0 ≤ (n - 1) * (d - 1) := Int.mul_nonneg (by omega) (by omega)
  have h4 : (n + d - 1) / d ≤ n := Int.ediv_le_of_le_mul (by omega) (by
    have : (n - 1) * (d - 1) = n * d - n - d + 1 := by rw [Int.sub_mul, Int.mul_sub, Int.mul_sub]; omega
    omega)
  exact ⟨q1.2.1, by show n / _ ≤ _; omega, q2.2.1, by show (n + d - 1) / d ≤ _; omega⟩
theorem map_take_succ {α β : Type} (f : α → β) {l : List α} {i : Nat} (h : i < l.length) (d : α) : (l.take (i + 1)).map f = (l.take i).map f ++ [f (l.getD i d)] := by
  rw [take_snoc h d, List.map_append]; rfl
set_option maxHeartbeats 1000000 in
theorem ris_ok : tab3.ok 59 := by
  refine Tab.of_ct rfl rfl ⟨_, Try.func59, by decide, rfl⟩ ?_ (fun h => by cases h)
  refine ct_ok (cx := cris) (Tab.cx_ok (all_cons jht_ok (all_cons mud_ok (all_cons gas_ok (all_cons down_ok (all_cons under_ok (all_cons less_ok (all_cons join_ok all_nil))))))) fxris) Try.func59 (bds := []) (T := tris) (by kernel_rfl) ?_
  have h1 : cris.ct 75 = some ctJHeight := rfl
  have h2 : cris.ct 72 = some ctMud := rfl
  have h3 : cris.ct 74 = some ctGas := rfl
  have h4 : cris.ct 73 = some ctDown := rfl
  have h5 : cris.ct 78 = some ctUnder := rfl
  have h6 : cris.ct 79 = some ctLess := rfl
  have h7 : cris.ct 76 = some ctJoin := rfl
  unfold tris
  simp only [VC, allC, List.map_cons, List.map_nil, List.length_cons, List.length_nil, List.getElem?_cons_zero, List.getElem?_cons_succ, List.cons.injEq, C.i.injEq, C.b.injEq, and_true, true_and, forall_const, kindsOf_nil, kindsOf_lf, kindsOf_agg, kindsOf_box, boxKinds_nil, boxKinds_lf, boxKinds_agg, boxKinds_box, List.append_nil, List.cons_append, List.nil_append, den_cmp_le, den_cmp_lt, den_cmp_eq, den_cmp_ne, den_cmp_le', den_cmp_lt', den_cmp_eq', den_cmp_ne', den_and, den_and', den_or, den_or', den_not, den_not', den_blit, den_of, ev_var, at_0, at_1, at_2, at_3, at_4, at_5, at_6, at_7, at_skip, c_int, c_bool, c_arr, c_cnt, c_vec, ev_nil, ev_join, ev_sub3, loc_s, int_i, bool_b, rows_s, cs_nil, cs_cons, E.den_lit, E.den_var, E.den_add, E.den_sub, E.den_mul, E.den_quo, E.den_rem, E.den_max, E.den_min, E.den_len, E.den_wr, E.den_cell, ev_cell, kn1, kn2, Nat.reduceAdd, h1, h2, h3, h4, h5, h6, h7, ctJHeight, ctMud, ctGas, ctDown, ctUnder, ctLess, ctJoin, ctF, jobSh, rangeSh, momSh, momKs, kn_, n_, k_, ofKn, ctRising]
  rintro u1 r1 _ _ _ w _ _ u2 r2 _ _ _ li _ _ pi _ _ st _ _ ka _ _ kb _ _ kc _ _ kd _ _ v _ _ po _ _ u3 r3 _ _ _ ro _ _ m _ _ b _ _ ⟨hj, hm, hb⟩
  obtain ⟨j, hjd⟩ : ∃ j, j = jobOf [.s u1 r1, .i w, .s u2 r2, .i li, .i pi, .i st, .i ka, .i kb, .i kc, .i kd, .i v, .i po, .s u3 r3, .i ro, .i m, .i b] 0 := ⟨_, rfl⟩
  rw [← hjd]
  have hf : JF j := by rw [hjd]; exact hj.jf
  have hm1 : 0 ≤ m := hm.1
  have hm2 : m ≤ 4398046511104 := hm.2
  have hro : ro = volV j.w.segs := by rw [hjd]; exact hj.2.2
  have hline : ∀ u, atV (knots r3) u = htV j.w.segs u := fun u => by rw [hjd]; exact congrArg (fun l => atV l u) hj.2.1
  have hseg : j.w.segs = segsOf r1 := by rw [hjd]; rfl
  have hwt : j.w.weight = w := by rw [hjd]; rfl
  have hpts : j.w.points = knots r2 := by rw [hjd]; rfl
  have hlen := knots_len r2
  have hw : 0 ≤ w ∧ w ≤ 40000 := hwt ▸ hf.weight
  have hh : ∀ x, HtOK (htV j.w.segs x) := ht_ok hf.hole
  have hg := gasK_bd hf.vol hf.pore (baseV j m b)
  have hbd := down_bd hf hb (mudV j m) m
  have hpl := hf.len
  refine ⟨bds_nil _, ⟨hj, hm⟩, ?_⟩
  rintro c _ _ hc
  have hc : c = mudV j m := by rw [hjd]; exact hc
  subst hc
  unfold tris_8
  simp only [VC, allC, List.map_cons, List.map_nil, List.length_cons, List.length_nil, List.getElem?_cons_zero, List.getElem?_cons_succ, List.cons.injEq, C.i.injEq, C.b.injEq, and_true, true_and, forall_const, kindsOf_nil, kindsOf_lf, kindsOf_agg, kindsOf_box, boxKinds_nil, boxKinds_lf, boxKinds_agg, boxKinds_box, List.append_nil, List.cons_append, List.nil_append, den_cmp_le, den_cmp_lt, den_cmp_eq, den_cmp_ne, den_cmp_le', den_cmp_lt', den_cmp_eq', den_cmp_ne', den_and, den_and', den_or, den_or', den_not, den_not', den_blit, den_of, ev_var, at_0, at_1, at_2, at_3, at_4, at_5, at_6, at_7, at_skip, c_int, c_bool, c_arr, c_cnt, c_vec, ev_nil, ev_join, ev_sub3, loc_s, int_i, bool_b, rows_s, cs_nil, cs_cons, E.den_lit, E.den_var, E.den_add, E.den_sub, E.den_mul, E.den_quo, E.den_rem, E.den_max, E.den_min, E.den_len, E.den_wr, E.den_cell, ev_cell, kn1, kn2, Nat.reduceAdd, h1, h2, h3, h4, h5, h6, h7, ctJHeight, ctMud, ctGas, ctDown, ctUnder, ctLess, ctJoin, ctF, jobSh, rangeSh, momSh, momKs, kn_, n_, k_, ofKn]
  refine ⟨⟨hj, hb⟩, ?_⟩
  rintro b1 _ _ b2 _ _ ⟨e1, e2⟩
  have e1 : b1 = (baseV j m b).1 := by rw [e1, hjd]; rfl
  have e2 : b2 = (baseV j m b).2 := by rw [e2, hjd]; rfl
  subst e1 e2
  unfold tris_7
  simp only [VC, allC, List.map_cons, List.map_nil, List.length_cons, List.length_nil, List.getElem?_cons_zero, List.getElem?_cons_succ, List.cons.injEq, C.i.injEq, C.b.injEq, and_true, true_and, forall_const, kindsOf_nil, kindsOf_lf, kindsOf_agg, kindsOf_box, boxKinds_nil, boxKinds_lf, boxKinds_agg, boxKinds_box, List.append_nil, List.cons_append, List.nil_append, den_cmp_le, den_cmp_lt, den_cmp_eq, den_cmp_ne, den_cmp_le', den_cmp_lt', den_cmp_eq', den_cmp_ne', den_and, den_and', den_or, den_or', den_not, den_not', den_blit, den_of, ev_var, at_0, at_1, at_2, at_3, at_4, at_5, at_6, at_7, at_skip, c_int, c_bool, c_arr, c_cnt, c_vec, ev_nil, ev_join, ev_sub3, loc_s, int_i, bool_b, rows_s, cs_nil, cs_cons, E.den_lit, E.den_var, E.den_add, E.den_sub, E.den_mul, E.den_quo, E.den_rem, E.den_max, E.den_min, E.den_len, E.den_wr, E.den_cell, ev_cell, kn1, kn2, Nat.reduceAdd, h1, h2, h3, h4, h5, h6, h7, ctJHeight, ctMud, ctGas, ctDown, ctUnder, ctLess, ctJoin, ctF, jobSh, rangeSh, momSh, momKs, kn_, n_, k_, ofKn]
  refine ⟨⟨hj, hbd.ok (by decide) (by decide)⟩, ?_⟩
  rintro g1 _ _ g2 _ _ ⟨e1, e2⟩
  have e1 : g1 = (rgasV j m b).1 := by rw [e1, hjd]; rfl
  have e2 : g2 = (rgasV j m b).2 := by rw [e2, hjd]; rfl
  subst e1 e2
  have hg1 : 0 ≤ (rgasV j m b).1 ∧ (rgasV j m b).1 ≤ 288230376151711744 := ⟨hg.1, hg.2.1⟩
  have hg2 : 0 ≤ (rgasV j m b).2 ∧ (rgasV j m b).2 ≤ 288230376151711744 := ⟨hg.2.2.1, hg.2.2.2⟩
  unfold tris_6
  simp only [VC, allC, List.map_cons, List.map_nil, List.length_cons, List.length_nil, List.getElem?_cons_zero, List.getElem?_cons_succ, List.cons.injEq, C.i.injEq, C.b.injEq, and_true, true_and, forall_const, kindsOf_nil, kindsOf_lf, kindsOf_agg, kindsOf_box, boxKinds_nil, boxKinds_lf, boxKinds_agg, boxKinds_box, List.append_nil, List.cons_append, List.nil_append, den_cmp_le, den_cmp_lt, den_cmp_eq, den_cmp_ne, den_cmp_le', den_cmp_lt', den_cmp_eq', den_cmp_ne', den_and, den_and', den_or, den_or', den_not, den_not', den_blit, den_of, ev_var, at_0, at_1, at_2, at_3, at_4, at_5, at_6, at_7, at_skip, c_int, c_bool, c_arr, c_cnt, c_vec, ev_nil, ev_join, ev_sub3, loc_s, int_i, bool_b, rows_s, cs_nil, cs_cons, E.den_lit, E.den_var, E.den_add, E.den_sub, E.den_mul, E.den_quo, E.den_rem, E.den_max, E.den_min, E.den_len, E.den_wr, E.den_cell, ev_cell, kn1, kn2, Nat.reduceAdd, h1, h2, h3, h4, h5, h6, h7, ctJHeight, ctMud, ctGas, ctDown, ctUnder, ctLess, ctJoin, ctF, jobSh, rangeSh, momSh, momKs, kn_, n_, k_, ofKn, hline]
  refine ⟨⟨by omega, by omega⟩, ⟨by omega, by omega⟩, ?_⟩
  rintro t1 _ _ t2 _ _ ⟨rfl, rfl⟩
  unfold tris_5
  simp only [VC, allC, List.map_cons, List.map_nil, List.length_cons, List.length_nil, List.getElem?_cons_zero, List.getElem?_cons_succ, List.cons.injEq, C.i.injEq, C.b.injEq, and_true, true_and, forall_const, kindsOf_nil, kindsOf_lf, kindsOf_agg, kindsOf_box, boxKinds_nil, boxKinds_lf, boxKinds_agg, boxKinds_box, List.append_nil, List.cons_append, List.nil_append, den_cmp_le, den_cmp_lt, den_cmp_eq, den_cmp_ne, den_cmp_le', den_cmp_lt', den_cmp_eq', den_cmp_ne', den_and, den_and', den_or, den_or', den_not, den_not', den_blit, den_of, ev_var, at_0, at_1, at_2, at_3, at_4, at_5, at_6, at_7, at_skip, c_int, c_bool, c_arr, c_cnt, c_vec, ev_nil, ev_join, ev_sub3, loc_s, int_i, bool_b, rows_s, cs_nil, cs_cons, E.den_lit, E.den_var, E.den_add, E.den_sub, E.den_mul, E.den_quo, E.den_rem, E.den_max, E.den_min, E.den_len, E.den_wr, E.den_cell, ev_cell, kn1, kn2, Nat.reduceAdd, h1, h2, h3, h4, h5, h6, h7, ctJHeight, ctMud, ctGas, ctDown, ctUnder, ctLess, ctJoin, ctF, jobSh, rangeSh, momSh, momKs, kn_, n_, k_, ofKn, hline]
  refine ⟨⟨by omega, by omega⟩, ⟨by omega, by omega⟩, ?_⟩
  rintro t1 _ _ t2 _ _ ⟨rfl, rfl⟩ t3 _ _ t4 _ _ ⟨e1, e2⟩
  have e1 : t3 = (rtopV j m b).1 := by rw [e1]; rfl
  have e2 : t4 = (rtopV j m b).2 := by rw [e2]; rfl
  subst e1 e2
  unfold tris_4
  simp only [VC, allC, List.map_cons, List.map_nil, List.length_cons, List.length_nil, List.getElem?_cons_zero, List.getElem?_cons_succ, List.cons.injEq, C.i.injEq, C.b.injEq, and_true, true_and, forall_const, kindsOf_nil, kindsOf_lf, kindsOf_agg, kindsOf_box, boxKinds_nil, boxKinds_lf, boxKinds_agg, boxKinds_box, List.append_nil, List.cons_append, List.nil_append, den_cmp_le, den_cmp_lt, den_cmp_eq, den_cmp_ne, den_cmp_le', den_cmp_lt', den_cmp_eq', den_cmp_ne', den_and, den_and', den_or, den_or', den_not, den_not', den_blit, den_of, ev_var, at_0, at_1, at_2, at_3, at_4, at_5, at_6, at_7, at_skip, c_int, c_bool, c_arr, c_cnt, c_vec, ev_nil, ev_join, ev_sub3, loc_s, int_i, bool_b, rows_s, cs_nil, cs_cons, E.den_lit, E.den_var, E.den_add, E.den_sub, E.den_mul, E.den_quo, E.den_rem, E.den_max, E.den_min, E.den_len, E.den_wr, E.den_cell, ev_cell, kn1, kn2, Nat.reduceAdd, h1, h2, h3, h4, h5, h6, h7, ctJHeight, ctMud, ctGas, ctDown, ctUnder, ctLess, ctJoin, ctF, jobSh, rangeSh, momSh, momKs, kn_, n_, k_, ofKn, hline]
  intro vv
  have hr1 : ∀ u, u ≤ m → ratV j m b u = downV j b (mudV j m) u := fun u h => if_pos h
  have hr2 : ∀ u, m < u → ratV j m b u = underK (baseV j m b) w (lessK (htV j.w.segs u) (rtopV j m b)) := fun u h => by rw [← hwt]; exact if_neg (by omega)
  have htop : HtOK (rtopV j m b) := ⟨(hh _).1, (hh _).2.1, (hh _).2.2.1, (hh _).2.2.2⟩
  have hbk : KnOK (baseV j m b) := hbd.ok (by decide) (by decide)
  rw [hpts] at hpl
  refine ⟨fun xs => match xs with | [.i i, .i a1, .i a2, .i a3, .i a4, .i a5, _, _, .s _ rows] => 0 ≤ i ∧ i ≤ (knots r2).length ∧ a1 = m ∧ a2 = (rgasV j m b).1 ∧ a3 = (rgasV j m b).2 ∧ a4 = (baseV j m b).1 ∧ a5 = (baseV j m b).2 ∧ knots rows = ((knots r2).take i.toNat).map (fun p => ratV j m b p.1) | _ => False, fun xs => match xs with | .i i :: _ => ((r2.length : Int) - i).toNat | _ => 0, ⟨by omega, by omega, rfl, rfl, rfl, rfl, rfl, by simp [knots]⟩, ?_⟩
  rintro i _ _ a1 _ _ a2 _ _ a3 _ _ a4 _ _ a5 _ _ s1 _ _ s2 _ _ vr rows _ _ _ ⟨i0, i1, rfl, rfl, rfl, rfl, rfl, hrows⟩
  have hrl : rows.length = i.toNat := by
    have := congrArg List.length hrows
    rw [knots_len2, List.length_map, List.length_take] at this
    omega
  refine ⟨fun hlt => ⟨i0, hlt, ?_⟩, fun hge => ?_⟩
  · have hnext := map_take_succ (fun p : Kn => ratV j a1 b p.1) (l := knots r2) (i := i.toNat) (by omega) (0, 0)
    have hmu : ((r2.length : Int) - (i + 1)).toNat < ((r2.length : Int) - i).toNat := by omega
    have ei : (i + 1).toNat = i.toNat + 1 := by omega
    generalize (knots r2).getD i.toNat (0, 0) = k at *
    refine ⟨fun hle => ⟨⟨hj, hb⟩, ?_⟩, fun hgt => ?_⟩
    · rintro x1 _ _ x2 _ _ ⟨e1, e2⟩
      unfold tris_1
      simp only [VC, allC, List.map_cons, List.map_nil, List.length_cons, List.length_nil, List.getElem?_cons_zero, List.getElem?_cons_succ, List.cons.injEq, C.i.injEq, C.b.injEq, and_true, true_and, forall_const, kindsOf_nil, kindsOf_lf, kindsOf_agg, kindsOf_box, boxKinds_nil, boxKinds_lf, boxKinds_agg, boxKinds_box, List.append_nil, List.cons_append, List.nil_append, den_cmp_le, den_cmp_lt, den_cmp_eq, den_cmp_ne, den_cmp_le', den_cmp_lt', den_cmp_eq', den_cmp_ne', den_and, den_and', den_or, den_or', den_not, den_not', den_blit, den_of, ev_var, at_0, at_1, at_2, at_3, at_4, at_5, at_6, at_7, at_skip, c_int, c_bool, c_arr, c_cnt, c_vec, ev_nil, ev_join, ev_sub3, loc_s, int_i, bool_b, rows_s, cs_nil, cs_cons, E.den_lit, E.den_var, E.den_add, E.den_sub, E.den_mul, E.den_quo, E.den_rem, E.den_max, E.den_min, E.den_len, E.den_wr, E.den_cell, ev_cell, kn1, kn2, Nat.reduceAdd, h1, h2, h3, h4, h5, h6, h7, ctJHeight, ctMud, ctGas, ctDown, ctUnder, ctLess, ctJoin, ctF, jobSh, rangeSh, momSh, momKs, kn_, n_, k_, ofKn]
      refine ⟨by omega, ⟨by omega, by omega, ?_⟩, hmu⟩
      have e1 : x1 = (downV j b (mudV j a1) k.1).1 := by rw [e1, hjd]; rfl
      have e2 : x2 = (downV j b (mudV j a1) k.1).2 := by rw [e2, hjd]; rfl
      rw [ei, hnext, hr1 _ hle, knots_app, hrows, e1, e2]; rfl
    · rintro x1 _ _ x2 _ _ ⟨rfl, rfl⟩
      refine ⟨⟨hh _, htop⟩, ?_⟩
      rintro x1 _ _ x2 _ _ ⟨rfl, rfl⟩
      refine ⟨⟨hbk, hw, less_ht (hh _) htop⟩, ?_⟩
      rintro x1 _ _ x2 _ _ ⟨e1, e2⟩
      unfold tris_2
      simp only [VC, allC, List.map_cons, List.map_nil, List.length_cons, List.length_nil, List.getElem?_cons_zero, List.getElem?_cons_succ, List.cons.injEq, C.i.injEq, C.b.injEq, and_true, true_and, forall_const, kindsOf_nil, kindsOf_lf, kindsOf_agg, kindsOf_box, boxKinds_nil, boxKinds_lf, boxKinds_agg, boxKinds_box, List.append_nil, List.cons_append, List.nil_append, den_cmp_le, den_cmp_lt, den_cmp_eq, den_cmp_ne, den_cmp_le', den_cmp_lt', den_cmp_eq', den_cmp_ne', den_and, den_and', den_or, den_or', den_not, den_not', den_blit, den_of, ev_var, at_0, at_1, at_2, at_3, at_4, at_5, at_6, at_7, at_skip, c_int, c_bool, c_arr, c_cnt, c_vec, ev_nil, ev_join, ev_sub3, loc_s, int_i, bool_b, rows_s, cs_nil, cs_cons, E.den_lit, E.den_var, E.den_add, E.den_sub, E.den_mul, E.den_quo, E.den_rem, E.den_max, E.den_min, E.den_len, E.den_wr, E.den_cell, ev_cell, kn1, kn2, Nat.reduceAdd, h1, h2, h3, h4, h5, h6, h7, ctJHeight, ctMud, ctGas, ctDown, ctUnder, ctLess, ctJoin, ctF, jobSh, rangeSh, momSh, momKs, kn_, n_, k_, ofKn]
      refine ⟨by omega, ⟨by omega, by omega, ?_⟩, hmu⟩
      rw [ei, hnext, hr2 _ hgt, knots_app, hrows, e1, e2]; rfl
  · rintro x1 _ _ x2 _ _ ⟨rfl, rfl⟩
    refine ⟨⟨hh _, htop⟩, ?_⟩
    rintro x1 _ _ x2 _ _ ⟨rfl, rfl⟩
    unfold tris_3
    simp only [VC, allC, List.map_cons, List.map_nil, List.length_cons, List.length_nil, List.getElem?_cons_zero, List.getElem?_cons_succ, List.cons.injEq, C.i.injEq, C.b.injEq, and_true, true_and, forall_const, kindsOf_nil, kindsOf_lf, kindsOf_agg, kindsOf_box, boxKinds_nil, boxKinds_lf, boxKinds_agg, boxKinds_box, List.append_nil, List.cons_append, List.nil_append, den_cmp_le, den_cmp_lt, den_cmp_eq, den_cmp_ne, den_cmp_le', den_cmp_lt', den_cmp_eq', den_cmp_ne', den_and, den_and', den_or, den_or', den_not, den_not', den_blit, den_of, ev_var, at_0, at_1, at_2, at_3, at_4, at_5, at_6, at_7, at_skip, c_int, c_bool, c_arr, c_cnt, c_vec, ev_nil, ev_join, ev_sub3, loc_s, int_i, bool_b, rows_s, cs_nil, cs_cons, E.den_lit, E.den_var, E.den_add, E.den_sub, E.den_mul, E.den_quo, E.den_rem, E.den_max, E.den_min, E.den_len, E.den_wr, E.den_cell, ev_cell, kn1, kn2, Nat.reduceAdd, h1, h2, h3, h4, h5, h6, h7, ctJHeight, ctMud, ctGas, ctDown, ctUnder, ctLess, ctJoin, ctF, jobSh, rangeSh, momSh, momKs, kn_, n_, k_, ofKn]
    refine ⟨⟨hbk, hw, less_ht (hh _) htop⟩, ?_⟩
    rintro x1 _ _ x2 _ _ ⟨e1, e2⟩
    rw [List.take_of_length_le (by omega)] at hrows
    refine ⟨vr, rows, ?_, by rw [hrows]; show _ = j.w.points.map _; rw [hpts]⟩
    rw [e1, e2, hro, ← hwt]; rfl
end Go.Proofs.Ytmdmgpikbebejaa
/- Kill: a moment while the gas is pushed back; moments. -/
namespace Go.Proofs.Ytmdmgpikbebejaa
open Go.RowKit
set_option linter.unusedSimpArgs false
set_option linter.unusedVariables false

set_option maxHeartbeats 1000000 in
theorem psh_ok : tab3.ok 60 := by
  refine Tab.of_ct rfl rfl ⟨_, Try.func60, by decide, rfl⟩ ?_ (fun h => by cases h)
  refine ct_ok (cx := cpsh) (Tab.cx_ok (all_cons jht_ok (all_cons gas_ok (all_cons exact_ok (all_cons under_ok (all_cons less_ok (all_cons join_ok (all_cons minus_ok all_nil))))))) fxpsh) Try.func60 (bds := []) (T := tpsh) (by kernel_rfl) ?_
  have h1 : cpsh.ct 75 = some ctJHeight := rfl
  have h2 : cpsh.ct 80 = some ctExact := rfl
  have h3 : cpsh.ct 74 = some ctGas := rfl
  have h4 : cpsh.ct 81 = some ctMinus := rfl
  have h5 : cpsh.ct 78 = some ctUnder := rfl
  have h6 : cpsh.ct 79 = some ctLess := rfl
  have h7 : cpsh.ct 76 = some ctJoin := rfl
  unfold tpsh
  simp only [VC, allC, List.map_cons, List.map_nil, List.length_cons, List.length_nil, List.getElem?_cons_zero, List.getElem?_cons_succ, List.cons.injEq, C.i.injEq, C.b.injEq, and_true, true_and, forall_const, kindsOf_nil, kindsOf_lf, kindsOf_agg, kindsOf_box, boxKinds_nil, boxKinds_lf, boxKinds_agg, boxKinds_box, List.append_nil, List.cons_append, List.nil_append, den_cmp_le, den_cmp_lt, den_cmp_eq, den_cmp_ne, den_cmp_le', den_cmp_lt', den_cmp_eq', den_cmp_ne', den_and, den_and', den_or, den_or', den_not, den_not', den_blit, den_of, ev_var, at_0, at_1, at_2, at_3, at_4, at_5, at_6, at_7, at_skip, c_int, c_bool, c_arr, c_cnt, c_vec, ev_nil, ev_join, ev_sub3, loc_s, int_i, bool_b, rows_s, cs_nil, cs_cons, E.den_lit, E.den_var, E.den_add, E.den_sub, E.den_mul, E.den_quo, E.den_rem, E.den_max, E.den_min, E.den_len, E.den_wr, E.den_cell, ev_cell, kn1, kn2, Nat.reduceAdd, h1, h2, h3, h4, h5, h6, h7, ctJHeight, ctGas, ctExact, ctMinus, ctUnder, ctLess, ctJoin, ctF, jobSh, rangeSh, momSh, momKs, kn_, n_, k_, ofKn, ctPushed]
  rintro u1 r1 _ _ _ w _ _ u2 r2 _ _ _ li _ _ pi _ _ st _ _ ka _ _ kb _ _ kc _ _ kd _ _ v _ _ po _ _ u3 r3 _ _ _ ro _ _ m _ _ b _ _ ⟨hj, hm, hb⟩
  obtain ⟨j, hjd⟩ : ∃ j, j = jobOf [.s u1 r1, .i w, .s u2 r2, .i li, .i pi, .i st, .i ka, .i kb, .i kc, .i kd, .i v, .i po, .s u3 r3, .i ro, .i m, .i b] 0 := ⟨_, rfl⟩
  rw [← hjd]
  have hf : JF j := by rw [hjd]; exact hj.jf
  have hm1 : 0 ≤ m := hm.1
  have hm2 : m ≤ 4398046511104 := hm.2
  have hro : ro = volV j.w.segs := by rw [hjd]; exact hj.2.2
  have hvn : 0 ≤ volV j.w.segs ∧ volV j.w.segs ≤ 5242880000 := ⟨by have := hf.step; omega, hf.room⟩
  have hline : ∀ u, atV (knots r3) u = htV j.w.segs u := fun u => by rw [hjd]; exact congrArg (fun l => atV l u) hj.2.1
  have hwt : j.w.weight = w := by rw [hjd]; rfl
  have hpw : j.p.weight = kb := by rw [hjd]; rfl
  have hpts : j.w.points = knots r2 := by rw [hjd]; rfl
  have hlen := knots_len r2
  have hw : 0 ≤ w ∧ w ≤ 40000 := hwt ▸ hf.weight
  have hp : 0 ≤ kb ∧ kb ≤ 40000 := hpw ▸ hf.pweight
  have hh : ∀ x, HtOK (htV j.w.segs x) := ht_ok hf.hole
  have hg := gasK_bd hf.vol hf.pore (b, b)
  have he := exact_bd hb
  have hpl := hf.len
  have hed : max 0 (ro - m) = edgeV j m := by rw [hro]; rfl
  have hedb : 0 ≤ edgeV j m ∧ edgeV j m ≤ 5242880000 := by unfold edgeV; omega
  refine ⟨bds_nil _, ?_⟩
  rintro x1 _ _ x2 _ _ ⟨e1, e2⟩
  cases e1.symm
  cases e2.symm
  unfold tpsh_12
  simp only [VC, allC, List.map_cons, List.map_nil, List.length_cons, List.length_nil, List.getElem?_cons_zero, List.getElem?_cons_succ, List.cons.injEq, C.i.injEq, C.b.injEq, and_true, true_and, forall_const, kindsOf_nil, kindsOf_lf, kindsOf_agg, kindsOf_box, boxKinds_nil, boxKinds_lf, boxKinds_agg, boxKinds_box, List.append_nil, List.cons_append, List.nil_append, den_cmp_le, den_cmp_lt, den_cmp_eq, den_cmp_ne, den_cmp_le', den_cmp_lt', den_cmp_eq', den_cmp_ne', den_and, den_and', den_or, den_or', den_not, den_not', den_blit, den_of, ev_var, at_0, at_1, at_2, at_3, at_4, at_5, at_6, at_7, at_skip, c_int, c_bool, c_arr, c_cnt, c_vec, ev_nil, ev_join, ev_sub3, loc_s, int_i, bool_b, rows_s, cs_nil, cs_cons, E.den_lit, E.den_var, E.den_add, E.den_sub, E.den_mul, E.den_quo, E.den_rem, E.den_max, E.den_min, E.den_len, E.den_wr, E.den_cell, ev_cell, kn1, kn2, Nat.reduceAdd, h1, h2, h3, h4, h5, h6, h7, ctJHeight, ctGas, ctExact, ctMinus, ctUnder, ctLess, ctJoin, ctF, jobSh, rangeSh, momSh, momKs, kn_, n_, k_, ofKn]
  refine ⟨⟨hj, he.ok (by decide) (by decide)⟩, ?_⟩
  rintro g1 _ _ g2 _ _ ⟨e1, e2⟩
  have e1 : g1 = (gasK j.k (b, b)).1 := by rw [e1, hjd]; rfl
  have e2 : g2 = (gasK j.k (b, b)).2 := by rw [e2, hjd]; rfl
  subst e1 e2
  refine ⟨⟨⟨hg.1, by show (gasK j.k (b, b)).1 ≤ _; omega, hg.2.2.1, by show (gasK j.k (b, b)).2 ≤ _; omega⟩, hm⟩, ?_⟩
  rintro g1 _ _ g2 _ _ ⟨e1, e2⟩
  have e1 : g1 = (pgasV j m b).1 := e1
  have e2 : g2 = (pgasV j m b).2 := e2
  subst e1 e2
  unfold tpsh_11
  simp only [VC, allC, List.map_cons, List.map_nil, List.length_cons, List.length_nil, List.getElem?_cons_zero, List.getElem?_cons_succ, List.cons.injEq, C.i.injEq, C.b.injEq, and_true, true_and, forall_const, kindsOf_nil, kindsOf_lf, kindsOf_agg, kindsOf_box, boxKinds_nil, boxKinds_lf, boxKinds_agg, boxKinds_box, List.append_nil, List.cons_append, List.nil_append, den_cmp_le, den_cmp_lt, den_cmp_eq, den_cmp_ne, den_cmp_le', den_cmp_lt', den_cmp_eq', den_cmp_ne', den_and, den_and', den_or, den_or', den_not, den_not', den_blit, den_of, ev_var, at_0, at_1, at_2, at_3, at_4, at_5, at_6, at_7, at_skip, c_int, c_bool, c_arr, c_cnt, c_vec, ev_nil, ev_join, ev_sub3, loc_s, int_i, bool_b, rows_s, cs_nil, cs_cons, E.den_lit, E.den_var, E.den_add, E.den_sub, E.den_mul, E.den_quo, E.den_rem, E.den_max, E.den_min, E.den_len, E.den_wr, E.den_cell, ev_cell, kn1, kn2, Nat.reduceAdd, h1, h2, h3, h4, h5, h6, h7, ctJHeight, ctGas, ctExact, ctMinus, ctUnder, ctLess, ctJoin, ctF, jobSh, rangeSh, momSh, momKs, kn_, n_, k_, ofKn, hline]
  refine ⟨⟨by omega, by omega⟩, ?_⟩
  rintro t1 _ _ t2 _ _ ⟨rfl, rfl⟩
  unfold tpsh_10
  simp only [VC, allC, List.map_cons, List.map_nil, List.length_cons, List.length_nil, List.getElem?_cons_zero, List.getElem?_cons_succ, List.cons.injEq, C.i.injEq, C.b.injEq, and_true, true_and, forall_const, kindsOf_nil, kindsOf_lf, kindsOf_agg, kindsOf_box, boxKinds_nil, boxKinds_lf, boxKinds_agg, boxKinds_box, List.append_nil, List.cons_append, List.nil_append, den_cmp_le, den_cmp_lt, den_cmp_eq, den_cmp_ne, den_cmp_le', den_cmp_lt', den_cmp_eq', den_cmp_ne', den_and, den_and', den_or, den_or', den_not, den_not', den_blit, den_of, ev_var, at_0, at_1, at_2, at_3, at_4, at_5, at_6, at_7, at_skip, c_int, c_bool, c_arr, c_cnt, c_vec, ev_nil, ev_join, ev_sub3, loc_s, int_i, bool_b, rows_s, cs_nil, cs_cons, E.den_lit, E.den_var, E.den_add, E.den_sub, E.den_mul, E.den_quo, E.den_rem, E.den_max, E.den_min, E.den_len, E.den_wr, E.den_cell, ev_cell, kn1, kn2, Nat.reduceAdd, h1, h2, h3, h4, h5, h6, h7, ctJHeight, ctGas, ctExact, ctMinus, ctUnder, ctLess, ctJoin, ctF, jobSh, rangeSh, momSh, momKs, kn_, n_, k_, ofKn, hline]
  rintro t1 _ _ t2 _ _ ⟨rfl, rfl⟩ t3 _ _ t4 _ _ ⟨e1, e2⟩
  have e1 : t3 = (ptopV j m b).1 := e1
  have e2 : t4 = (ptopV j m b).2 := e2
  subst e1 e2
  have htop : HtOK (ptopV j m b) := ⟨(hh _).1, (hh _).2.1, (hh _).2.2.1, (hh _).2.2.2⟩
  rintro vc x2 _ _ x3 _ _ ⟨e1, e2⟩
  cases e1.symm
  cases e2.symm
  unfold tpsh_9
  simp only [VC, allC, List.map_cons, List.map_nil, List.length_cons, List.length_nil, List.getElem?_cons_zero, List.getElem?_cons_succ, List.cons.injEq, C.i.injEq, C.b.injEq, and_true, true_and, forall_const, kindsOf_nil, kindsOf_lf, kindsOf_agg, kindsOf_box, boxKinds_nil, boxKinds_lf, boxKinds_agg, boxKinds_box, List.append_nil, List.cons_append, List.nil_append, den_cmp_le, den_cmp_lt, den_cmp_eq, den_cmp_ne, den_cmp_le', den_cmp_lt', den_cmp_eq', den_cmp_ne', den_and, den_and', den_or, den_or', den_not, den_not', den_blit, den_of, ev_var, at_0, at_1, at_2, at_3, at_4, at_5, at_6, at_7, at_skip, c_int, c_bool, c_arr, c_cnt, c_vec, ev_nil, ev_join, ev_sub3, loc_s, int_i, bool_b, rows_s, cs_nil, cs_cons, E.den_lit, E.den_var, E.den_add, E.den_sub, E.den_mul, E.den_quo, E.den_rem, E.den_max, E.den_min, E.den_len, E.den_wr, E.den_cell, ev_cell, kn1, kn2, Nat.reduceAdd, h1, h2, h3, h4, h5, h6, h7, ctJHeight, ctGas, ctExact, ctMinus, ctUnder, ctLess, ctJoin, ctF, jobSh, rangeSh, momSh, momKs, kn_, n_, k_, ofKn, hline, hed]
  rintro t1 _ _ t2 _ _ ⟨rfl, rfl⟩
  unfold tpsh_8
  simp only [VC, allC, List.map_cons, List.map_nil, List.length_cons, List.length_nil, List.getElem?_cons_zero, List.getElem?_cons_succ, List.cons.injEq, C.i.injEq, C.b.injEq, and_true, true_and, forall_const, kindsOf_nil, kindsOf_lf, kindsOf_agg, kindsOf_box, boxKinds_nil, boxKinds_lf, boxKinds_agg, boxKinds_box, List.append_nil, List.cons_append, List.nil_append, den_cmp_le, den_cmp_lt, den_cmp_eq, den_cmp_ne, den_cmp_le', den_cmp_lt', den_cmp_eq', den_cmp_ne', den_and, den_and', den_or, den_or', den_not, den_not', den_blit, den_of, ev_var, at_0, at_1, at_2, at_3, at_4, at_5, at_6, at_7, at_skip, c_int, c_bool, c_arr, c_cnt, c_vec, ev_nil, ev_join, ev_sub3, loc_s, int_i, bool_b, rows_s, cs_nil, cs_cons, E.den_lit, E.den_var, E.den_add, E.den_sub, E.den_mul, E.den_quo, E.den_rem, E.den_max, E.den_min, E.den_len, E.den_wr, E.den_cell, ev_cell, kn1, kn2, Nat.reduceAdd, h1, h2, h3, h4, h5, h6, h7, ctJHeight, ctGas, ctExact, ctMinus, ctUnder, ctLess, ctJoin, ctF, jobSh, rangeSh, momSh, momKs, kn_, n_, k_, ofKn, hline, hed]
  refine ⟨⟨hh _, htop⟩, ?_⟩
  rintro t1 _ _ t2 _ _ ⟨rfl, rfl⟩ x2 _ _ x3 _ _ ⟨e1, e2⟩
  cases e1.symm
  cases e2.symm
  refine ⟨⟨he.ok (by decide) (by decide), hw, less_ht (hh _) htop⟩, ?_⟩
  rintro t1 _ _ t2 _ _ ⟨rfl, rfl⟩
  unfold tpsh_7
  simp only [VC, allC, List.map_cons, List.map_nil, List.length_cons, List.length_nil, List.getElem?_cons_zero, List.getElem?_cons_succ, List.cons.injEq, C.i.injEq, C.b.injEq, and_true, true_and, forall_const, kindsOf_nil, kindsOf_lf, kindsOf_agg, kindsOf_box, boxKinds_nil, boxKinds_lf, boxKinds_agg, boxKinds_box, List.append_nil, List.cons_append, List.nil_append, den_cmp_le, den_cmp_lt, den_cmp_eq, den_cmp_ne, den_cmp_le', den_cmp_lt', den_cmp_eq', den_cmp_ne', den_and, den_and', den_or, den_or', den_not, den_not', den_blit, den_of, ev_var, at_0, at_1, at_2, at_3, at_4, at_5, at_6, at_7, at_skip, c_int, c_bool, c_arr, c_cnt, c_vec, ev_nil, ev_join, ev_sub3, loc_s, int_i, bool_b, rows_s, cs_nil, cs_cons, E.den_lit, E.den_var, E.den_add, E.den_sub, E.den_mul, E.den_quo, E.den_rem, E.den_max, E.den_min, E.den_len, E.den_wr, E.den_cell, ev_cell, kn1, kn2, Nat.reduceAdd, h1, h2, h3, h4, h5, h6, h7, ctJHeight, ctGas, ctExact, ctMinus, ctUnder, ctLess, ctJoin, ctF, jobSh, rangeSh, momSh, momKs, kn_, n_, k_, ofKn, hline, hed]
  rintro t1 _ _ t2 _ _ ⟨rfl, rfl⟩
  unfold tpsh_6
  simp only [VC, allC, List.map_cons, List.map_nil, List.length_cons, List.length_nil, List.getElem?_cons_zero, List.getElem?_cons_succ, List.cons.injEq, C.i.injEq, C.b.injEq, and_true, true_and, forall_const, kindsOf_nil, kindsOf_lf, kindsOf_agg, kindsOf_box, boxKinds_nil, boxKinds_lf, boxKinds_agg, boxKinds_box, List.append_nil, List.cons_append, List.nil_append, den_cmp_le, den_cmp_lt, den_cmp_eq, den_cmp_ne, den_cmp_le', den_cmp_lt', den_cmp_eq', den_cmp_ne', den_and, den_and', den_or, den_or', den_not, den_not', den_blit, den_of, ev_var, at_0, at_1, at_2, at_3, at_4, at_5, at_6, at_7, at_skip, c_int, c_bool, c_arr, c_cnt, c_vec, ev_nil, ev_join, ev_sub3, loc_s, int_i, bool_b, rows_s, cs_nil, cs_cons, E.den_lit, E.den_var, E.den_add, E.den_sub, E.den_mul, E.den_quo, E.den_rem, E.den_max, E.den_min, E.den_len, E.den_wr, E.den_cell, ev_cell, kn1, kn2, Nat.reduceAdd, h1, h2, h3, h4, h5, h6, h7, ctJHeight, ctGas, ctExact, ctMinus, ctUnder, ctLess, ctJoin, ctF, jobSh, rangeSh, momSh, momKs, kn_, n_, k_, ofKn, hline, hed]
  refine ⟨⟨by omega, by omega⟩, ?_⟩
  rintro t1 _ _ t2 _ _ ⟨rfl, rfl⟩
  refine ⟨⟨hh _, hh _⟩, ?_⟩
  rintro t1 _ _ t2 _ _ ⟨rfl, rfl⟩
  have hub : ∀ u, KnOK (underK (b, b) w (lessK (htV j.w.segs (min u (edgeV j m))) (ptopV j m b))) := fun u => (under_bd he hw (less_ht (hh _) htop)).ok (by decide) (by decide)
  refine ⟨⟨hub _, hp, less_ht (hh _) (hh _)⟩, ?_⟩
  have hat : ∀ u, patV j m b u = underK (underK (b, b) w (lessK (htV j.w.segs (min u (edgeV j m))) (ptopV j m b))) kb (lessK (htV j.w.segs u) (htV j.w.segs (edgeV j m))) := fun u => by rw [← hwt, ← hpw]; rfl
  rintro t1 _ _ t2 _ _ ⟨e1, e2⟩
  have e1 : t1 = (patV j m b ro).1 := by rw [hat]; exact e1
  have e2 : t2 = (patV j m b ro).2 := by rw [hat]; exact e2
  subst e1 e2
  unfold tpsh_5
  simp only [VC, allC, List.map_cons, List.map_nil, List.length_cons, List.length_nil, List.getElem?_cons_zero, List.getElem?_cons_succ, List.cons.injEq, C.i.injEq, C.b.injEq, and_true, true_and, forall_const, kindsOf_nil, kindsOf_lf, kindsOf_agg, kindsOf_box, boxKinds_nil, boxKinds_lf, boxKinds_agg, boxKinds_box, List.append_nil, List.cons_append, List.nil_append, den_cmp_le, den_cmp_lt, den_cmp_eq, den_cmp_ne, den_cmp_le', den_cmp_lt', den_cmp_eq', den_cmp_ne', den_and, den_and', den_or, den_or', den_not, den_not', den_blit, den_of, ev_var, at_0, at_1, at_2, at_3, at_4, at_5, at_6, at_7, at_skip, c_int, c_bool, c_arr, c_cnt, c_vec, ev_nil, ev_join, ev_sub3, loc_s, int_i, bool_b, rows_s, cs_nil, cs_cons, E.den_lit, E.den_var, E.den_add, E.den_sub, E.den_mul, E.den_quo, E.den_rem, E.den_max, E.den_min, E.den_len, E.den_wr, E.den_cell, ev_cell, kn1, kn2, Nat.reduceAdd, h1, h2, h3, h4, h5, h6, h7, ctJHeight, ctGas, ctExact, ctMinus, ctUnder, ctLess, ctJoin, ctF, jobSh, rangeSh, momSh, momKs, kn_, n_, k_, ofKn, hline, hed]
  rw [hpts] at hpl
  refine ⟨fun xs => match xs with | [.i i, .i a1, .i a2, .i a3, .i a4, .i a5, .i a6, .i a7, .s _ rows] => 0 ≤ i ∧ i ≤ (knots r2).length ∧ a1 = m ∧ a2 = (pgasV j m b).1 ∧ a3 = (pgasV j m b).2 ∧ a4 = b ∧ a5 = b ∧ a6 = (patV j m b ro).1 ∧ a7 = (patV j m b ro).2 ∧ knots rows = ((knots r2).take i.toNat).map (fun p => patV j m b p.1) | _ => False, fun xs => match xs with | .i i :: _ => ((r2.length : Int) - i).toNat | _ => 0, ⟨by omega, by omega, rfl, rfl, rfl, rfl, rfl, rfl, rfl, by simp [knots]⟩, ?_⟩
  rintro i _ _ a1 _ _ a2 _ _ a3 _ _ a4 _ _ a5 _ _ a6 _ _ a7 _ _ vr rows _ _ _ ⟨i0, i1, q1, q2, q3, q4, q5, q6, q7, hrows⟩
  cases q1.symm
  cases q2.symm
  cases q3.symm
  cases q4.symm
  cases q5.symm
  cases q6.symm
  cases q7.symm
  have hrl : rows.length = i.toNat := by
    have := congrArg List.length hrows
    rw [knots_len2, List.length_map, List.length_take] at this
    omega
  refine ⟨fun hlt => ⟨i0, hlt, ?_⟩, fun hge => ?_⟩
  · have hnext := map_take_succ (fun p : Kn => patV j m b p.1) (l := knots r2) (i := i.toNat) (by omega) (0, 0)
    have hmu : ((r2.length : Int) - (i + 1)).toNat < ((r2.length : Int) - i).toNat := by omega
    have ei : (i + 1).toNat = i.toNat + 1 := by omega
    obtain ⟨k, hk⟩ : ∃ k, (knots r2).getD i.toNat (0, 0) = k := ⟨_, rfl⟩
    rw [hk] at hnext
    simp only [hk]
    rintro t1 _ _ t2 _ _ ⟨rfl, rfl⟩
    unfold tpsh_4
    simp only [VC, allC, List.map_cons, List.map_nil, List.length_cons, List.length_nil, List.getElem?_cons_zero, List.getElem?_cons_succ, List.cons.injEq, C.i.injEq, C.b.injEq, and_true, true_and, forall_const, kindsOf_nil, kindsOf_lf, kindsOf_agg, kindsOf_box, boxKinds_nil, boxKinds_lf, boxKinds_agg, boxKinds_box, List.append_nil, List.cons_append, List.nil_append, den_cmp_le, den_cmp_lt, den_cmp_eq, den_cmp_ne, den_cmp_le', den_cmp_lt', den_cmp_eq', den_cmp_ne', den_and, den_and', den_or, den_or', den_not, den_not', den_blit, den_of, ev_var, at_0, at_1, at_2, at_3, at_4, at_5, at_6, at_7, at_skip, c_int, c_bool, c_arr, c_cnt, c_vec, ev_nil, ev_join, ev_sub3, loc_s, int_i, bool_b, rows_s, cs_nil, cs_cons, E.den_lit, E.den_var, E.den_add, E.den_sub, E.den_mul, E.den_quo, E.den_rem, E.den_max, E.den_min, E.den_len, E.den_wr, E.den_cell, ev_cell, kn1, kn2, Nat.reduceAdd, h1, h2, h3, h4, h5, h6, h7, ctJHeight, ctGas, ctExact, ctMinus, ctUnder, ctLess, ctJoin, ctF, jobSh, rangeSh, momSh, momKs, kn_, n_, k_, ofKn, hline, hed, hk]
    refine ⟨⟨hh _, htop⟩, ?_⟩
    rintro t1 _ _ t2 _ _ ⟨rfl, rfl⟩ x2 _ _ x3 _ _ ⟨e1, e2⟩
    cases e1.symm
    cases e2.symm
    refine ⟨⟨he.ok (by decide) (by decide), hw, less_ht (hh _) htop⟩, ?_⟩
    rintro t1 _ _ t2 _ _ ⟨rfl, rfl⟩
    unfold tpsh_3
    simp only [VC, allC, List.map_cons, List.map_nil, List.length_cons, List.length_nil, List.getElem?_cons_zero, List.getElem?_cons_succ, List.cons.injEq, C.i.injEq, C.b.injEq, and_true, true_and, forall_const, kindsOf_nil, kindsOf_lf, kindsOf_agg, kindsOf_box, boxKinds_nil, boxKinds_lf, boxKinds_agg, boxKinds_box, List.append_nil, List.cons_append, List.nil_append, den_cmp_le, den_cmp_lt, den_cmp_eq, den_cmp_ne, den_cmp_le', den_cmp_lt', den_cmp_eq', den_cmp_ne', den_and, den_and', den_or, den_or', den_not, den_not', den_blit, den_of, ev_var, at_0, at_1, at_2, at_3, at_4, at_5, at_6, at_7, at_skip, c_int, c_bool, c_arr, c_cnt, c_vec, ev_nil, ev_join, ev_sub3, loc_s, int_i, bool_b, rows_s, cs_nil, cs_cons, E.den_lit, E.den_var, E.den_add, E.den_sub, E.den_mul, E.den_quo, E.den_rem, E.den_max, E.den_min, E.den_len, E.den_wr, E.den_cell, ev_cell, kn1, kn2, Nat.reduceAdd, h1, h2, h3, h4, h5, h6, h7, ctJHeight, ctGas, ctExact, ctMinus, ctUnder, ctLess, ctJoin, ctF, jobSh, rangeSh, momSh, momKs, kn_, n_, k_, ofKn, hline, hed, hk]
    rintro t1 _ _ t2 _ _ ⟨rfl, rfl⟩
    unfold tpsh_2
    simp only [VC, allC, List.map_cons, List.map_nil, List.length_cons, List.length_nil, List.getElem?_cons_zero, List.getElem?_cons_succ, List.cons.injEq, C.i.injEq, C.b.injEq, and_true, true_and, forall_const, kindsOf_nil, kindsOf_lf, kindsOf_agg, kindsOf_box, boxKinds_nil, boxKinds_lf, boxKinds_agg, boxKinds_box, List.append_nil, List.cons_append, List.nil_append, den_cmp_le, den_cmp_lt, den_cmp_eq, den_cmp_ne, den_cmp_le', den_cmp_lt', den_cmp_eq', den_cmp_ne', den_and, den_and', den_or, den_or', den_not, den_not', den_blit, den_of, ev_var, at_0, at_1, at_2, at_3, at_4, at_5, at_6, at_7, at_skip, c_int, c_bool, c_arr, c_cnt, c_vec, ev_nil, ev_join, ev_sub3, loc_s, int_i, bool_b, rows_s, cs_nil, cs_cons, E.den_lit, E.den_var, E.den_add, E.den_sub, E.den_mul, E.den_quo, E.den_rem, E.den_max, E.den_min, E.den_len, E.den_wr, E.den_cell, ev_cell, kn1, kn2, Nat.reduceAdd, h1, h2, h3, h4, h5, h6, h7, ctJHeight, ctGas, ctExact, ctMinus, ctUnder, ctLess, ctJoin, ctF, jobSh, rangeSh, momSh, momKs, kn_, n_, k_, ofKn, hline, hed, hk]
    refine ⟨⟨by omega, by omega⟩, ?_⟩
    rintro t1 _ _ t2 _ _ ⟨rfl, rfl⟩
    refine ⟨⟨hh _, hh _⟩, ?_⟩
    rintro t1 _ _ t2 _ _ ⟨rfl, rfl⟩
    refine ⟨⟨hub _, hp, less_ht (hh _) (hh _)⟩, ?_⟩
    rintro t1 _ _ t2 _ _ ⟨e1, e2⟩
    have e1 : t1 = (patV j m b k.1).1 := by rw [hat]; exact e1
    have e2 : t2 = (patV j m b k.1).2 := by rw [hat]; exact e2
    unfold tpsh_1
    simp only [VC, allC, List.map_cons, List.map_nil, List.length_cons, List.length_nil, List.getElem?_cons_zero, List.getElem?_cons_succ, List.cons.injEq, C.i.injEq, C.b.injEq, and_true, true_and, forall_const, kindsOf_nil, kindsOf_lf, kindsOf_agg, kindsOf_box, boxKinds_nil, boxKinds_lf, boxKinds_agg, boxKinds_box, List.append_nil, List.cons_append, List.nil_append, den_cmp_le, den_cmp_lt, den_cmp_eq, den_cmp_ne, den_cmp_le', den_cmp_lt', den_cmp_eq', den_cmp_ne', den_and, den_and', den_or, den_or', den_not, den_not', den_blit, den_of, ev_var, at_0, at_1, at_2, at_3, at_4, at_5, at_6, at_7, at_skip, c_int, c_bool, c_arr, c_cnt, c_vec, ev_nil, ev_join, ev_sub3, loc_s, int_i, bool_b, rows_s, cs_nil, cs_cons, E.den_lit, E.den_var, E.den_add, E.den_sub, E.den_mul, E.den_quo, E.den_rem, E.den_max, E.den_min, E.den_len, E.den_wr, E.den_cell, ev_cell, kn1, kn2, Nat.reduceAdd, h1, h2, h3, h4, h5, h6, h7, ctJHeight, ctGas, ctExact, ctMinus, ctUnder, ctLess, ctJoin, ctF, jobSh, rangeSh, momSh, momKs, kn_, n_, k_, ofKn, hline, hed, hk]
    refine ⟨by omega, ⟨by omega, by omega, ?_⟩, hmu⟩
    rw [ei, hnext, knots_app, hrows, e1, e2]; rfl
  · rw [List.take_of_length_le (by omega)] at hrows
    refine ⟨vr, rows, ?_, by rw [hrows]; show _ = j.w.points.map _; rw [hpts]⟩
    rw [hro]; rfl
theorem moment_ok : tab3.ok 50 := mom_ok ris_ok psh_ok
end Go.Proofs.Ytmdmgpikbebejaa
/- Kill: At. -/
namespace Go.Proofs.Ytmdmgpikbebejaa
open Go.RowKit
set_option linter.unusedSimpArgs false
set_option linter.unusedVariables false

section
variable {j : Jb} {s e : Int}
theorem atE_no (h : jobV j ≠ 0) : atE j s e = jobV j := if_neg h
theorem atE_out (h : jobV j = 0) (h2 : ¬ (0 ≤ s ∧ s ≤ 400 ∧ -1 ≤ e ∧ e ≤ 1)) : atE j s e = 2 := by unfold atE; rw [if_pos h, if_neg h2]
theorem atE_in (h : jobV j = 0) (h2 : 0 ≤ s ∧ s ≤ 400 ∧ -1 ≤ e ∧ e ≤ 1) : atE j s e = 0 := by unfold atE; rw [if_pos h, if_pos h2]
theorem atMo_no (h : jobV j ≠ 0) : atMo j s e = noMo := by unfold atMo; rw [if_neg fun h2 => h h2.1]
theorem atMo_out (h2 : ¬ (0 ≤ s ∧ s ≤ 400 ∧ -1 ≤ e ∧ e ≤ 1)) : atMo j s e = noMo := by unfold atMo; rw [if_neg fun h => h2 h.2]
theorem atMo_in (h : jobV j = 0) (h2 : 0 ≤ s ∧ s ≤ 400 ∧ -1 ≤ e ∧ e ≤ 1) : atMo j s e = momentV j s e := by unfold atMo; rw [if_pos ⟨h, h2⟩]
end
theorem ex_app {P : List C → Prop} (l : List C) (x : C) {y : C} (h : P l) (e : x = y) : ∃ r1 r2, l ++ [x] = r1 ++ [r2] ∧ P r1 ∧ r2 = y := ⟨l, x, rfl, h, e⟩
theorem isMo_no (v : Value) : IsMo noMo [.i 0, .i 0, .i 0, .i 0, .i 0, .i 0, .i 0, .s v []] := ⟨v, [], rfl, rfl⟩
set_option maxHeartbeats 1000000 in
theorem kat_ok : tab3.ok 27 := by
  refine Tab.of_ct rfl rfl ⟨_, Try.func27, by decide, rfl⟩ ?_ (fun h => by cases h)
  refine ct_ok (cx := ckat) (Tab.cx_ok (all_cons chk_ok (all_cons (up3_ok hgt_ok) (all_cons (up3_ok volm_ok) (all_cons moment_ok all_nil)))) fxkat) Try.func27 (bds := []) (T := tkat) (by kernel_rfl) ?_
  have h1 : ckat.ct 48 = some ctCheckJ := rfl
  have h2 : ckat.ct 58 = some ctHeight := rfl
  have h3 : ckat.ct 30 = some ctVol := rfl
  have h4 : ckat.ct 50 = some ctMoment := rfl
  unfold tkat
  simp only [VC, allC, List.map_cons, List.map_nil, List.length_cons, List.length_nil, List.getElem?_cons_zero, List.getElem?_cons_succ, List.cons.injEq, C.i.injEq, C.b.injEq, and_true, true_and, forall_const, kindsOf_nil, kindsOf_lf, kindsOf_agg, kindsOf_box, boxKinds_nil, boxKinds_lf, boxKinds_agg, boxKinds_box, List.append_nil, List.cons_append, List.nil_append, den_cmp_le, den_cmp_lt, den_cmp_eq, den_cmp_ne, den_cmp_le', den_cmp_lt', den_cmp_eq', den_cmp_ne', den_and, den_and', den_or, den_or', den_not, den_not', den_blit, den_of, ev_var, at_0, at_1, at_2, at_3, at_4, at_5, at_6, at_7, at_skip, c_int, c_bool, c_arr, c_cnt, c_vec, ev_nil, ev_join, ev_sub3, loc_s, int_i, bool_b, rows_s, cs_nil, cs_cons, E.den_lit, E.den_var, E.den_add, E.den_sub, E.den_mul, E.den_quo, E.den_rem, E.den_max, E.den_min, E.den_len, E.den_wr, E.den_cell, Nat.reduceAdd, h1, h2, h3, h4, ctCheckJ, ctHeight, ctVol, ctMoment, ctAtK, ctF, wellSh, wellKs, progSh, bubSh, momSh, momKs, jobSh, holeSh, lineSh, n_]
  rintro u1 r1 _ _ _ w _ _ u2 r2 _ _ _ li _ _ pi _ _ st _ _ ka _ _ kb _ _ kc _ _ kd _ _ v _ _ po _ _ s _ _ e _ _
  obtain ⟨j, hjd⟩ : ∃ j, j = jobOf [.s u1 r1, .i w, .s u2 r2, .i li, .i pi, .i st, .i ka, .i kb, .i kc, .i kd, .i v, .i po, .i s, .i e] 0 := ⟨_, rfl⟩
  rw [← hjd]
  have out : jobV j = 0 → ¬ (0 ≤ s ∧ s ≤ 400 ∧ -1 ≤ e ∧ e ≤ 1) → ∃ r1 r2, ([.i 0, .i 0, .i 0, .i 0, .i 0, .i 0, .i 0, .s (.slice none 0 0) [], .i 2] : List C) = r1 ++ [r2] ∧ IsMo (atMo j s e) r1 ∧ r2 = C.i (atE j s e) := fun h h2 => ex_app [.i 0, .i 0, .i 0, .i 0, .i 0, .i 0, .i 0, .s (.slice none 0 0) []] (.i 2) (by rw [atMo_out h2]; exact isMo_no _) (by rw [atE_out h h2])
  refine ⟨bds_nil _, ?_⟩
  rintro n _ _ hn
  have hn : n = jobV j := by rw [hjd]; exact hn
  refine ⟨fun h => ?_, fun h => ?_⟩
  · exact ex_app [.i 0, .i 0, .i 0, .i 0, .i 0, .i 0, .i 0, .s (.slice none 0 0) []] (.i n) (by rw [atMo_no (by omega)]; exact isMo_no _) (by rw [atE_no (by omega), hn])
  have h0 : jobV j = 0 := by omega
  refine ⟨fun g => out h0 (by omega), fun g1 => ⟨fun g => out h0 (by omega), fun g2 => ⟨fun g => out h0 (by omega), fun g3 => ⟨fun g => out h0 (by omega), fun g4 => ?_⟩⟩⟩⟩
  rintro vl rows _ _ _ ⟨v', rows', e1, e2⟩
  cases e1
  rintro room _ _ hroom
  have hf : JF j := jf_of h0
  have hs : holeV (segsOf r1) = 0 := by have := hf.hole; rw [hjd] at this; exact this
  refine ⟨⟨⟨by rw [hjd] at h0; exact h0, e2, ?_⟩, ⟨g1, g2⟩, ⟨g3, g4⟩⟩, ?_⟩
  · show room = volV (segsOf r1)
    rw [hroom]; exact roomS_yes hs
  intro x1 _ _ x2 _ _ x3 _ _ x4 _ _ x5 _ _ x6 _ _ x7 _ _ v2 rows2 _ _ _ hx
  refine ex_app [.i x1, .i x2, .i x3, .i x4, .i x5, .i x6, .i x7, .s v2 rows2] (.i 0) ?_ (by rw [atE_in h0 ⟨g1, g2, g3, g4⟩])
  rw [atMo_in h0 ⟨g1, g2, g3, g4⟩, hjd]
  exact hx
end Go.Proofs.Ytmdmgpikbebejaa
/- Kill: what the statements' own functions compute. -/
namespace Go.Proofs.Ytmdmgpikbebejaa
set_option linter.unusedVariables false

def smallW (w : Wl) : Bool := decide (w.segs.length ≤ 18) && decide (w.points.length ≤ 10)
def ctSmallW : Ct := ctF [wellSh] [.lf .bool] (fun _ => True) (fun cs => [.b (smallW (wellOf cs 0))])
def shownW : Wl := ⟨[⟨100000, 100000, 100, 50⟩], 12000, [(2000000, 1200000000)], 500000000, 1000000, 1000000⟩
def drillerP : Pg := ⟨1, 13000, 10000000, 0⟩
def influxB : Bb := ⟨1000000, 1250000000⟩
def shownJ : Jb := ⟨shownW, drillerP, influxB⟩
def ctDriller : Ct := ctF [] [progSh] (fun _ => True) (fun _ => [.i 1, .i 13000, .i 10000000, .i 0])
def ctInflux : Ct := ctF [] [bubSh] (fun _ => True) (fun _ => [.i 1000000, .i 1250000000])
def ctAwake : Ct := ctF [] [.lf .bool] (fun _ => True) (fun _ => [.b true])
/-! The kit's wells, programs and kicks -/
def ints (rows : List (List C)) : List Int := rows.map fun r => (r.getD 0 (.i 0)).int
structure Br where
  segs : List Int
  points : List Int
  weight : Int
  limit : Int
  pipe : Int
  step : Int
  kind : Int
  kill : Int
  margin : Int
  err : Int
  vols : List Int
  pores : List Int
def l_ (cs : List C) (i : Nat) : List Int := ints (at_ cs i).rows
def brOf (cs : List C) (i : Nat) : Br := ⟨l_ cs i, l_ cs (i + 1), n_ cs (i + 2), n_ cs (i + 3), n_ cs (i + 4), n_ cs (i + 5), n_ cs (i + 6), n_ cs (i + 7), n_ cs (i + 8), n_ cs (i + 9), l_ cs (i + 10), l_ cs (i + 11)⟩
def boreSh : Sh0 := .agg [.arr 2, .arr 2, .int, .int, .int, .int, .int, .int, .int, .int, .arr 2, .arr 2]
def pickV (l : List Int) (i : Int) : Int := if l.length = 0 then 0 else l.getD (i % l.length).toNat 0 % 1099511627776
def segB (n : Int) : Sg := ⟨10000 + n % 100001, 10000 + n % 100001 - n / 11 % ((10000 + n % 100001) / 4), 50 + n / 3 % 400, 20 + n / 7 % 100⟩
def many (l : List Int) : Nat := max 1 (min l.length 3)
def segsB (x : Br) : List Sg := (List.range (many x.segs)).map fun (i : Nat) => segB (pickV x.segs (i : Int))
/-- The points: from the i-th on, so many, behind a place. -/
def ptsB (l : List Int) (room all : Int) : Nat → Nat → Int → List Kn
  | 0, _, _ => []
  | n + 1, i, a => (a + 1 + pickV l i % (room / 4), (13000 + pickV l i / 5 % 9001) * (all - all / 4 * i)) :: ptsB l room all n (i + 1) (a + 1 + pickV l i % (room / 4))
def wellB (x : Br) : Wl := ⟨segsB x, 10000 + x.weight % 6001, ptsB x.points (volV (segsB x)) (riseV (segsB x)) (min x.points.length 3) 0 0, x.limit % 1500000000, x.pipe % volV (segsB x), 1 + volV (segsB x) / (4 + x.step % 25)⟩
def progB (x : Br) : Pg := ⟨1 + x.kind % 3, 11000 + x.kill % 8001, x.margin % 30000000, x.err % 12000000⟩
def runB (l : List Int) (m : Int) : Nat → Nat → Int → List Int
  | 0, _, _ => []
  | n + 1, i, a => (a + 1 + pickV l i % m) :: runB l m n (i + 1) (a + 1 + pickV l i % m)
def volsB (x : Br) : List Int := runB x.vols 2000000 (many x.vols) 0 0
def poresB (x : Br) : List Int := runB x.pores 60000000 (many x.pores) 0 ((10000 + x.weight % 6001) * riseV (segsB x))
def ctMod : Ct := ctF [.lf .int, .lf .int] [.lf .int] (fun cs => 1 ≤ n_ cs 1) (fun cs => [.i (n_ cs 0 % n_ cs 1)])
def ctPick : Ct := ctF [.lf (.arr 2), .lf .int] [.lf .int] (fun cs => 0 ≤ n_ cs 1) (fun cs => [.i (pickV (l_ cs 0) (n_ cs 1))])
def wellVSh : Sh0 := .agg [.vec 97, .int, .vec 70, .int, .int, .int]
def ctKWell : Ct := ⟨[boreSh], [wellVSh], fun _ => True, fun cs rs => ∃ v1 r1 w v2 r2 li pi st, rs = [.s v1 r1, .i w, .s v2 r2, .i li, .i pi, .i st] ∧ wellOf rs 0 = wellB (brOf cs 0), false⟩
def pgC (p : Pg) : List C := [.i p.kind, .i p.weight, .i p.margin, .i p.err]
def ctKProg : Ct := ctF [boreSh] [progSh] (fun _ => True) (fun cs => pgC (progB (brOf cs 0)))
def ctKKicks : Ct := ⟨[boreSh], [.lf (.vec 2), .lf (.vec 2)], fun _ => True, fun cs rs => ∃ v1 r1 v2 r2, rs = [.s v1 r1, .s v2 r2] ∧ ints r1 = volsB (brOf cs 0) ∧ ints r2 = poresB (brOf cs 0), false⟩
def sameMo (x y : Mo) : Bool := x.pumped == y.pumped && x.gas == y.gas && x.base == y.base && x.surf == y.surf && x.pts == y.pts
def ctSameMo : Ct := ctF [momASh, momASh] [.lf .bool] (fun _ => True) (fun cs => [.b (sameMo (momOf cs 0) (momOf cs 8))])
def tab4 : Tab where
  ct := fun f => match f with
    | 13 => some ctSmallW
    | 33 => some ctDriller
    | 34 => some ctInflux
    | 14 => some ctAwake
    | 26 | 29 => some ctMod
    | 47 => some ctPick
    | 23 => some ctKWell
    | 24 => some ctKProg
    | 25 => some ctKKicks
    | 28 => some ctSameMo
    | f => tab3.ct f
  inl := tab3.inl
  sel := tab3.sel
theorem up4_ok {f : Nat} (h : tab3.ok f) (he : tab4.ct f = tab3.ct f := by rfl) : tab4.ok f :=
  ⟨h.1, fun ct hc => h.2.1 ct (he ▸ hc), h.2.2.1, h.2.2.2⟩
end Go.Proofs.Ytmdmgpikbebejaa
/- What is to be shown of each function, as the executor has it. Printed by trees.py. -/
namespace Go.Proofs.Ytmdmgpikbebejaa
noncomputable def csmall : Cx := tab4.only [] (fun _ => []) [] 0 [] (fun _ => none)
def tsmall : Tree :=
  (.split (.cmp .le (.len (.var 0)) (.lit 18)) (.ret [(.bool (.cmp .le (.len (.var 2)) (.lit 10)))]) (.ret [(.bool (.lit false))]))
noncomputable def cdriller : Cx := tab4.only [] (fun _ => []) [] 0 [] (fun _ => none)
def tdriller : Tree :=
  (.ret [(.int (.lit 1)), (.int (.lit 13000)), (.int (.lit 10000000)), (.int (.lit 0))])
noncomputable def cinflux : Cx := tab4.only [] (fun _ => []) [] 0 [] (fun _ => none)
def tinflux : Tree :=
  (.ret [(.int (.lit 1000000)), (.int (.lit 1250000000))])
noncomputable def flawake : List (Nat × Func) := [(32, Try.f32)]
theorem fxawake : ∀ p ∈ flawake, FnOK p := fns_cons ⟨Try.func32, ⟨_, Try.func32, by decide, rfl⟩⟩ (fns_nil)
noncomputable def cawake : Cx := tab4.only [27, 21, 33, 34] (fun _ => []) flawake 1 [] (fun _ => none)
def tawake : Tree :=
  (.dfn .nil (.dfn .nil (.arr [[(.int (.lit 100000)), (.int (.lit 100000)), (.int (.lit 100)), (.int (.lit 50))]] (.arr [[(.int (.lit 2000000)), (.int (.lit 1200000000))]] (.call 33 [] (.call 34 [] (.call 27 [(.arr 97 (.var 2)), (.int (.lit 12000)), (.arr 70 (.var 3)), (.int (.lit 500000000)), (.int (.lit 1000000)), (.int (.lit 1000000)), (.int (.var 4)), (.int (.var 5)), (.int (.var 6)), (.int (.var 7)), (.int (.var 8)), (.int (.var 9)), (.int (.lit 0)), (.int (.lit 0))] (.dfn .nil (.split (.cmp .eq (.var 18) (.lit 0)) (.split (.and (.cmp .eq (.var 11) (.lit 992063)) (.cmp .eq (.var 12) (.lit 992064))) (.split (.and (.cmp .eq (.var 15) (.lit 179040000)) (.cmp .eq (.var 16) (.lit 179052000))) (.call 33 [] (.call 34 [] (.call 21 [(.int (.var 20)), (.int (.var 21)), (.int (.var 22)), (.int (.var 23)), (.int (.var 24)), (.int (.var 25)), (.int (.lit 0))] (.ret [(.bool (.cmp .eq (.var 26) (.lit 1260000000)))])))) (.ret [(.bool (.lit false))])) (.ret [(.bool (.lit false))])) (.ret [(.bool (.lit false))]))))))))))
noncomputable def clchecks : Cx := tab4.only [13, 14, 15, 16, 17, 18, 19, 20, 21, 22] (fun _ => []) [] 0 [] (fun _ => none)
def tlchecks : Tree :=
  (.call 13 [(.arr 97 (.var 0)), (.int (.var 1)), (.arr 70 (.var 2)), (.int (.var 3)), (.int (.var 4)), (.int (.var 5))] (.split (.not (.of (.var 13))) (.call 14 [] (.ret [(.bool (.of (.var 14)))])) (.call 15 [(.arr 97 (.var 0)), (.int (.var 1)), (.arr 70 (.var 2)), (.int (.var 3)), (.int (.var 4)), (.int (.var 5))] (.call 16 [(.arr 97 (.var 0)), (.int (.var 1)), (.arr 70 (.var 2)), (.int (.var 3)), (.int (.var 4)), (.int (.var 5))] (.split (.cmp .eq (.var 14) (.var 15)) (.call 17 [(.int (.var 6)), (.int (.var 7)), (.int (.var 8)), (.int (.var 9))] (.call 18 [(.int (.var 6)), (.int (.var 7)), (.int (.var 8)), (.int (.var 9))] (.split (.cmp .eq (.var 16) (.var 17)) (.call 19 [(.int (.var 10)), (.int (.var 11))] (.call 20 [(.int (.var 10)), (.int (.var 11))] (.split (.cmp .eq (.var 18) (.var 19)) (.call 21 [(.int (.var 6)), (.int (.var 7)), (.int (.var 8)), (.int (.var 9)), (.int (.var 10)), (.int (.var 11)), (.int (.var 12))] (.call 22 [(.int (.var 6)), (.int (.var 7)), (.int (.var 8)), (.int (.var 9)), (.int (.var 10)), (.int (.var 11)), (.int (.var 12))] (.split (.cmp .eq (.var 20) (.var 21)) (.call 14 [] (.ret [(.bool (.of (.var 22)))])) (.ret [(.bool (.lit false))])))) (.ret [(.bool (.lit false))])))) (.ret [(.bool (.lit false))])))) (.ret [(.bool (.lit false))]))))))
def tmod : Tree :=
  (.ob (.cmp .ne (.var 1) (.lit 0)) (.split (.cmp .lt (.rem (.var 0) (.var 1)) (.lit 0)) (.ob (.and (.cmp .le (.lit (-9223372036854775808)) (.add (.rem (.var 0) (.var 1)) (.var 1))) (.cmp .le (.add (.rem (.var 0) (.var 1)) (.var 1)) (.lit 9223372036854775807))) (.ob (.and (.cmp .le (.lit (-9223372036854775808)) (.add (.rem (.var 0) (.var 1)) (.var 1))) (.cmp .le (.add (.rem (.var 0) (.var 1)) (.var 1)) (.lit 9223372036854775807))) (.ret [(.int (.add (.rem (.var 0) (.var 1)) (.var 1)))]))) (.ob (.and (.cmp .le (.lit (-9223372036854775808)) (.rem (.var 0) (.var 1))) (.cmp .le (.rem (.var 0) (.var 1)) (.lit 9223372036854775807))) (.ret [(.int (.rem (.var 0) (.var 1)))]))))
end Go.Proofs.Ytmdmgpikbebejaa
/- Kill: the chapter's examples; which wells, programs and kicks are valid. -/
namespace Go.Proofs.Ytmdmgpikbebejaa
open Go.RowKit
set_option linter.unusedSimpArgs false
set_option linter.unusedVariables false

theorem small_ok : tab4.ok 13 := by
  refine Tab.of_ct rfl rfl ⟨_, Try.func13, by decide, rfl⟩ ?_ ctF_det
  refine ct_ok (cx := csmall) (Tab.cx_ok all_nil) Try.func13 (bds := []) (T := tsmall) (by kernel_rfl) ?_
  unfold tsmall
  simp only [VC, allC, List.map_cons, List.map_nil, List.length_cons, List.length_nil, List.getElem?_cons_zero, List.getElem?_cons_succ, List.cons.injEq, C.i.injEq, C.b.injEq, and_true, true_and, forall_const, kindsOf_nil, kindsOf_lf, kindsOf_agg, kindsOf_box, boxKinds_nil, boxKinds_lf, boxKinds_agg, boxKinds_box, List.append_nil, List.cons_append, List.nil_append, den_cmp_le, den_cmp_lt, den_cmp_eq, den_cmp_ne, den_cmp_le', den_cmp_lt', den_cmp_eq', den_cmp_ne', den_and, den_and', den_or, den_or', den_not, den_not', den_blit, den_of, ev_var, at_0, at_1, at_2, at_3, at_4, at_5, at_6, at_7, at_skip, c_int, c_bool, c_arr, c_cnt, c_vec, ev_nil, ev_join, ev_sub3, loc_s, int_i, bool_b, rows_s, cs_nil, cs_cons, E.den_lit, E.den_var, E.den_add, E.den_sub, E.den_mul, E.den_quo, E.den_rem, E.den_max, E.den_min, E.den_len, E.den_wr, E.den_cell, Nat.reduceAdd, ctSmallW, ctF, wellSh, wellKs]
  intro u1 r1 _ _ _ w _ _ u2 r2 _ _ _ li _ _ pi _ _ st _ _
  have e1 := segs_len r1
  have e2 := knots_len r2
  refine ⟨bds_nil _, fun h => ?_, fun h => ?_⟩
  · show decide ((r2.length : Int) ≤ 10) = (decide ((segsOf r1).length ≤ 18) && decide ((knots r2).length ≤ 10))
    rw [decide_eq_true (show (segsOf r1).length ≤ 18 by omega), Bool.true_and]
    exact decide_eq_decide.2 ⟨fun h => by omega, fun h => by omega⟩
  · show false = (decide ((segsOf r1).length ≤ 18) && decide ((knots r2).length ≤ 10))
    rw [decide_eq_false (show ¬ (segsOf r1).length ≤ 18 by omega), Bool.false_and]
theorem driller_ok : tab4.ok 33 := by
  refine Tab.of_ct rfl rfl ⟨_, Try.func33, by decide, rfl⟩ ?_ ctF_det
  refine ct_ok (cx := cdriller) (Tab.cx_ok all_nil) Try.func33 (bds := []) (T := tdriller) (by kernel_rfl) ?_
  unfold tdriller
  simp only [VC, allC, List.map_cons, List.map_nil, List.length_cons, List.length_nil, List.getElem?_cons_zero, List.getElem?_cons_succ, List.cons.injEq, C.i.injEq, C.b.injEq, and_true, true_and, forall_const, kindsOf_nil, kindsOf_lf, kindsOf_agg, kindsOf_box, boxKinds_nil, boxKinds_lf, boxKinds_agg, boxKinds_box, List.append_nil, List.cons_append, List.nil_append, den_cmp_le, den_cmp_lt, den_cmp_eq, den_cmp_ne, den_cmp_le', den_cmp_lt', den_cmp_eq', den_cmp_ne', den_and, den_and', den_or, den_or', den_not, den_not', den_blit, den_of, ev_var, at_0, at_1, at_2, at_3, at_4, at_5, at_6, at_7, at_skip, c_int, c_bool, c_arr, c_cnt, c_vec, ev_nil, ev_join, ev_sub3, loc_s, int_i, bool_b, rows_s, cs_nil, cs_cons, E.den_lit, E.den_var, E.den_add, E.den_sub, E.den_mul, E.den_quo, E.den_rem, E.den_max, E.den_min, E.den_len, E.den_wr, E.den_cell, Nat.reduceAdd, ctDriller, ctF]
  exact bds_nil _
theorem influx_ok : tab4.ok 34 := by
  refine Tab.of_ct rfl rfl ⟨_, Try.func34, by decide, rfl⟩ ?_ ctF_det
  refine ct_ok (cx := cinflux) (Tab.cx_ok all_nil) Try.func34 (bds := []) (T := tinflux) (by kernel_rfl) ?_
  unfold tinflux
  simp only [VC, allC, List.map_cons, List.map_nil, List.length_cons, List.length_nil, List.getElem?_cons_zero, List.getElem?_cons_succ, List.cons.injEq, C.i.injEq, C.b.injEq, and_true, true_and, forall_const, kindsOf_nil, kindsOf_lf, kindsOf_agg, kindsOf_box, boxKinds_nil, boxKinds_lf, boxKinds_agg, boxKinds_box, List.append_nil, List.cons_append, List.nil_append, den_cmp_le, den_cmp_lt, den_cmp_eq, den_cmp_ne, den_cmp_le', den_cmp_lt', den_cmp_eq', den_cmp_ne', den_and, den_and', den_or, den_or', den_not, den_not', den_blit, den_of, ev_var, at_0, at_1, at_2, at_3, at_4, at_5, at_6, at_7, at_skip, c_int, c_bool, c_arr, c_cnt, c_vec, ev_nil, ev_join, ev_sub3, loc_s, int_i, bool_b, rows_s, cs_nil, cs_cons, E.den_lit, E.den_var, E.den_add, E.den_sub, E.den_mul, E.den_quo, E.den_rem, E.den_max, E.den_min, E.den_len, E.den_wr, E.den_cell, Nat.reduceAdd, ctInflux, ctF]
  exact bds_nil _
set_option maxRecDepth 100000 in
theorem shown_known : atE shownJ 0 0 = 0 ∧ (atMo shownJ 0 0).gas = (992063, 992064) ∧ (atMo shownJ 0 0).surf = (179040000, 179052000) ∧ bottomV drillerP influxB 0 = 1260000000 := by decide +kernel
theorem mo_inv {x : Mo} {a1 a2 a3 a4 a5 a6 a7 : Int} {v : Value} {rows : List (List C)} (h : IsMo x [.i a1, .i a2, .i a3, .i a4, .i a5, .i a6, .i a7, .s v rows]) : a1 = x.pumped ∧ a2 = x.gas.1 ∧ a3 = x.gas.2 ∧ a4 = x.base.1 ∧ a5 = x.base.2 ∧ a6 = x.surf.1 ∧ a7 = x.surf.2 ∧ knots rows = x.pts := by
  obtain ⟨v', rows', e, hk⟩ := h
  simp only [List.cons.injEq, C.i.injEq, C.s.injEq, and_true] at e
  obtain ⟨e1, e2, e3, e4, e5, e6, e7, -, e8⟩ := e
  exact ⟨e1, e2, e3, e4, e5, e6, e7, by rw [e8]; exact hk⟩
theorem at_inv {x : Mo} {E : Int} {a1 a2 a3 a4 a5 a6 a7 er : Int} {v : Value} {rows : List (List C)} (h : ∃ r1 r2, ([.i a1, .i a2, .i a3, .i a4, .i a5, .i a6, .i a7, .s v rows, .i er] : List C) = r1 ++ [r2] ∧ IsMo x r1 ∧ r2 = .i E) : (a1 = x.pumped ∧ a2 = x.gas.1 ∧ a3 = x.gas.2 ∧ a4 = x.base.1 ∧ a5 = x.base.2 ∧ a6 = x.surf.1 ∧ a7 = x.surf.2 ∧ knots rows = x.pts) ∧ er = E := by
  obtain ⟨r1, r2, e, hm, rfl⟩ := h
  have e : ([.i a1, .i a2, .i a3, .i a4, .i a5, .i a6, .i a7, .s v rows] : List C) ++ [.i er] = r1 ++ [.i E] := e
  obtain ⟨rfl, e2⟩ := List.append_inj' e rfl
  simp only [List.cons.injEq, C.i.injEq, and_true] at e2
  exact ⟨mo_inv hm, e2⟩
theorem awake_ok : tab4.ok 14 := by
  refine Tab.of_ct rfl rfl ⟨_, Try.func14, by decide, rfl⟩ ?_ ctF_det
  refine ct_ok (cx := cawake) (Tab.cx_ok (all_cons (up4_ok kat_ok) (all_cons (up4_ok (up3_ok bottom_ok)) (all_cons driller_ok (all_cons influx_ok all_nil)))) fxawake) Try.func14 (bds := []) (T := tawake) (by kernel_rfl) ?_
  have h1 : cawake.ct 27 = some ctAtK := rfl
  have h2 : cawake.ct 21 = some ctBottom := rfl
  have h3 : cawake.ct 33 = some ctDriller := rfl
  have h4 : cawake.ct 34 = some ctInflux := rfl
  obtain ⟨k1, k2, k3, k4⟩ := shown_known
  unfold tawake
  simp only [VC, allC, List.map_cons, List.map_nil, List.length_cons, List.length_nil, List.getElem?_cons_zero, List.getElem?_cons_succ, List.cons.injEq, C.i.injEq, C.b.injEq, and_true, true_and, forall_const, kindsOf_nil, kindsOf_lf, kindsOf_agg, kindsOf_box, boxKinds_nil, boxKinds_lf, boxKinds_agg, boxKinds_box, List.append_nil, List.cons_append, List.nil_append, den_cmp_le, den_cmp_lt, den_cmp_eq, den_cmp_ne, den_cmp_le', den_cmp_lt', den_cmp_eq', den_cmp_ne', den_and, den_and', den_or, den_or', den_not, den_not', den_blit, den_of, ev_var, at_0, at_1, at_2, at_3, at_4, at_5, at_6, at_7, at_skip, c_int, c_bool, c_arr, c_cnt, c_vec, ev_nil, ev_join, ev_sub3, loc_s, int_i, bool_b, rows_s, cs_nil, cs_cons, E.den_lit, E.den_var, E.den_add, E.den_sub, E.den_mul, E.den_quo, E.den_rem, E.den_max, E.den_min, E.den_len, E.den_wr, E.den_cell, Nat.reduceAdd, h1, h2, h3, h4, ctAtK, ctBottom, ctDriller, ctInflux, ctAwake, ctF, progSh, bubSh, momSh, momKs, n_]
  refine ⟨bds_nil _, ?_⟩
  rintro v v1 a _ _ b _ _ c _ _ d _ _ ⟨rfl, rfl, rfl, rfl⟩ e _ _ f _ _ ⟨rfl, rfl⟩ x1 _ _ x2 _ _ x3 _ _ x4 _ _ x5 _ _ x6 _ _ x7 _ _ vr rows _ _ _ er _ _ h
  have h := at_inv (x := atMo shownJ 0 0) (E := atE shownJ 0 0) h
  rw [k1] at h
  rw [k2, k3] at h
  obtain ⟨⟨-, rfl, rfl, -, -, rfl, rfl, -⟩, rfl⟩ := h
  refine ⟨fun _ => ⟨fun _ => ⟨fun _ => ?_, fun h => absurd rfl (h rfl)⟩, fun h => absurd rfl (h rfl)⟩, fun h => absurd rfl h⟩
  rintro n _ _ n1 _ _ n2 _ _ n3 _ _ ⟨rfl, rfl, rfl, rfl⟩ n4 _ _ n5 _ _ ⟨rfl, rfl⟩ n6 _ _ e6
  have e6 : n6 = bottomV drillerP influxB 0 := e6
  exact e6.trans k4
theorem lchecks_ok : CtOK Try.prog 3 (ctLaw [wellSh, progSh, bubSh, .lf .int]) := by
  refine ct_ok (cx := clchecks) (Tab.cx_ok (all_cons small_ok (all_cons awake_ok (all_cons (up4_ok (up3_ok cwell_ok)) (all_cons (up4_ok (up3_ok rwell_ok)) (all_cons (up4_ok (up3_ok cprog_ok)) (all_cons (up4_ok (up3_ok rprog_ok)) (all_cons (up4_ok (up3_ok ckick_ok)) (all_cons (up4_ok (up3_ok rkick_ok)) (all_cons (up4_ok (up3_ok bottom_ok)) (all_cons (up4_ok (up3_ok rbottom_ok)) all_nil))))))))))) Try.func3 (bds := []) (T := tlchecks) (by kernel_rfl) ?_
  have h1 : clchecks.ct 13 = some ctSmallW := rfl
  have h2 : clchecks.ct 14 = some ctAwake := rfl
  have h3 : clchecks.ct 15 = some ctWell := rfl
  have h4 : clchecks.ct 16 = some ctWell := rfl
  have h5 : clchecks.ct 17 = some ctProg := rfl
  have h6 : clchecks.ct 18 = some ctProg := rfl
  have h7 : clchecks.ct 19 = some ctKick := rfl
  have h8 : clchecks.ct 20 = some ctKick := rfl
  have h9 : clchecks.ct 21 = some ctBottom := rfl
  have h10 : clchecks.ct 22 = some ctBottom := rfl
  unfold tlchecks
  simp only [VC, allC, List.map_cons, List.map_nil, List.length_cons, List.length_nil, List.getElem?_cons_zero, List.getElem?_cons_succ, List.cons.injEq, C.i.injEq, C.b.injEq, and_true, true_and, forall_const, kindsOf_nil, kindsOf_lf, kindsOf_agg, kindsOf_box, boxKinds_nil, boxKinds_lf, boxKinds_agg, boxKinds_box, List.append_nil, List.cons_append, List.nil_append, den_cmp_le, den_cmp_lt, den_cmp_eq, den_cmp_ne, den_cmp_le', den_cmp_lt', den_cmp_eq', den_cmp_ne', den_and, den_and', den_or, den_or', den_not, den_not', den_blit, den_of, ev_var, at_0, at_1, at_2, at_3, at_4, at_5, at_6, at_7, at_skip, c_int, c_bool, c_arr, c_cnt, c_vec, ev_nil, ev_join, ev_sub3, loc_s, int_i, bool_b, rows_s, cs_nil, cs_cons, E.den_lit, E.den_var, E.den_add, E.den_sub, E.den_mul, E.den_quo, E.den_rem, E.den_max, E.den_min, E.den_len, E.den_wr, E.den_cell, Nat.reduceAdd, h1, h2, h3, h4, h5, h6, h7, h8, h9, h10, ctSmallW, ctAwake, ctWell, ctProg, ctKick, ctBottom, ctLaw, ctF, wellSh, wellKs, progSh, bubSh]
  intro u1 r1 _ _ _ w _ _ u2 r2 _ _ _ li _ _ pi _ _ st _ _ ka _ _ kb _ _ kc _ _ kd _ _ v _ _ po _ _ e _ _
  refine ⟨bds_nil _, fun t _ => ⟨fun _ t h => h, fun _ => ?_⟩⟩
  rintro n1 _ _ e1 n2 _ _ e2
  refine ⟨fun _ => ?_, fun h => absurd (e1.trans e2.symm) h⟩
  rintro n3 _ _ e3 n4 _ _ e4
  refine ⟨fun _ => ?_, fun h => absurd (e3.trans e4.symm) h⟩
  rintro n5 _ _ e5 n6 _ _ e6
  refine ⟨fun _ => ?_, fun h => absurd (e5.trans e6.symm) h⟩
  rintro n7 _ _ e7 n8 _ _ e8
  exact ⟨fun _ t h => h, fun h => absurd (e7.trans e8.symm) h⟩
end Go.Proofs.Ytmdmgpikbebejaa
/- Arguments of any shape that the engine knows, opened: structs, and slices within slices. -/
namespace Go.Proofs.Ytmdmgpikbebejaa
open Go.ChangeShapes Go.WideShapes Go.RowKit
set_option linter.unusedVariables false
/-- A type of integers, truth values and slices, without arrays. -/
def flatB (P : Program) : Nat → TypeId → Bool
  | 0, _ => false
  | d + 1, t => match P.underlying t with
    | some (.int .i64) => true
    | some .bool => true
    | some (.slice _) => true
    | some (.struct fs) => fs.toList.all fun f => flatB P d f.type
    | _ => false
/-- What a slice of this kind holds is known, to depth n. -/
def deepB (P : Program) : Nat → Lk → Bool
  | _, .int => true
  | _, .bool => true
  | n + 1, .arr e => match kinds P e with
    | some ks => ks.all (deepB P n) && (P.cellsOf e == ks.length) && flatB P 6 e
    | none => false
  | _, _ => false
def CellN (P : Program) (w : World) (n : Nat) (k : Lk) (u : Value) (c : C) : Prop := (∀ m, c.small m) ∧ match k with
  | .int => ∃ n, u = .int .i64 n ∧ c = .i n
  | .bool => ∃ t, u = .bool t ∧ c = .b t
  | .arr t => ∃ rows', c = .s u rows' ∧ ArrN P (fun b _ => b < w.heap.size) w n t u rows'
  | .vec _ => False
def kStep (P : Program) (d : Nat) (acc : Option (List Lk)) (f : Field) : Option (List Lk) := match acc, kindsF P d f.type with
  | some l, some m => if l.length = f.offset then some (l ++ m) else none
  | _, _ => none
theorem kStep_none {P : Program} {d : Nat} : ∀ {fs : List Field}, fs.foldl (kStep P d) none = none
  | [] => rfl
  | f :: fs => by rw [List.foldl_cons]; exact kStep_none
theorem kStep_at {P : Program} {d : Nat} : ∀ {fs : List Field} {a ks : List Lk}, fs.foldl (kStep P d) (some a) = some ks → ∀ (j : Nat) (k : Lk), ks[j]? = some k →
    a[j]? = some k ∨ ∃ f ∈ fs, ∃ m, kindsF P d f.type = some m ∧ f.offset ≤ j ∧ m[j - f.offset]? = some k
  | [], a, ks, h, j, k, hj => by cases h; exact .inl hj
  | f :: fs, a, ks, h, j, k, hj => by
    rw [List.foldl_cons] at h
    cases hm : kindsF P d f.type with
    | none => rw [show kStep P d (some a) f = none by simp [kStep, hm], kStep_none] at h; cases h
    | some m =>
      by_cases hl : a.length = f.offset
      · rw [show kStep P d (some a) f = some (a ++ m) by simp [kStep, hm, hl]] at h
        rcases kStep_at h j k hj with h1 | ⟨g, hg, m', h2⟩
        · by_cases hja : j < a.length
          · rw [List.getElem?_append_left hja] at h1; exact .inl h1
          · rw [List.getElem?_append_right (by omega), hl] at h1
            exact .inr ⟨f, List.mem_cons_self .., m, hm, by omega, h1⟩
        · exact .inr ⟨g, List.mem_cons_of_mem _ hg, m', h2⟩
      · rw [show kStep P d (some a) f = none by simp [kStep, hm, hl], kStep_none] at h; cases h
theorem kinds_F {P : Program} {t : TypeId} {ks : List Lk} (h : kinds P t = some ks) : kindsF P 6 t = some ks := by
  unfold kinds at h
  split at h
  · rename_i l hl
    split at h
    · cases h; exact hl
    · cases h
  · cases h
section
variable {H : Type} {enc : TypeId × Value → H} {P : Program} {w : World} {base : Nat} {spare : Nat → Bool} {held : Bool}
theorem small_int {n : Int} (h : -9223372036854775808 ≤ n ∧ n ≤ 9223372036854775807) : ∀ m, (C.i n).small m := fun m => by cases m <;> exact h
theorem cells_deep : ∀ (fuel n d : Nat) (t : TypeId) (ks : List Lk) (cs : List Value) (x : DataW H × List MemPlace), kindsF P d t = some ks → flatB P d t = true →
    DataW.trod enc P w base spare held fuel t cs = some x → ∀ (j : Nat) (k : Lk), ks[j]? = some k → deepB P n k = true → ∃ u c, cs[j]? = some u ∧ CellN P w n k u c := by
  intro fuel
  induction fuel with
  | zero => intro n d t ks cs x _ _ hx; simp [DataW.trod] at hx
  | succ fuel ih =>
    intro n d t ks cs x hk hfl hx j k hj hall
    cases d with
    | zero => simp [kindsF] at hk
    | succ d =>
      unfold flatB at hfl
      cases hu : P.underlying t with
      | none => rw [hu] at hfl; cases hfl
      | some ty =>
      rw [hu] at hfl
      unfold kindsF at hk
      rw [hu] at hk
      match ty, hu, hfl, hk with
      | .int .i64, hu, hfl, hk =>
        cases hk
        obtain ⟨z, rfl, -, hwf⟩ := DataW.trod_int hu hx
        match j, hj with
        | 0, hj => cases hj; exact ⟨_, .i z, rfl, small_int (wf_bd hwf), z, rfl, rfl⟩
      | .bool, hu, hfl, hk =>
        cases hk
        obtain ⟨z, rfl, -⟩ := DataW.trod_bool hu hx
        match j, hj with
        | 0, hj => cases hj; exact ⟨_, .b z, rfl, fun m => by cases m <;> trivial, z, rfl, rfl⟩
      | .slice e, hu, hfl, hk =>
        cases hk
        match j, hj with
        | 0, hj =>
        cases hj
        cases n with
        | zero => simp [deepB] at hall
        | succ n =>
        have hd : deepB P (n + 1) (.arr e) = true := hall
        unfold deepB at hd
        cases hke : kinds P e with
        | none => rw [hke] at hd; cases hd
        | some kse =>
        rw [hke] at hd
        simp only [Bool.and_eq_true, beq_iff_eq] at hd
        obtain ⟨⟨hd1, hd2⟩, hd3⟩ := hd
        rcases DataW.trod_slice hu hx with ⟨rfl, -⟩ | ⟨a, len, cap, elems, rest, m, hm, rfl, -, -, hl, hc, hlen, hel, -, -⟩
        · refine ⟨_, .s (.slice none 0 0) [], rfl, fun m => ?_, [], rfl, kse, hke, none, 0, rfl, fun h => absurd rfl h⟩
          cases m with
          | zero => trivial
          | succ m => exact ⟨by simp, fun r hr => by cases hr⟩
        · cases hm
          have each : ∀ i, i < len → ∀ (j : Nat) (k : Lk), kse[j]? = some k → ∃ u c, w.cell? (a.add (i * kse.length + j)) = some u ∧ CellN P w n k u c := by
            intro i hi j k hj
            have h1 := hel i hi
            rw [List.getElem?_eq_getElem (by omega), hd2] at h1
            obtain ⟨cs', h2, h3⟩ := Option.bind_eq_some_iff.1 h1
            obtain ⟨_, hlen', hcell⟩ := World.cells?_some h2
            obtain ⟨u, c, h4, h5⟩ := ih n 6 e kse cs' _ (kinds_F hke) hd3 h3 j k hj (List.all_eq_true.1 hd1 k (List.mem_of_getElem? hj))
            refine ⟨u, c, ?_, h5⟩
            have hjl : j < kse.length := by
              rcases Nat.lt_or_ge j kse.length with h | h
              · exact h
              · rw [List.getElem?_eq_none h] at hj; cases hj
            rw [← h4, ← hcell j hjl, Go.Deep.add_add]
          have each2 : ∀ i j, ∃ c : C, i < len → ∀ k, kse[j]? = some k → ∃ u, w.cell? (a.add (i * kse.length + j)) = some u ∧ CellN P w n k u c := by
            intro i j
            by_cases hi : i < len
            · cases hj : kse[j]? with
              | none => exact ⟨.i 0, fun _ k h => by cases h⟩
              | some k =>
                obtain ⟨u, c, h1, h2⟩ := each i hi j k hj
                exact ⟨c, fun _ k' h => by cases h; exact ⟨u, h1, h2⟩⟩
            · exact ⟨.i 0, fun h => absurd h hi⟩
          let f : Nat → Nat → C := fun i j => (each2 i j).choose
          have hf : ∀ i j, i < len → ∀ k, kse[j]? = some k → ∃ u, w.cell? (a.add (i * kse.length + j)) = some u ∧ CellN P w n k u (f i j) := fun i j => (each2 i j).choose_spec
          let rows : List (List C) := (List.range len).map fun i => (List.range kse.length).map fun j => f i j
          have hrl : rows.length = len := by simp [rows]
          refine ⟨_, .s (.slice (some a) len cap) rows, rfl, fun q => ?_, rows, rfl, kse, hke, some a, cap, by rw [hrl], fun hne => ?_⟩
          · cases q with
            | zero => trivial
            | succ q =>
              refine ⟨by rw [hrl]; unfold maxLen at hc; omega, fun r hr c hcr => ?_⟩
              obtain ⟨i, hi, rfl⟩ := List.mem_map.1 hr
              obtain ⟨j, hj, rfl⟩ := List.mem_map.1 hcr
              rw [List.mem_range] at hi hj
              obtain ⟨u, -, h⟩ := hf i j hi _ (List.getElem?_eq_getElem hj)
              exact h.1 q
          · have hpos : 0 < len := by
              rcases Nat.eq_zero_or_pos len with h | h
              · exact absurd (List.eq_nil_of_length_eq_zero (by rw [hrl]; exact h)) hne
              · exact h
            have hk0 : 0 < kse.length := Nat.pos_of_ne_zero (kinds_size hke).2
            obtain ⟨u0, h0, -⟩ := hf 0 0 hpos _ (List.getElem?_eq_getElem hk0)
            obtain ⟨b, o, s⟩ := a
            have hs : s = none := by simpa [Addr.add] using World.cell?_spot h0
            subst hs
            have hblk : b < w.heap.size := by
              have := World.block_lt_of_cell? _ _ h0
              simpa [Addr.add] using this
            refine ⟨b, o, rfl, by rw [hrl]; exact hl, fun i r hi => ?_⟩
            have hi' : i < len := by
              rcases Nat.lt_or_ge i len with h | h
              · exact h
              · rw [List.getElem?_eq_none (by rw [hrl]; exact h)] at hi; cases hi
            have hr : r = (List.range kse.length).map fun j => f i j := by
              simp only [rows, List.getElem?_map, List.getElem?_range hi', Option.map_some] at hi
              exact (Option.some.inj hi).symm
            subst hr
            refine ⟨by simp, fun j k hj => ⟨hblk, ?_⟩⟩
            have hjl : j < kse.length := by
              rcases Nat.lt_or_ge j kse.length with h | h
              · exact h
              · rw [List.getElem?_eq_none h] at hj; cases hj
            obtain ⟨u, h1, h2⟩ := hf i j hi' k hj
            refine ⟨u, f i j, by rw [← Go.WideShapes.add_plain]; exact h1, by simp [List.getElem?_range hjl], ?_⟩
            exact h2.2
      | .struct fs, hu, hfl, hk =>
        obtain ⟨xs, m, hm, -, -, hxl, hf⟩ := DataW.trod_struct hu hx
        cases hm
        have hk' : fs.toList.foldl (kStep P d) (some []) = some ks := hk
        rcases kStep_at hk' j k hj with h | ⟨f, hfm, m', hm', ho, hmj⟩
        · simp at h
        · obtain ⟨i, hi⟩ := List.mem_iff_getElem?.1 hfm
          have hi' : fs[i]? = some f := by rw [← hi]; simp
          have hil : i < xs.length := by
            rw [hxl]
            rcases Nat.lt_or_ge i fs.size with h | h
            · exact h
            · rw [Array.getElem?_eq_none h] at hi'; cases hi'
          have hg := hf i f hi'
          rw [List.getElem?_eq_getElem hil] at hg
          obtain ⟨u, c, h1, h2⟩ := ih n d f.type m' _ _ hm' (List.all_eq_true.1 hfl f hfm) hg (j - f.offset) k hmj hall
          refine ⟨u, c, ?_, h2⟩
          rw [List.getElem?_take] at h1
          split at h1
          · rw [List.getElem?_drop] at h1
            rw [← h1]; congr 1; omega
          · cases h1
theorem CellN.rep {n : Nat} {k : Lk} {u : Value} {c : C} (h : CellN P w n k u c) : LRep P w (fun _ _ => False) k u c := by
  refine ⟨h.1, ?_⟩
  cases k with
  | int => exact h.2
  | bool => exact h.2
  | arr t =>
    obtain ⟨rows, rfl, hA⟩ := h.2
    exact ⟨rfl, u, rows, rfl, n, _, fun b o hb => ⟨hb, fun h => h⟩, hA⟩
  | vec t => exact h.2.elim
theorem lreps_of : ∀ {ks : List Lk} {us : List Value} {n : Nat}, us.length = ks.length → (∀ (j : Nat) (k : Lk), ks[j]? = some k → ∃ u c, us[j]? = some u ∧ CellN P w n k u c) → ∃ rs, LReps P w (fun _ _ => False) ks us rs
  | [], [], _, _, _ => ⟨[], trivial⟩
  | k :: ks, u :: us, n, hl, h => by
    obtain ⟨u', c, hu, hc⟩ := h 0 k rfl
    cases hu
    obtain ⟨rs, hr⟩ := lreps_of (ks := ks) (us := us) (n := n) (by simpa using hl) fun j k hj => h (j + 1) k hj
    exact ⟨c :: rs, hc.rep, hr⟩
  | [], _ :: _, _, hl, _ => by simp at hl
  | _ :: _, [], _, hl, _ => by simp at hl
/-- A struct of integers, truth values and slices among the arguments. -/
theorem open_agg {r : Reach} {b0 n : Nat} {t : TypeId} {fs : Array Field} {v : Value} {d : DataW H} {p : List MemPlace} {ks : List Lk} (hu : P.underlying t = some (.struct fs)) (hk : kindsF P 6 t = some ks) (hfl : flatB P 6 t = true)
    (hd : ks.all (deepB P n) = true) (hc : P.cellsOf t = ks.length) (hv : Value.okWide P w r b0 t v) (hx : DataW.Trod enc P w base spare held t v d p) :
    ∃ us : List Value, v = .agg us.toArray ∧ ∃ rs, LReps P w (fun _ _ => False) ks us rs := by
  obtain ⟨cs, rfl, hsz⟩ := okWide_struct hu hv
  obtain ⟨fuel, hf⟩ := hx
  have hf : DataW.trod enc P w base spare held fuel t cs.toList = some (d, p) := hf
  obtain ⟨-, -, -, -, hlen, -, -⟩ := DataW.trod_struct hu hf
  exact ⟨cs.toList, by simp, lreps_of (n := n) (hlen.trans hc) fun j k hj => cells_deep fuel n 6 t ks _ _ hk hfl hf j k hj (List.all_eq_true.1 hd k (List.mem_of_getElem? hj))⟩
end
theorem rep_struct {W : World} {O : Nat → Nat → Prop} {ss : List Sh0} {vs : List Value} {cs rs : List C} {us : List Value} {ks : List Lk} {old : Option Nat} (h : LReps Try.prog W O ks us rs) (hr : Reps Try.prog W O old ss vs cs) :
    Reps Try.prog W O old (.agg ks :: ss) (.agg us.toArray :: vs) (rs ++ cs) :=
  ⟨rs, _, rfl, ⟨us, rfl, h⟩, hr⟩
end Go.Proofs.Ytmdmgpikbebejaa
/- The call of KillChecks. -/
namespace Go.Proofs.Ytmdmgpikbebejaa
open Go.RowKit
theorem walk_KillChecks (V0 : Value) (V1 : Value) (V2 : Value) (a3 : Int) (W : World) (h0 : ∃ us : List Value, V0 = .agg us.toArray ∧ ∃ rs, LReps Try.prog W (fun _ _ => False) wellKs us rs) (h1 : ∃ us : List Value, V1 = .agg us.toArray ∧ ∃ rs, LReps Try.prog W (fun _ _ => False) [.int, .int, .int, .int] us rs) (h2 : ∃ us : List Value, V2 = .agg us.toArray ∧ ∃ rs, LReps Try.prog W (fun _ _ => False) [.int, .int] us rs) (h3 : -9223372036854775808 ≤ a3 ∧ a3 ≤ 9223372036854775807) :
    Calls Try.prog 3 #[V0, V1, V2, .int .i64 a3] W fun e w' => e = .returned (.bool true) ∧ Below W.heap.size W w' := by
  obtain ⟨us0, rfl, rs0, h0⟩ := h0
  obtain ⟨us1, rfl, rs1, h1⟩ := h1
  obtain ⟨us2, rfl, rs2, h2⟩ := h2
  exact law_walk lchecks_ok rfl (rep_struct h0 (rep_struct h1 (rep_struct h2 (rep_lf h3 rfl))))
end Go.Proofs.Ytmdmgpikbebejaa
namespace Go.Proofs.Ytmdmgpikbebejaa.lawKillChecks
open Go.ChangeShapes Go.WideShapes Go.ChangeAt Go.RowKit
set_option linter.unusedVariables false

set_option maxRecDepth 100000 in
theorem lifted (os : Os) (started : os.Started) (H : Type) (enc : TypeId × Value → H) :
    ReturnsInHanded {} Try.checked os 3 .any (Rows.killChecksSpec.pre6 enc Try.prog Try.f3 Rows.killChecksRow.domain false) (Rows.killChecksSpec.post enc Try.prog Try.f3 false true false false) := by
  refine returnsInHanded_of_change (C := Try.checked) own started (by kernel_rfl) Try.func3
    (ChangeSpec.witness6 (enc := enc) (C := Try.checked) false ⟨#[], #[.agg #[.slice none 0 0, .int .i64 0, .slice none 0 0, .int .i64 0, .int .i64 0, .int .i64 0], .agg #[.int .i64 0, .int .i64 0, .int .i64 0, .int .i64 0], .agg #[.int .i64 0, .int .i64 0], .int .i64 0], []⟩ 8 (by kernel_rfl) (by kernel_rfl) (by kernel_rfl) (by kernel_rfl)) ?_
  intro W base args ds gs before hval0 hW hcnd _
  have hval : ∀ (j : Nat) t v, Try.f3.params[j]? = some t → args[j]? = some v → Value.okWide Try.prog W .any base t v := hval0
  have hW' := hW
  obtain ⟨p, q, hA0, hV, rfl, hfz, hnd⟩ := hW
  have hA : DataW.TrodAll enc Try.prog W 0 (fun _ => true) true Try.f3.params.toList args.toList ds p := hA0
  rw [Try.params3] at hA hval
  obtain ⟨v0, vs0, d0, ds0, p0, q0, hargs, rfl, rfl, h0, r0⟩ := trodAll_cons hA
  obtain ⟨v1, vs1, d1, ds1, p1, q1, rfl, rfl, rfl, h1, r1⟩ := trodAll_cons r0
  obtain ⟨v2, vs2, d2, ds2, p2, q2, rfl, rfl, rfl, h2, r2⟩ := trodAll_cons r1
  obtain ⟨v3, vs3, d3, ds3, p3, q3, rfl, rfl, rfl, h3, r3⟩ := trodAll_cons r2
  obtain ⟨rfl, rfl, rfl⟩ := trodAll_nil r3
  obtain rfl : args = #[v0, v1, v2, v3] := by cases args; simp_all
  obtain ⟨rfl, rfl⟩ := trodVars_none hV
  have k0 := h0
  have lt0 : ∀ x ∈ p0, x.block < W.heap.size := by obtain ⟨m, hm⟩ := k0; exact DataW.trod_lt m _ _ _ hm
  obtain ⟨us0, e0, b0⟩ := open_agg (n := 4) (ks := [.arr 97, .int, .arr 70, .int, .int, .int]) Try.underlying27 (by kernel_rfl) (by kernel_rfl) (by kernel_rfl) (by kernel_rfl) (hval 0 27 v0 rfl rfl) h0
  have k1 := h1
  have lt1 : ∀ x ∈ p1, x.block < W.heap.size := by obtain ⟨m, hm⟩ := k1; exact DataW.trod_lt m _ _ _ hm
  obtain ⟨us1, e1, b1⟩ := open_agg (n := 4) (ks := [.int, .int, .int, .int]) Try.underlying29 (by kernel_rfl) (by kernel_rfl) (by kernel_rfl) (by kernel_rfl) (hval 1 29 v1 rfl rfl) h1
  have k2 := h2
  have lt2 : ∀ x ∈ p2, x.block < W.heap.size := by obtain ⟨m, hm⟩ := k2; exact DataW.trod_lt m _ _ _ hm
  obtain ⟨us2, e2, b2⟩ := open_agg (n := 4) (ks := [.int, .int]) Try.underlying31 (by kernel_rfl) (by kernel_rfl) (by kernel_rfl) (by kernel_rfl) (hval 2 31 v2 rfl rfl) h2
  have k3 := h3
  have lt3 : ∀ x ∈ p3, x.block < W.heap.size := by obtain ⟨m, hm⟩ := k3; exact DataW.trod_lt m _ _ _ hm
  obtain ⟨a3, e3, -, -, wf3⟩ := open_int Try.underlying3 (hval 3 3 v3 rfl rfl) h3
  subst e3
  have b3 := wf_bd wf3
  clear hA0 hval0
  refine (walk_KillChecks v0 v1 v2 a3 W ⟨us0, e0, b0⟩ ⟨us1, e1, b1⟩ ⟨us2, e2, b2⟩ b3).mono fun e W' ⟨he, bel⟩ => ?_
  subst he
  exact ⟨_, rfl, _, _, _, [], _, [], hW', trodAll_mk1 (shut_bool Try.underlying4 _), (trodAll_cons_mk (Below.trod laidOut (by kernel_rfl) (of_decide_eq_true (by kernel_rfl)) k0 bel lt0) (trodAll_cons_mk (Below.trod laidOut (by kernel_rfl) (of_decide_eq_true (by kernel_rfl)) k1 bel lt1) (trodAll_cons_mk (Below.trod laidOut (by kernel_rfl) (of_decide_eq_true (by kernel_rfl)) k2 bel lt2) (trodAll_cons_mk (Below.trod laidOut (by kernel_rfl) (of_decide_eq_true (by kernel_rfl)) k3 bel lt3) trodAll_mk0)))), rfl, bel.frame _, fun h => by cases h⟩

theorem over : Rows.killChecksRow.holds Try.pinned (OpenSpec.ofChange Rows.killChecksSpec) :=
  OpenClaim.holds_of_wide 3 Try.f3 rfl rfl rfl rfl rfl rfl rfl ⟨rfl, rfl, rfl, rfl, rfl⟩ rfl rfl rfl rfl rfl (by kernel_rfl) Try.func3 (by kernel_rfl)
    (of_decide_eq_true (by kernel_rfl)) (by unfold Func.isWrapper; first | (rw [if_pos (by decide +kernel)]; kernel_rfl) | (rw [if_neg (by decide +kernel)]; exact ⟨rfl, rfl⟩))
    (fun os started H enc _ => lifted os started H enc)

theorem proved : Rows.KillChecksSaid := over
#print axioms proved
end Go.Proofs.Ytmdmgpikbebejaa.lawKillChecks
