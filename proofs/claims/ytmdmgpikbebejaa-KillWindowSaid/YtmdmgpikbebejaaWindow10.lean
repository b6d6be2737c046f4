/- The law KillWindow: for every input the call returns true, and each argument reads afterwards as it read before. The frame is printed by frame.py. -/
import Derived.Test.YtmdmgpikbebejaaWindow9
import Derived.Test.YtmdmgpikbebejaaRows
import Derived.ShutString
import Derived.ChangeOld
/- Kill: what comes of a moment; of kill mud alone. -/
namespace Go.Proofs.Ytmdmgpikbebejaa
open Go.RowKit
set_option linter.unusedSimpArgs false
set_option linter.unusedVariables false

theorem exc_ok : tab5.ok 84 := by
  refine Tab.of_ct rfl rfl ⟨_, Try.func84, by decide, rfl⟩ ?_ ctF_det
  refine ct_ok (cx := cexc) (Tab.cx_ok all_nil) Try.func84 (bds := []) (T := texc) (by kernel_rfl) ?_
  unfold texc
  simp only [VC, allC, List.map_cons, List.map_nil, List.length_cons, List.length_nil, List.getElem?_cons_zero, List.getElem?_cons_succ, List.cons.injEq, C.i.injEq, C.b.injEq, and_true, true_and, forall_const, kindsOf_nil, kindsOf_lf, kindsOf_agg, kindsOf_box, boxKinds_nil, boxKinds_lf, boxKinds_agg, boxKinds_box, List.append_nil, List.cons_append, List.nil_append, den_cmp_le, den_cmp_lt, den_cmp_eq, den_cmp_ne, den_cmp_le', den_cmp_lt', den_cmp_eq', den_cmp_ne', den_and, den_and', den_or, den_or', den_not, den_not', den_blit, den_of, ev_var, at_0, at_1, at_2, at_3, at_4, at_5, at_6, at_7, at_skip, c_int, c_bool, c_arr, c_cnt, c_vec, ev_nil, ev_join, ev_sub3, loc_s, int_i, bool_b, rows_s, cs_nil, cs_cons, E.den_lit, E.den_var, E.den_add, E.den_sub, E.den_mul, E.den_quo, E.den_rem, E.den_max, E.den_min, E.den_len, E.den_wr, E.den_cell, Nat.reduceAdd, ctOverP, ctF, rangeSh, n_, kn_]
  intro a _ _ b _ _ l _ _
  refine ⟨bds_nil _, fun h => ?_, fun h => ⟨fun h2 => ?_, fun h2 => ?_⟩⟩
  · show (2 : Int) = overP (a, b) l
    unfold overP; rw [if_pos h]
  · show (3 : Int) = overP (a, b) l
    unfold overP; rw [if_neg (show ¬ l < a by omega), if_pos h2]
  · show (0 : Int) = overP (a, b) l
    unfold overP; rw [if_neg (show ¬ l < a by omega), if_neg (show ¬ l < b by omega)]
theorem orO_no {a b : Oc} (h : a.is = 0) : orO a b = b := if_pos h
theorem orO_yes {a b : Oc} (h : a.is ≠ 0) : orO a b = a := if_neg h
/-- The rounds of a loop over outcomes. -/
theorem firstO_no {f : Nat → Oc} {n i : Nat} (h : (f i).is = 0) : firstO f (n + 1) i = firstO f n (i + 1) := by rw [firstO, orO_no h]
theorem firstO_yes {f : Nat → Oc} {n i : Nat} (h : (f i).is ≠ 0) : firstO f (n + 1) i = f i := by rw [firstO, orO_yes h]
theorem pts_len (j : Jb) (s e : Int) : (momentV j s e).pts.length = j.w.points.length := by
  unfold momentV
  split
  · simp [pushedV]
  · simp [risingV]
theorem mul_kn {j : Jb} (hf : JF j) {a : Int} (h : 0 ≤ a ∧ a ≤ 1048576) : 0 ≤ j.p.weight * a ∧ j.p.weight * a ≤ 41943040000 := mul_bd hf.pweight h.1 h.2
theorem look_ok : tab5.ok 63 := by
  refine Tab.of_ct rfl rfl ⟨_, Try.func63, by decide, rfl⟩ ?_ ctF_det
  refine ct_ok (cx := clook) (Tab.cx_ok (all_cons (up5_ok (up4_ok (up3_ok botj_ok))) (all_cons (up5_ok (up4_ok moment_ok)) (all_cons exc_ok all_nil)))) Try.func63 (bds := []) (T := tlook) (by kernel_rfl) ?_
  have h1 : clook.ct 45 = some ctBotJ := rfl
  have h2 : clook.ct 50 = some ctMoment := rfl
  have h3 : clook.ct 84 = some ctOverP := rfl
  unfold tlook
  simp only [VC, allC, List.map_cons, List.map_nil, List.length_cons, List.length_nil, List.getElem?_cons_zero, List.getElem?_cons_succ, List.cons.injEq, C.i.injEq, C.b.injEq, and_true, true_and, forall_const, kindsOf_nil, kindsOf_lf, kindsOf_agg, kindsOf_box, boxKinds_nil, boxKinds_lf, boxKinds_agg, boxKinds_box, List.append_nil, List.cons_append, List.nil_append, den_cmp_le, den_cmp_lt, den_cmp_eq, den_cmp_ne, den_cmp_le', den_cmp_lt', den_cmp_eq', den_cmp_ne', den_and, den_and', den_or, den_or', den_not, den_not', den_blit, den_of, ev_var, at_0, at_1, at_2, at_3, at_4, at_5, at_6, at_7, at_skip, c_int, c_bool, c_arr, c_cnt, c_vec, ev_nil, ev_join, ev_sub3, loc_s, int_i, bool_b, rows_s, cs_nil, cs_cons, E.den_lit, E.den_var, E.den_add, E.den_sub, E.den_mul, E.den_quo, E.den_rem, E.den_max, E.den_min, E.den_len, E.den_wr, E.den_cell, Nat.reduceAdd, h1, ctBotJ, ctLook, ctF, jobSh, n_, ocC]
  intro u1 r1 _ _ _ w _ _ u2 r2 _ _ _ li _ _ pi _ _ st _ _ ka _ _ kb _ _ kc _ _ kd _ _ v _ _ po _ _ u3 r3 _ _ _ ro _ _ s _ _ e _ _ h
  obtain ⟨hok, hs, he⟩ := h
  obtain ⟨j, hj⟩ : ∃ j, j = jobOf [C.s u1 r1, C.i w, C.s u2 r2, C.i li, C.i pi, C.i st, C.i ka, C.i kb, C.i kc, C.i kd, C.i v, C.i po, C.s u3 r3, C.i ro] 0 := ⟨_, rfl⟩
  have hf : JF j := by rw [hj]; exact JobOK.jf (cs := [C.s u1 r1, C.i w, C.s u2 r2, C.i li, C.i pi, C.i st, C.i ka, C.i kb, C.i kc, C.i kd, C.i v, C.i po, C.s u3 r3, C.i ro, C.i s, C.i e]) (i := 0) hok
  have hv : jobV j = 0 := by rw [hj]; exact hok.1
  rw [show jobOf [C.s u1 r1, C.i w, C.s u2 r2, C.i li, C.i pi, C.i st, C.i ka, C.i kb, C.i kc, C.i kd, C.i v, C.i po, C.s u3 r3, C.i ro, C.i s, C.i e] 0 = j from hj.symm]
  obtain ⟨v1, v2, v3⟩ := jobV_iff.1 hv
  have e1 : j.p = ⟨ka, kb, kc, kd⟩ := by rw [hj]; rfl
  have e2 : j.k = ⟨v, po⟩ := by rw [hj]; rfl
  have e3 : j.w.points = knots r2 := by rw [hj]; rfl
  have e4 : j.w.limit = li := by rw [hj]; rfl
  refine ⟨bds_nil _, ⟨by rw [e1] at v2; exact v2, by rw [e2] at v3; exact v3, he.1, he.2⟩, fun b _ _ hb => ?_⟩
  have hb : b = botV j.p j.k e := by rw [e1, e2]; exact hb
  unfold tlook_4
  simp only [VC, allC, List.map_cons, List.map_nil, List.length_cons, List.length_nil, List.getElem?_cons_zero, List.getElem?_cons_succ, List.cons.injEq, C.i.injEq, C.b.injEq, and_true, true_and, forall_const, kindsOf_nil, kindsOf_lf, kindsOf_agg, kindsOf_box, boxKinds_nil, boxKinds_lf, boxKinds_agg, boxKinds_box, List.append_nil, List.cons_append, List.nil_append, den_cmp_le, den_cmp_lt, den_cmp_eq, den_cmp_ne, den_cmp_le', den_cmp_lt', den_cmp_eq', den_cmp_ne', den_and, den_and', den_or, den_or', den_not, den_not', den_blit, den_of, ev_var, at_0, at_1, at_2, at_3, at_4, at_5, at_6, at_7, at_skip, c_int, c_bool, c_arr, c_cnt, c_vec, ev_nil, ev_join, ev_sub3, loc_s, int_i, bool_b, rows_s, cs_nil, cs_cons, E.den_lit, E.den_var, E.den_add, E.den_sub, E.den_mul, E.den_quo, E.den_rem, E.den_max, E.den_min, E.den_len, E.den_wr, E.den_cell, Nat.reduceAdd, h2, ctMoment, jobSh, momSh, momKs, n_]
  refine ⟨fun hlt => ?_, fun hge => ⟨⟨hok, hs, he⟩, ?_⟩⟩
  · unfold lookV
    rw [if_pos (by rw [← hb, e2]; exact hlt)]
    exact ⟨rfl, rfl, rfl, rfl, rfl⟩
  · rintro a1 _ _ a2 _ _ a3 _ _ a4 _ _ a5 _ _ a6 _ _ a7 _ _ va ra _ _ _ hm
    have hm := mo_inv (x := momentV j s e) (by rw [hj]; exact hm)
    have hbx := mom_box hf hs he
    have hl : lookV j s e = lookM j (momentV j s e) s e := by
      unfold lookV
      rw [if_neg (by rw [← hb, e2]; show ¬ b < po; omega)]
    rw [hl]
    have hpl := pts_len j s e
    generalize momentV j s e = x at *
    obtain ⟨p1, p2, p3, p4, p5, p6, p7, p8⟩ := hm
    have lra : (ra.length : Int) = r2.length := by rw [← knots_len2, p8, hpl, e3, knots_len2]
    have hsf := hbx.surf
    unfold KnB at hsf
    rw [← p6, ← p7] at hsf
    unfold tlook_3
    simp only [VC, allC, List.map_cons, List.map_nil, List.length_cons, List.length_nil, List.getElem?_cons_zero, List.getElem?_cons_succ, List.cons.injEq, C.i.injEq, C.b.injEq, and_true, true_and, forall_const, kindsOf_nil, kindsOf_lf, kindsOf_agg, kindsOf_box, boxKinds_nil, boxKinds_lf, boxKinds_agg, boxKinds_box, List.append_nil, List.cons_append, List.nil_append, den_cmp_le, den_cmp_lt, den_cmp_eq, den_cmp_ne, den_cmp_le', den_cmp_lt', den_cmp_eq', den_cmp_ne', den_and, den_and', den_or, den_or', den_not, den_not', den_blit, den_of, ev_var, at_0, at_1, at_2, at_3, at_4, at_5, at_6, at_7, at_skip, c_int, c_bool, c_arr, c_cnt, c_vec, ev_nil, ev_join, ev_sub3, loc_s, int_i, bool_b, rows_s, cs_nil, cs_cons, E.den_lit, E.den_var, E.den_add, E.den_sub, E.den_mul, E.den_quo, E.den_rem, E.den_max, E.den_min, E.den_len, E.den_wr, E.den_cell, Nat.reduceAdd, h3, ctOverP, ctF, rangeSh, n_, kn_, ev_cell, kn1, kn2]
    refine ⟨fun xs => match xs with | [.i i] => 0 ≤ i ∧ i ≤ r2.length ∧ firstO (fracO j x s e) j.w.points.length 0 = firstO (fracO j x s e) (j.w.points.length - i.toNat) i.toNat | _ => False, fun xs => match xs with | [.i i] => ((r2.length : Int) - i).toNat | _ => 0, ⟨by omega, by omega, rfl⟩, ?_⟩
    rintro i _ _ ⟨i0, i1, hI⟩
    have hwl : j.w.points.length = r2.length := by rw [e3, knots_len2]
    refine ⟨fun hlt => ⟨i0, hlt, by omega, ?_⟩, fun hge2 => ⟨by omega, by omega, by omega, by omega, ?_⟩⟩
    · rintro o _ _ ho
      have hfr : fracO j x s e i.toNat = ⟨o, s, e, 2, i⟩ := by
        unfold fracO
        rw [e3, ← p8, ho, show ((i.toNat : Nat) : Int) = i by omega]
      rw [show j.w.points.length - i.toNat = (j.w.points.length - (i + 1).toNat) + 1 by omega] at hI
      refine ⟨fun hne => ?_, fun h0 => ⟨⟨by omega, by omega, ?_⟩, ?_⟩⟩
      · rw [firstO_yes (by rw [hfr]; exact hne), hfr] at hI
        unfold lookM
        rw [hI, orO_yes (by exact hne)]
        exact ⟨rfl, rfl, rfl, rfl, rfl⟩
      · rw [firstO_no (by rw [hfr]; exact h0)] at hI
        rw [show (i + 1).toNat = i.toNat + 1 by omega] at *
        exact hI
      · show ((r2.length : Int) - (i + 1)).toNat < ((r2.length : Int) - i).toNat; omega
    · have hI0 : firstO (fracO j x s e) j.w.points.length 0 = noOc := by
        rw [hI, show j.w.points.length - i.toNat = 0 by omega]; rfl
      rintro o _ _ ho
      unfold tlook_2
      simp only [VC, allC, List.map_cons, List.map_nil, List.length_cons, List.length_nil, List.getElem?_cons_zero, List.getElem?_cons_succ, List.cons.injEq, C.i.injEq, C.b.injEq, and_true, true_and, forall_const, kindsOf_nil, kindsOf_lf, kindsOf_agg, kindsOf_box, boxKinds_nil, boxKinds_lf, boxKinds_agg, boxKinds_box, List.append_nil, List.cons_append, List.nil_append, den_cmp_le, den_cmp_lt, den_cmp_eq, den_cmp_ne, den_cmp_le', den_cmp_lt', den_cmp_eq', den_cmp_ne', den_and, den_and', den_or, den_or', den_not, den_not', den_blit, den_of, ev_var, at_0, at_1, at_2, at_3, at_4, at_5, at_6, at_7, at_skip, c_int, c_bool, c_arr, c_cnt, c_vec, ev_nil, ev_join, ev_sub3, loc_s, int_i, bool_b, rows_s, cs_nil, cs_cons, E.den_lit, E.den_var, E.den_add, E.den_sub, E.den_mul, E.den_quo, E.den_rem, E.den_max, E.den_min, E.den_len, E.den_wr, E.den_cell, Nat.reduceAdd, h3, ctOverP, ctF, rangeSh, n_, kn_]
      have hx1 : overP (-x.surf.2, -x.surf.1) 0 = o := by rw [ho, ← p6, ← p7, Int.zero_sub, Int.zero_sub]
      unfold lookM
      rw [hI0, orO_no rfl, hx1]
      refine ⟨fun hne => by rw [orO_yes (by exact hne)]; exact ⟨rfl, rfl, rfl, rfl, rfl⟩, fun h0 => ?_⟩
      rintro o2 _ _ ho2
      unfold tlook_1
      simp only [VC, allC, List.map_cons, List.map_nil, List.length_cons, List.length_nil, List.getElem?_cons_zero, List.getElem?_cons_succ, List.cons.injEq, C.i.injEq, C.b.injEq, and_true, true_and, forall_const, kindsOf_nil, kindsOf_lf, kindsOf_agg, kindsOf_box, boxKinds_nil, boxKinds_lf, boxKinds_agg, boxKinds_box, List.append_nil, List.cons_append, List.nil_append, den_cmp_le, den_cmp_lt, den_cmp_eq, den_cmp_ne, den_cmp_le', den_cmp_lt', den_cmp_eq', den_cmp_ne', den_and, den_and', den_or, den_or', den_not, den_not', den_blit, den_of, ev_var, at_0, at_1, at_2, at_3, at_4, at_5, at_6, at_7, at_skip, c_int, c_bool, c_arr, c_cnt, c_vec, ev_nil, ev_join, ev_sub3, loc_s, int_i, bool_b, rows_s, cs_nil, cs_cons, E.den_lit, E.den_var, E.den_add, E.den_sub, E.den_mul, E.den_quo, E.den_rem, E.den_max, E.den_min, E.den_len, E.den_wr, E.den_cell, Nat.reduceAdd]
      have hx2 : overP x.surf j.w.limit = o2 := by rw [ho2, p6, p7, e4]
      rw [orO_no (by exact h0), hx2]
      exact ⟨fun hne => by rw [orO_yes (by exact hne)]; exact ⟨rfl, rfl, rfl, rfl, rfl⟩, fun h0 => by rw [orO_no (by exact h0)]; exact ⟨rfl, rfl, rfl, rfl, rfl⟩⟩
theorem kn_inv {a b : Int} {x : Kn} (h : ([.i a, .i b] : List C) = ofKn x) : x = (a, b) := by
  obtain ⟨c, d⟩ := x
  rw [kn_den] at h
  injection h with h1 h2
  injection h2 with h2 _
  injection h1 with h1
  injection h2 with h2
  rw [h1, h2]
theorem rest_ok : tab5.ok 64 := by
  refine Tab.of_ct rfl rfl ⟨_, Try.func64, by decide, rfl⟩ ?_ ctF_det
  refine ct_ok (cx := crest) (Tab.cx_ok (all_cons (up5_ok (up4_ok jht_ok)) (all_cons (up5_ok (up4_ok less_ok)) (all_cons exc_ok all_nil)))) Try.func64 (bds := []) (T := trest) (by kernel_rfl) ?_
  have h1 : crest.ct 75 = some ctJHeight := rfl
  have h2 : crest.ct 79 = some ctLess := rfl
  have h3 : crest.ct 84 = some ctOverP := rfl
  unfold trest
  simp only [VC, allC, List.map_cons, List.map_nil, List.length_cons, List.length_nil, List.getElem?_cons_zero, List.getElem?_cons_succ, List.cons.injEq, C.i.injEq, C.b.injEq, and_true, true_and, forall_const, kindsOf_nil, kindsOf_lf, kindsOf_agg, kindsOf_box, boxKinds_nil, boxKinds_lf, boxKinds_agg, boxKinds_box, List.append_nil, List.cons_append, List.nil_append, den_cmp_le, den_cmp_lt, den_cmp_eq, den_cmp_ne, den_cmp_le', den_cmp_lt', den_cmp_eq', den_cmp_ne', den_and, den_and', den_or, den_or', den_not, den_not', den_blit, den_of, ev_var, at_0, at_1, at_2, at_3, at_4, at_5, at_6, at_7, at_skip, c_int, c_bool, c_arr, c_cnt, c_vec, ev_nil, ev_join, ev_sub3, loc_s, int_i, bool_b, rows_s, cs_nil, cs_cons, E.den_lit, E.den_var, E.den_add, E.den_sub, E.den_mul, E.den_quo, E.den_rem, E.den_max, E.den_min, E.den_len, E.den_wr, E.den_cell, Nat.reduceAdd, h1, ctJHeight, ctRest, ctF, jobSh, rangeSh, n_, k_, ocC]
  intro u1 r1 _ _ _ w _ _ u2 r2 _ _ _ li _ _ pi _ _ st _ _ ka _ _ kb _ _ kc _ _ kd _ _ v _ _ po _ _ u3 r3 _ _ _ ro _ _ s _ _ h
  obtain ⟨hok, hs⟩ := h
  obtain ⟨j, hj⟩ : ∃ j, j = jobOf [C.s u1 r1, C.i w, C.s u2 r2, C.i li, C.i pi, C.i st, C.i ka, C.i kb, C.i kc, C.i kd, C.i v, C.i po, C.s u3 r3, C.i ro] 0 := ⟨_, rfl⟩
  have hf : JF j := by rw [hj]; exact JobOK.jf (cs := [C.s u1 r1, C.i w, C.s u2 r2, C.i li, C.i pi, C.i st, C.i ka, C.i kb, C.i kc, C.i kd, C.i v, C.i po, C.s u3 r3, C.i ro, C.i s]) (i := 0) hok
  have hv : jobV j = 0 := by rw [hj]; exact hok.1
  rw [show jobOf [C.s u1 r1, C.i w, C.s u2 r2, C.i li, C.i pi, C.i st, C.i ka, C.i kb, C.i kc, C.i kd, C.i v, C.i po, C.s u3 r3, C.i ro, C.i s] 0 = j from hj.symm]
  have e1 : j.p = ⟨ka, kb, kc, kd⟩ := by rw [hj]; rfl
  have e2 : j.k = ⟨v, po⟩ := by rw [hj]; rfl
  have e3 : j.w.points = knots r2 := by rw [hj]; rfl
  have hline : knots r3 = heightV j.w.segs := by rw [hj]; exact hok.2.1
  have hro : ro = volV j.w.segs := by rw [hj]; exact hok.2.2
  have hht : ∀ u, atV (knots r3) u = htV j.w.segs u := fun u => by rw [hline]; rfl
  have h0 := ht_ok hf.hole
  refine ⟨bds_nil _, ?_⟩
  rintro a1 _ _ a2 _ _ ha
  have ha : [C.i a1, C.i a2] = ofKn (atV (knots r3) ro) := by rw [← ha]
  rw [hht, hro] at ha
  have ea : allV j = (a1, a2) := kn_inv ha
  have hb := h0 (volV j.w.segs)
  rw [show htV j.w.segs (volV j.w.segs) = (a1, a2) from ea] at hb
  obtain ⟨b1, b2, b3, b4⟩ := hb
  have m1 := mul_kn hf ⟨b1, b2⟩
  have e5 : j.p.weight = kb := by rw [e1]
  rw [e5] at m1
  have hwl : j.w.points.length = r2.length := by rw [e3, knots_len2]
  unfold trest_2
  simp only [VC, allC, List.map_cons, List.map_nil, List.length_cons, List.length_nil, List.getElem?_cons_zero, List.getElem?_cons_succ, List.cons.injEq, C.i.injEq, C.b.injEq, and_true, true_and, forall_const, kindsOf_nil, kindsOf_lf, kindsOf_agg, kindsOf_box, boxKinds_nil, boxKinds_lf, boxKinds_agg, boxKinds_box, List.append_nil, List.cons_append, List.nil_append, den_cmp_le, den_cmp_lt, den_cmp_eq, den_cmp_ne, den_cmp_le', den_cmp_lt', den_cmp_eq', den_cmp_ne', den_and, den_and', den_or, den_or', den_not, den_not', den_blit, den_of, ev_var, at_0, at_1, at_2, at_3, at_4, at_5, at_6, at_7, at_skip, c_int, c_bool, c_arr, c_cnt, c_vec, ev_nil, ev_join, ev_sub3, loc_s, int_i, bool_b, rows_s, cs_nil, cs_cons, E.den_lit, E.den_var, E.den_add, E.den_sub, E.den_mul, E.den_quo, E.den_rem, E.den_max, E.den_min, E.den_len, E.den_wr, E.den_cell, Nat.reduceAdd, h1, h2, ctJHeight, ctLess, ctF, jobSh, rangeSh, n_, k_, kn_, ev_cell, kn1, kn2]
  refine ⟨by simp only [] at m1; omega, fun hlt => ?_, fun hge => ?_⟩
  · unfold deadV
    rw [ea, e5, e2, if_pos hlt]
    exact ⟨rfl, rfl, rfl, rfl, rfl⟩
  · have hd : deadV j s = firstO (deadO j s) j.w.points.length 0 := by
      unfold deadV
      rw [ea, e5, e2, if_neg (show ¬ kb * a1 < po by omega)]
    rw [hd]
    refine ⟨fun xs => match xs with | [.i i] => 0 ≤ i ∧ i ≤ r2.length ∧ firstO (deadO j s) j.w.points.length 0 = firstO (deadO j s) (j.w.points.length - i.toNat) i.toNat | _ => False, fun xs => match xs with | [.i i] => ((r2.length : Int) - i).toNat | _ => 0, ⟨by omega, by omega, rfl⟩, ?_⟩
    rintro i _ _ ⟨i0, i1, hI⟩
    refine ⟨fun hlt => ⟨i0, hlt, ?_⟩, fun hge2 => ?_⟩
    · rintro c1 _ _ c2 _ _ hc
      have hc : [C.i c1, C.i c2] = ofKn (atV (knots r3) ((knots r2).getD i.toNat (0, 0)).1) := by rw [← hc]
      rw [hht] at hc
      have ec := kn_inv hc
      have hcb := h0 ((knots r2).getD i.toNat (0, 0)).1
      rw [ec] at hcb
      refine ⟨⟨⟨b1, b2, b3, b4⟩, hcb⟩, ?_⟩
      rintro d1 _ _ d2 _ _ hdd
      have hdd : [C.i d1, C.i d2] = ofKn (lessK (a1, a2) (c1, c2)) := by rw [← hdd]
      have ed := kn_inv hdd
      have hlb := less_ht ⟨b1, b2, b3, b4⟩ hcb
      rw [ed] at hlb
      obtain ⟨l1, l2, l3, l4⟩ := hlb
      have m2 := mul_kn hf ⟨l1, l2⟩
      have m3 := mul_kn hf ⟨l3, l4⟩
      rw [e5] at m2 m3
      unfold trest_1
      simp only [VC, allC, List.map_cons, List.map_nil, List.length_cons, List.length_nil, List.getElem?_cons_zero, List.getElem?_cons_succ, List.cons.injEq, C.i.injEq, C.b.injEq, and_true, true_and, forall_const, kindsOf_nil, kindsOf_lf, kindsOf_agg, kindsOf_box, boxKinds_nil, boxKinds_lf, boxKinds_agg, boxKinds_box, List.append_nil, List.cons_append, List.nil_append, den_cmp_le, den_cmp_lt, den_cmp_eq, den_cmp_ne, den_cmp_le', den_cmp_lt', den_cmp_eq', den_cmp_ne', den_and, den_and', den_or, den_or', den_not, den_not', den_blit, den_of, ev_var, at_0, at_1, at_2, at_3, at_4, at_5, at_6, at_7, at_skip, c_int, c_bool, c_arr, c_cnt, c_vec, ev_nil, ev_join, ev_sub3, loc_s, int_i, bool_b, rows_s, cs_nil, cs_cons, E.den_lit, E.den_var, E.den_add, E.den_sub, E.den_mul, E.den_quo, E.den_rem, E.den_max, E.den_min, E.den_len, E.den_wr, E.den_cell, Nat.reduceAdd, h3, ctOverP, ctF, rangeSh, n_, kn_, ev_cell, kn1, kn2]
      simp only [] at m2 m3
      refine ⟨by omega, by omega, by omega, by omega, ?_⟩
      rintro o _ _ ho
      have hfr : deadO j s i.toNat = ⟨o, s, 0, 5, i⟩ := by
        unfold deadO leftV
        rw [e3, ea, ec, ed, e5, ho, show ((i.toNat : Nat) : Int) = i by omega]
      rw [show j.w.points.length - i.toNat = (j.w.points.length - (i + 1).toNat) + 1 by omega] at hI
      refine ⟨fun hne => ?_, fun h0 => ⟨⟨by omega, by omega, ?_⟩, ?_⟩⟩
      · rw [firstO_yes (by rw [hfr]; exact hne), hfr] at hI
        rw [hI]
        exact ⟨rfl, rfl, rfl, rfl, rfl⟩
      · rw [firstO_no (by rw [hfr]; exact h0)] at hI
        rw [show (i + 1).toNat = i.toNat + 1 by omega] at *
        exact hI
      · show ((r2.length : Int) - (i + 1)).toNat < ((r2.length : Int) - i).toNat; omega
    · rw [hI, show j.w.points.length - i.toNat = 0 by omega]
      exact ⟨rfl, rfl, rfl, rfl, rfl⟩
end Go.Proofs.Ytmdmgpikbebejaa
/- Kill: the last step; the outcome. -/
namespace Go.Proofs.Ytmdmgpikbebejaa
open Go.RowKit
set_option linter.unusedSimpArgs false
set_option linter.unusedVariables false

/-! Plain: the last step -/
theorem over_last {j : Jb} {k : Nat} (hk : k ≤ lastN j) (h : overS j k = true) : k = lastN j := by
  rcases Nat.lt_or_eq_of_le hk with h1 | h1
  · have := firstN_no (overS j) 400 0 k (Nat.zero_le _) h1
    rw [h] at this; cases this
  · exact h1
theorem last_none {j : Jb} (h : overS j (lastN j) = false) : lastN j = 400 := by
  have h1 := lastN_le j
  rcases Nat.lt_or_ge (lastN j) 400 with h2 | h2
  · have := firstN_yes (overS j) 400 0 (by unfold lastN at h2; omega)
    unfold lastN at h
    rw [this] at h; cases h
  · omega
theorem firstO_all {f : Nat → Oc} : ∀ (n i : Nat), (∀ k, i ≤ k → k < i + n → (f k).is = 0) → firstO f n i = noOc
  | 0, _, _ => rfl
  | n + 1, i, h => by
    rw [firstO_no (h i (Nat.le_refl _) (by omega))]
    exact firstO_all n (i + 1) fun k h1 h2 => h k (by omega) (by omega)
theorem firstO_at {f : Nat → Oc} : ∀ (n i k : Nat), i ≤ k → k < i + n → (∀ m, i ≤ m → m < k → (f m).is = 0) → (f k).is ≠ 0 → firstO f n i = f k
  | 0, _, _, h1, h2, _, _ => by omega
  | n + 1, i, k, h1, h2, h, hk => by
    by_cases e : i = k
    · subst e; rw [firstO_yes hk]
    · rw [firstO_no (h i (Nat.le_refl _) (by omega))]
      exact firstO_at n (i + 1) k (by omega) (by omega) (fun m h3 h4 => h m (by omega) h4) hk
theorem stepO_at {j : Jb} {k : Nat} {e : Int} (h0 : -1 ≤ e) (h1 : e ≤ 1) (h : ∀ d, -1 ≤ d → d < e → (lookV j (k : Int) d).is = 0) (hk : (lookV j (k : Int) e).is ≠ 0) : stepO j k = lookV j (k : Int) e := by
  unfold stepO
  rcases (show e = -1 ∨ e = 0 ∨ e = 1 by omega) with rfl | rfl | rfl
  · rw [orO_yes hk]
  · rw [orO_no (h (-1) (by decide) (by decide)), orO_yes hk]
  · rw [orO_no (h (-1) (by decide) (by decide)), orO_no (h 0 (by decide) (by decide))]
theorem stepO_zero {j : Jb} {k : Nat} (h : ∀ d, -1 ≤ d → d < 2 → (lookV j (k : Int) d).is = 0) : (stepO j k).is = 0 := by
  unfold stepO
  rw [orO_no (h (-1) (by decide) (by decide)), orO_no (h 0 (by decide) (by decide))]
  exact h 1 (by decide) (by decide)
/-! The last step -/
theorem job_pre {cs xs : List C} (hcs : CTy Try.prog jobKs cs) : cs_ (cs ++ xs) jobLfs = cs := by
  have hl : cs.length = 14 := hcs.len
  refine Eq.trans (cs_ext (nb := 1) (ks := jobKs) rfl ?_) ?_
  · rw [hl]; decide
  · suffices key : allC Try.prog jobKs (fun cs => cs_ cs jobLfs = cs) from allC_elim key cs hcs
    unfold jobKs
    simp only [VC, allC, List.map_cons, List.map_nil, List.length_cons, List.length_nil, List.getElem?_cons_zero, List.getElem?_cons_succ, List.cons.injEq, C.i.injEq, C.b.injEq, and_true, true_and, forall_const, kindsOf_nil, kindsOf_lf, kindsOf_agg, kindsOf_box, boxKinds_nil, boxKinds_lf, boxKinds_agg, boxKinds_box, List.append_nil, List.cons_append, List.nil_append, den_cmp_le, den_cmp_lt, den_cmp_eq, den_cmp_ne, den_cmp_le', den_cmp_lt', den_cmp_eq', den_cmp_ne', den_and, den_and', den_or, den_or', den_not, den_not', den_blit, den_of, ev_var, at_0, at_1, at_2, at_3, at_4, at_5, at_6, at_7, at_skip, c_int, c_bool, c_arr, c_cnt, c_vec, ev_nil, ev_join, ev_sub3, loc_s, int_i, bool_b, rows_s, cs_nil, cs_cons, E.den_lit, E.den_var, E.den_add, E.den_sub, E.den_mul, E.den_quo, E.den_rem, E.den_max, E.den_min, E.den_len, E.den_wr, E.den_cell, Nat.reduceAdd]
    intro v0 r0 _ _ _ n1 _ _ v2 r2 _ _ _ n3 _ _ n4 _ _ n5 _ _ n6 _ _ n7 _ _ n8 _ _ n9 _ _ n10 _ _ n11 _ _ v12 r12 _ _ _ n13 _ _
    rfl
end Go.Proofs.Ytmdmgpikbebejaa
/- Kill: the outcome; the document's Last and Ends. -/
namespace Go.Proofs.Ytmdmgpikbebejaa
open Go.RowKit
set_option linter.unusedSimpArgs false
set_option linter.unusedVariables false

theorem ends_at {j : Jb} {k : Nat} (hk : k ≤ lastN j) (h : ∀ i, i < k → (stepO j i).is = 0) (h1 : (stepO j k).is ≠ 0) : endsV j = stepO j k := by
  unfold endsV
  rw [firstO_at (lastN j + 1) 0 k (Nat.zero_le _) (by omega) (fun m _ hm => h m hm) h1, orO_yes h1]
theorem ends_end {j : Jb} (h : ∀ i, i < lastN j + 1 → (stepO j i).is = 0) : endsV j = endO j := by
  unfold endsV
  rw [firstO_all _ _ fun k _ hk => h k (by omega), orO_no rfl]
theorem ends2_vc {cs : List C} (hcs : CTy Try.prog jobKs cs) (hok : JobOK cs 0) {k : Nat} (hk : k ≤ lastN (jobOf cs 0)) (h : ∀ i, i < k → (stepO (jobOf cs 0) i).is = 0 ∧ overS (jobOf cs 0) i = false) :
    VC cends2 (ctJEnds.post cs) tends2 (cs ++ [] ++ stepEl (jobOf cs 0) k) [fun xs => xs = [] ∧ ∀ i, i < k + 1 → (stepO (jobOf cs 0) i).is = 0 ∧ overS (jobOf cs 0) i = false] := by
  have hpost : ctJEnds.post cs = fun rs => rs = ocC (endsV (jobOf cs 0)) := rfl
  rw [hpost]
  suffices key : allC Try.prog jobKs (fun cs => ∀ j, j = jobOf cs 0 → JobOK cs 0 → k ≤ lastN j → (∀ i, i < k → (stepO j i).is = 0 ∧ overS j i = false) → VC cends2 (fun rs => rs = ocC (endsV j)) tends2 (cs ++ [] ++ stepEl j k) [fun xs => xs = [] ∧ ∀ i, i < k + 1 → (stepO j i).is = 0 ∧ overS j i = false]) from allC_elim key cs hcs _ rfl hok hk h
  clear hpost hcs hok hk h
  have h1 : cends2.ct 63 = some ctLook := rfl
  have h2 : cends2.ct 64 = some ctRest := rfl
  unfold tends2 jobKs stepEl
  simp only [VC, allC, List.map_cons, List.map_nil, List.length_cons, List.length_nil, List.getElem?_cons_zero, List.getElem?_cons_succ, List.cons.injEq, C.i.injEq, C.b.injEq, and_true, true_and, forall_const, kindsOf_nil, kindsOf_lf, kindsOf_agg, kindsOf_box, boxKinds_nil, boxKinds_lf, boxKinds_agg, boxKinds_box, List.append_nil, List.cons_append, List.nil_append, den_cmp_le, den_cmp_lt, den_cmp_eq, den_cmp_ne, den_cmp_le', den_cmp_lt', den_cmp_eq', den_cmp_ne', den_and, den_and', den_or, den_or', den_not, den_not', den_blit, den_of, ev_var, at_0, at_1, at_2, at_3, at_4, at_5, at_6, at_7, at_skip, c_int, c_bool, c_arr, c_cnt, c_vec, ev_nil, ev_join, ev_sub3, loc_s, int_i, bool_b, rows_s, cs_nil, cs_cons, E.den_lit, E.den_var, E.den_add, E.den_sub, E.den_mul, E.den_quo, E.den_rem, E.den_max, E.den_min, E.den_len, E.den_wr, E.den_cell, Nat.reduceAdd, h1, h2, ctLook, ctRest, ctF, jobSh, ocSh, n_, ocC, List.cons_append, List.nil_append, List.append_nil]
  intro v0 r0 _ _ _ n1 _ _ v2 r2 _ _ _ n3 _ _ n4 _ _ n5 _ _ n6 _ _ n7 _ _ n8 _ _ n9 _ _ n10 _ _ n11 _ _ v12 r12 _ _ _ n13 _ _ j hj hok hk h
  have h400 := lastN_le j
  have hs : StepOK (k : Int) := ⟨by omega, by omega⟩
  refine ⟨fun xs => match xs with | [.i e] => -1 ≤ e ∧ e ≤ 2 ∧ ∀ d, -1 ≤ d → d < e → (lookV j (k : Int) d).is = 0 | _ => False, fun xs => match xs with | [.i e] => (2 - e).toNat | _ => 0, ⟨by omega, by omega, fun d h1 h2 => by omega⟩, ?_⟩
  rintro e _ _ ⟨e0, e1, hI⟩
  refine ⟨fun hle => ⟨⟨hok, hs, e0, hle⟩, ?_⟩, fun hgt => ⟨fun ho => ⟨⟨hok, hs⟩, ?_⟩, fun ho => ?_⟩⟩
  · rintro o1 _ _ o2 _ _ o3 _ _ o4 _ _ o5 _ _ ⟨p1, p2, p3, p4, p5⟩
    have p1 : o1 = (lookV j (k : Int) e).is := by rw [hj]; exact p1
    have p2 : o2 = (lookV j (k : Int) e).step := by rw [hj]; exact p2
    have p3 : o3 = (lookV j (k : Int) e).err := by rw [hj]; exact p3
    have p4 : o4 = (lookV j (k : Int) e).why := by rw [hj]; exact p4
    have p5 : o5 = (lookV j (k : Int) e).point := by rw [hj]; exact p5
    refine ⟨fun hne => ?_, fun h0 => ⟨⟨by omega, by omega, fun d d0 d1 => ?_⟩, (show (2 - (e + 1)).toNat < (2 - e).toNat by omega)⟩⟩
    · have hs := stepO_at e0 hle hI (by rw [← p1]; exact hne)
      have he := ends_at hk (fun i hi => (h i hi).1) (by rw [hs, ← p1]; exact hne)
      rw [he, hs]
      exact ⟨p1, p2, p3, p4, p5⟩
    · rcases Int.lt_or_eq_of_le (show d ≤ e by omega) with h3 | h3
      · exact hI d d0 h3
      · rw [h3, ← p1]; exact h0
  · have hz := stepO_zero (j := j) (k := k) fun d d0 d1 => hI d d0 (by omega)
    have hkn := over_last hk ho
    have he : endsV j = orO (deadV j (k : Int)) ⟨1, (k : Int), 0, 0, 0⟩ := by
      rw [ends_end fun i hi => ?_]
      · unfold endO
        rw [← hkn, if_pos ho]
      · rcases Nat.lt_or_eq_of_le (show i ≤ k by omega) with h3 | h3
        · exact (h i h3).1
        · rw [h3]; exact hz
    rw [he]
    rintro o1 _ _ o2 _ _ o3 _ _ o4 _ _ o5 _ _ ⟨p1, p2, p3, p4, p5⟩
    have p1 : o1 = (deadV j (k : Int)).is := by rw [hj]; exact p1
    have p2 : o2 = (deadV j (k : Int)).step := by rw [hj]; exact p2
    have p3 : o3 = (deadV j (k : Int)).err := by rw [hj]; exact p3
    have p4 : o4 = (deadV j (k : Int)).why := by rw [hj]; exact p4
    have p5 : o5 = (deadV j (k : Int)).point := by rw [hj]; exact p5
    refine ⟨fun hne => ?_, fun h0 => ?_⟩
    · rw [orO_yes (by rw [← p1]; exact hne)]; exact ⟨p1, p2, p3, p4, p5⟩
    · rw [orO_no (by rw [← p1]; exact h0)]; exact ⟨rfl, rfl, rfl, rfl, rfl⟩
  · intro i hi
    rcases Nat.lt_or_eq_of_le (Nat.le_of_lt_succ hi) with h3 | h3
    · exact h i h3
    · rw [h3]; exact ⟨stepO_zero fun d d0 d1 => hI d d0 (by omega), ho⟩
theorem ends_split : bodyOf Try.f53 = pre (heads 1 (bodyOf Try.f53)) (Code.seq (.seq (.region 1 #[opN (nav [1, 0, 0] (bodyOf Try.f53)) 0, opN (nav [1, 0, 0] (bodyOf Try.f53)) 1] false) (.block 0 (.rangeFunc (.tmp endsR.d2) #[endsR.p0, endsR.p1] (rangeAssign (nav [1, 0, 1, 0] (bodyOf Try.f53))) (rangeBody (nav [1, 0, 1, 0] (bodyOf Try.f53)))))) (nav [1, 1] (bodyOf Try.f53))) := by kernel_rfl
theorem ends_t1 : execL cends2 (heads 1 (bodyOf Try.f53)) { startOf Try.f53 ctJEnds [] [] with lvl := (startOf Try.f53 ctJEnds [] []).lvl + 1 } (joinK (startOf Try.f53 ctJEnds [] []) endsS0 [] [] (endQ cends2 Try.f53 ctJEnds)) = some tends1 := by kernel_rfl
theorem ends_t2 : rgRound cends2 (endQ cends2 Try.f53 ctJEnds) endsR (rangeAssign (nav [1, 0, 1, 0] (bodyOf Try.f53))) (rangeBody (nav [1, 0, 1, 0] (bodyOf Try.f53))) = some tends2 := by kernel_rfl
theorem ends_t3 : rgTail cends2 (endQ cends2 Try.f53 ctJEnds) endsR (nav [1, 1] (bodyOf Try.f53)) = some tends3 := by kernel_rfl
theorem ends_cx : CxOK cends2 := Tab.cx_ok (all_cons look_ok (all_cons rest_ok all_nil))
theorem ends_ok : tab5.ok 53 := by
  refine Tab.of_ct rfl rfl ⟨_, Try.func53, by decide, rfl⟩ ?_ ctF_det
  refine ct_ok_marks (cx := cends2) (bds := []) ends_cx Try.func53 (c := bodyOf Try.f53) rfl ⟨by decide, by decide, by decide⟩ fun cs hcs hp => ⟨bds_nil _, fun F w0 Γ a w Q hρ hds hs hk hm => ?_⟩
  have hcs : CTy Try.prog jobKs cs := hcs
  have hp : JobOK cs 0 := hp
  rw [ends_split]
  refine pre_seg (R := ctJEnds.post cs) ends_cx (Ls := []) (I := fun _ => True) ends_t1 (by kernel_rfl) rfl (by unfold tends1; simp only [VC, allC, List.map_cons, List.map_nil, List.length_cons, List.length_nil, List.getElem?_cons_zero, List.getElem?_cons_succ, List.cons.injEq, C.i.injEq, C.b.injEq, and_true, true_and, forall_const, kindsOf_nil, kindsOf_lf, kindsOf_agg, kindsOf_box, boxKinds_nil, boxKinds_lf, boxKinds_agg, boxKinds_box, List.append_nil, List.cons_append, List.nil_append, den_cmp_le, den_cmp_lt, den_cmp_eq, den_cmp_ne, den_cmp_le', den_cmp_lt', den_cmp_eq', den_cmp_ne', den_and, den_and', den_or, den_or', den_not, den_not', den_blit, den_of, ev_var, at_0, at_1, at_2, at_3, at_4, at_5, at_6, at_7, at_skip, c_int, c_bool, c_arr, c_cnt, c_vec, ev_nil, ev_join, ev_sub3, loc_s, int_i, bool_b, rows_s, cs_nil, cs_cons, E.den_lit, E.den_var, E.den_add, E.den_sub, E.den_mul, E.den_quo, E.den_rem, E.den_max, E.den_min, E.den_len, E.den_wr, E.den_cell]) hs ?_ ?_
  · intro xs Γx a' wp hxs hI hρ' he hs'
    obtain rfl := nil_of hxs
    have hρx : Γx.ρ = cs := by rw [hρ', hρ, List.append_nil]
    refine range_fn (R := ctJEnds.post cs) ends_cx endsR (it := stepsIt) (init := []) (cs := cs) (by kernel_rfl) rfl rfl (call_op rfl callable_mksteps) rfl rfl (by kernel_rfl) rfl steps_made steps_ok callable_steps (by rw [hρx]; exact (by have := job_pre (xs := []) hcs; rw [List.append_nil] at this; exact this.symm)) hp step_el ends_t2 ends_t3 hs' he hds hm
      (fun k xs => xs = [] ∧ ∀ i, i < k → (stepO (jobOf cs 0) i).is = 0 ∧ overS (jobOf cs 0) i = false) ⟨rfl, fun i hi => by omega⟩ (fun k xs x hx hty hI => ?_) (fun xs hty hI => ?_)
    · obtain ⟨rfl, hI⟩ := hI
      obtain ⟨hk', rfl⟩ := stepEls_get (j := jobOf cs 0) hx
      rw [hρx]
      exact ends2_vc hcs hp hk' hI
    · obtain ⟨rfl, hI⟩ := hI
      have hle : (stepsIt.els cs).length = lastN (jobOf cs 0) + 1 := by simp [stepsIt, stepEls]
      rw [hle] at hI
      have h1 := (hI (lastN (jobOf cs 0)) (by omega)).2
      have h2 := last_none h1
      unfold tends3
      simp only [VC, allC, List.map_cons, List.map_nil, List.length_cons, List.length_nil, List.getElem?_cons_zero, List.getElem?_cons_succ, List.cons.injEq, C.i.injEq, C.b.injEq, and_true, true_and, forall_const, kindsOf_nil, kindsOf_lf, kindsOf_agg, kindsOf_box, boxKinds_nil, boxKinds_lf, boxKinds_agg, boxKinds_box, List.append_nil, List.cons_append, List.nil_append, den_cmp_le, den_cmp_lt, den_cmp_eq, den_cmp_ne, den_cmp_le', den_cmp_lt', den_cmp_eq', den_cmp_ne', den_and, den_and', den_or, den_or', den_not, den_not', den_blit, den_of, ev_var, at_0, at_1, at_2, at_3, at_4, at_5, at_6, at_7, at_skip, c_int, c_bool, c_arr, c_cnt, c_vec, ev_nil, ev_join, ev_sub3, loc_s, int_i, bool_b, rows_s, cs_nil, cs_cons, E.den_lit, E.den_var, E.den_add, E.den_sub, E.den_mul, E.den_quo, E.den_rem, E.den_max, E.den_min, E.den_len, E.den_wr, E.den_cell]
      show [C.i 3, C.i 400, C.i 0, C.i 6, C.i 0] = ocC (endsV (jobOf cs 0))
      rw [ends_end fun i hi => (hI i hi).1]
      unfold endO
      rw [if_neg (by rw [h1]; decide)]
      rfl
  · intro x st' T' Γ' Ls' hx hk' he hlen' hv' a' w' hs'
    exact hk x st' T' Γ' Ls' hk' he List.nil_prefix hlen' hv' a' w' hs'
/-! The document's -/
end Go.Proofs.Ytmdmgpikbebejaa
/- Kill: runs. -/
namespace Go.Proofs.Ytmdmgpikbebejaa
open Go.RowKit
set_option linter.unusedSimpArgs false
set_option linter.unusedVariables false

theorem run_cx : CxOK crun2 := Tab.cx_ok (all_cons (up5_ok (up4_ok chk_ok)) (all_cons (up5_ok (up4_ok (up3_ok hgt_ok))) (all_cons (up5_ok (up4_ok (up3_ok volm_ok))) (all_cons (up5_ok (up4_ok moment_ok)) all_nil)))) fxrun2
def runKs : List Lk := [.arr 97, .int, .arr 70, .int, .int, .int, .int, .int, .int, .int, .int, .int, .arr 3]
theorem ints_take_all {l : List Int} {n : Nat} (h : n < l.length) (f : Int → Bool) : (l.take (n + 1)).all f = ((l.take n).all f && f (l.getD n 0)) := by
  rw [take_snoc h 0, List.all_append]; simp
theorem errsE_0 {l : List Int} (h : l.length ≤ 400) (h2 : l.all (fun x => decide (-1 ≤ x) && decide (x ≤ 1)) = true) : errsE l = 0 := by
  unfold errsE; rw [if_neg (by omega), if_pos h2]
theorem errsE_2 {l : List Int} (h : 400 < l.length ∨ ∃ n, n < l.length ∧ (l.getD n 0 < -1 ∨ 1 < l.getD n 0)) : errsE l = 2 := by
  unfold errsE
  rcases h with h | ⟨n, hn, h⟩
  · rw [if_pos h]
  · split
    · rfl
    · rw [if_neg]
      intro ha
      have := List.all_eq_true.1 ha _ (getD_mem hn 0)
      simp only [Bool.and_eq_true, decide_eq_true_eq] at this
      omega
theorem runE_no {j : Jb} {l : List Int} (h : jobV j ≠ 0) : runE j l = jobV j ∧ runV j l = [] := by
  have e : runE j l = jobV j := by unfold runE orE; rw [if_neg h]
  exact ⟨e, if_neg (by rw [e]; exact h)⟩
theorem runE_two {j : Jb} {l : List Int} (h : jobV j = 0) (h2 : errsE l = 2) : runE j l = 2 ∧ runV j l = [] := by
  have e : runE j l = 2 := by unfold runE orE; rw [if_pos h, h2]
  exact ⟨e, if_neg (by rw [e]; decide)⟩
theorem runE_yes {j : Jb} {l : List Int} (h : jobV j = 0) (h2 : errsE l = 0) : runE j l = 0 ∧ runV j l = runM j l := by
  have e : runE j l = 0 := by unfold runE orE; rw [if_pos h, h2]
  exact ⟨e, if_pos e⟩
/-- Where the steps begin: a job's cells, and the empty run. -/
def RunI (cs : List C) (xs : List C) : Prop := ∃ js u, xs = js ++ [.s u []] ∧ js.length = 14 ∧ JobOK js 0 ∧ jobOf js 0 = jobOf cs 0 ∧ errsE (ints (at_ cs 12).rows) = 0
theorem run1_vc {cs : List C} (hcs : CTy Try.prog runKs cs) : VC crun2 (ctRun.post cs) trun1 cs [RunI cs] := by
  have h1 : crun2.ct 48 = some ctCheckJ := rfl
  have h2 : crun2.ct 58 = some ctHeight := rfl
  have h3 : crun2.ct 30 = some ctVol := rfl
  suffices key : allC Try.prog runKs (fun cs => VC crun2 (ctRun.post cs) trun1 cs [RunI cs]) from allC_elim key cs hcs
  clear hcs
  unfold trun1 runKs
  simp only [VC, allC, List.map_cons, List.map_nil, List.length_cons, List.length_nil, List.getElem?_cons_zero, List.getElem?_cons_succ, List.cons.injEq, C.i.injEq, C.b.injEq, and_true, true_and, forall_const, kindsOf_nil, kindsOf_lf, kindsOf_agg, kindsOf_box, boxKinds_nil, boxKinds_lf, boxKinds_agg, boxKinds_box, List.append_nil, List.cons_append, List.nil_append, den_cmp_le, den_cmp_lt, den_cmp_eq, den_cmp_ne, den_cmp_le', den_cmp_lt', den_cmp_eq', den_cmp_ne', den_and, den_and', den_or, den_or', den_not, den_not', den_blit, den_of, ev_var, at_0, at_1, at_2, at_3, at_4, at_5, at_6, at_7, at_skip, c_int, c_bool, c_arr, c_cnt, c_vec, ev_nil, ev_join, ev_sub3, loc_s, int_i, bool_b, rows_s, cs_nil, cs_cons, E.den_lit, E.den_var, E.den_add, E.den_sub, E.den_mul, E.den_quo, E.den_rem, E.den_max, E.den_min, E.den_len, E.den_wr, E.den_cell, Nat.reduceAdd, h1, h2, h3, ctCheckJ, ctHeight, ctVol, ctRun, ctF, wellSh, wellKs, progSh, bubSh, holeSh, lineSh, n_, s_, ev_cell, in1]
  intro u1 r1 _ _ _ w _ _ u2 r2 _ _ _ li _ _ pi _ _ st _ _ ka _ _ kb _ _ kc _ _ kd _ _ v _ _ po _ _ u3 r3 _ _ _
  obtain ⟨j, hjd⟩ : ∃ j, j = jobOf [C.s u1 r1, C.i w, C.s u2 r2, C.i li, C.i pi, C.i st, C.i ka, C.i kb, C.i kc, C.i kd, C.i v, C.i po, C.s u3 r3] 0 := ⟨_, rfl⟩
  have hjd2 : jobOf [C.s u1 r1, C.i w, C.s u2 r2, C.i li, C.i pi, C.i st, C.i ka, C.i kb, C.i kc, C.i kd, C.i v, C.i po] 0 = j := hjd.symm
  rw [hjd2, ← hjd]
  have hl := ints_len r3
  rintro n _ _ hn
  rw [← hl]
  have two : jobV j = 0 → errsE (ints r3) = 2 → ∃ v_1 rows, (C.s (Value.slice none 0 0) [] = C.s v_1 rows ∧ 2 = runE j (ints r3)) ∧ mosOf rows = runV j (ints r3) := fun h h2 => by
    obtain ⟨e1, e2⟩ := runE_two h h2
    rw [e1, e2]
    exact ⟨_, [], ⟨rfl, rfl⟩, rfl⟩
  refine ⟨fun h => ?_, fun h => ?_⟩
  · obtain ⟨e1, e2⟩ := runE_no (l := ints r3) (show jobV j ≠ 0 by rw [← hn]; exact h)
    rw [e1, e2]
    exact ⟨_, [], ⟨rfl, hn⟩, rfl⟩
  have h0 : jobV j = 0 := by rw [← hn]; exact h
  refine ⟨fun h4 => two h0 (errsE_2 (.inl (by omega))), fun h4 => ?_⟩
  refine ⟨fun xs => match xs with | [_, _, .i i] => 0 ≤ i ∧ i ≤ (ints r3).length ∧ ((ints r3).take i.toNat).all (fun x => decide (-1 ≤ x) && decide (x ≤ 1)) = true | _ => False, fun xs => match xs with | [_, _, .i i] => (((ints r3).length : Int) - i).toNat | _ => 0, ⟨by omega, by omega, rfl⟩, ?_⟩
  rintro vz rz _ _ _ z _ _ i _ _ ⟨i0, i1, hI⟩
  refine ⟨fun hlt => ⟨i0, hlt, fun hx => two h0 (errsE_2 (.inr ⟨i.toNat, by omega, .inl hx⟩)), fun hx => ⟨fun hy => two h0 (errsE_2 (.inr ⟨i.toNat, by omega, .inr hy⟩)), fun hy => ⟨⟨by omega, by omega, ?_⟩, (show (((ints r3).length : Int) - (i + 1)).toNat < (((ints r3).length : Int) - i).toNat by omega)⟩⟩⟩, fun hge => ?_⟩
  · rw [show (i + 1).toNat = i.toNat + 1 by omega, ints_take_all (by omega), hI, decide_eq_true hx, decide_eq_true hy]; rfl
  · rintro vl rows _ _ _ ⟨v', rows', e1, e2⟩
    cases e1
    rintro room _ _ hroom
    have hf : JF j := jf_of h0
    have hs : holeV (segsOf r1) = 0 := by have := hf.hole; rw [hjd] at this; exact this
    refine ⟨[C.s u1 r1, C.i w, C.s u2 r2, C.i li, C.i pi, C.i st, C.i ka, C.i kb, C.i kc, C.i kd, C.i v, C.i po, C.s vl rows, C.i room], .slice none 0 0, rfl, rfl, ⟨?_, e2, ?_⟩, rfl, errsE_0 (by show (ints r3).length ≤ 400; omega) ?_⟩
    · rw [hjd] at h0; exact h0
    · show room = volV (segsOf r1)
      rw [hroom]; exact roomS_yes hs
    · rw [List.take_of_length_le (by omega)] at hI; exact hI
theorem mosOf_app (a b : List (List C)) : mosOf (a ++ b) = mosOf a ++ mosOf b := by simp [mosOf]
theorem mosOf_len (a : List (List C)) : (mosOf a).length = a.length := by simp [mosOf]
def runN (j : Jb) (l : List Int) (n : Nat) : List Mo := (List.range n).map fun (k : Nat) => momentV j (k : Int) (l.getD k 0)
theorem runN_succ (j : Jb) (l : List Int) (n : Nat) : runN j l (n + 1) = runN j l n ++ [momentV j (n : Int) (l.getD n 0)] := by
  unfold runN; rw [List.range_succ, List.map_append]; rfl
theorem errs_ok {l : List Int} (h : errsE l = 0) (n : Nat) : ErrOK (l.getD n 0) := by
  rcases Nat.lt_or_ge n l.length with hn | hn
  · by_cases h1 : -1 ≤ l.getD n 0 ∧ l.getD n 0 ≤ 1
    · exact h1
    · rw [errsE_2 (.inr ⟨n, hn, by omega⟩)] at h; cases h
  · rw [List.getD_eq_getElem?_getD, List.getElem?_eq_none hn]; exact ⟨by decide, by decide⟩
theorem isMo_mo2 {x : Mo} {rs : List C} (h : IsMo x rs) : momOf rs 0 = x := by
  obtain ⟨v, rows, rfl, h⟩ := h
  obtain ⟨a, ⟨b, c⟩, ⟨d, e⟩, ⟨f, g⟩, p⟩ := x
  show Mo.mk a (b, c) (d, e) (f, g) (knots rows) = _
  rw [h]
theorem run2_vc {cs js : List C} (hcs : CTy Try.prog runKs cs) (hjs : CTy Try.prog jobKs js) (hok : JobOK js 0) (he : errsE (ints (at_ cs 12).rows) = 0) {vo uo : Value} {rows : List (List C)} {k : Nat} (hk : k ≤ lastN (jobOf js 0)) (hrows : mosOf rows = runN (jobOf js 0) (ints (at_ cs 12).rows) k) :
    VC crun2 (ctRun.post cs) trun2 (cs ++ (js ++ [.s uo []]) ++ [.s vo rows] ++ stepEl (jobOf js 0) k) [fun xs => ∃ v2 rows2, xs = [.s v2 rows2] ∧ mosOf rows2 = runN (jobOf js 0) (ints (at_ cs 12).rows) (k + 1)] := by
  have h1 : crun2.ct 50 = some ctMoment := rfl
  obtain ⟨post, hpost⟩ : ∃ p, p = ctRun.post cs := ⟨_, rfl⟩
  rw [← hpost]
  clear hpost
  suffices key : allC Try.prog runKs (fun cs => errsE (ints (at_ cs 12).rows) = 0 → mosOf rows = runN (jobOf js 0) (ints (at_ cs 12).rows) k → VC crun2 post trun2 (cs ++ (js ++ [.s uo []]) ++ [.s vo rows] ++ stepEl (jobOf js 0) k) [fun xs => ∃ v2 rows2, xs = [.s v2 rows2] ∧ mosOf rows2 = runN (jobOf js 0) (ints (at_ cs 12).rows) (k + 1)]) from allC_elim key cs hcs he hrows
  clear hcs he hrows cs
  suffices key : allC Try.prog jobKs (fun js => JobOK js 0 → k ≤ lastN (jobOf js 0) → allC Try.prog runKs (fun cs => errsE (ints (at_ cs 12).rows) = 0 → mosOf rows = runN (jobOf js 0) (ints (at_ cs 12).rows) k → VC crun2 post trun2 (cs ++ (js ++ [.s uo []]) ++ [.s vo rows] ++ stepEl (jobOf js 0) k) [fun xs => ∃ v2 rows2, xs = [.s v2 rows2] ∧ mosOf rows2 = runN (jobOf js 0) (ints (at_ cs 12).rows) (k + 1)])) from allC_elim key js hjs hok hk
  clear hjs hok hk js
  unfold trun2 runKs jobKs stepEl
  simp only [VC, allC, List.map_cons, List.map_nil, List.length_cons, List.length_nil, List.getElem?_cons_zero, List.getElem?_cons_succ, List.cons.injEq, C.i.injEq, C.b.injEq, and_true, true_and, forall_const, kindsOf_nil, kindsOf_lf, kindsOf_agg, kindsOf_box, boxKinds_nil, boxKinds_lf, boxKinds_agg, boxKinds_box, List.append_nil, List.cons_append, List.nil_append, den_cmp_le, den_cmp_lt, den_cmp_eq, den_cmp_ne, den_cmp_le', den_cmp_lt', den_cmp_eq', den_cmp_ne', den_and, den_and', den_or, den_or', den_not, den_not', den_blit, den_of, ev_var, at_0, at_1, at_2, at_3, at_4, at_5, at_6, at_7, at_skip, c_int, c_bool, c_arr, c_cnt, c_vec, ev_nil, ev_join, ev_sub3, loc_s, int_i, bool_b, rows_s, cs_nil, cs_cons, E.den_lit, E.den_var, E.den_add, E.den_sub, E.den_mul, E.den_quo, E.den_rem, E.den_max, E.den_min, E.den_len, E.den_wr, E.den_cell, Nat.reduceAdd, h1, ctMoment, ctF, jobSh, momSh, momKs, n_, ev_cell, in1, List.cons_append, List.nil_append]
  intro v0 r0 _ _ _ n1 _ _ v2 r2' _ _ _ n3 _ _ n4 _ _ n5 _ _ n6 _ _ n7 _ _ n8 _ _ n9 _ _ n10 _ _ n11 _ _ v12 r12 _ _ _ n13 _ _ hok hk
  intro u1 r1 _ _ _ w _ _ u2 r2 _ _ _ li _ _ pi _ _ st _ _ ka _ _ kb _ _ kc _ _ kd _ _ v _ _ po _ _ u3 r3 _ _ _ he hrows
  obtain ⟨j, hj⟩ : ∃ j, j = jobOf [C.s v0 r0, C.i n1, C.s v2 r2', C.i n3, C.i n4, C.i n5, C.i n6, C.i n7, C.i n8, C.i n9, C.i n10, C.i n11, C.s v12 r12, C.i n13] 0 := ⟨_, rfl⟩
  rw [← hj] at hk hrows ⊢
  have hl := ints_len r3
  have he : errsE (ints r3) = 0 := he
  have hrows : mosOf rows = runN j (ints r3) k := hrows
  have hlen : rows.length = k := by rw [← mosOf_len, hrows]; simp [runN]
  have hb := errs_ok he k
  have h400 := lastN_le j
  have hs : StepOK (k : Int) := ⟨by omega, by omega⟩
  have hkk : (k : Int).toNat = k := by omega
  have add : ∀ (e : Int) (a1 a2 a3 a4 a5 a6 a7 : Int) (va : Value) (ra : List (List C)), e = (ints r3).getD k 0 → IsMo (momentV j (k : Int) e) [C.i a1, C.i a2, C.i a3, C.i a4, C.i a5, C.i a6, C.i a7, C.s va ra] → mosOf (rows ++ [[C.i a1, C.i a2, C.i a3, C.i a4, C.i a5, C.i a6, C.i a7, C.s va ra]]) = runN j (ints r3) (k + 1) := fun e a1 a2 a3 a4 a5 a6 a7 va ra hee hm => by
    rw [mosOf_app, hrows, runN_succ, ← hee]
    congr 1
    show [momOf [C.i a1, C.i a2, C.i a3, C.i a4, C.i a5, C.i a6, C.i a7, C.s va ra] 0] = _
    rw [isMo_mo2 hm]
  rw [hkk]
  refine ⟨fun hlt => ⟨by omega, hlt, ⟨hok, hs, hb⟩, ?_⟩, fun hge => ⟨⟨hok, hs, by decide, by decide⟩, ?_⟩⟩
  · rintro a1 _ _ a2 _ _ a3 _ _ a4 _ _ a5 _ _ a6 _ _ a7 _ _ va ra _ _ _ hm
    exact ⟨by rw [hlen]; push_cast; omega, fun vv => ⟨vv, _, rfl, add _ _ _ _ _ _ _ _ _ _ rfl (by rw [hj]; exact hm)⟩⟩
  · rintro a1 _ _ a2 _ _ a3 _ _ a4 _ _ a5 _ _ a6 _ _ a7 _ _ va ra _ _ _ hm
    exact ⟨by rw [hlen]; push_cast; omega, fun vv => ⟨vv, _, rfl, add 0 _ _ _ _ _ _ _ _ _ (by rw [List.getD_eq_getElem?_getD, List.getElem?_eq_none (by omega)]; rfl) (by rw [hj]; exact hm)⟩⟩
theorem CTy_left {P : Program} : ∀ {ks ls : List Lk} {cs ds : List C}, cs.length = ks.length → CTy P (ks ++ ls) (cs ++ ds) → CTy P ks cs
  | [], _, [], _, _, _ => trivial
  | _ :: ks, ls, _ :: cs, ds, h, hc => ⟨hc.1, CTy_left (ks := ks) (ls := ls) (by simpa using h) hc.2⟩
  | [], _, _ :: _, _, h, _ => by simp at h
  | _ :: _, _, [], _, h, _ => by simp at h
theorem run_pre {cs js : List C} (hcs : CTy Try.prog runKs cs) (hjs : CTy Try.prog jobKs js) (c : C) : cs_ (cs ++ (js ++ [c])) (freshL jobKs 13) = js ∧ at_ (cs ++ (js ++ [c])) 27 = c ∧ ∀ d, at_ (cs ++ (js ++ [c]) ++ [d]) 28 = d := by
  suffices key : allC Try.prog runKs (fun cs => cs_ (cs ++ (js ++ [c])) (freshL jobKs 13) = js ∧ at_ (cs ++ (js ++ [c])) 27 = c ∧ ∀ d, at_ (cs ++ (js ++ [c]) ++ [d]) 28 = d) from allC_elim key cs hcs
  clear hcs cs
  suffices key : allC Try.prog jobKs (fun js => allC Try.prog runKs (fun cs => cs_ (cs ++ (js ++ [c])) (freshL jobKs 13) = js ∧ at_ (cs ++ (js ++ [c])) 27 = c ∧ ∀ d, at_ (cs ++ (js ++ [c]) ++ [d]) 28 = d)) from allC_elim key js hjs
  clear hjs js
  unfold runKs
  rw [show jobKs = [.arr 97, .int, .arr 70, .int, .int, .int, .int, .int, .int, .int, .int, .int, .arr 70, .int] from rfl]
  simp only [allC]
  intro v0 r0 _ _ _ n1 _ _ v2 r2 _ _ _ n3 _ _ n4 _ _ n5 _ _ n6 _ _ n7 _ _ n8 _ _ n9 _ _ n10 _ _ n11 _ _ v12 r12 _ _ _ n13 _ _
  intro u1 r1 _ _ _ w _ _ u2 r2 _ _ _ li _ _ pi _ _ st _ _ ka _ _ kb _ _ kc _ _ kd _ _ v _ _ po _ _ u3 r3 _ _ _
  exact ⟨rfl, rfl, fun _ => rfl⟩
theorem run_split : bodyOf Try.f37 = pre (heads 6 (bodyOf Try.f37)) (Code.seq (.seq (.region 14 #[opN (nav [1, 1, 1, 1, 1, 1, 0, 0] (bodyOf Try.f37)) 0, opN (nav [1, 1, 1, 1, 1, 1, 0, 0] (bodyOf Try.f37)) 1] false) (.block 2 (.rangeFunc (.tmp runR.d2) #[runR.p0, runR.p1] (rangeAssign (nav [1, 1, 1, 1, 1, 1, 0, 1, 0] (bodyOf Try.f37))) (rangeBody (nav [1, 1, 1, 1, 1, 1, 0, 1, 0] (bodyOf Try.f37)))))) (nav [1, 1, 1, 1, 1, 1, 1] (bodyOf Try.f37))) := by kernel_rfl
theorem run_t1 : execL crun2 (heads 6 (bodyOf Try.f37)) { startOf Try.f37 ctRun [] [] with lvl := (startOf Try.f37 ctRun [] []).lvl + 1 } (joinK (startOf Try.f37 ctRun [] []) runS0 [.blk 8, .blk 9] (jobKs ++ [.vec 52]) (endQ crun2 Try.f37 ctRun)) = some trun1 := by kernel_rfl
theorem run_t2 : rgRound crun2 (endQ crun2 Try.f37 ctRun) runR (rangeAssign (nav [1, 1, 1, 1, 1, 1, 0, 1, 0] (bodyOf Try.f37))) (rangeBody (nav [1, 1, 1, 1, 1, 1, 0, 1, 0] (bodyOf Try.f37))) = some trun2 := by kernel_rfl
theorem run_t3 : rgTail crun2 (endQ crun2 Try.f37 ctRun) runR (nav [1, 1, 1, 1, 1, 1, 1] (bodyOf Try.f37)) = some trun3 := by kernel_rfl
theorem run_ok : tab5.ok 37 := by
  refine Tab.of_ct rfl rfl ⟨_, Try.func37, by decide, rfl⟩ ?_ (fun h => by cases h)
  refine ct_ok_marks (cx := crun2) (bds := []) run_cx Try.func37 (c := bodyOf Try.f37) rfl ⟨by decide, by decide, by decide⟩ fun cs hcs hp => ⟨bds_nil _, fun F w0 Γ a w Q hρ hds hs hk hm => ?_⟩
  have hcs : CTy Try.prog runKs cs := hcs
  rw [run_split]
  refine pre_seg (R := ctRun.post cs) run_cx (Ls := []) (I := RunI cs) run_t1 (by kernel_rfl) rfl (by rw [hρ]; exact run1_vc hcs) hs ?_ ?_
  · intro xs Γx a' wp hxs hI hρ' he hs'
    obtain ⟨js, u, rfl, hjl, hok, hjj, herr⟩ := hI
    have hjs : CTy Try.prog jobKs js := CTy_left (ls := [.vec 52]) hjl hxs
    have hρx : Γx.ρ = cs ++ (js ++ [.s u []]) := by rw [hρ', hρ]
    obtain ⟨q1, q2, q3⟩ := run_pre hcs hjs (.s u [])
    refine range_fn (R := ctRun.post cs) run_cx runR (it := stepsIt) (init := [.cnt 52 (.var 27)]) (cs := js) (by kernel_rfl) rfl rfl (call_op rfl callable_mksteps) rfl rfl (by kernel_rfl) rfl steps_made steps_ok callable_steps (by rw [hρx]; exact q1.symm) hok step_el run_t2 run_t3 hs' he hds hm
      (fun k xs => ∃ v2 rows2, xs = [.s v2 rows2] ∧ mosOf rows2 = runN (jobOf js 0) (ints (at_ cs 12).rows) k) ?_ (fun k xs x hx hty hI => ?_) (fun xs hty hI => ?_)
    · rw [hρx]
      exact ⟨u, [], by show [at_ (cs ++ (js ++ [.s u []])) 27] = _; rw [q2], rfl⟩
    · obtain ⟨v2, rows2, rfl, hI⟩ := hI
      obtain ⟨hk', rfl⟩ := stepEls_get (j := jobOf js 0) hx
      rw [hρx]
      exact run2_vc hcs hjs hok herr hk' hI
    · obtain ⟨v2, rows2, rfl, hI⟩ := hI
      have hle : (stepsIt.els js).length = lastN (jobOf js 0) + 1 := by simp [stepsIt, stepEls]
      rw [hle] at hI
      have hjv : jobV (jobOf cs 0) = 0 := by rw [← hjj]; exact hok.1
      obtain ⟨e1, e2⟩ := runE_yes hjv herr
      rw [hρx]
      unfold trun3
      simp only [VC, allC, List.map_cons, List.map_nil, List.length_cons, List.length_nil, List.getElem?_cons_zero, List.getElem?_cons_succ, List.cons.injEq, C.i.injEq, C.b.injEq, and_true, true_and, forall_const, kindsOf_nil, kindsOf_lf, kindsOf_agg, kindsOf_box, boxKinds_nil, boxKinds_lf, boxKinds_agg, boxKinds_box, List.append_nil, List.cons_append, List.nil_append, den_cmp_le, den_cmp_lt, den_cmp_eq, den_cmp_ne, den_cmp_le', den_cmp_lt', den_cmp_eq', den_cmp_ne', den_and, den_and', den_or, den_or', den_not, den_not', den_blit, den_of, ev_var, at_0, at_1, at_2, at_3, at_4, at_5, at_6, at_7, at_skip, c_int, c_bool, c_arr, c_cnt, c_vec, ev_nil, ev_join, ev_sub3, loc_s, int_i, bool_b, rows_s, cs_nil, cs_cons, E.den_lit, E.den_var, E.den_add, E.den_sub, E.den_mul, E.den_quo, E.den_rem, E.den_max, E.den_min, E.den_len, E.den_wr, E.den_cell]
      refine ⟨v2, rows2, ?_, ?_⟩
      · rw [e1]
        show [at_ (cs ++ (js ++ [.s u []]) ++ [.s v2 rows2]) 28, C.i 0] = _
        rw [q3]
      · rw [e2, hI, hjj]; rfl
  · intro x st' T' Γ' Ls' hx hk' he hlen' hv' a' w' hs'
    exact hk x st' T' Γ' Ls' hk' he List.nil_prefix hlen' hv' a' w' hs'
end Go.Proofs.Ytmdmgpikbebejaa
/- What is to be shown of each function, as the executor has it. Printed by trees.py. -/
namespace Go.Proofs.Ytmdmgpikbebejaa
noncomputable def cckl : Cx := tab6.only [] (fun _ => []) [] 0 [] (fun _ => none)
def tckl : Tree :=
  (.split (.cmp .eq (.len (.var 0)) (.lit 0)) (.ret [(.int (.lit 6))]) (.split (.cmp .lt (.lit 8) (.len (.var 0))) (.ret [(.int (.lit 8))]) (.ob (.cmp .le (.lit 1) (.len (.var 0))) (.ob (.cmp .le (.len (.var 0)) (.len (.var 0))) (.loop [.int, .int] [(.int (.lit 0)), (.int (.lit 0))] (.split (.cmp .lt (.var 2) (.len (.sub3 (.var 0) (.lit 1) (.len (.var 0)) 1))) (.ob (.cmp .le (.lit 0) (.add (.var 2) (.lit 1))) (.ob (.cmp .lt (.add (.var 2) (.lit 1)) (.len (.var 0))) (.ob (.cmp .le (.lit 0) (.var 2)) (.ob (.cmp .lt (.var 2) (.len (.var 0))) (.split (.cmp .le (.cell (.var 0) (.add (.var 2) (.lit 1)) 0) (.cell (.var 0) (.var 2) 0)) (.ret [(.int (.lit 11))]) (.back 0 [(.int (.var 1)), (.int (.add (.var 2) (.lit 1)))])))))) (.ret [(.int (.lit 0))])))))))
noncomputable def flcks : List (Nat × Func) := [(68, Try.f68), (85, Try.f85), (66, Try.f66), (67, Try.f67)]
theorem fxcks : ∀ p ∈ flcks, FnOK p := fns_cons ⟨Try.func68, ⟨_, Try.func68, by decide, rfl⟩⟩ (fns_cons ⟨Try.func85, ⟨_, Try.func85, by decide, rfl⟩⟩ (fns_cons ⟨Try.func66, ⟨_, Try.func66, by decide, rfl⟩⟩ (fns_cons ⟨Try.func67, ⟨_, Try.func67, by decide, rfl⟩⟩ (fns_nil))))
noncomputable def ccks : Cx := tab6.only [65, 19] (fun r => match r with
  | 2 => [.blk 2000003]
  | _ => []) flcks 4 [] (fun _ => none)
def tcks_1 : Tree :=
  (.split (.cmp .ne (.var 3) (.lit 0)) (.ret [(.int (.var 3))]) (.loop [.int, .int] [(.int (.lit 0)), (.int (.lit 0))] (.split (.cmp .lt (.var 5) (.len (.var 0))) (.ob (.cmp .le (.lit 0) (.var 5)) (.ob (.cmp .lt (.var 5) (.len (.var 0))) (.call 19 [(.int (.cell (.var 0) (.var 5) 0)), (.int (.lit 1))] (.split (.cmp .ne (.var 6) (.lit 0)) (.ret [(.int (.lit 2))]) (.back 0 [(.int (.var 4)), (.int (.add (.var 5) (.lit 1)))]))))) (.loop [.int, .int] [(.int (.lit 0)), (.int (.lit 0))] (.split (.cmp .lt (.var 7) (.len (.var 1))) (.ob (.cmp .le (.lit 0) (.var 7)) (.ob (.cmp .lt (.var 7) (.len (.var 1))) (.call 19 [(.int (.lit 1)), (.int (.cell (.var 1) (.var 7) 0))] (.split (.cmp .ne (.var 8) (.lit 0)) (.ret [(.int (.lit 2))]) (.back 1 [(.int (.var 6)), (.int (.add (.var 7) (.lit 1)))]))))) (.ret [(.int (.lit 0))]))))))
def tcks : Tree :=
  (.call 65 [(.arr 2 (.var 0))] (.split (.cmp .ne (.var 2) (.lit 0)) (.ret [(.int (.var 2))]) (.call 65 [(.arr 2 (.var 1))] tcks_1)))
noncomputable def cckb : Cx := tab6.only [15, 17] (fun _ => []) [] 0 [] (fun _ => none)
def tckb : Tree :=
  (.call 15 [(.arr 97 (.var 0)), (.int (.var 1)), (.arr 70 (.var 2)), (.int (.var 3)), (.int (.var 4)), (.int (.var 5))] (.split (.cmp .ne (.var 10) (.lit 0)) (.ret [(.int (.var 10))]) (.call 17 [(.int (.var 6)), (.int (.var 7)), (.int (.var 8)), (.int (.var 9))] (.ret [(.int (.var 11))]))))
noncomputable def flver : List (Nat × Func) := [(49, Try.f49)]
theorem fxver : ∀ p ∈ flver, FnOK p := fns_cons ⟨Try.func49, ⟨_, Try.func49, by decide, rfl⟩⟩ (fns_nil)
noncomputable def cver : Cx := tab6.only [54, 55, 58, 30, 53] (fun r => match r with
  | 10 => [.blk 4, .blk 5]
  | 13 => [.blk 4, .blk 5]
  | 50020 => [.blk 2, .blk 3]
  | _ => []) flver 1 [] (fun _ => none)
def tver_1 : Tree :=
  (.split (.cmp .ne (.var 35) (.lit 1)) (.ret [(.int (.cell (.var 10) (.var 14) 0)), (.int (.cell (.var 11) (.var 22) 0)), (.int (.var 35)), (.int (.var 36)), (.int (.var 37)), (.int (.var 38)), (.int (.var 39)), (.int (.lit 0))]) (.back 1 [(.int (.add (.var 22) (.lit 1))), (.int (.cell (.var 10) (.var 14) 0)), (.int (.cell (.var 11) (.var 22) 0)), (.int (.var 35)), (.int (.var 36)), (.int (.var 37)), (.int (.var 38)), (.int (.var 39))]))
def tver_2 : Tree :=
  (.call 53 [(.arr 97 (.var 0)), (.int (.var 1)), (.arr 70 (.var 2)), (.int (.var 3)), (.int (.var 4)), (.int (.var 5)), (.int (.var 6)), (.int (.var 7)), (.int (.var 8)), (.int (.var 9)), (.int (.cell (.var 10) (.var 14) 0)), (.int (.cell (.var 11) (.var 22) 0)), (.arr 70 (.var 33)), (.int (.var 34))] tver_1)
def tver_3 : Tree :=
  (.split (.cmp .ne (.var 13) (.lit 0)) (.ret [(.int (.lit 0)), (.int (.lit 0)), (.int (.lit 0)), (.int (.lit 0)), (.int (.lit 0)), (.int (.lit 0)), (.int (.lit 0)), (.int (.var 13))]) (.loop [.int, .int, .int, .int, .int, .int, .int, .int] [(.int (.lit 0)), (.int (.lit 0)), (.int (.lit 0)), (.int (.lit 0)), (.int (.lit 0)), (.int (.lit 0)), (.int (.lit 0)), (.int (.lit 0))] (.split (.cmp .lt (.var 14) (.len (.var 10))) (.ob (.cmp .le (.lit 0) (.var 14)) (.ob (.cmp .lt (.var 14) (.len (.var 10))) (.loop [.int, .int, .int, .int, .int, .int, .int, .int] [(.int (.lit 0)), (.int (.var 15)), (.int (.var 16)), (.int (.var 17)), (.int (.var 18)), (.int (.var 19)), (.int (.var 20)), (.int (.var 21))] (.split (.cmp .lt (.var 22) (.len (.var 11))) (.ob (.cmp .le (.lit 0) (.var 22)) (.ob (.cmp .lt (.var 22) (.len (.var 11))) (.dfn .nil (.dfn .nil (.dfn .nil (.call 58 [(.arr 97 (.var 0))] (.call 30 [(.arr 97 (.var 0))] tver_2))))))) (.back 0 [(.int (.add (.var 14) (.lit 1))), (.int (.var 23)), (.int (.var 24)), (.int (.var 25)), (.int (.var 26)), (.int (.var 27)), (.int (.var 28)), (.int (.var 29))]))))) (.ret [(.int (.var 15)), (.int (.var 16)), (.int (.var 17)), (.int (.var 18)), (.int (.var 19)), (.int (.var 20)), (.int (.var 21)), (.int (.lit 0))]))))
def tver_4 : Tree :=
  (.split (.cmp .ne (.var 12) (.lit 0)) (.ret [(.int (.lit 0)), (.int (.lit 0)), (.int (.lit 0)), (.int (.lit 0)), (.int (.lit 0)), (.int (.lit 0)), (.int (.lit 0)), (.int (.var 12))]) (.call 55 [(.arr 2 (.var 10)), (.arr 2 (.var 11))] tver_3))
def tver : Tree :=
  (.call 54 [(.arr 97 (.var 0)), (.int (.var 1)), (.arr 70 (.var 2)), (.int (.var 3)), (.int (.var 4)), (.int (.var 5)), (.int (.var 6)), (.int (.var 7)), (.int (.var 8)), (.int (.var 9))] tver_4)
end Go.Proofs.Ytmdmgpikbebejaa
/- Kill: sets of kicks: what is valid. -/
namespace Go.Proofs.Ytmdmgpikbebejaa
open Go.RowKit
set_option linter.unusedSimpArgs false
set_option linter.unusedVariables false

theorem asc_step {l : List Int} {n : Nat} (h : n + 1 < l.length) : asc2 (l.drop n) = (decide (l.getD n 0 < l.getD (n + 1) 0) && asc2 (l.drop (n + 1))) := by
  rw [drop_cons (show n < l.length by omega) 0, drop_cons h 0, asc2, ← drop_cons h 0]
theorem asc_end {l : List Int} {n : Nat} (h : l.length ≤ n + 1) : asc2 (l.drop n) = true := by
  rcases Nat.lt_or_ge n l.length with h1 | h1
  · rw [drop_cons h1 0, List.drop_eq_nil_of_le h]; rfl
  · rw [List.drop_eq_nil_of_le h1]; rfl
theorem ckl_ok : tab6.ok 65 := by
  refine Tab.of_ct rfl rfl ⟨_, Try.func65, by decide, rfl⟩ ?_ ctF_det
  refine ct_ok (cx := cckl) (Tab.cx_ok all_nil) Try.func65 (bds := []) (T := tckl) (by kernel_rfl) ?_
  unfold tckl
  simp only [VC, allC, List.map_cons, List.map_nil, List.length_cons, List.length_nil, List.getElem?_cons_zero, List.getElem?_cons_succ, List.cons.injEq, C.i.injEq, C.b.injEq, and_true, true_and, forall_const, kindsOf_nil, kindsOf_lf, kindsOf_agg, kindsOf_box, boxKinds_nil, boxKinds_lf, boxKinds_agg, boxKinds_box, List.append_nil, List.cons_append, List.nil_append, den_cmp_le, den_cmp_lt, den_cmp_eq, den_cmp_ne, den_cmp_le', den_cmp_lt', den_cmp_eq', den_cmp_ne', den_and, den_and', den_or, den_or', den_not, den_not', den_blit, den_of, ev_var, at_0, at_1, at_2, at_3, at_4, at_5, at_6, at_7, at_skip, c_int, c_bool, c_arr, c_cnt, c_vec, ev_nil, ev_join, ev_sub3, loc_s, int_i, bool_b, rows_s, cs_nil, cs_cons, E.den_lit, E.den_var, E.den_add, E.den_sub, E.den_mul, E.den_quo, E.den_rem, E.den_max, E.den_min, E.den_len, E.den_wr, E.den_cell, Nat.reduceAdd, ctKList, ctF, ev_cell, in1, l_]
  intro u r _ _ _
  have hl := ints_len r
  rw [← hl]
  have hd : ((List.drop (Int.toNat 1) (List.take ((ints r).length : Int).toNat r)).length : Int) = ((ints r).length : Int) - 1 ∨ (ints r).length = 0 := by
    rw [List.length_drop, List.length_take]
    have : Int.toNat 1 = 1 := rfl
    omega
  generalize ints r = l at *
  generalize ((List.drop (Int.toNat 1) (List.take ((l.length : Int)).toNat r)).length : Int) = m at *
  have e0 : l.length ≠ 0 → l.length ≤ 8 → ∀ t, asc2 l = t → listE l = if t then 0 else 11 := fun h1 h2 t ht => by
    unfold listE
    rw [if_neg h1, if_neg (by omega), ht]
  refine ⟨bds_nil _, fun h => by unfold listE; rw [if_pos (by omega)], fun h => ⟨fun h8 => by unfold listE; rw [if_neg (by omega), if_pos (by omega)], fun h8 => ⟨by omega, Int.le_refl _, ?_⟩⟩⟩
  refine ⟨fun xs => match xs with | [_, .i n] => 0 ≤ n ∧ n ≤ (l.length : Int) - 1 ∧ asc2 l = asc2 (l.drop n.toNat) | _ => False, fun xs => match xs with | [_, .i n] => ((l.length : Int) - n).toNat | _ => 0, ⟨by omega, by omega, rfl⟩, ?_⟩
  rintro z _ _ n _ _ ⟨n0, n1, hI⟩
  refine ⟨fun hlt => ?_, fun hge => ?_⟩
  · have hs := asc_step (l := l) (n := n.toNat) (by omega)
    rw [show n.toNat + 1 = (n + 1).toNat by omega] at hs
    refine ⟨by omega, by omega, n0, by omega, fun h => ?_, fun h => ⟨⟨by omega, by omega, ?_⟩, (show ((l.length : Int) - (n + 1)).toNat < ((l.length : Int) - n).toNat by omega)⟩⟩
    · rw [e0 (by omega) (by omega) false (by rw [hI, hs, decide_eq_false (by omega)]; rfl)]; rfl
    · rw [hI, hs, decide_eq_true h, Bool.true_and]
  · rw [e0 (by omega) (by omega) true (by rw [hI, asc_end (by omega)])]; rfl
theorem any_step {l : List Int} {n : Nat} (h : n < l.length) (f : Int → Bool) : (l.take (n + 1)).any f = ((l.take n).any f || f (l.getD n 0)) := by
  rw [take_snoc h 0, List.any_append]; simp
theorem any_take {l : List Int} {n : Nat} (h : n < l.length) (f : Int → Bool) (hf : f (l.getD n 0) = true) : l.any f = true := List.any_eq_true.2 ⟨_, getD_mem h 0, hf⟩
theorem setE_1 {vs ps : List Int} (h : listE vs ≠ 0) : setE vs ps = listE vs := by unfold setE orE; rw [if_neg h]
theorem setE_2 {vs ps : List Int} (h : listE vs = 0) (h2 : listE ps ≠ 0) : setE vs ps = listE ps := by unfold setE orE; rw [if_pos h, if_neg h2]
theorem setE_3 {vs ps : List Int} (h : listE vs = 0) (h2 : listE ps = 0) {t : Bool} (ht : (vs.any badVol || ps.any badPore) = t) : setE vs ps = if t then 2 else 0 := by unfold setE orE; rw [if_pos h, if_pos h2, ht]
theorem cks_ok : tab6.ok 55 := by
  refine Tab.of_ct rfl rfl ⟨_, Try.func55, by decide, rfl⟩ ?_ ctF_det
  refine ct_ok (cx := ccks) (Tab.cx_ok (all_cons ckl_ok (all_cons (up6_ok (up5_ok (up4_ok (up3_ok ckick_ok)))) all_nil)) fxcks) Try.func55 (bds := []) (T := tcks) (by kernel_rfl) ?_
  have h1 : ccks.ct 65 = some ctKList := rfl
  have h2 : ccks.ct 19 = some ctKick := rfl
  unfold tcks
  simp only [VC, allC, List.map_cons, List.map_nil, List.length_cons, List.length_nil, List.getElem?_cons_zero, List.getElem?_cons_succ, List.cons.injEq, C.i.injEq, C.b.injEq, and_true, true_and, forall_const, kindsOf_nil, kindsOf_lf, kindsOf_agg, kindsOf_box, boxKinds_nil, boxKinds_lf, boxKinds_agg, boxKinds_box, List.append_nil, List.cons_append, List.nil_append, den_cmp_le, den_cmp_lt, den_cmp_eq, den_cmp_ne, den_cmp_le', den_cmp_lt', den_cmp_eq', den_cmp_ne', den_and, den_and', den_or, den_or', den_not, den_not', den_blit, den_of, ev_var, at_0, at_1, at_2, at_3, at_4, at_5, at_6, at_7, at_skip, c_int, c_bool, c_arr, c_cnt, c_vec, ev_nil, ev_join, ev_sub3, loc_s, int_i, bool_b, rows_s, cs_nil, cs_cons, E.den_lit, E.den_var, E.den_add, E.den_sub, E.den_mul, E.den_quo, E.den_rem, E.den_max, E.den_min, E.den_len, E.den_wr, E.den_cell, Nat.reduceAdd, h1, ctKList, ctKSet, ctF, ev_cell, in1, l_]
  intro u1 r1 _ _ _ u2 r2 _ _ _
  refine ⟨bds_nil _, fun n _ _ hn => ⟨fun h => ?_, fun h => fun m _ _ hm => ?_⟩⟩
  · rw [hn] at h ⊢; exact (setE_1 h).symm
  · have hv : listE (ints r1) = 0 := by rw [← h, hn]
    have hm : m = listE (ints r2) := hm
    unfold tcks_1
    simp only [VC, allC, List.map_cons, List.map_nil, List.length_cons, List.length_nil, List.getElem?_cons_zero, List.getElem?_cons_succ, List.cons.injEq, C.i.injEq, C.b.injEq, and_true, true_and, forall_const, kindsOf_nil, kindsOf_lf, kindsOf_agg, kindsOf_box, boxKinds_nil, boxKinds_lf, boxKinds_agg, boxKinds_box, List.append_nil, List.cons_append, List.nil_append, den_cmp_le, den_cmp_lt, den_cmp_eq, den_cmp_ne, den_cmp_le', den_cmp_lt', den_cmp_eq', den_cmp_ne', den_and, den_and', den_or, den_or', den_not, den_not', den_blit, den_of, ev_var, at_0, at_1, at_2, at_3, at_4, at_5, at_6, at_7, at_skip, c_int, c_bool, c_arr, c_cnt, c_vec, ev_nil, ev_join, ev_sub3, loc_s, int_i, bool_b, rows_s, cs_nil, cs_cons, E.den_lit, E.den_var, E.den_add, E.den_sub, E.den_mul, E.den_quo, E.den_rem, E.den_max, E.den_min, E.den_len, E.den_wr, E.den_cell, Nat.reduceAdd, h2, ctKick, bubSh, ctF, ev_cell, in1, l_]
    have l1 := ints_len r1
    have l2 := ints_len r2
    rw [← l1, ← l2]
    show (m ≠ 0 → m = setE (ints r1) (ints r2)) ∧ _
    generalize ints r1 = vs at *
    generalize ints r2 = ps at *
    refine ⟨fun h => by rw [hm] at h ⊢; exact (setE_2 hv h).symm, fun h => ?_⟩
    have hp : listE ps = 0 := by rw [← hm]; exact h
    refine ⟨fun xs => match xs with | [_, .i n] => 0 ≤ n ∧ n ≤ vs.length ∧ (vs.take n.toNat).any badVol = false | _ => False, fun xs => match xs with | [_, .i n] => ((vs.length : Int) - n).toNat | _ => 0, ⟨by omega, by omega, rfl⟩, ?_⟩
    rintro z _ _ i _ _ ⟨i0, i1, hI⟩
    refine ⟨fun hlt => ⟨i0, hlt, fun k _ _ hk => ⟨fun hne => ?_, fun h0 => ⟨⟨by omega, by omega, ?_⟩, (show ((vs.length : Int) - (i + 1)).toNat < ((vs.length : Int) - i).toNat by omega)⟩⟩⟩, fun hge => ?_⟩
    · have hk : k = kickV ⟨vs.getD i.toNat 0, 1⟩ := hk
      have hb : badVol (vs.getD i.toNat 0) = true := by unfold badVol; rw [← hk]; exact bne_iff_ne.2 hne
      show 2 = setE vs ps
      rw [setE_3 hv hp (t := true) (by rw [any_take (by omega) _ hb]; rfl)]; rfl
    · have hk : k = kickV ⟨vs.getD i.toNat 0, 1⟩ := hk
      rw [show (i + 1).toNat = i.toNat + 1 by omega, any_step (by omega), hI]
      unfold badVol; rw [← hk, h0]; rfl
    · have hvs : vs.any badVol = false := by rw [List.take_of_length_le (by omega)] at hI; exact hI
      refine ⟨fun xs => match xs with | [_, .i n] => 0 ≤ n ∧ n ≤ ps.length ∧ (ps.take n.toNat).any badPore = false | _ => False, fun xs => match xs with | [_, .i n] => ((ps.length : Int) - n).toNat | _ => 0, ⟨by omega, by omega, rfl⟩, ?_⟩
      rintro z2 _ _ i' _ _ ⟨i0', i1', hI'⟩
      refine ⟨fun hlt => ⟨i0', hlt, fun k _ _ hk => ⟨fun hne => ?_, fun h0 => ⟨⟨by omega, by omega, ?_⟩, (show ((ps.length : Int) - (i' + 1)).toNat < ((ps.length : Int) - i').toNat by omega)⟩⟩⟩, fun hge' => ?_⟩
      · have hk : k = kickV ⟨1, ps.getD i'.toNat 0⟩ := hk
        have hb : badPore (ps.getD i'.toNat 0) = true := by unfold badPore; rw [← hk]; exact bne_iff_ne.2 hne
        show 2 = setE vs ps
        rw [setE_3 hv hp (t := true) (by rw [any_take (by omega) _ hb, Bool.or_true])]; rfl
      · have hk : k = kickV ⟨1, ps.getD i'.toNat 0⟩ := hk
        rw [show (i' + 1).toNat = i'.toNat + 1 by omega, any_step (by omega), hI']
        unfold badPore; rw [← hk, h0]; rfl
      · have hps : ps.any badPore = false := by rw [List.take_of_length_le (by omega)] at hI'; exact hI'
        show 0 = setE vs ps
        rw [setE_3 hv hp (t := false) (by rw [hvs, hps]; rfl)]; rfl
theorem ckb_ok : tab6.ok 54 := by
  refine Tab.of_ct rfl rfl ⟨_, Try.func54, by decide, rfl⟩ ?_ ctF_det
  refine ct_ok (cx := cckb) (Tab.cx_ok (all_cons (up6_ok (up5_ok (up4_ok (up3_ok cwell_ok)))) (all_cons (up6_ok (up5_ok (up4_ok (up3_ok cprog_ok)))) all_nil))) Try.func54 (bds := []) (T := tckb) (by kernel_rfl) ?_
  have h1 : cckb.ct 15 = some ctWell := rfl
  have h2 : cckb.ct 17 = some ctProg := rfl
  unfold tckb
  simp only [VC, allC, List.map_cons, List.map_nil, List.length_cons, List.length_nil, List.getElem?_cons_zero, List.getElem?_cons_succ, List.cons.injEq, C.i.injEq, C.b.injEq, and_true, true_and, forall_const, kindsOf_nil, kindsOf_lf, kindsOf_agg, kindsOf_box, boxKinds_nil, boxKinds_lf, boxKinds_agg, boxKinds_box, List.append_nil, List.cons_append, List.nil_append, den_cmp_le, den_cmp_lt, den_cmp_eq, den_cmp_ne, den_cmp_le', den_cmp_lt', den_cmp_eq', den_cmp_ne', den_and, den_and', den_or, den_or', den_not, den_not', den_blit, den_of, ev_var, at_0, at_1, at_2, at_3, at_4, at_5, at_6, at_7, at_skip, c_int, c_bool, c_arr, c_cnt, c_vec, ev_nil, ev_join, ev_sub3, loc_s, int_i, bool_b, rows_s, cs_nil, cs_cons, E.den_lit, E.den_var, E.den_add, E.den_sub, E.den_mul, E.den_quo, E.den_rem, E.den_max, E.den_min, E.den_len, E.den_wr, E.den_cell, Nat.reduceAdd, h1, h2, ctWell, ctProg, ctKBoth, ctF, wellSh, wellKs, progSh]
  intro u1 r1 _ _ _ w _ _ u2 r2 _ _ _ li _ _ pi _ _ st _ _ a _ _ b _ _ c _ _ d _ _
  refine ⟨bds_nil _, fun n _ _ hn => ⟨fun h => ?_, fun h m _ _ hm => ?_⟩⟩
  · have hn : n = wellV ⟨segsOf r1, w, knots r2, li, pi, st⟩ := hn
    show n = orE (wellV ⟨segsOf r1, w, knots r2, li, pi, st⟩) (progV ⟨a, b, c, d⟩)
    unfold orE
    rw [if_neg (by rw [← hn]; exact h)]; exact hn
  · have hn : n = wellV ⟨segsOf r1, w, knots r2, li, pi, st⟩ := hn
    show m = orE (wellV ⟨segsOf r1, w, knots r2, li, pi, st⟩) (progV ⟨a, b, c, d⟩)
    unfold orE
    rw [if_pos (by rw [← hn]; exact h)]; exact hm
end Go.Proofs.Ytmdmgpikbebejaa
/- Kill: Verify. -/
namespace Go.Proofs.Ytmdmgpikbebejaa
open Go.RowKit
set_option linter.unusedSimpArgs false
set_option linter.unusedVariables false

theorem kicks_cons (v : Int) (vs ps : List Int) : kicksOf (v :: vs) ps = ps.map (fun p => (⟨v, p⟩ : Bb)) ++ kicksOf vs ps := by unfold kicksOf; rw [List.flatMap_cons]
theorem setE_facts {vs ps : List Int} (h : setE vs ps = 0) : (1 ≤ vs.length ∧ vs.length ≤ 8) ∧ (1 ≤ ps.length ∧ ps.length ≤ 8) ∧ (∀ v ∈ vs, 1 ≤ v ∧ v ≤ 16777216) ∧ ∀ p ∈ ps, 1 ≤ p ∧ p ≤ 17179869184 := by
  have hl : ∀ {l : List Int}, listE l = 0 → 1 ≤ l.length ∧ l.length ≤ 8 := fun {l} h => by
    unfold listE at h
    split at h
    · omega
    split at h
    · omega
    omega
  by_cases h1 : listE vs = 0
  · by_cases h2 : listE ps = 0
    · rw [setE_3 h1 h2 rfl] at h
      have hb : (vs.any badVol || ps.any badPore) = false := by
        cases hx : (vs.any badVol || ps.any badPore) with
        | false => rfl
        | true => rw [hx] at h; simp at h
      rw [Bool.or_eq_false_iff] at hb
      refine ⟨hl h1, hl h2, fun v hv => ?_, fun p hp => ?_⟩
      · have : ¬ badVol v = true := fun hx => by rw [List.any_eq_true.2 ⟨v, hv, hx⟩] at hb; cases hb.1
        unfold badVol at this
        simp only [bne_iff_ne, ne_eq, Decidable.not_not] at this
        have := kickV_cases v 1
        omega
      · have : ¬ badPore p = true := fun hx => by rw [List.any_eq_true.2 ⟨p, hp, hx⟩] at hb; cases hb.2
        unfold badPore at this
        simp only [bne_iff_ne, ne_eq, Decidable.not_not] at this
        have := kickV_cases 1 p
        omega
    · rw [setE_2 h1 h2] at h; exact absurd h h2
  · rw [setE_1 h1] at h; exact absurd h h1
theorem verE_0 {w : Wl} {p : Pg} {vs ps : List Int} (h1 : bothE w p = 0) (h2 : setE vs ps = 0) : verE w p vs ps = 0 ∧ verOut w p vs ps = verV w p vs ps := by
  have e : verE w p vs ps = 0 := by unfold verE orE; rw [if_pos h1]; exact h2
  exact ⟨e, if_pos e⟩
theorem verE_1 {w : Wl} {p : Pg} {vs ps : List Int} (h1 : bothE w p ≠ 0) : verE w p vs ps = bothE w p ∧ verOut w p vs ps = (⟨0, 0⟩, noOc) := by
  have e : verE w p vs ps = bothE w p := by unfold verE orE; rw [if_neg h1]
  exact ⟨e, if_neg (by rw [e]; exact h1)⟩
theorem verE_2 {w : Wl} {p : Pg} {vs ps : List Int} (h1 : bothE w p = 0) (h2 : setE vs ps ≠ 0) : verE w p vs ps = setE vs ps ∧ verOut w p vs ps = (⟨0, 0⟩, noOc) := by
  have e : verE w p vs ps = setE vs ps := by unfold verE orE; rw [if_pos h1]
  exact ⟨e, if_neg (by rw [e]; exact h2)⟩
theorem bothE_0 {w : Wl} {p : Pg} (h : bothE w p = 0) : wellV w = 0 ∧ progV p = 0 := by unfold bothE at h; exact orE_iff.1 h
set_option maxHeartbeats 1000000 in
theorem ver_ok : tab6.ok 36 := by
  refine Tab.of_ct rfl rfl ⟨_, Try.func36, by decide, rfl⟩ ?_ ctF_det
  refine ct_ok (cx := cver) (Tab.cx_ok (all_cons ckb_ok (all_cons cks_ok (all_cons (up6_ok (up5_ok (up4_ok (up3_ok hgt_ok)))) (all_cons (up6_ok (up5_ok (up4_ok (up3_ok volm_ok)))) (all_cons (up6_ok ends_ok) all_nil))))) fxver) Try.func36 (bds := []) (T := tver) (by kernel_rfl) ?_
  have h1 : cver.ct 54 = some ctKBoth := rfl
  have h2 : cver.ct 55 = some ctKSet := rfl
  have h3 : cver.ct 58 = some ctHeight := rfl
  have h4 : cver.ct 30 = some ctVol := rfl
  have h5 : cver.ct 53 = some ctJEnds := rfl
  unfold tver
  simp only [VC, allC, List.map_cons, List.map_nil, List.length_cons, List.length_nil, List.getElem?_cons_zero, List.getElem?_cons_succ, List.cons.injEq, C.i.injEq, C.b.injEq, and_true, true_and, forall_const, kindsOf_nil, kindsOf_lf, kindsOf_agg, kindsOf_box, boxKinds_nil, boxKinds_lf, boxKinds_agg, boxKinds_box, List.append_nil, List.cons_append, List.nil_append, den_cmp_le, den_cmp_lt, den_cmp_eq, den_cmp_ne, den_cmp_le', den_cmp_lt', den_cmp_eq', den_cmp_ne', den_and, den_and', den_or, den_or', den_not, den_not', den_blit, den_of, ev_var, at_0, at_1, at_2, at_3, at_4, at_5, at_6, at_7, at_skip, c_int, c_bool, c_arr, c_cnt, c_vec, ev_nil, ev_join, ev_sub3, loc_s, int_i, bool_b, rows_s, cs_nil, cs_cons, E.den_lit, E.den_var, E.den_add, E.den_sub, E.den_mul, E.den_quo, E.den_rem, E.den_max, E.den_min, E.den_len, E.den_wr, E.den_cell, Nat.reduceAdd, h1, ctKBoth, ctVerify, ctF, wellSh, wellKs, progSh, bubSh, ocSh, l_, bbC, ocC, List.cons_append, List.nil_append]
  intro u1 r1 _ _ _ w _ _ u2 r2 _ _ _ li _ _ pi _ _ st _ _ ka _ _ kb _ _ kc _ _ kd _ _ u3 r3 _ _ _ u4 r4 _ _ _
  obtain ⟨W, hW⟩ : ∃ W : Wl, W = ⟨segsOf r1, w, knots r2, li, pi, st⟩ := ⟨_, rfl⟩
  obtain ⟨G, hG⟩ : ∃ G : Pg, G = ⟨ka, kb, kc, kd⟩ := ⟨_, rfl⟩
  have eW : wellOf [C.s u1 r1, C.i w, C.s u2 r2, C.i li, C.i pi, C.i st, C.i ka, C.i kb, C.i kc, C.i kd, C.s u3 r3, C.s u4 r4] 0 = W := by rw [hW]; rfl
  have eG : progOf [C.s u1 r1, C.i w, C.s u2 r2, C.i li, C.i pi, C.i st, C.i ka, C.i kb, C.i kc, C.i kd, C.s u3 r3, C.s u4 r4] 6 = G := by rw [hG]; rfl
  rw [eW, eG]
  have l1 := ints_len r3
  have l2 := ints_len r4
  refine ⟨bds_nil _, fun n _ _ hn => ?_⟩
  have hn : n = bothE W G := by rw [hW, hG]; exact hn
  unfold tver_4
  simp only [VC, allC, List.map_cons, List.map_nil, List.length_cons, List.length_nil, List.getElem?_cons_zero, List.getElem?_cons_succ, List.cons.injEq, C.i.injEq, C.b.injEq, and_true, true_and, forall_const, kindsOf_nil, kindsOf_lf, kindsOf_agg, kindsOf_box, boxKinds_nil, boxKinds_lf, boxKinds_agg, boxKinds_box, List.append_nil, List.cons_append, List.nil_append, den_cmp_le, den_cmp_lt, den_cmp_eq, den_cmp_ne, den_cmp_le', den_cmp_lt', den_cmp_eq', den_cmp_ne', den_and, den_and', den_or, den_or', den_not, den_not', den_blit, den_of, ev_var, at_0, at_1, at_2, at_3, at_4, at_5, at_6, at_7, at_skip, c_int, c_bool, c_arr, c_cnt, c_vec, ev_nil, ev_join, ev_sub3, loc_s, int_i, bool_b, rows_s, cs_nil, cs_cons, E.den_lit, E.den_var, E.den_add, E.den_sub, E.den_mul, E.den_quo, E.den_rem, E.den_max, E.den_min, E.den_len, E.den_wr, E.den_cell, Nat.reduceAdd, h2, ctKSet, ctF, l_]
  refine ⟨fun h => ?_, fun h => fun m _ _ hm => ?_⟩
  · obtain ⟨e1, e2⟩ := verE_1 (vs := ints r3) (ps := ints r4) (show bothE W G ≠ 0 by rw [← hn]; exact h)
    rw [e1, e2]
    exact ⟨rfl, rfl, rfl, rfl, rfl, rfl, rfl, hn⟩
  have hb0 : bothE W G = 0 := by rw [← hn]; exact h
  have hm : m = setE (ints r3) (ints r4) := hm
  unfold tver_3
  simp only [VC, allC, List.map_cons, List.map_nil, List.length_cons, List.length_nil, List.getElem?_cons_zero, List.getElem?_cons_succ, List.cons.injEq, C.i.injEq, C.b.injEq, and_true, true_and, forall_const, kindsOf_nil, kindsOf_lf, kindsOf_agg, kindsOf_box, boxKinds_nil, boxKinds_lf, boxKinds_agg, boxKinds_box, List.append_nil, List.cons_append, List.nil_append, den_cmp_le, den_cmp_lt, den_cmp_eq, den_cmp_ne, den_cmp_le', den_cmp_lt', den_cmp_eq', den_cmp_ne', den_and, den_and', den_or, den_or', den_not, den_not', den_blit, den_of, ev_var, at_0, at_1, at_2, at_3, at_4, at_5, at_6, at_7, at_skip, c_int, c_bool, c_arr, c_cnt, c_vec, ev_nil, ev_join, ev_sub3, loc_s, int_i, bool_b, rows_s, cs_nil, cs_cons, E.den_lit, E.den_var, E.den_add, E.den_sub, E.den_mul, E.den_quo, E.den_rem, E.den_max, E.den_min, E.den_len, E.den_wr, E.den_cell, Nat.reduceAdd, h3, h4, ctHeight, ctVol, ctF, holeSh, lineSh, ev_cell, in1, s_]
  refine ⟨fun h => ?_, fun h => ?_⟩
  · obtain ⟨e1, e2⟩ := verE_2 (vs := ints r3) (ps := ints r4) hb0 (by rw [← hm]; exact h)
    rw [e1, e2]
    exact ⟨rfl, rfl, rfl, rfl, rfl, rfl, rfl, hm⟩
  have hs0 : setE (ints r3) (ints r4) = 0 := by rw [← hm]; exact h
  obtain ⟨e1, e2⟩ := verE_0 hb0 hs0
  rw [e1, e2]
  obtain ⟨⟨c1, c2⟩, ⟨c3, c4⟩, c5, c6⟩ := setE_facts hs0
  obtain ⟨hw0, hp0⟩ := bothE_0 hb0
  rw [← l1, ← l2]
  generalize hvs : ints r3 = vs at *
  generalize hps : ints r4 = ps at *
  have hole : holeV W.segs = 0 := by rw [hW] at hw0 ⊢; exact (wellV_ok hw0).1
  refine ⟨fun xs => match xs with | [.i i, .i v, .i p, .i a, .i b, .i c, .i d, .i e] => 0 ≤ i ∧ i ≤ vs.length ∧ verV W G vs ps = verGo W G (kicksOf (vs.drop i.toNat) ps) (⟨v, p⟩, ⟨a, b, c, d, e⟩) | _ => False, fun xs => match xs with | [.i i, _, _, _, _, _, _, _] => ((vs.length : Int) - i).toNat | _ => 0, ⟨by omega, by omega, rfl⟩, ?_⟩
  rintro i _ _ v _ _ p _ _ a _ _ b _ _ c _ _ d _ _ e _ _ ⟨i0, i1, hI⟩
  refine ⟨fun hlt => ⟨i0, hlt, ?_⟩, fun hge => ?_⟩
  rotate_left
  · rw [List.drop_eq_nil_of_le (by omega)] at hI
    rw [hI]
    exact ⟨rfl, rfl, rfl, rfl, rfl, rfl, rfl, rfl⟩
  obtain ⟨V, hV⟩ : ∃ V, V = vs.getD i.toNat 0 := ⟨_, rfl⟩
  have hVb : 1 ≤ V ∧ V ≤ 16777216 := by rw [hV]; exact c5 _ (getD_mem (by omega) 0)
  rw [drop_cons (show i.toNat < vs.length by omega) 0, kicks_cons, ← hV, show i.toNat + 1 = (i + 1).toNat by omega] at hI
  refine ⟨fun xs => match xs with | [.i q, .i v, .i p, .i a, .i b, .i c, .i d, .i e] => 0 ≤ q ∧ q ≤ ps.length ∧ verV W G vs ps = verGo W G ((ps.drop q.toNat).map (fun p => (⟨V, p⟩ : Bb)) ++ kicksOf (vs.drop (i + 1).toNat) ps) (⟨v, p⟩, ⟨a, b, c, d, e⟩) | _ => False, fun xs => match xs with | [.i q, _, _, _, _, _, _, _] => ((ps.length : Int) - q).toNat | _ => 0, ⟨by omega, by omega, hI⟩, ?_⟩
  clear hI
  rintro q _ _ v _ _ p _ _ a _ _ b _ _ c _ _ d _ _ e _ _ ⟨q0, q1, hI⟩
  refine ⟨fun hlt2 => ⟨q0, hlt2, ?_⟩, fun hge2 => ⟨⟨by omega, by omega, ?_⟩, (show ((vs.length : Int) - (i + 1)).toNat < ((vs.length : Int) - i).toNat by omega)⟩⟩
  rotate_left
  · rw [List.drop_eq_nil_of_le (show ps.length ≤ q.toNat by omega), List.map_nil, List.nil_append] at hI
    exact hI
  obtain ⟨K, hK⟩ : ∃ K, K = ps.getD q.toNat 0 := ⟨_, rfl⟩
  have hKb : 1 ≤ K ∧ K ≤ 17179869184 := by rw [hK]; exact c6 _ (getD_mem (by omega) 0)
  rw [drop_cons (show q.toNat < ps.length by omega) 0, List.map_cons, List.cons_append, ← hK, show q.toNat + 1 = (q + 1).toNat by omega, verGo] at hI
  have hjv : jobV ⟨W, G, ⟨V, K⟩⟩ = 0 := jobV_iff.2 ⟨hw0, hp0, kickB_ok hVb hKb⟩
  rintro vl rows _ _ _ ⟨v', rows', f1, f2⟩
  cases f1
  rintro room _ _ hroom
  unfold tver_2
  simp only [VC, allC, List.map_cons, List.map_nil, List.length_cons, List.length_nil, List.getElem?_cons_zero, List.getElem?_cons_succ, List.cons.injEq, C.i.injEq, C.b.injEq, and_true, true_and, forall_const, kindsOf_nil, kindsOf_lf, kindsOf_agg, kindsOf_box, boxKinds_nil, boxKinds_lf, boxKinds_agg, boxKinds_box, List.append_nil, List.cons_append, List.nil_append, den_cmp_le, den_cmp_lt, den_cmp_eq, den_cmp_ne, den_cmp_le', den_cmp_lt', den_cmp_eq', den_cmp_ne', den_and, den_and', den_or, den_or', den_not, den_not', den_blit, den_of, ev_var, at_0, at_1, at_2, at_3, at_4, at_5, at_6, at_7, at_skip, c_int, c_bool, c_arr, c_cnt, c_vec, ev_nil, ev_join, ev_sub3, loc_s, int_i, bool_b, rows_s, cs_nil, cs_cons, E.den_lit, E.den_var, E.den_add, E.den_sub, E.den_mul, E.den_quo, E.den_rem, E.den_max, E.den_min, E.den_len, E.den_wr, E.den_cell, Nat.reduceAdd, h5, ctJEnds, jobSh, ocSh, ctF, ev_cell, in1, ocC]
  rw [hvs, hps, ← hV, ← hK]
  have eJ : jobOf [C.s u1 r1, C.i w, C.s u2 r2, C.i li, C.i pi, C.i st, C.i ka, C.i kb, C.i kc, C.i kd, C.i V, C.i K, C.s vl rows, C.i room] 0 = ⟨W, G, ⟨V, K⟩⟩ := by rw [hW, hG]; rfl
  refine ⟨⟨by rw [eJ]; exact hjv, by rw [eJ, hW]; exact f2, ?_⟩, ?_⟩
  · rw [eJ]
    show room = volV W.segs
    rw [hroom, hW]
    rw [hW] at hole
    exact roomS_yes hole
  rw [eJ]
  rintro o1 _ _ o2 _ _ o3 _ _ o4 _ _ o5 _ _ ⟨p1, p2, p3, p4, p5⟩
  have eO : endsV ⟨W, G, ⟨V, K⟩⟩ = ⟨o1, o2, o3, o4, o5⟩ := by rw [p1, p2, p3, p4, p5]
  rw [eO] at hI
  unfold tver_1
  simp only [VC, allC, List.map_cons, List.map_nil, List.length_cons, List.length_nil, List.getElem?_cons_zero, List.getElem?_cons_succ, List.cons.injEq, C.i.injEq, C.b.injEq, and_true, true_and, forall_const, kindsOf_nil, kindsOf_lf, kindsOf_agg, kindsOf_box, boxKinds_nil, boxKinds_lf, boxKinds_agg, boxKinds_box, List.append_nil, List.cons_append, List.nil_append, den_cmp_le, den_cmp_lt, den_cmp_eq, den_cmp_ne, den_cmp_le', den_cmp_lt', den_cmp_eq', den_cmp_ne', den_and, den_and', den_or, den_or', den_not, den_not', den_blit, den_of, ev_var, at_0, at_1, at_2, at_3, at_4, at_5, at_6, at_7, at_skip, c_int, c_bool, c_arr, c_cnt, c_vec, ev_nil, ev_join, ev_sub3, loc_s, int_i, bool_b, rows_s, cs_nil, cs_cons, E.den_lit, E.den_var, E.den_add, E.den_sub, E.den_mul, E.den_quo, E.den_rem, E.den_max, E.den_min, E.den_len, E.den_wr, E.den_cell, Nat.reduceAdd, ev_cell, in1]
  rw [hvs, hps, ← hV, ← hK]
  refine ⟨fun hne => ?_, fun h1' => ⟨⟨by omega, by omega, ?_⟩, (show ((ps.length : Int) - (q + 1)).toNat < ((ps.length : Int) - q).toNat by omega)⟩⟩
  · rw [if_neg hne] at hI
    rw [hI]
    exact ⟨rfl, rfl, rfl, rfl, rfl, rfl, rfl⟩
  · rw [if_pos h1'] at hI
    exact hI
end Go.Proofs.Ytmdmgpikbebejaa
/- Kill: Tolerance, Choose. -/
namespace Go.Proofs.Ytmdmgpikbebejaa
open Go.RowKit
set_option linter.unusedSimpArgs false
set_option linter.unusedVariables false

end Go.Proofs.Ytmdmgpikbebejaa
/- Kill: the plain laws of gas and of outcomes. -/
namespace Go.Proofs.Ytmdmgpikbebejaa
set_option linter.unusedVariables false
set_option linter.unusedSimpArgs false

/-! The amount of gas -/
/-! Outcomes -/
theorem n2 : (2 : Int) ≠ 0 := by decide
theorem n3 : (3 : Int) ≠ 0 := by decide
theorem over_two {p : Kn} {l : Int} : overP p l = 2 ↔ l < p.1 := by unfold overP; split <;> (try split) <;> omega
theorem over_zero {p : Kn} {l : Int} : overP p l = 0 ↔ p.1 ≤ l ∧ p.2 ≤ l := by unfold overP; split <;> (try split) <;> omega
theorem over_cases (p : Kn) (l : Int) : overP p l = 0 ∨ overP p l = 2 ∨ overP p l = 3 := by unfold overP; split <;> (try split) <;> omega
theorem firstO_cases (f : Nat → Oc) : ∀ (n i : Nat), (firstO f n i = noOc ∧ ∀ k, i ≤ k → k < i + n → (f k).is = 0) ∨ ∃ k, i ≤ k ∧ k < i + n ∧ (f k).is ≠ 0 ∧ firstO f n i = f k ∧ ∀ m, i ≤ m → m < k → (f m).is = 0
  | 0, i => .inl ⟨rfl, fun k h1 h2 => by omega⟩
  | n + 1, i => by
    by_cases h : (f i).is = 0
    · rw [firstO_no h]
      rcases firstO_cases f n (i + 1) with ⟨e, h1⟩ | ⟨k, h1, h2, h3, h4, h5⟩
      · refine .inl ⟨e, fun k h2 h3 => ?_⟩
        rcases Nat.lt_or_eq_of_le h2 with h4 | h4
        · exact h1 k (by omega) (by omega)
        · rw [← h4]; exact h
      · refine .inr ⟨k, by omega, by omega, h3, h4, fun m h6 h7 => ?_⟩
        rcases Nat.lt_or_eq_of_le h6 with h8 | h8
        · exact h5 m (by omega) h7
        · rw [← h8]; exact h
    · rw [firstO_yes h]
      exact .inr ⟨i, Nat.le_refl _, by omega, h, rfl, fun m h1 h2 => by omega⟩
/-- What an outcome of a moment says. -/
theorem look_cases {j : Jb} {s e : Int} : (lookV j s e = noOc ∧ j.k.pore ≤ botV j.p j.k e ∧ (∀ i, i < j.w.points.length → ((momentV j s e).pts.getD i (0, 0)).1 ≤ (j.w.points.getD i (0, 0)).2 ∧ ((momentV j s e).pts.getD i (0, 0)).2 ≤ (j.w.points.getD i (0, 0)).2) ∧ (0 ≤ (momentV j s e).surf.2 ∧ 0 ≤ (momentV j s e).surf.1) ∧ (momentV j s e).surf.1 ≤ j.w.limit ∧ (momentV j s e).surf.2 ≤ j.w.limit) ∨
    ((lookV j s e).is ≠ 0 ∧ ((lookV j s e).is = 2 ∨ (lookV j s e).is = 3) ∧ (lookV j s e).step = s ∧ (lookV j s e).err = e ∧ (
      ((lookV j s e).why = 1 ∧ botV j.p j.k e < j.k.pore) ∨
      ((lookV j s e).why = 2 ∧ ∃ i, i < j.w.points.length ∧ (lookV j s e).point = (i : Int) ∧ ((lookV j s e).is = 2 → (j.w.points.getD i (0, 0)).2 < ((momentV j s e).pts.getD i (0, 0)).1)) ∨
      ((lookV j s e).why = 3 ∧ ((lookV j s e).is = 2 → (momentV j s e).surf.2 < 0)) ∨
      ((lookV j s e).why = 4 ∧ ((lookV j s e).is = 2 → j.w.limit < (momentV j s e).surf.1)))) := by
  unfold lookV
  split
  · rename_i h
    exact .inr ⟨n2, .inl rfl, rfl, rfl, .inl ⟨rfl, h⟩⟩
  · rename_i hb
    generalize momentV j s e = x
    unfold lookM
    rcases firstO_cases (fracO j x s e) j.w.points.length 0 with ⟨h1, h2⟩ | ⟨i, h1, h2, h3, h4, h5⟩
    · rw [h1, orO_no rfl]
      rcases over_cases (-x.surf.2, -x.surf.1) 0 with g | g | g
      · rw [orO_no g]
        have gz := over_zero.1 g
        rcases over_cases x.surf j.w.limit with k | k | k
        · rw [orO_no k]
          have kz := over_zero.1 k
          refine .inl ⟨rfl, by omega, fun i hi => over_zero.1 (h2 i (Nat.zero_le _) (by omega)), ⟨?_, ?_⟩, kz⟩
          · have := gz.1; simp only [] at this; omega
          · have := gz.2; simp only [] at this; omega
        · rw [orO_yes (by rw [k]; first | exact n2 | exact n3)]
          exact .inr ⟨by rw [k]; first | exact n2 | exact n3, .inl k, rfl, rfl, .inr (.inr (.inr ⟨rfl, fun _ => over_two.1 k⟩))⟩
        · rw [orO_yes (by rw [k]; first | exact n2 | exact n3)]
          exact .inr ⟨by rw [k]; first | exact n2 | exact n3, .inr k, rfl, rfl, .inr (.inr (.inr ⟨rfl, fun h => over_two.1 h⟩))⟩
      · rw [orO_yes (by rw [g]; first | exact n2 | exact n3)]
        exact .inr ⟨by rw [g]; first | exact n2 | exact n3, .inl g, rfl, rfl, .inr (.inr (.inl ⟨rfl, fun _ => by have := over_two.1 g; simp only [] at this; omega⟩))⟩
      · rw [orO_yes (by rw [g]; first | exact n2 | exact n3)]
        exact .inr ⟨by rw [g]; first | exact n2 | exact n3, .inr g, rfl, rfl, .inr (.inr (.inl ⟨rfl, fun h => by have := over_two.1 h; simp only [] at this; omega⟩))⟩
    · rw [h4, orO_yes h3]
      refine .inr ⟨h3, ?_, rfl, rfl, .inr (.inl ⟨rfl, i, by omega, rfl, fun h => over_two.1 h⟩)⟩
      rcases over_cases (x.pts.getD i (0, 0)) (j.w.points.getD i (0, 0)).2 with g | g | g
      · exact absurd g h3
      · exact .inl g
      · exact .inr g
theorem dead_cases {j : Jb} {s : Int} : (deadV j s = noOc ∧ j.k.pore ≤ j.p.weight * (allV j).1 ∧ ∀ i, i < j.w.points.length → overP (leftV j (j.w.points.getD i (0, 0)).1) (j.w.points.getD i (0, 0)).2 = 0) ∨ ((deadV j s).is ≠ 0 ∧ ((deadV j s).is = 2 ∨ (deadV j s).is = 3) ∧ (deadV j s).step = s ∧ (deadV j s).err = 0 ∧ (deadV j s).why = 5) := by
  unfold deadV
  split
  · exact .inr ⟨n2, .inl rfl, rfl, rfl, rfl⟩
  · rename_i h
    rcases firstO_cases (deadO j s) j.w.points.length 0 with ⟨h1, h2⟩ | ⟨i, h1, h2, h3, h4, h5⟩
    · exact .inl ⟨h1, by omega, fun i hi => h2 i (Nat.zero_le _) (by omega)⟩
    · rw [h4]
      refine .inr ⟨h3, ?_, rfl, rfl, rfl⟩
      rcases over_cases (leftV j (j.w.points.getD i (0, 0)).1) (j.w.points.getD i (0, 0)).2 with g | g | g
      · exact absurd g h3
      · exact .inl g
      · exact .inr g
theorem step_cases {j : Jb} {k : Nat} : ((stepO j k).is = 0 ∧ ∀ e, -1 ≤ e → e ≤ 1 → (lookV j (k : Int) e).is = 0) ∨ ∃ e, -1 ≤ e ∧ e ≤ 1 ∧ stepO j k = lookV j (k : Int) e ∧ (lookV j (k : Int) e).is ≠ 0 := by
  by_cases h1 : (lookV j (k : Int) (-1)).is = 0
  · by_cases h2 : (lookV j (k : Int) 0).is = 0
    · by_cases h3 : (lookV j (k : Int) 1).is = 0
      · refine .inl ⟨by unfold stepO; rw [orO_no h1, orO_no h2]; exact h3, fun e a b => ?_⟩
        rcases (show e = -1 ∨ e = 0 ∨ e = 1 by omega) with rfl | rfl | rfl
        · exact h1
        · exact h2
        · exact h3
      · exact .inr ⟨1, by decide, by decide, by unfold stepO; rw [orO_no h1, orO_no h2], h3⟩
    · exact .inr ⟨0, by decide, by decide, by unfold stepO; rw [orO_no h1, orO_yes h2], h2⟩
  · exact .inr ⟨-1, by decide, by decide, by unfold stepO; rw [orO_yes h1], h1⟩
/-- The ways an outcome comes about. -/
theorem ends_cases (j : Jb) : (∃ (k : Nat) (e : Int), k ≤ lastN j ∧ -1 ≤ e ∧ e ≤ 1 ∧ endsV j = lookV j (k : Int) e ∧ (lookV j (k : Int) e).is ≠ 0) ∨
    ((∀ (k : Nat) (e : Int), k ≤ lastN j → -1 ≤ e → e ≤ 1 → (lookV j (k : Int) e).is = 0) ∧
      ((overS j (lastN j) = true ∧ endsV j = deadV j (lastN j : Int) ∧ (deadV j (lastN j : Int)).is ≠ 0) ∨ (overS j (lastN j) = true ∧ (deadV j (lastN j : Int)).is = 0 ∧ endsV j = ⟨1, (lastN j : Int), 0, 0, 0⟩) ∨ (overS j (lastN j) = false ∧ endsV j = ⟨3, 400, 0, 6, 0⟩))) := by
  rcases firstO_cases (stepO j) (lastN j + 1) 0 with ⟨h1, h2⟩ | ⟨k, h1, h2, h3, h4, h5⟩
  · refine .inr ⟨fun k e hk e0 e1 => ?_, ?_⟩
    · rcases step_cases (j := j) (k := k) with h | ⟨d, d0, d1, e, h⟩
      · exact h.2 e e0 e1
      · exact absurd (h2 k (Nat.zero_le _) (by omega)) (by rw [e]; exact h)
    · unfold endsV
      rw [h1, orO_no rfl]
      unfold endO
      by_cases ho : overS j (lastN j) = true
      · rw [if_pos ho]
        by_cases hd : (deadV j (lastN j : Int)).is = 0
        · exact .inr (.inl ⟨ho, hd, orO_no hd⟩)
        · exact .inl ⟨ho, orO_yes hd, hd⟩
      · rw [if_neg ho]
        exact .inr (.inr ⟨by simpa using ho, rfl⟩)
  · rcases step_cases (j := j) (k := k) with h | ⟨e, e0, e1, he, h⟩
    · exact absurd h.1 h3
    · refine .inl ⟨k, e, by omega, e0, e1, ?_, h⟩
      unfold endsV
      rw [h4, orO_yes h3, he]
end Go.Proofs.Ytmdmgpikbebejaa
/- What is to be shown of each function, as the executor has it. Printed by trees.py. -/
namespace Go.Proofs.Ytmdmgpikbebejaa
end Go.Proofs.Ytmdmgpikbebejaa
/- Kill: the amount of gas is kept: the law. -/
namespace Go.Proofs.Ytmdmgpikbebejaa
open Go.RowKit
set_option linter.unusedSimpArgs false
set_option linter.unusedVariables false

end Go.Proofs.Ytmdmgpikbebejaa
/- Kill: with greater limits, too: the law. -/
namespace Go.Proofs.Ytmdmgpikbebejaa
open Go.RowKit
set_option linter.unusedSimpArgs false
set_option linter.unusedVariables false

/-! Plain -/
/-- The same but for greater limits. -/
structure Wider (j i : Jb) : Prop where
  segs : i.w.segs = j.w.segs
  weight : i.w.weight = j.w.weight
  pipe : i.w.pipe = j.w.pipe
  step : i.w.step = j.w.step
  p : i.p = j.p
  k : i.k = j.k
  limit : j.w.limit ≤ i.w.limit
  len : i.w.points.length = j.w.points.length
  pts : ∀ n, (i.w.points.getD n (0, 0)).1 = (j.w.points.getD n (0, 0)).1 ∧ (j.w.points.getD n (0, 0)).2 ≤ (i.w.points.getD n (0, 0)).2
end Go.Proofs.Ytmdmgpikbebejaa
/- Kill: the plain laws of sets of kicks. -/
namespace Go.Proofs.Ytmdmgpikbebejaa
set_option linter.unusedVariables false
set_option linter.unusedSimpArgs false

def kb0 : Bb := ⟨0, 0⟩
theorem verGo_spec {w : Wl} {p : Pg} : ∀ (ks : List Bb) (x : Bb × Oc), ks ≠ [] → ∃ m, m < ks.length ∧ verGo w p ks x = (ks.getD m kb0, endsV ⟨w, p, ks.getD m kb0⟩) ∧ (∀ n, n < m → (endsV ⟨w, p, ks.getD n kb0⟩).is = 1) ∧ ((endsV ⟨w, p, ks.getD m kb0⟩).is = 1 → m + 1 = ks.length)
  | [], _, h => absurd rfl h
  | k :: l, x, _ => by
    by_cases h1 : (endsV ⟨w, p, k⟩).is = 1
    · rw [verGo, if_pos h1]
      cases l with
      | nil => exact ⟨0, by simp, rfl, fun n hn => by omega, fun _ => rfl⟩
      | cons k2 l =>
        obtain ⟨m, m1, m2, m3, m4⟩ := verGo_spec (w := w) (p := p) (k2 :: l) (k, endsV ⟨w, p, k⟩) (by simp)
        refine ⟨m + 1, by simpa using m1, by rw [m2, List.getD_cons_succ], fun n hn => ?_, fun h => ?_⟩
        · cases n with
          | zero => exact h1
          | succ n => rw [List.getD_cons_succ]; exact m3 n (by omega)
        · rw [List.getD_cons_succ] at h
          have := m4 h
          simpa using this
    · rw [verGo, if_neg h1]
      exact ⟨0, by simp, rfl, fun n hn => by omega, fun h => absurd h h1⟩
theorem kicks_len : ∀ (vs ps : List Int), (kicksOf vs ps).length = vs.length * ps.length
  | [], ps => by simp [kicksOf]
  | v :: vs, ps => by rw [kicks_cons, List.length_append, List.length_map, kicks_len vs ps, List.length_cons, Nat.add_mul]; omega
theorem kicks_at : ∀ (vs ps : List Int) (i j : Nat), i < vs.length → j < ps.length → (kicksOf vs ps).getD (i * ps.length + j) kb0 = ⟨vs.getD i 0, ps.getD j 0⟩
  | [], _, i, _, h, _ => by simp at h
  | v :: vs, ps, 0, j, _, hj => by
    rw [kicks_cons, Nat.zero_mul, Nat.zero_add, List.getD_eq_getElem?_getD, List.getElem?_append_left (by simpa using hj), List.getElem?_map, List.getElem?_eq_getElem hj, List.getD_eq_getElem?_getD (l := ps), List.getElem?_eq_getElem hj]
    rfl
  | v :: vs, ps, i + 1, j, hi, hj => by
    rw [kicks_cons, List.getD_eq_getElem?_getD, List.getElem?_append_right (by rw [List.length_map, Nat.add_mul]; omega), List.length_map, ← List.getD_eq_getElem?_getD, show (i + 1) * ps.length + j - ps.length = i * ps.length + j by rw [Nat.add_mul]; omega, kicks_at vs ps i j (by simpa using hi) hj, List.getD_cons_succ]
theorem two_dim {m V P : Nat} (hP : 0 < P) (h : m < V * P) : ∃ i j, i < V ∧ j < P ∧ m = i * P + j ∧ (m + 1 = V * P → i + 1 = V ∧ j + 1 = P) := by
  have h1 := Nat.div_add_mod m P
  have h2 := Nat.mod_lt m hP
  have h3 : m / P < V := Nat.div_lt_of_lt_mul (by rw [Nat.mul_comm]; exact h)
  refine ⟨m / P, m % P, h3, h2, by rw [Nat.mul_comm (m / P)]; omega, fun he => ?_⟩
  have h5 : m / P + 1 = V := by
    rcases Nat.lt_or_eq_of_le (show m / P + 1 ≤ V by omega) with h6 | h6
    · exfalso
      have h7 : (m / P + 2) * P ≤ V * P := Nat.mul_le_mul_right P (by omega)
      rw [Nat.add_mul, Nat.mul_comm (m / P)] at h7
      omega
    · exact h6
  refine ⟨h5, ?_⟩
  rw [← h5, Nat.add_mul, Nat.mul_comm (m / P)] at he
  omega
/-- The first kick of a set that is not killed, or the last one. -/
theorem ver_spec {w : Wl} {p : Pg} {vs ps : List Int} (hv : 0 < vs.length) (hp : 0 < ps.length) : ∃ a b, a < vs.length ∧ b < ps.length ∧ verV w p vs ps = (⟨vs.getD a 0, ps.getD b 0⟩, endsV ⟨w, p, ⟨vs.getD a 0, ps.getD b 0⟩⟩) ∧
    (∀ i j, i < vs.length → j < ps.length → i * ps.length + j < a * ps.length + b → (endsV ⟨w, p, ⟨vs.getD i 0, ps.getD j 0⟩⟩).is = 1) ∧ ((endsV ⟨w, p, ⟨vs.getD a 0, ps.getD b 0⟩⟩).is = 1 → a + 1 = vs.length ∧ b + 1 = ps.length) := by
  have hl := kicks_len vs ps
  obtain ⟨m, m1, m2, m3, m4⟩ := verGo_spec (w := w) (p := p) (kicksOf vs ps) (⟨0, 0⟩, noOc) (fun h => by
    rw [h] at hl
    have := Nat.mul_pos hv hp
    simp at hl
    omega)
  rw [hl] at m1 m4
  obtain ⟨a, b, ha, hb, hm, he⟩ := two_dim hp m1
  have hab := kicks_at vs ps a b ha hb
  rw [← hm] at hab
  rw [hab] at m2 m4
  refine ⟨a, b, ha, hb, m2, fun i j hi hj hlt => ?_, fun h => he (m4 h)⟩
  have := m3 (i * ps.length + j) (by omega)
  rwa [kicks_at vs ps i j hi hj] at this
theorem runB_asc {l : List Int} {m : Int} (hm : 1 ≤ m) : ∀ (n i : Nat) (a : Int), asc2 (runB l m n i a) = true
  | 0, _, _ => rfl
  | 1, _, _ => rfl
  | n + 2, i, a => by
    have ih := runB_asc (l := l) hm (n + 1) (i + 1) (a + 1 + pickV l i % m)
    have hb := (runB_box (l := l) hm (n + 1) (i + 1) (a + 1 + pickV l i % m) (a + 1 + pickV l i % m + 1 + pickV l ((i + 1 : Nat) : Int) % m) (by rw [runB]; exact List.mem_cons_self ..)).1
    rw [runB]
    rw [runB] at ih ⊢
    rw [asc2, ih, Bool.and_true]
    exact decide_eq_true (by omega)
theorem listE_0 {l : List Int} (h1 : 1 ≤ l.length) (h2 : l.length ≤ 8) (h3 : asc2 l = true) : listE l = 0 := by
  unfold listE
  rw [if_neg (by omega), if_neg (by omega), if_pos h3]
/-- The sets of numbers are valid. -/
theorem setB_ok (x : Br) : setE (volsB x) (poresB x) = 0 := by
  have m1 := many_box x.vols
  have m2 := many_box x.pores
  have l1 := volsB_len x
  have l2 := poresB_len x
  have a1 : asc2 (volsB x) = true := runB_asc (by decide) _ _ _
  have a2 : asc2 (poresB x) = true := runB_asc (by decide) _ _ _
  refine (setE_3 (vs := volsB x) (ps := poresB x) (t := false) (listE_0 (by omega) (by omega) a1) (listE_0 (by omega) (by omega) a2) ?_).trans rfl
  rw [Bool.or_eq_false_iff]
  refine ⟨?_, ?_⟩
  · cases h : (volsB x).any badVol with
    | false => rfl
    | true =>
      obtain ⟨v, hv, hb⟩ := List.any_eq_true.1 h
      have := volsB_box x v hv
      unfold badVol at hb
      rw [kickB_ok (by omega) (by omega)] at hb
      exact absurd hb (by decide)
  · cases h : (poresB x).any badPore with
    | false => rfl
    | true =>
      obtain ⟨v, hv, hb⟩ := List.any_eq_true.1 h
      have := poresB_box x v hv
      unfold badPore at hb
      rw [kickB_ok (by omega) (by omega)] at hb
      exact absurd hb (by decide)
theorem bothB_ok {w : Wl} {p : Pg} (h1 : wellV w = 0) (h2 : progV p = 0) : bothE w p = 0 := orE_iff.2 ⟨h1, h2⟩
end Go.Proofs.Ytmdmgpikbebejaa
/- Kill: what is killed stays in the window: the law. -/
namespace Go.Proofs.Ytmdmgpikbebejaa
open Go.RowKit
set_option linter.unusedSimpArgs false
set_option linter.unusedVariables false

theorem ends_is (j : Jb) : (endsV j).is = 1 ∨ (endsV j).is = 2 ∨ (endsV j).is = 3 := by
  rcases ends_cases j with ⟨k, e, -, -, -, he, hne⟩ | ⟨-, ⟨-, he, hne⟩ | ⟨-, -, he⟩ | ⟨-, he⟩⟩
  · rcases look_cases (j := j) (s := (k : Int)) (e := e) with ⟨g, -⟩ | ⟨-, g, -⟩
    · rw [g] at hne; exact absurd rfl hne
    · rw [he]; omega
  · rcases dead_cases (j := j) (s := (lastN j : Int)) with ⟨g, -⟩ | ⟨-, g, -⟩
    · rw [g] at hne; exact absurd rfl hne
    · rw [he]; omega
  · rw [he]; simp
  · rw [he]; simp
/-- What holds in each moment of a kick that is killed. -/
theorem killed_mom {j : Jb} (h : (endsV j).is = 1) {n : Nat} (hn : n ≤ lastN j) {e : Int} (he : ErrOK e) : j.k.pore ≤ botV j.p j.k e ∧ (∀ i, i < j.w.points.length → ((momentV j (n : Int) e).pts.getD i (0, 0)).2 ≤ (j.w.points.getD i (0, 0)).2) ∧ 0 ≤ (momentV j (n : Int) e).surf.1 ∧ (momentV j (n : Int) e).surf.2 ≤ j.w.limit := by
  have hz : (lookV j (n : Int) e).is = 0 := by
    rcases ends_cases j with ⟨k, d, -, -, -, hd, hne⟩ | ⟨hz, -⟩
    · rcases look_cases (j := j) (s := (k : Int)) (e := d) with ⟨g, -⟩ | ⟨-, g, -⟩
      · rw [g] at hne; exact absurd rfl hne
      · rw [hd] at h; omega
    · exact hz n e hn he.1 he.2
  rcases look_cases (j := j) (s := (n : Int)) (e := e) with ⟨-, g1, g2, g3, g4, g5⟩ | ⟨g, -⟩
  · exact ⟨g1, fun i hi => (g2 i hi).2, g3.2, g5⟩
  · exact absurd hz g
/-- A row of a run is its moment. -/
theorem run_row {rows : List (List C)} {j : Jb} {l : List Int} (h : mosOf rows = runM j l) {n : Nat} (hn : n < rows.length) : n ≤ lastN j ∧ momOf (rows.getD n []) 0 = momentV j (n : Int) (l.getD n 0) := by
  have hl : rows.length = lastN j + 1 := by rw [← mosOf_len, h]; simp [runM]
  refine ⟨by omega, ?_⟩
  have h1 : (mosOf rows)[n]? = (runM j l)[n]? := by rw [h]
  unfold mosOf runM at h1
  rw [List.getElem?_map, List.getElem?_map, List.getElem?_eq_getElem hn, List.getElem?_range (by omega)] at h1
  rw [List.getD_eq_getElem?_getD, List.getElem?_eq_getElem hn]
  exact Option.some.inj h1
set_option maxRecDepth 8000 in
set_option maxHeartbeats 1000000 in
theorem lwin3 {c0 c1 c2 c3 c4 c5 c6 c7 c8 c9 c10 c11 c12 c13 c14 c25 c26 c29 c30 c31 c32 c33 c34 c35 c36 c37 c38 c39 : C} {v1 v2 v3 v4 vl vm : Value} {ro1 ro2 ro3 ro4 rows rm : List (List C)} {w li2 pi2 st2 k1 k2 k3 k4 I K : Int} {L0 L1 : List C → Prop} {j : Jb} (hrun : mosOf rm = runM j (ints rows)) (hkill : (endsV j).is = 1) (herr : errsE (ints rows) = 0) (hjp : j.w.points = knots ro2) (hjl : j.w.limit = li2) (hpg : j.p = ⟨k1, k2, k3, k4⟩) (hp0 : progV j.p = 0) (hk0 : kickV j.k = 0) (hvol : (ints ro3).getD I.toNat 0 = j.k.vol) (hpo : (ints ro4).getD K.toNat 0 = j.k.pore) :
    VC clwin (fun rs => rs = [.b true]) tlwin_3 [c0, c1, c2, c3, c4, c5, c6, c7, c8, c9, c10, c11, c12, c13, c14, C.s v1 ro1, C.i w, C.s v2 ro2, C.i li2, C.i pi2, C.i st2, C.i k1, C.i k2, C.i k3, C.i k4, c25, c26, C.s v3 ro3, C.s v4 ro4, c29, c30, c31, c32, c33, c34, c35, c36, c37, c38, c39, C.i I, C.i K, C.s vl rows, C.s vm rm, C.i 0] [L0, L1] := by
  have h7 : clwin.ct 14 = some ctAwake := rfl
  have h8 : clwin.ct 21 = some ctBottom := rfl
  have hlen : rm.length = lastN j + 1 := by rw [← mosOf_len, hrun]; simp [runM]
  have hl := ints_len rows
  have l2 := knots_len2 ro2
  unfold tlwin_3
  simp only [VC, allC, List.map_cons, List.map_nil, List.length_cons, List.length_nil, List.getElem?_cons_zero, List.getElem?_cons_succ, List.cons.injEq, C.i.injEq, C.b.injEq, and_true, true_and, forall_const, kindsOf_nil, kindsOf_lf, kindsOf_agg, kindsOf_box, boxKinds_nil, boxKinds_lf, boxKinds_agg, boxKinds_box, List.append_nil, List.cons_append, List.nil_append, den_cmp_le, den_cmp_lt, den_cmp_eq, den_cmp_ne, den_cmp_le', den_cmp_lt', den_cmp_eq', den_cmp_ne', den_and, den_and', den_or, den_or', den_not, den_not', den_blit, den_of, ev_var, at_0, at_1, at_2, at_3, at_4, at_5, at_6, at_7, at_skip, c_int, c_bool, c_arr, c_cnt, c_vec, ev_nil, ev_join, ev_sub3, loc_s, int_i, bool_b, rows_s, cs_nil, cs_cons, E.den_lit, E.den_var, E.den_add, E.den_sub, E.den_mul, E.den_quo, E.den_rem, E.den_max, E.den_min, E.den_len, E.den_wr, E.den_cell, Nat.reduceAdd, h7, h8, ctAwake, ctBottom, progSh, bubSh, ctF, n_, ev_cell, in1, kn1, kn2]
  rw [hvol, hpo, ← hl]
  refine ⟨fun h => absurd rfl h, fun h => by omega, fun _ => ?_⟩
  refine ⟨fun xs => match xs with | [_, .i n] => 0 ≤ n ∧ n ≤ rm.length | _ => False, fun xs => match xs with | [_, .i n] => ((rm.length : Int) - n).toNat | _ => 0, ⟨by omega, by omega⟩, ?_⟩
  rintro t n _ _ ⟨n0, n1⟩
  refine ⟨fun hlt => ?_, fun hge t h => h⟩
  obtain ⟨hn, hm⟩ := run_row hrun (n := n.toNat) (by omega)
  have he := errs_ok herr n.toNat
  obtain ⟨f1, f2, f3, f4⟩ := killed_mom hkill hn he
  have hpl := pts_len j (n.toNat : Int) ((ints rows).getD n.toNat 0)
  have s1 : ((C.s vm rm).at n.toNat 5).int = (momentV j (n.toNat : Int) ((ints rows).getD n.toNat 0)).surf.1 := by rw [← hm]; rfl
  have s2 : ((C.s vm rm).at n.toNat 6).int = (momentV j (n.toNat : Int) ((ints rows).getD n.toNat 0)).surf.2 := by rw [← hm]; rfl
  have s3 : knots ((C.s vm rm).at n.toNat 7).rows = (momentV j (n.toNat : Int) ((ints rows).getD n.toNat 0)).pts := by rw [← hm]; rfl
  have s4 : ((C.s vm rm).at n.toNat 7).rows.length = ro2.length := by rw [← knots_len2, s3, hpl, hjp, l2]
  rw [s1, s2, s4]
  generalize momentV j (n.toNat : Int) ((ints rows).getD n.toNat 0) = X at *
  refine ⟨fun xs => xs = [.i ((ints rows).getD n.toNat 0)], ⟨fun hl2 => ⟨n0, hl2, rfl⟩, fun hl2 => by rw [List.getD_eq_getElem?_getD, List.getElem?_eq_none (by omega)]; rfl⟩, ?_⟩
  rintro m _ _ hme
  have hme : m = (ints rows).getD n.toNat 0 := by injection hme with h1 _; injection h1
  rw [← hme] at he f1
  refine ⟨fun xs => xs = [.b false], ⟨n0, hlt, fun h => absurd rfl h, fun _ => ⟨hlt, fun h => by omega, fun _ => ⟨hlt, fun h => by omega, fun _ => ?_⟩⟩⟩, ?_⟩
  · rintro bo _ _ hbo
    have hbo : bo = bottomV ⟨k1, k2, k3, k4⟩ ⟨j.k.vol, j.k.pore⟩ m := hbo
    have hb2 : bottomV ⟨k1, k2, k3, k4⟩ ⟨j.k.vol, j.k.pore⟩ m = botV j.p j.k m := by
      unfold bottomV
      rw [← hpg, if_pos ⟨hp0, hk0, he.1, he.2⟩]
    refine congrArg (fun t => [C.b t]) (decide_eq_false ?_)
    show ¬ bo < ((C.s v4 ro4).at K.toNat 0).int
    rw [in1, hpo, hbo, hb2]
    omega
  · rintro t1 ht1
    have ht1 : t1 = false := congrArg C.bool (List.head_eq_of_cons_eq ht1)
    refine ⟨fun h => (by rw [ht1] at h; cases h), fun _ => ?_⟩
    refine ⟨fun xs => match xs with | [_, .i q] => 0 ≤ q ∧ q ≤ ro2.length | _ => False, fun xs => match xs with | [_, .i q] => ((ro2.length : Int) - q).toNat | _ => 0, ⟨by omega, by omega⟩, ?_⟩
    rintro t2 q _ _ ⟨q0, q1⟩
    refine ⟨fun hq => ⟨n0, hlt, q0, hq, hq, fun h => ?_, fun _ => ⟨⟨by omega, by omega⟩, (show ((ro2.length : Int) - (q + 1)).toNat < ((ro2.length : Int) - q).toNat by omega)⟩⟩, fun _ => ⟨⟨by omega, by omega⟩, (show ((rm.length : Int) - (n + 1)).toNat < ((rm.length : Int) - n).toNat by omega)⟩⟩
    have hc : (((C.s vm rm).at n.toNat 7).at q.toNat 1).int = ((knots ((C.s vm rm).at n.toNat 7).rows).getD q.toNat (0, 0)).2 := kn2 (.bool false) _ _
    have hf := f2 q.toNat (by rw [hjp, l2]; omega)
    rw [hc, s3] at h
    rw [hjp] at hf
    omega
set_option maxRecDepth 8000 in
set_option maxHeartbeats 2000000 in
theorem lwin_ok : CtOK Try.prog 11 (ctLaw [boreSh, .lf .int, .lf .int, .lf (.arr 3)]) := by
  refine ct_ok (cx := clwin) (Tab.cx_ok (all_cons kwellA_ok (all_cons (up7_ok (up6_ok (up5_ok kprog_ok))) (all_cons (up7_ok (up6_ok (up5_ok kkicks_ok))) (all_cons (up7_ok (up6_ok (up5_ok mod_ok))) (all_cons (up7_ok ver_ok) (all_cons (up7_ok (up6_ok run_ok)) (all_cons (up7_ok (up6_ok (up5_ok (up4_ok (up3_ok bottom_ok))))) (all_cons (up7_ok (up6_ok (up5_ok awake_ok))) all_nil))))))))) Try.func11 (bds := []) (T := tlwin) (by kernel_rfl) ?_
  have h1 : clwin.ct 23 = some ctKWellA := rfl
  have h2 : clwin.ct 24 = some ctKProg := rfl
  have h3 : clwin.ct 25 = some ctKKicks := rfl
  have h4 : clwin.ct 26 = some ctMod := rfl
  have h5 : clwin.ct 36 = some ctVerify := rfl
  have h6 : clwin.ct 37 = some ctRun := rfl
  have h7 : clwin.ct 14 = some ctAwake := rfl
  have h8 : clwin.ct 21 = some ctBottom := rfl
  unfold tlwin
  simp only [VC, allC, List.map_cons, List.map_nil, List.length_cons, List.length_nil, List.getElem?_cons_zero, List.getElem?_cons_succ, List.cons.injEq, C.i.injEq, C.b.injEq, and_true, true_and, forall_const, kindsOf_nil, kindsOf_lf, kindsOf_agg, kindsOf_box, boxKinds_nil, boxKinds_lf, boxKinds_agg, boxKinds_box, List.append_nil, List.cons_append, List.nil_append, den_cmp_le, den_cmp_lt, den_cmp_eq, den_cmp_ne, den_cmp_le', den_cmp_lt', den_cmp_eq', den_cmp_ne', den_and, den_and', den_or, den_or', den_not, den_not', den_blit, den_of, ev_var, at_0, at_1, at_2, at_3, at_4, at_5, at_6, at_7, at_skip, c_int, c_bool, c_arr, c_cnt, c_vec, ev_nil, ev_join, ev_sub3, loc_s, int_i, bool_b, rows_s, cs_nil, cs_cons, E.den_lit, E.den_var, E.den_add, E.den_sub, E.den_mul, E.den_quo, E.den_rem, E.den_max, E.den_min, E.den_len, E.den_wr, E.den_cell, Nat.reduceAdd, h1, h3, ctKWellA, ctKWell, ctKKicks, ctLaw, ctF, boreSh, wellSh, wellKs, n_]
  intro u1 r1 _ _ _ u2 r2 _ _ _ we _ _ li _ _ pi _ _ st _ _ ki _ _ kl _ _ ma _ _ er _ _ u3 r3 _ _ _ u4 r4 _ _ _ ai _ _ aj _ _ u5 r5 _ _ _
  obtain ⟨x, hx⟩ : ∃ x, x = brOf [C.s u1 r1, C.s u2 r2, C.i we, C.i li, C.i pi, C.i st, C.i ki, C.i kl, C.i ma, C.i er, C.s u3 r3, C.s u4 r4] 0 := ⟨_, rfl⟩
  rw [← hx]
  refine ⟨bds_nil _, fun xs => wellOf xs 0 = wellB x ∧ progOf xs 6 = progB x, ?_, ?_⟩
  · rintro v1 ro1 _ _ _ w _ _ v2 ro2 _ _ _ li2 _ _ pi2 _ _ st2 _ _ ⟨_, _, _, _, _, _, _, _, -, hw⟩
    unfold tlwin_1
    simp only [VC, allC, List.map_cons, List.map_nil, List.length_cons, List.length_nil, List.getElem?_cons_zero, List.getElem?_cons_succ, List.cons.injEq, C.i.injEq, C.b.injEq, and_true, true_and, forall_const, kindsOf_nil, kindsOf_lf, kindsOf_agg, kindsOf_box, boxKinds_nil, boxKinds_lf, boxKinds_agg, boxKinds_box, List.append_nil, List.cons_append, List.nil_append, den_cmp_le, den_cmp_lt, den_cmp_eq, den_cmp_ne, den_cmp_le', den_cmp_lt', den_cmp_eq', den_cmp_ne', den_and, den_and', den_or, den_or', den_not, den_not', den_blit, den_of, ev_var, at_0, at_1, at_2, at_3, at_4, at_5, at_6, at_7, at_skip, c_int, c_bool, c_arr, c_cnt, c_vec, ev_nil, ev_join, ev_sub3, loc_s, int_i, bool_b, rows_s, cs_nil, cs_cons, E.den_lit, E.den_var, E.den_add, E.den_sub, E.den_mul, E.den_quo, E.den_rem, E.den_max, E.den_min, E.den_len, E.den_wr, E.den_cell, Nat.reduceAdd, h2, ctKProg, boreSh, progSh, ctF, n_, pgC]
    rw [← hx]
    rintro k1 _ _ k2 _ _ k3 _ _ k4 _ _ ⟨e1, e2, e3, e4⟩
    refine ⟨hw, ?_⟩
    show Pg.mk k1 k2 k3 k4 = _
    rw [e1, e2, e3, e4]
  · rintro v1 ro1 _ _ _ w _ _ v2 ro2 _ _ _ li2 _ _ pi2 _ _ st2 _ _ k1 _ _ k2 _ _ k3 _ _ k4 _ _ ⟨hw, hp⟩ v3 ro3 _ _ _ v4 ro4 _ _ _ ⟨_, _, _, _, ⟨q1, q2⟩, hv, hr⟩
    cases q1; cases q2
    have lv : ro3.length = (volsB x).length := by rw [← hv, ints_len]
    have lr : ro4.length = (poresB x).length := by rw [← hr, ints_len]
    have lv2 := many_box x.vols
    have lr2 := many_box x.pores
    rw [← volsB_len] at lv2
    rw [← poresB_len] at lr2
    obtain ⟨W, hW⟩ : ∃ W : Wl, W = ⟨segsOf ro1, w, knots ro2, li2, pi2, st2⟩ := ⟨_, rfl⟩
    obtain ⟨G, hG⟩ : ∃ G : Pg, G = ⟨k1, k2, k3, k4⟩ := ⟨_, rfl⟩
    have hw0 : wellV W = 0 := by rw [hW, show (⟨segsOf ro1, w, knots ro2, li2, pi2, st2⟩ : Wl) = wellB x from hw]; exact wellB_ok x
    have hp0 : progV G = 0 := by rw [hG, show (⟨k1, k2, k3, k4⟩ : Pg) = progB x from hp]; exact progB_ok x
    obtain ⟨hE, hO⟩ := verE_0 (bothB_ok hw0 hp0) (setB_ok x)
    obtain ⟨a, b, ha, hb, hab, hbefore, hlast⟩ := ver_spec (w := W) (p := G) (vs := volsB x) (ps := poresB x) (by omega) (by omega)
    rw [← hO] at hab
    have bv := volsB_box x
    have bp := poresB_box x
    unfold tlwin_6
    simp only [VC, allC, List.map_cons, List.map_nil, List.length_cons, List.length_nil, List.getElem?_cons_zero, List.getElem?_cons_succ, List.cons.injEq, C.i.injEq, C.b.injEq, and_true, true_and, forall_const, kindsOf_nil, kindsOf_lf, kindsOf_agg, kindsOf_box, boxKinds_nil, boxKinds_lf, boxKinds_agg, boxKinds_box, List.append_nil, List.cons_append, List.nil_append, den_cmp_le, den_cmp_lt, den_cmp_eq, den_cmp_ne, den_cmp_le', den_cmp_lt', den_cmp_eq', den_cmp_ne', den_and, den_and', den_or, den_or', den_not, den_not', den_blit, den_of, ev_var, at_0, at_1, at_2, at_3, at_4, at_5, at_6, at_7, at_skip, c_int, c_bool, c_arr, c_cnt, c_vec, ev_nil, ev_join, ev_sub3, loc_s, int_i, bool_b, rows_s, cs_nil, cs_cons, E.den_lit, E.den_var, E.den_add, E.den_sub, E.den_mul, E.den_quo, E.den_rem, E.den_max, E.den_min, E.den_len, E.den_wr, E.den_cell, Nat.reduceAdd, h5, ctVerify, wellSh, wellKs, progSh, bubSh, ocSh, ctF, l_, bbC, ocC, List.cons_append, List.nil_append]
    rintro c1 _ _ c2 _ _ o1 _ _ o2 _ _ o3 _ _ o4 _ _ o5 _ _ oe _ _ hh
    have hh : o1 = (verOut W G (volsB x) (poresB x)).2.is ∧ oe = verE W G (volsB x) (poresB x) := by
      obtain ⟨-, -, g1, -, -, -, -, g2⟩ := hh
      rw [hW, hG, ← hv, ← hr]; exact ⟨g1, g2⟩
    rw [hab, hE] at hh
    obtain ⟨g1, g2⟩ := hh
    have g1 : o1 = (endsV ⟨W, G, ⟨(volsB x).getD a 0, (poresB x).getD b 0⟩⟩).is := g1
    have his := ends_is ⟨W, G, ⟨(volsB x).getD a 0, (poresB x).getD b 0⟩⟩
    rw [← g1] at his hlast
    have l5 := ints_len r5
    unfold tlwin_5
    simp only [VC, allC, List.map_cons, List.map_nil, List.length_cons, List.length_nil, List.getElem?_cons_zero, List.getElem?_cons_succ, List.cons.injEq, C.i.injEq, C.b.injEq, and_true, true_and, forall_const, kindsOf_nil, kindsOf_lf, kindsOf_agg, kindsOf_box, boxKinds_nil, boxKinds_lf, boxKinds_agg, boxKinds_box, List.append_nil, List.cons_append, List.nil_append, den_cmp_le, den_cmp_lt, den_cmp_eq, den_cmp_ne, den_cmp_le', den_cmp_lt', den_cmp_eq', den_cmp_ne', den_and, den_and', den_or, den_or', den_not, den_not', den_blit, den_of, ev_var, at_0, at_1, at_2, at_3, at_4, at_5, at_6, at_7, at_skip, c_int, c_bool, c_arr, c_cnt, c_vec, ev_nil, ev_join, ev_sub3, loc_s, int_i, bool_b, rows_s, cs_nil, cs_cons, E.den_lit, E.den_var, E.den_add, E.den_sub, E.den_mul, E.den_quo, E.den_rem, E.den_max, E.den_min, E.den_len, E.den_wr, E.den_cell, Nat.reduceAdd, h4, h7, ctMod, ctAwake, ctF, n_, ev_cell, in1]
    rw [lv, lr, ← l5]
    refine ⟨fun h => absurd g2 h, fun _ => ⟨fun h => by omega, fun _ => ⟨fun h => by omega, fun _ => ⟨fun _ t h => h, fun ho => ?_⟩⟩⟩⟩
    obtain ⟨la, lb⟩ := hlast ho
    have hall : ∀ i j, i < (volsB x).length → j < (poresB x).length → (endsV ⟨W, G, ⟨(volsB x).getD i 0, (poresB x).getD j 0⟩⟩).is = 1 := fun i j hi hj => by
      by_cases e : i = a ∧ j = b
      · rw [e.1, e.2, ← g1]; exact ho
      · refine hbefore i j hi hj ?_
        have h1 : i < a ∨ i = a ∧ j < b := by omega
        rcases h1 with h1 | ⟨rfl, h1⟩
        · have : (i + 1) * (poresB x).length ≤ a * (poresB x).length := Nat.mul_le_mul_right _ h1
          rw [Nat.add_mul] at this
          omega
        · omega
    refine ⟨fun xs => match xs with | [.s _ rows, .i n] => 0 ≤ n ∧ n ≤ (ints r5).length ∧ n ≤ 400 ∧ rows.length = n.toNat ∧ ∀ e ∈ ints rows, -1 ≤ e ∧ e ≤ 1 | _ => False, fun xs => match xs with | [_, .i n] => (400 - n).toNat | _ => 0, ⟨by omega, by omega, by omega, rfl, fun e he => by cases he⟩, ?_⟩
    rintro vl rows _ _ _ n _ _ ⟨n0, n1, n2, n3, n4⟩
    refine ⟨fun hlt => ⟨fun hlt2 => ⟨n0, hlt, by decide, fun m _ _ hm => ?_⟩, fun hge => ?_⟩, fun hge => ?_⟩
    · unfold tlwin_2
      simp only [VC, allC, List.map_cons, List.map_nil, List.length_cons, List.length_nil, List.getElem?_cons_zero, List.getElem?_cons_succ, List.cons.injEq, C.i.injEq, C.b.injEq, and_true, true_and, forall_const, kindsOf_nil, kindsOf_lf, kindsOf_agg, kindsOf_box, boxKinds_nil, boxKinds_lf, boxKinds_agg, boxKinds_box, List.append_nil, List.cons_append, List.nil_append, den_cmp_le, den_cmp_lt, den_cmp_eq, den_cmp_ne, den_cmp_le', den_cmp_lt', den_cmp_eq', den_cmp_ne', den_and, den_and', den_or, den_or', den_not, den_not', den_blit, den_of, ev_var, at_0, at_1, at_2, at_3, at_4, at_5, at_6, at_7, at_skip, c_int, c_bool, c_arr, c_cnt, c_vec, ev_nil, ev_join, ev_sub3, loc_s, int_i, bool_b, rows_s, cs_nil, cs_cons, E.den_lit, E.den_var, E.den_add, E.den_sub, E.den_mul, E.den_quo, E.den_rem, E.den_max, E.den_min, E.den_len, E.den_wr, E.den_cell, Nat.reduceAdd]
      refine ⟨by omega, by omega, by rw [n3]; push_cast; omega, ⟨by omega, by omega, by omega, by rw [List.length_append, n3, List.length_singleton]; omega, fun e he => ?_⟩, (show (400 - (n + 1)).toNat < (400 - n).toNat by omega)⟩
      rw [ints_app1] at he
      rcases List.mem_append.1 he with he | he
      · exact n4 e he
      · rw [List.mem_singleton.1 he]; omega
    all_goals
      clear hge
      refine ⟨by omega, fun I _ _ hI => ?_⟩
      have i0 := Int.emod_nonneg ai (b := ((volsB x).length : Int)) (by omega)
      have i1 := Int.emod_lt_of_pos ai (show 0 < ((volsB x).length : Int) by omega)
      rw [← hI] at i0 i1
      refine ⟨i0, i1, by omega, fun K _ _ hK => ?_⟩
      have j0 := Int.emod_nonneg aj (b := ((poresB x).length : Int)) (by omega)
      have j1 := Int.emod_lt_of_pos aj (show 0 < ((poresB x).length : Int) by omega)
      rw [← hK] at j0 j1
      obtain ⟨V, hV⟩ : ∃ V, V = (volsB x).getD I.toNat 0 := ⟨_, rfl⟩
      obtain ⟨Q, hQ⟩ : ∃ Q, Q = (poresB x).getD K.toNat 0 := ⟨_, rfl⟩
      have hVb := bv V (by rw [hV]; exact getD_mem (by omega) 0)
      have hQb := bp Q (by rw [hQ]; exact getD_mem (by omega) 0)
      obtain ⟨j, hj⟩ : ∃ j : Jb, j = ⟨W, G, ⟨V, Q⟩⟩ := ⟨_, rfl⟩
      have hjv : jobV j = 0 := by rw [hj]; exact jobV_iff.2 ⟨hw0, hp0, kickB_ok (by omega) (by omega)⟩
      have hkill : (endsV j).is = 1 := by rw [hj, hV, hQ]; exact hall I.toNat K.toNat (by omega) (by omega)
      have herr : errsE (ints rows) = 0 := errsE_0 (by rw [ints_len]; omega) (List.all_eq_true.2 fun e he => by
        obtain ⟨x1, x2⟩ := n4 e he
        rw [decide_eq_true x1, decide_eq_true x2]; rfl)
      obtain ⟨rE, rV⟩ := runE_yes hjv herr
      have hlr := ints_len rows
      have hjp : j.w.points = knots ro2 := by rw [hj, hW]
      have hjl : j.w.limit = li2 := by rw [hj, hW]
      unfold tlwin_4
      simp only [VC, allC, List.map_cons, List.map_nil, List.length_cons, List.length_nil, List.getElem?_cons_zero, List.getElem?_cons_succ, List.cons.injEq, C.i.injEq, C.b.injEq, and_true, true_and, forall_const, kindsOf_nil, kindsOf_lf, kindsOf_agg, kindsOf_box, boxKinds_nil, boxKinds_lf, boxKinds_agg, boxKinds_box, List.append_nil, List.cons_append, List.nil_append, den_cmp_le, den_cmp_lt, den_cmp_eq, den_cmp_ne, den_cmp_le', den_cmp_lt', den_cmp_eq', den_cmp_ne', den_and, den_and', den_or, den_or', den_not, den_not', den_blit, den_of, ev_var, at_0, at_1, at_2, at_3, at_4, at_5, at_6, at_7, at_skip, c_int, c_bool, c_arr, c_cnt, c_vec, ev_nil, ev_join, ev_sub3, loc_s, int_i, bool_b, rows_s, cs_nil, cs_cons, E.den_lit, E.den_var, E.den_add, E.den_sub, E.den_mul, E.den_quo, E.den_rem, E.den_max, E.den_min, E.den_len, E.den_wr, E.den_cell, Nat.reduceAdd, h6, ctRun, wellSh, wellKs, progSh, bubSh, ctF, n_, l_, ev_cell, in1]
      rw [lr, hv, hr, ← hV, ← hQ]
      refine ⟨j0, j1, ?_⟩
      rintro vm rm _ _ _ re _ _ ⟨v', rows', ⟨f1, f2⟩, f3⟩
      cases f1
      have eJ : jobOf [C.s v1 ro1, C.i w, C.s v2 ro2, C.i li2, C.i pi2, C.i st2, C.i k1, C.i k2, C.i k3, C.i k4, C.i V, C.i Q, C.s vl rows] 0 = j := by rw [hj, hW, hG]; rfl
      rw [eJ] at f2 f3
      rw [rE] at f2
      rw [rV] at f3
      subst f2
      exact lwin3 f3 hkill herr hjp hjl (by rw [hj, hG]) (by rw [hj]; exact hp0) (jobV_iff.1 hjv).2.2 (by rw [hv, ← hV, hj]) (by rw [hr, ← hQ, hj])
end Go.Proofs.Ytmdmgpikbebejaa
/- Arguments of any shape that the engine knows, opened: structs, and slices within slices. -/
namespace Go.Proofs.Ytmdmgpikbebejaa
open Go.ChangeShapes Go.WideShapes Go.RowKit
set_option linter.unusedVariables false
/-- A type of integers, truth values and slices, without arrays. -/
def flatB (P : Program) : Nat → TypeId → Bool
  | 0, _ => false
  | d + 1, t => match P.underlying t with
    | some (.int .i64) => true
    | some .bool => true
    | some (.slice _) => true
    | some (.struct fs) => fs.toList.all fun f => flatB P d f.type
    | _ => false
/-- What a slice of this kind holds is known, to depth n. -/
def deepB (P : Program) : Nat → Lk → Bool
  | _, .int => true
  | _, .bool => true
  | n + 1, .arr e => match kinds P e with
    | some ks => ks.all (deepB P n) && (P.cellsOf e == ks.length) && flatB P 6 e
    | none => false
  | _, _ => false
def CellN (P : Program) (w : World) (n : Nat) (k : Lk) (u : Value) (c : C) : Prop := (∀ m, c.small m) ∧ match k with
  | .int => ∃ n, u = .int .i64 n ∧ c = .i n
  | .bool => ∃ t, u = .bool t ∧ c = .b t
  | .arr t => ∃ rows', c = .s u rows' ∧ ArrN P (fun b _ => b < w.heap.size) w n t u rows'
  | .vec _ => False
def kStep (P : Program) (d : Nat) (acc : Option (List Lk)) (f : Field) : Option (List Lk) := match acc, kindsF P d f.type with
  | some l, some m => if l.length = f.offset then some (l ++ m) else none
  | _, _ => none
theorem kStep_none {P : Program} {d : Nat} : ∀ {fs : List Field}, fs.foldl (kStep P d) none = none
  | [] => rfl
  | f :: fs => by rw [List.foldl_cons]; exact kStep_none
theorem kStep_at {P : Program} {d : Nat} : ∀ {fs : List Field} {a ks : List Lk}, fs.foldl (kStep P d) (some a) = some ks → ∀ (j : Nat) (k : Lk), ks[j]? = some k →
    a[j]? = some k ∨ ∃ f ∈ fs, ∃ m, kindsF P d f.type = some m ∧ f.offset ≤ j ∧ m[j - f.offset]? = some k
  | [], a, ks, h, j, k, hj => by cases h; exact .inl hj
  | f :: fs, a, ks, h, j, k, hj => by
    rw [List.foldl_cons] at h
    cases hm : kindsF P d f.type with
    | none => rw [show kStep P d (some a) f = none by simp [kStep, hm], kStep_none] at h; cases h
    | some m =>
      by_cases hl : a.length = f.offset
      · rw [show kStep P d (some a) f = some (a ++ m) by simp [kStep, hm, hl]] at h
        rcases kStep_at h j k hj with h1 | ⟨g, hg, m', h2⟩
        · by_cases hja : j < a.length
          · rw [List.getElem?_append_left hja] at h1; exact .inl h1
          · rw [List.getElem?_append_right (by omega), hl] at h1
            exact .inr ⟨f, List.mem_cons_self .., m, hm, by omega, h1⟩
        · exact .inr ⟨g, List.mem_cons_of_mem _ hg, m', h2⟩
      · rw [show kStep P d (some a) f = none by simp [kStep, hm, hl], kStep_none] at h; cases h
theorem kinds_F {P : Program} {t : TypeId} {ks : List Lk} (h : kinds P t = some ks) : kindsF P 6 t = some ks := by
  unfold kinds at h
  split at h
  · rename_i l hl
    split at h
    · cases h; exact hl
    · cases h
  · cases h
section
variable {H : Type} {enc : TypeId × Value → H} {P : Program} {w : World} {base : Nat} {spare : Nat → Bool} {held : Bool}
theorem small_int {n : Int} (h : -9223372036854775808 ≤ n ∧ n ≤ 9223372036854775807) : ∀ m, (C.i n).small m := fun m => by cases m <;> exact h
theorem cells_deep : ∀ (fuel n d : Nat) (t : TypeId) (ks : List Lk) (cs : List Value) (x : DataW H × List MemPlace), kindsF P d t = some ks → flatB P d t = true →
    DataW.trod enc P w base spare held fuel t cs = some x → ∀ (j : Nat) (k : Lk), ks[j]? = some k → deepB P n k = true → ∃ u c, cs[j]? = some u ∧ CellN P w n k u c := by
  intro fuel
  induction fuel with
  | zero => intro n d t ks cs x _ _ hx; simp [DataW.trod] at hx
  | succ fuel ih =>
    intro n d t ks cs x hk hfl hx j k hj hall
    cases d with
    | zero => simp [kindsF] at hk
    | succ d =>
      unfold flatB at hfl
      cases hu : P.underlying t with
      | none => rw [hu] at hfl; cases hfl
      | some ty =>
      rw [hu] at hfl
      unfold kindsF at hk
      rw [hu] at hk
      match ty, hu, hfl, hk with
      | .int .i64, hu, hfl, hk =>
        cases hk
        obtain ⟨z, rfl, -, hwf⟩ := DataW.trod_int hu hx
        match j, hj with
        | 0, hj => cases hj; exact ⟨_, .i z, rfl, small_int (wf_bd hwf), z, rfl, rfl⟩
      | .bool, hu, hfl, hk =>
        cases hk
        obtain ⟨z, rfl, -⟩ := DataW.trod_bool hu hx
        match j, hj with
        | 0, hj => cases hj; exact ⟨_, .b z, rfl, fun m => by cases m <;> trivial, z, rfl, rfl⟩
      | .slice e, hu, hfl, hk =>
        cases hk
        match j, hj with
        | 0, hj =>
        cases hj
        cases n with
        | zero => simp [deepB] at hall
        | succ n =>
        have hd : deepB P (n + 1) (.arr e) = true := hall
        unfold deepB at hd
        cases hke : kinds P e with
        | none => rw [hke] at hd; cases hd
        | some kse =>
        rw [hke] at hd
        simp only [Bool.and_eq_true, beq_iff_eq] at hd
        obtain ⟨⟨hd1, hd2⟩, hd3⟩ := hd
        rcases DataW.trod_slice hu hx with ⟨rfl, -⟩ | ⟨a, len, cap, elems, rest, m, hm, rfl, -, -, hl, hc, hlen, hel, -, -⟩
        · refine ⟨_, .s (.slice none 0 0) [], rfl, fun m => ?_, [], rfl, kse, hke, none, 0, rfl, fun h => absurd rfl h⟩
          cases m with
          | zero => trivial
          | succ m => exact ⟨by simp, fun r hr => by cases hr⟩
        · cases hm
          have each : ∀ i, i < len → ∀ (j : Nat) (k : Lk), kse[j]? = some k → ∃ u c, w.cell? (a.add (i * kse.length + j)) = some u ∧ CellN P w n k u c := by
            intro i hi j k hj
            have h1 := hel i hi
            rw [List.getElem?_eq_getElem (by omega), hd2] at h1
            obtain ⟨cs', h2, h3⟩ := Option.bind_eq_some_iff.1 h1
            obtain ⟨_, hlen', hcell⟩ := World.cells?_some h2
            obtain ⟨u, c, h4, h5⟩ := ih n 6 e kse cs' _ (kinds_F hke) hd3 h3 j k hj (List.all_eq_true.1 hd1 k (List.mem_of_getElem? hj))
            refine ⟨u, c, ?_, h5⟩
            have hjl : j < kse.length := by
              rcases Nat.lt_or_ge j kse.length with h | h
              · exact h
              · rw [List.getElem?_eq_none h] at hj; cases hj
            rw [← h4, ← hcell j hjl, Go.Deep.add_add]
          have each2 : ∀ i j, ∃ c : C, i < len → ∀ k, kse[j]? = some k → ∃ u, w.cell? (a.add (i * kse.length + j)) = some u ∧ CellN P w n k u c := by
            intro i j
            by_cases hi : i < len
            · cases hj : kse[j]? with
              | none => exact ⟨.i 0, fun _ k h => by cases h⟩
              | some k =>
                obtain ⟨u, c, h1, h2⟩ := each i hi j k hj
                exact ⟨c, fun _ k' h => by cases h; exact ⟨u, h1, h2⟩⟩
            · exact ⟨.i 0, fun h => absurd h hi⟩
          let f : Nat → Nat → C := fun i j => (each2 i j).choose
          have hf : ∀ i j, i < len → ∀ k, kse[j]? = some k → ∃ u, w.cell? (a.add (i * kse.length + j)) = some u ∧ CellN P w n k u (f i j) := fun i j => (each2 i j).choose_spec
          let rows : List (List C) := (List.range len).map fun i => (List.range kse.length).map fun j => f i j
          have hrl : rows.length = len := by simp [rows]
          refine ⟨_, .s (.slice (some a) len cap) rows, rfl, fun q => ?_, rows, rfl, kse, hke, some a, cap, by rw [hrl], fun hne => ?_⟩
          · cases q with
            | zero => trivial
            | succ q =>
              refine ⟨by rw [hrl]; unfold maxLen at hc; omega, fun r hr c hcr => ?_⟩
              obtain ⟨i, hi, rfl⟩ := List.mem_map.1 hr
              obtain ⟨j, hj, rfl⟩ := List.mem_map.1 hcr
              rw [List.mem_range] at hi hj
              obtain ⟨u, -, h⟩ := hf i j hi _ (List.getElem?_eq_getElem hj)
              exact h.1 q
          · have hpos : 0 < len := by
              rcases Nat.eq_zero_or_pos len with h | h
              · exact absurd (List.eq_nil_of_length_eq_zero (by rw [hrl]; exact h)) hne
              · exact h
            have hk0 : 0 < kse.length := Nat.pos_of_ne_zero (kinds_size hke).2
            obtain ⟨u0, h0, -⟩ := hf 0 0 hpos _ (List.getElem?_eq_getElem hk0)
            obtain ⟨b, o, s⟩ := a
            have hs : s = none := by simpa [Addr.add] using World.cell?_spot h0
            subst hs
            have hblk : b < w.heap.size := by
              have := World.block_lt_of_cell? _ _ h0
              simpa [Addr.add] using this
            refine ⟨b, o, rfl, by rw [hrl]; exact hl, fun i r hi => ?_⟩
            have hi' : i < len := by
              rcases Nat.lt_or_ge i len with h | h
              · exact h
              · rw [List.getElem?_eq_none (by rw [hrl]; exact h)] at hi; cases hi
            have hr : r = (List.range kse.length).map fun j => f i j := by
              simp only [rows, List.getElem?_map, List.getElem?_range hi', Option.map_some] at hi
              exact (Option.some.inj hi).symm
            subst hr
            refine ⟨by simp, fun j k hj => ⟨hblk, ?_⟩⟩
            have hjl : j < kse.length := by
              rcases Nat.lt_or_ge j kse.length with h | h
              · exact h
              · rw [List.getElem?_eq_none h] at hj; cases hj
            obtain ⟨u, h1, h2⟩ := hf i j hi' k hj
            refine ⟨u, f i j, by rw [← Go.WideShapes.add_plain]; exact h1, by simp [List.getElem?_range hjl], ?_⟩
            exact h2.2
      | .struct fs, hu, hfl, hk =>
        obtain ⟨xs, m, hm, -, -, hxl, hf⟩ := DataW.trod_struct hu hx
        cases hm
        have hk' : fs.toList.foldl (kStep P d) (some []) = some ks := hk
        rcases kStep_at hk' j k hj with h | ⟨f, hfm, m', hm', ho, hmj⟩
        · simp at h
        · obtain ⟨i, hi⟩ := List.mem_iff_getElem?.1 hfm
          have hi' : fs[i]? = some f := by rw [← hi]; simp
          have hil : i < xs.length := by
            rw [hxl]
            rcases Nat.lt_or_ge i fs.size with h | h
            · exact h
            · rw [Array.getElem?_eq_none h] at hi'; cases hi'
          have hg := hf i f hi'
          rw [List.getElem?_eq_getElem hil] at hg
          obtain ⟨u, c, h1, h2⟩ := ih n d f.type m' _ _ hm' (List.all_eq_true.1 hfl f hfm) hg (j - f.offset) k hmj hall
          refine ⟨u, c, ?_, h2⟩
          rw [List.getElem?_take] at h1
          split at h1
          · rw [List.getElem?_drop] at h1
            rw [← h1]; congr 1; omega
          · cases h1
theorem CellN.rep {n : Nat} {k : Lk} {u : Value} {c : C} (h : CellN P w n k u c) : LRep P w (fun _ _ => False) k u c := by
  refine ⟨h.1, ?_⟩
  cases k with
  | int => exact h.2
  | bool => exact h.2
  | arr t =>
    obtain ⟨rows, rfl, hA⟩ := h.2
    exact ⟨rfl, u, rows, rfl, n, _, fun b o hb => ⟨hb, fun h => h⟩, hA⟩
  | vec t => exact h.2.elim
theorem lreps_of : ∀ {ks : List Lk} {us : List Value} {n : Nat}, us.length = ks.length → (∀ (j : Nat) (k : Lk), ks[j]? = some k → ∃ u c, us[j]? = some u ∧ CellN P w n k u c) → ∃ rs, LReps P w (fun _ _ => False) ks us rs
  | [], [], _, _, _ => ⟨[], trivial⟩
  | k :: ks, u :: us, n, hl, h => by
    obtain ⟨u', c, hu, hc⟩ := h 0 k rfl
    cases hu
    obtain ⟨rs, hr⟩ := lreps_of (ks := ks) (us := us) (n := n) (by simpa using hl) fun j k hj => h (j + 1) k hj
    exact ⟨c :: rs, hc.rep, hr⟩
  | [], _ :: _, _, hl, _ => by simp at hl
  | _ :: _, [], _, hl, _ => by simp at hl
/-- A struct of integers, truth values and slices among the arguments. -/
theorem open_agg {r : Reach} {b0 n : Nat} {t : TypeId} {fs : Array Field} {v : Value} {d : DataW H} {p : List MemPlace} {ks : List Lk} (hu : P.underlying t = some (.struct fs)) (hk : kindsF P 6 t = some ks) (hfl : flatB P 6 t = true)
    (hd : ks.all (deepB P n) = true) (hc : P.cellsOf t = ks.length) (hv : Value.okWide P w r b0 t v) (hx : DataW.Trod enc P w base spare held t v d p) :
    ∃ us : List Value, v = .agg us.toArray ∧ ∃ rs, LReps P w (fun _ _ => False) ks us rs := by
  obtain ⟨cs, rfl, hsz⟩ := okWide_struct hu hv
  obtain ⟨fuel, hf⟩ := hx
  have hf : DataW.trod enc P w base spare held fuel t cs.toList = some (d, p) := hf
  obtain ⟨-, -, -, -, hlen, -, -⟩ := DataW.trod_struct hu hf
  exact ⟨cs.toList, by simp, lreps_of (n := n) (hlen.trans hc) fun j k hj => cells_deep fuel n 6 t ks _ _ hk hfl hf j k hj (List.all_eq_true.1 hd k (List.mem_of_getElem? hj))⟩
/-- A slice among the arguments. -/
theorem open_arr {r : Reach} {b0 n : Nat} {t e : TypeId} {v : Value} {d : DataW H} {p : List MemPlace} (hu : P.underlying t = some (.slice e)) (hd : deepB P n (.arr e) = true)
    (hv : Value.okWide P w r b0 t v) (hx : DataW.Trod enc P w base spare held t v d p) :
    ∃ c, LRep P w (fun _ _ => False) (.arr e) v c := by
  obtain ⟨A, m, c, rfl⟩ := okWide_slice hu hv
  obtain ⟨fuel, hf⟩ := hx
  have hf : DataW.trod enc P w base spare held fuel t [.slice A m c] = some (d, p) := hf
  obtain ⟨u, q, h1, h2⟩ := cells_deep fuel n 6 t [.arr e] _ _ (by unfold kindsF; rw [hu]) (by unfold flatB; rw [hu]) hf 0 (.arr e) rfl hd
  cases h1
  exact ⟨q, h2.rep⟩
end
theorem rep_struct {W : World} {O : Nat → Nat → Prop} {ss : List Sh0} {vs : List Value} {cs rs : List C} {us : List Value} {ks : List Lk} {old : Option Nat} (h : LReps Try.prog W O ks us rs) (hr : Reps Try.prog W O old ss vs cs) :
    Reps Try.prog W O old (.agg ks :: ss) (.agg us.toArray :: vs) (rs ++ cs) :=
  ⟨rs, _, rfl, ⟨us, rfl, h⟩, hr⟩
theorem rep_one {W : World} {O : Nat → Nat → Prop} {ss : List Sh0} {vs : List Value} {cs : List C} {t : TypeId} {v : Value} {c : C} {old : Option Nat} (h : LRep Try.prog W O (.arr t) v c) (hr : Reps Try.prog W O old ss vs cs) :
    Reps Try.prog W O old (.lf (.arr t) :: ss) (v :: vs) (c :: cs) :=
  ⟨[_], _, rfl, ⟨_, rfl, h⟩, hr⟩
end Go.Proofs.Ytmdmgpikbebejaa
/- The call of KillWindow. -/
namespace Go.Proofs.Ytmdmgpikbebejaa
open Go.RowKit
theorem walk_KillWindow (V0 : Value) (a1 : Int) (a2 : Int) (V3 : Value) (W : World) (h0 : ∃ us : List Value, V0 = .agg us.toArray ∧ ∃ rs, LReps Try.prog W (fun _ _ => False) [.arr 2, .arr 2, .int, .int, .int, .int, .int, .int, .int, .int, .arr 2, .arr 2] us rs) (h1 : -9223372036854775808 ≤ a1 ∧ a1 ≤ 9223372036854775807) (h2 : -9223372036854775808 ≤ a2 ∧ a2 ≤ 9223372036854775807) (h3 : ∃ c, LRep Try.prog W (fun _ _ => False) (.arr 3) V3 c) :
    Calls Try.prog 11 #[V0, .int .i64 a1, .int .i64 a2, V3] W fun e w' => e = .returned (.bool true) ∧ Below W.heap.size W w' := by
  obtain ⟨us0, rfl, rs0, h0⟩ := h0
  obtain ⟨c3, h3⟩ := h3
  exact law_walk lwin_ok rfl (rep_struct h0 (rep_lf h1 (rep_lf h2 (rep_one h3 rfl))))
end Go.Proofs.Ytmdmgpikbebejaa
namespace Go.Proofs.Ytmdmgpikbebejaa.lawKillWindow
open Go.ChangeShapes Go.WideShapes Go.ChangeAt Go.RowKit
set_option linter.unusedVariables false

set_option maxRecDepth 100000 in
theorem lifted (os : Os) (started : os.Started) (H : Type) (enc : TypeId × Value → H) :
    ReturnsInHanded {} Try.checked os 11 .any (Rows.killWindowSpec.pre6 enc Try.prog Try.f11 Rows.killWindowRow.domain false) (Rows.killWindowSpec.post enc Try.prog Try.f11 false true false false) := by
  refine returnsInHanded_of_change (C := Try.checked) own started (by kernel_rfl) Try.func11
    (ChangeSpec.witness6 (enc := enc) (C := Try.checked) false ⟨#[], #[.agg #[.slice none 0 0, .slice none 0 0, .int .i64 0, .int .i64 0, .int .i64 0, .int .i64 0, .int .i64 0, .int .i64 0, .int .i64 0, .int .i64 0, .slice none 0 0, .slice none 0 0], .int .i64 0, .int .i64 0, .slice none 0 0], []⟩ 8 (by kernel_rfl) (by kernel_rfl) (by kernel_rfl) (by kernel_rfl)) ?_
  intro W base args ds gs before hval0 hW hcnd _
  have hval : ∀ (j : Nat) t v, Try.f11.params[j]? = some t → args[j]? = some v → Value.okWide Try.prog W .any base t v := hval0
  have hW' := hW
  obtain ⟨p, q, hA0, hV, rfl, hfz, hnd⟩ := hW
  have hA : DataW.TrodAll enc Try.prog W 0 (fun _ => true) true Try.f11.params.toList args.toList ds p := hA0
  rw [Try.params11] at hA hval
  obtain ⟨v0, vs0, d0, ds0, p0, q0, hargs, rfl, rfl, h0, r0⟩ := trodAll_cons hA
  obtain ⟨v1, vs1, d1, ds1, p1, q1, rfl, rfl, rfl, h1, r1⟩ := trodAll_cons r0
  obtain ⟨v2, vs2, d2, ds2, p2, q2, rfl, rfl, rfl, h2, r2⟩ := trodAll_cons r1
  obtain ⟨v3, vs3, d3, ds3, p3, q3, rfl, rfl, rfl, h3, r3⟩ := trodAll_cons r2
  obtain ⟨rfl, rfl, rfl⟩ := trodAll_nil r3
  obtain rfl : args = #[v0, v1, v2, v3] := by cases args; simp_all
  obtain ⟨rfl, rfl⟩ := trodVars_none hV
  have k0 := h0
  have lt0 : ∀ x ∈ p0, x.block < W.heap.size := by obtain ⟨m, hm⟩ := k0; exact DataW.trod_lt m _ _ _ hm
  obtain ⟨us0, e0, b0⟩ := open_agg (n := 4) (ks := [.arr 2, .arr 2, .int, .int, .int, .int, .int, .int, .int, .int, .arr 2, .arr 2]) Try.underlying42 (by kernel_rfl) (by kernel_rfl) (by kernel_rfl) (by kernel_rfl) (hval 0 42 v0 rfl rfl) h0
  have k1 := h1
  have lt1 : ∀ x ∈ p1, x.block < W.heap.size := by obtain ⟨m, hm⟩ := k1; exact DataW.trod_lt m _ _ _ hm
  obtain ⟨a1, e1, -, -, wf1⟩ := open_int Try.underlying3 (hval 1 3 v1 rfl rfl) h1
  subst e1
  have b1 := wf_bd wf1
  have k2 := h2
  have lt2 : ∀ x ∈ p2, x.block < W.heap.size := by obtain ⟨m, hm⟩ := k2; exact DataW.trod_lt m _ _ _ hm
  obtain ⟨a2, e2, -, -, wf2⟩ := open_int Try.underlying3 (hval 2 3 v2 rfl rfl) h2
  subst e2
  have b2 := wf_bd wf2
  have k3 := h3
  have lt3 : ∀ x ∈ p3, x.block < W.heap.size := by obtain ⟨m, hm⟩ := k3; exact DataW.trod_lt m _ _ _ hm
  have b3 := open_arr (n := 4) Try.underlying75 (by kernel_rfl) (hval 3 75 v3 rfl rfl) h3
  clear hA0 hval0
  refine (walk_KillWindow v0 a1 a2 v3 W ⟨us0, e0, b0⟩ b1 b2 b3).mono fun e W' ⟨he, bel⟩ => ?_
  subst he
  exact ⟨_, rfl, _, _, _, [], _, [], hW', trodAll_mk1 (shut_bool Try.underlying4 _), (trodAll_cons_mk (Below.trod laidOut (by kernel_rfl) (of_decide_eq_true (by kernel_rfl)) k0 bel lt0) (trodAll_cons_mk (Below.trod laidOut (by kernel_rfl) (of_decide_eq_true (by kernel_rfl)) k1 bel lt1) (trodAll_cons_mk (Below.trod laidOut (by kernel_rfl) (of_decide_eq_true (by kernel_rfl)) k2 bel lt2) (trodAll_cons_mk (Below.trod laidOut (by kernel_rfl) (of_decide_eq_true (by kernel_rfl)) k3 bel lt3) trodAll_mk0)))), rfl, bel.frame _, fun h => by cases h⟩

theorem over : Rows.killWindowRow.holds Try.pinned (OpenSpec.ofChange Rows.killWindowSpec) :=
  OpenClaim.holds_of_wide 11 Try.f11 rfl rfl rfl rfl rfl rfl rfl ⟨rfl, rfl, rfl, rfl, rfl⟩ rfl rfl rfl rfl rfl (by kernel_rfl) Try.func11 (by kernel_rfl)
    (of_decide_eq_true (by kernel_rfl)) (by unfold Func.isWrapper; first | (rw [if_pos (by decide +kernel)]; kernel_rfl) | (rw [if_neg (by decide +kernel)]; exact ⟨rfl, rfl⟩))
    (fun os started H enc _ => lifted os started H enc)

theorem proved : Rows.KillWindowSaid := over
#print axioms proved
end Go.Proofs.Ytmdmgpikbebejaa.lawKillWindow
