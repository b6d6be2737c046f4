/- The law KillEasier: for every input the call returns true, and each argument reads afterwards as it read before. The frame is printed by frame.py. -/
import Derived.Test.YtmdmgpikbebejaaEasier9
import Derived.Test.YtmdmgpikbebejaaRows
import Derived.ShutString
import Derived.ChangeOld
/- Kill: what comes of a moment; of kill mud alone. -/
namespace Go.Proofs.Ytmdmgpikbebejaa
open Go.RowKit
set_option linter.unusedSimpArgs false
set_option linter.unusedVariables false

theorem exc_ok : tab5.ok 84 := by
  refine Tab.of_ct rfl rfl ⟨_, Try.func84, by decide, rfl⟩ ?_ ctF_det
  refine ct_ok (cx := cexc) (Tab.cx_ok all_nil) Try.func84 (bds := []) (T := texc) (by kernel_rfl) ?_
  unfold texc
  simp only [VC, allC, List.map_cons, List.map_nil, List.length_cons, List.length_nil, List.getElem?_cons_zero, List.getElem?_cons_succ, List.cons.injEq, C.i.injEq, C.b.injEq, and_true, true_and, forall_const, kindsOf_nil, kindsOf_lf, kindsOf_agg, kindsOf_box, boxKinds_nil, boxKinds_lf, boxKinds_agg, boxKinds_box, List.append_nil, List.cons_append, List.nil_append, den_cmp_le, den_cmp_lt, den_cmp_eq, den_cmp_ne, den_cmp_le', den_cmp_lt', den_cmp_eq', den_cmp_ne', den_and, den_and', den_or, den_or', den_not, den_not', den_blit, den_of, ev_var, at_0, at_1, at_2, at_3, at_4, at_5, at_6, at_7, at_skip, c_int, c_bool, c_arr, c_cnt, c_vec, ev_nil, ev_join, ev_sub3, loc_s, int_i, bool_b, rows_s, cs_nil, cs_cons, E.den_lit, E.den_var, E.den_add, E.den_sub, E.den_mul, E.den_quo, E.den_rem, E.den_max, E.den_min, E.den_len, E.den_wr, E.den_cell, Nat.reduceAdd, ctOverP, ctF, rangeSh, n_, kn_]
  intro a _ _ b _ _ l _ _
  refine ⟨bds_nil _, fun h => ?_, fun h => ⟨fun h2 => ?_, fun h2 => ?_⟩⟩
  · show (2 : Int) = overP (a, b) l
    unfold overP; rw [if_pos h]
  · show (3 : Int) = overP (a, b) l
    unfold overP; rw [if_neg (show ¬ l < a by omega), if_pos h2]
  · show (0 : Int) = overP (a, b) l
    unfold overP; rw [if_neg (show ¬ l < a by omega), if_neg (show ¬ l < b by omega)]
theorem orO_no {a b : Oc} (h : a.is = 0) : orO a b = b := if_pos h
theorem orO_yes {a b : Oc} (h : a.is ≠ 0) : orO a b = a := if_neg h
/-- The rounds of a loop over outcomes. -/
theorem firstO_no {f : Nat → Oc} {n i : Nat} (h : (f i).is = 0) : firstO f (n + 1) i = firstO f n (i + 1) := by rw [firstO, orO_no h]
theorem firstO_yes {f : Nat → Oc} {n i : Nat} (h : (f i).is ≠ 0) : firstO f (n + 1) i = f i := by rw [firstO, orO_yes h]
theorem pts_len (j : Jb) (s e : Int) : (momentV j s e).pts.length = j.w.points.length := by
  unfold momentV
  split
  · simp [pushedV]
  · simp [risingV]
theorem mul_kn {j : Jb} (hf : JF j) {a : Int} (h : 0 ≤ a ∧ a ≤ 1048576) : 0 ≤ j.p.weight * a ∧ j.p.weight * a ≤ 41943040000 := mul_bd hf.pweight h.1 h.2
theorem look_ok : tab5.ok 63 := by
  refine Tab.of_ct rfl rfl ⟨_, Try.func63, by decide, rfl⟩ ?_ ctF_det
  refine ct_ok (cx := clook) (Tab.cx_ok (all_cons (up5_ok (up4_ok (up3_ok botj_ok))) (all_cons (up5_ok (up4_ok moment_ok)) (all_cons exc_ok all_nil)))) Try.func63 (bds := []) (T := tlook) (by kernel_rfl) ?_
  have h1 : clook.ct 45 = some ctBotJ := rfl
  have h2 : clook.ct 50 = some ctMoment := rfl
  have h3 : clook.ct 84 = some ctOverP := rfl
  unfold tlook
  simp only [VC, allC, List.map_cons, List.map_nil, List.length_cons, List.length_nil, List.getElem?_cons_zero, List.getElem?_cons_succ, List.cons.injEq, C.i.injEq, C.b.injEq, and_true, true_and, forall_const, kindsOf_nil, kindsOf_lf, kindsOf_agg, kindsOf_box, boxKinds_nil, boxKinds_lf, boxKinds_agg, boxKinds_box, List.append_nil, List.cons_append, List.nil_append, den_cmp_le, den_cmp_lt, den_cmp_eq, den_cmp_ne, den_cmp_le', den_cmp_lt', den_cmp_eq', den_cmp_ne', den_and, den_and', den_or, den_or', den_not, den_not', den_blit, den_of, ev_var, at_0, at_1, at_2, at_3, at_4, at_5, at_6, at_7, at_skip, c_int, c_bool, c_arr, c_cnt, c_vec, ev_nil, ev_join, ev_sub3, loc_s, int_i, bool_b, rows_s, cs_nil, cs_cons, E.den_lit, E.den_var, E.den_add, E.den_sub, E.den_mul, E.den_quo, E.den_rem, E.den_max, E.den_min, E.den_len, E.den_wr, E.den_cell, Nat.reduceAdd, h1, ctBotJ, ctLook, ctF, jobSh, n_, ocC]
  intro u1 r1 _ _ _ w _ _ u2 r2 _ _ _ li _ _ pi _ _ st _ _ ka _ _ kb _ _ kc _ _ kd _ _ v _ _ po _ _ u3 r3 _ _ _ ro _ _ s _ _ e _ _ h
  obtain ⟨hok, hs, he⟩ := h
  obtain ⟨j, hj⟩ : ∃ j, j = jobOf [C.s u1 r1, C.i w, C.s u2 r2, C.i li, C.i pi, C.i st, C.i ka, C.i kb, C.i kc, C.i kd, C.i v, C.i po, C.s u3 r3, C.i ro] 0 := ⟨_, rfl⟩
  have hf : JF j := by rw [hj]; exact JobOK.jf (cs := [C.s u1 r1, C.i w, C.s u2 r2, C.i li, C.i pi, C.i st, C.i ka, C.i kb, C.i kc, C.i kd, C.i v, C.i po, C.s u3 r3, C.i ro, C.i s, C.i e]) (i := 0) hok
  have hv : jobV j = 0 := by rw [hj]; exact hok.1
  rw [show jobOf [C.s u1 r1, C.i w, C.s u2 r2, C.i li, C.i pi, C.i st, C.i ka, C.i kb, C.i kc, C.i kd, C.i v, C.i po, C.s u3 r3, C.i ro, C.i s, C.i e] 0 = j from hj.symm]
  obtain ⟨v1, v2, v3⟩ := jobV_iff.1 hv
  have e1 : j.p = ⟨ka, kb, kc, kd⟩ := by rw [hj]; rfl
  have e2 : j.k = ⟨v, po⟩ := by rw [hj]; rfl
  have e3 : j.w.points = knots r2 := by rw [hj]; rfl
  have e4 : j.w.limit = li := by rw [hj]; rfl
  refine ⟨bds_nil _, ⟨by rw [e1] at v2; exact v2, by rw [e2] at v3; exact v3, he.1, he.2⟩, fun b _ _ hb => ?_⟩
  have hb : b = botV j.p j.k e := by rw [e1, e2]; exact hb
  unfold tlook_4
  simp only [VC, allC, List.map_cons, List.map_nil, List.length_cons, List.length_nil, List.getElem?_cons_zero, List.getElem?_cons_succ, List.cons.injEq, C.i.injEq, C.b.injEq, and_true, true_and, forall_const, kindsOf_nil, kindsOf_lf, kindsOf_agg, kindsOf_box, boxKinds_nil, boxKinds_lf, boxKinds_agg, boxKinds_box, List.append_nil, List.cons_append, List.nil_append, den_cmp_le, den_cmp_lt, den_cmp_eq, den_cmp_ne, den_cmp_le', den_cmp_lt', den_cmp_eq', den_cmp_ne', den_and, den_and', den_or, den_or', den_not, den_not', den_blit, den_of, ev_var, at_0, at_1, at_2, at_3, at_4, at_5, at_6, at_7, at_skip, c_int, c_bool, c_arr, c_cnt, c_vec, ev_nil, ev_join, ev_sub3, loc_s, int_i, bool_b, rows_s, cs_nil, cs_cons, E.den_lit, E.den_var, E.den_add, E.den_sub, E.den_mul, E.den_quo, E.den_rem, E.den_max, E.den_min, E.den_len, E.den_wr, E.den_cell, Nat.reduceAdd, h2, ctMoment, jobSh, momSh, momKs, n_]
  refine ⟨fun hlt => ?_, fun hge => ⟨⟨hok, hs, he⟩, ?_⟩⟩
  · unfold lookV
    rw [if_pos (by rw [← hb, e2]; exact hlt)]
    exact ⟨rfl, rfl, rfl, rfl, rfl⟩
  · rintro a1 _ _ a2 _ _ a3 _ _ a4 _ _ a5 _ _ a6 _ _ a7 _ _ va ra _ _ _ hm
    have hm := mo_inv (x := momentV j s e) (by rw [hj]; exact hm)
    have hbx := mom_box hf hs he
    have hl : lookV j s e = lookM j (momentV j s e) s e := by
      unfold lookV
      rw [if_neg (by rw [← hb, e2]; show ¬ b < po; omega)]
    rw [hl]
    have hpl := pts_len j s e
    generalize momentV j s e = x at *
    obtain ⟨p1, p2, p3, p4, p5, p6, p7, p8⟩ := hm
    have lra : (ra.length : Int) = r2.length := by rw [← knots_len2, p8, hpl, e3, knots_len2]
    have hsf := hbx.surf
    unfold KnB at hsf
    rw [← p6, ← p7] at hsf
    unfold tlook_3
    simp only [VC, allC, List.map_cons, List.map_nil, List.length_cons, List.length_nil, List.getElem?_cons_zero, List.getElem?_cons_succ, List.cons.injEq, C.i.injEq, C.b.injEq, and_true, true_and, forall_const, kindsOf_nil, kindsOf_lf, kindsOf_agg, kindsOf_box, boxKinds_nil, boxKinds_lf, boxKinds_agg, boxKinds_box, List.append_nil, List.cons_append, List.nil_append, den_cmp_le, den_cmp_lt, den_cmp_eq, den_cmp_ne, den_cmp_le', den_cmp_lt', den_cmp_eq', den_cmp_ne', den_and, den_and', den_or, den_or', den_not, den_not', den_blit, den_of, ev_var, at_0, at_1, at_2, at_3, at_4, at_5, at_6, at_7, at_skip, c_int, c_bool, c_arr, c_cnt, c_vec, ev_nil, ev_join, ev_sub3, loc_s, int_i, bool_b, rows_s, cs_nil, cs_cons, E.den_lit, E.den_var, E.den_add, E.den_sub, E.den_mul, E.den_quo, E.den_rem, E.den_max, E.den_min, E.den_len, E.den_wr, E.den_cell, Nat.reduceAdd, h3, ctOverP, ctF, rangeSh, n_, kn_, ev_cell, kn1, kn2]
    refine ⟨fun xs => match xs with | [.i i] => 0 ≤ i ∧ i ≤ r2.length ∧ firstO (fracO j x s e) j.w.points.length 0 = firstO (fracO j x s e) (j.w.points.length - i.toNat) i.toNat | _ => False, fun xs => match xs with | [.i i] => ((r2.length : Int) - i).toNat | _ => 0, ⟨by omega, by omega, rfl⟩, ?_⟩
    rintro i _ _ ⟨i0, i1, hI⟩
    have hwl : j.w.points.length = r2.length := by rw [e3, knots_len2]
    refine ⟨fun hlt => ⟨i0, hlt, by omega, ?_⟩, fun hge2 => ⟨by omega, by omega, by omega, by omega, ?_⟩⟩
    · rintro o _ _ ho
      have hfr : fracO j x s e i.toNat = ⟨o, s, e, 2, i⟩ := by
        unfold fracO
        rw [e3, ← p8, ho, show ((i.toNat : Nat) : Int) = i by omega]
      rw [show j.w.points.length - i.toNat = (j.w.points.length - (i + 1).toNat) + 1 by omega] at hI
      refine ⟨fun hne => ?_, fun h0 => ⟨⟨by omega, by omega, ?_⟩, ?_⟩⟩
      · rw [firstO_yes (by rw [hfr]; exact hne), hfr] at hI
        unfold lookM
        rw [hI, orO_yes (by exact hne)]
        exact ⟨rfl, rfl, rfl, rfl, rfl⟩
      · rw [firstO_no (by rw [hfr]; exact h0)] at hI
        rw [show (i + 1).toNat = i.toNat + 1 by omega] at *
        exact hI
      · show ((r2.length : Int) - (i + 1)).toNat < ((r2.length : Int) - i).toNat; omega
    · have hI0 : firstO (fracO j x s e) j.w.points.length 0 = noOc := by
        rw [hI, show j.w.points.length - i.toNat = 0 by omega]; rfl
      rintro o _ _ ho
      unfold tlook_2
      simp only [VC, allC, List.map_cons, List.map_nil, List.length_cons, List.length_nil, List.getElem?_cons_zero, List.getElem?_cons_succ, List.cons.injEq, C.i.injEq, C.b.injEq, and_true, true_and, forall_const, kindsOf_nil, kindsOf_lf, kindsOf_agg, kindsOf_box, boxKinds_nil, boxKinds_lf, boxKinds_agg, boxKinds_box, List.append_nil, List.cons_append, List.nil_append, den_cmp_le, den_cmp_lt, den_cmp_eq, den_cmp_ne, den_cmp_le', den_cmp_lt', den_cmp_eq', den_cmp_ne', den_and, den_and', den_or, den_or', den_not, den_not', den_blit, den_of, ev_var, at_0, at_1, at_2, at_3, at_4, at_5, at_6, at_7, at_skip, c_int, c_bool, c_arr, c_cnt, c_vec, ev_nil, ev_join, ev_sub3, loc_s, int_i, bool_b, rows_s, cs_nil, cs_cons, E.den_lit, E.den_var, E.den_add, E.den_sub, E.den_mul, E.den_quo, E.den_rem, E.den_max, E.den_min, E.den_len, E.den_wr, E.den_cell, Nat.reduceAdd, h3, ctOverP, ctF, rangeSh, n_, kn_]
      have hx1 : overP (-x.surf.2, -x.surf.1) 0 = o := by rw [ho, ← p6, ← p7, Int.zero_sub, Int.zero_sub]
      unfold lookM
      rw [hI0, orO_no rfl, hx1]
      refine ⟨fun hne => by rw [orO_yes (by exact hne)]; exact ⟨rfl, rfl, rfl, rfl, rfl⟩, fun h0 => ?_⟩
      rintro o2 _ _ ho2
      unfold tlook_1
      simp only [VC, allC, List.map_cons, List.map_nil, List.length_cons, List.length_nil, List.getElem?_cons_zero, List.getElem?_cons_succ, List.cons.injEq, C.i.injEq, C.b.injEq, and_true, true_and, forall_const, kindsOf_nil, kindsOf_lf, kindsOf_agg, kindsOf_box, boxKinds_nil, boxKinds_lf, boxKinds_agg, boxKinds_box, List.append_nil, List.cons_append, List.nil_append, den_cmp_le, den_cmp_lt, den_cmp_eq, den_cmp_ne, den_cmp_le', den_cmp_lt', den_cmp_eq', den_cmp_ne', den_and, den_and', den_or, den_or', den_not, den_not', den_blit, den_of, ev_var, at_0, at_1, at_2, at_3, at_4, at_5, at_6, at_7, at_skip, c_int, c_bool, c_arr, c_cnt, c_vec, ev_nil, ev_join, ev_sub3, loc_s, int_i, bool_b, rows_s, cs_nil, cs_cons, E.den_lit, E.den_var, E.den_add, E.den_sub, E.den_mul, E.den_quo, E.den_rem, E.den_max, E.den_min, E.den_len, E.den_wr, E.den_cell, Nat.reduceAdd]
      have hx2 : overP x.surf j.w.limit = o2 := by rw [ho2, p6, p7, e4]
      rw [orO_no (by exact h0), hx2]
      exact ⟨fun hne => by rw [orO_yes (by exact hne)]; exact ⟨rfl, rfl, rfl, rfl, rfl⟩, fun h0 => by rw [orO_no (by exact h0)]; exact ⟨rfl, rfl, rfl, rfl, rfl⟩⟩
theorem kn_inv {a b : Int} {x : Kn} (h : ([.i a, .i b] : List C) = ofKn x) : x = (a, b) := by
  obtain ⟨c, d⟩ := x
  rw [kn_den] at h
  injection h with h1 h2
  injection h2 with h2 _
  injection h1 with h1
  injection h2 with h2
  rw [h1, h2]
theorem rest_ok : tab5.ok 64 := by
  refine Tab.of_ct rfl rfl ⟨_, Try.func64, by decide, rfl⟩ ?_ ctF_det
  refine ct_ok (cx := crest) (Tab.cx_ok (all_cons (up5_ok (up4_ok jht_ok)) (all_cons (up5_ok (up4_ok less_ok)) (all_cons exc_ok all_nil)))) Try.func64 (bds := []) (T := trest) (by kernel_rfl) ?_
  have h1 : crest.ct 75 = some ctJHeight := rfl
  have h2 : crest.ct 79 = some ctLess := rfl
  have h3 : crest.ct 84 = some ctOverP := rfl
  unfold trest
  simp only [VC, allC, List.map_cons, List.map_nil, List.length_cons, List.length_nil, List.getElem?_cons_zero, List.getElem?_cons_succ, List.cons.injEq, C.i.injEq, C.b.injEq, and_true, true_and, forall_const, kindsOf_nil, kindsOf_lf, kindsOf_agg, kindsOf_box, boxKinds_nil, boxKinds_lf, boxKinds_agg, boxKinds_box, List.append_nil, List.cons_append, List.nil_append, den_cmp_le, den_cmp_lt, den_cmp_eq, den_cmp_ne, den_cmp_le', den_cmp_lt', den_cmp_eq', den_cmp_ne', den_and, den_and', den_or, den_or', den_not, den_not', den_blit, den_of, ev_var, at_0, at_1, at_2, at_3, at_4, at_5, at_6, at_7, at_skip, c_int, c_bool, c_arr, c_cnt, c_vec, ev_nil, ev_join, ev_sub3, loc_s, int_i, bool_b, rows_s, cs_nil, cs_cons, E.den_lit, E.den_var, E.den_add, E.den_sub, E.den_mul, E.den_quo, E.den_rem, E.den_max, E.den_min, E.den_len, E.den_wr, E.den_cell, Nat.reduceAdd, h1, ctJHeight, ctRest, ctF, jobSh, rangeSh, n_, k_, ocC]
  intro u1 r1 _ _ _ w _ _ u2 r2 _ _ _ li _ _ pi _ _ st _ _ ka _ _ kb _ _ kc _ _ kd _ _ v _ _ po _ _ u3 r3 _ _ _ ro _ _ s _ _ h
  obtain ⟨hok, hs⟩ := h
  obtain ⟨j, hj⟩ : ∃ j, j = jobOf [C.s u1 r1, C.i w, C.s u2 r2, C.i li, C.i pi, C.i st, C.i ka, C.i kb, C.i kc, C.i kd, C.i v, C.i po, C.s u3 r3, C.i ro] 0 := ⟨_, rfl⟩
  have hf : JF j := by rw [hj]; exact JobOK.jf (cs := [C.s u1 r1, C.i w, C.s u2 r2, C.i li, C.i pi, C.i st, C.i ka, C.i kb, C.i kc, C.i kd, C.i v, C.i po, C.s u3 r3, C.i ro, C.i s]) (i := 0) hok
  have hv : jobV j = 0 := by rw [hj]; exact hok.1
  rw [show jobOf [C.s u1 r1, C.i w, C.s u2 r2, C.i li, C.i pi, C.i st, C.i ka, C.i kb, C.i kc, C.i kd, C.i v, C.i po, C.s u3 r3, C.i ro, C.i s] 0 = j from hj.symm]
  have e1 : j.p = ⟨ka, kb, kc, kd⟩ := by rw [hj]; rfl
  have e2 : j.k = ⟨v, po⟩ := by rw [hj]; rfl
  have e3 : j.w.points = knots r2 := by rw [hj]; rfl
  have hline : knots r3 = heightV j.w.segs := by rw [hj]; exact hok.2.1
  have hro : ro = volV j.w.segs := by rw [hj]; exact hok.2.2
  have hht : ∀ u, atV (knots r3) u = htV j.w.segs u := fun u => by rw [hline]; rfl
  have h0 := ht_ok hf.hole
  refine ⟨bds_nil _, ?_⟩
  rintro a1 _ _ a2 _ _ ha
  have ha : [C.i a1, C.i a2] = ofKn (atV (knots r3) ro) := by rw [← ha]
  rw [hht, hro] at ha
  have ea : allV j = (a1, a2) := kn_inv ha
  have hb := h0 (volV j.w.segs)
  rw [show htV j.w.segs (volV j.w.segs) = (a1, a2) from ea] at hb
  obtain ⟨b1, b2, b3, b4⟩ := hb
  have m1 := mul_kn hf ⟨b1, b2⟩
  have e5 : j.p.weight = kb := by rw [e1]
  rw [e5] at m1
  have hwl : j.w.points.length = r2.length := by rw [e3, knots_len2]
  unfold trest_2
  simp only [VC, allC, List.map_cons, List.map_nil, List.length_cons, List.length_nil, List.getElem?_cons_zero, List.getElem?_cons_succ, List.cons.injEq, C.i.injEq, C.b.injEq, and_true, true_and, forall_const, kindsOf_nil, kindsOf_lf, kindsOf_agg, kindsOf_box, boxKinds_nil, boxKinds_lf, boxKinds_agg, boxKinds_box, List.append_nil, List.cons_append, List.nil_append, den_cmp_le, den_cmp_lt, den_cmp_eq, den_cmp_ne, den_cmp_le', den_cmp_lt', den_cmp_eq', den_cmp_ne', den_and, den_and', den_or, den_or', den_not, den_not', den_blit, den_of, ev_var, at_0, at_1, at_2, at_3, at_4, at_5, at_6, at_7, at_skip, c_int, c_bool, c_arr, c_cnt, c_vec, ev_nil, ev_join, ev_sub3, loc_s, int_i, bool_b, rows_s, cs_nil, cs_cons, E.den_lit, E.den_var, E.den_add, E.den_sub, E.den_mul, E.den_quo, E.den_rem, E.den_max, E.den_min, E.den_len, E.den_wr, E.den_cell, Nat.reduceAdd, h1, h2, ctJHeight, ctLess, ctF, jobSh, rangeSh, n_, k_, kn_, ev_cell, kn1, kn2]
  refine ⟨by simp only [] at m1; omega, fun hlt => ?_, fun hge => ?_⟩
  · unfold deadV
    rw [ea, e5, e2, if_pos hlt]
    exact ⟨rfl, rfl, rfl, rfl, rfl⟩
  · have hd : deadV j s = firstO (deadO j s) j.w.points.length 0 := by
      unfold deadV
      rw [ea, e5, e2, if_neg (show ¬ kb * a1 < po by omega)]
    rw [hd]
    refine ⟨fun xs => match xs with | [.i i] => 0 ≤ i ∧ i ≤ r2.length ∧ firstO (deadO j s) j.w.points.length 0 = firstO (deadO j s) (j.w.points.length - i.toNat) i.toNat | _ => False, fun xs => match xs with | [.i i] => ((r2.length : Int) - i).toNat | _ => 0, ⟨by omega, by omega, rfl⟩, ?_⟩
    rintro i _ _ ⟨i0, i1, hI⟩
    refine ⟨fun hlt => ⟨i0, hlt, ?_⟩, fun hge2 => ?_⟩
    · rintro c1 _ _ c2 _ _ hc
      have hc : [C.i c1, C.i c2] = ofKn (atV (knots r3) ((knots r2).getD i.toNat (0, 0)).1) := by rw [← hc]
      rw [hht] at hc
      have ec := kn_inv hc
      have hcb := h0 ((knots r2).getD i.toNat (0, 0)).1
      rw [ec] at hcb
      refine ⟨⟨⟨b1, b2, b3, b4⟩, hcb⟩, ?_⟩
      rintro d1 _ _ d2 _ _ hdd
      have hdd : [C.i d1, C.i d2] = ofKn (lessK (a1, a2) (c1, c2)) := by rw [← hdd]
      have ed := kn_inv hdd
      have hlb := less_ht ⟨b1, b2, b3, b4⟩ hcb
      rw [ed] at hlb
      obtain ⟨l1, l2, l3, l4⟩ := hlb
      have m2 := mul_kn hf ⟨l1, l2⟩
      have m3 := mul_kn hf ⟨l3, l4⟩
      rw [e5] at m2 m3
      unfold trest_1
      simp only [VC, allC, List.map_cons, List.map_nil, List.length_cons, List.length_nil, List.getElem?_cons_zero, List.getElem?_cons_succ, List.cons.injEq, C.i.injEq, C.b.injEq, and_true, true_and, forall_const, kindsOf_nil, kindsOf_lf, kindsOf_agg, kindsOf_box, boxKinds_nil, boxKinds_lf, boxKinds_agg, boxKinds_box, List.append_nil, List.cons_append, List.nil_append, den_cmp_le, den_cmp_lt, den_cmp_eq, den_cmp_ne, den_cmp_le', den_cmp_lt', den_cmp_eq', den_cmp_ne', den_and, den_and', den_or, den_or', den_not, den_not', den_blit, den_of, ev_var, at_0, at_1, at_2, at_3, at_4, at_5, at_6, at_7, at_skip, c_int, c_bool, c_arr, c_cnt, c_vec, ev_nil, ev_join, ev_sub3, loc_s, int_i, bool_b, rows_s, cs_nil, cs_cons, E.den_lit, E.den_var, E.den_add, E.den_sub, E.den_mul, E.den_quo, E.den_rem, E.den_max, E.den_min, E.den_len, E.den_wr, E.den_cell, Nat.reduceAdd, h3, ctOverP, ctF, rangeSh, n_, kn_, ev_cell, kn1, kn2]
      simp only [] at m2 m3
      refine ⟨by omega, by omega, by omega, by omega, ?_⟩
      rintro o _ _ ho
      have hfr : deadO j s i.toNat = ⟨o, s, 0, 5, i⟩ := by
        unfold deadO leftV
        rw [e3, ea, ec, ed, e5, ho, show ((i.toNat : Nat) : Int) = i by omega]
      rw [show j.w.points.length - i.toNat = (j.w.points.length - (i + 1).toNat) + 1 by omega] at hI
      refine ⟨fun hne => ?_, fun h0 => ⟨⟨by omega, by omega, ?_⟩, ?_⟩⟩
      · rw [firstO_yes (by rw [hfr]; exact hne), hfr] at hI
        rw [hI]
        exact ⟨rfl, rfl, rfl, rfl, rfl⟩
      · rw [firstO_no (by rw [hfr]; exact h0)] at hI
        rw [show (i + 1).toNat = i.toNat + 1 by omega] at *
        exact hI
      · show ((r2.length : Int) - (i + 1)).toNat < ((r2.length : Int) - i).toNat; omega
    · rw [hI, show j.w.points.length - i.toNat = 0 by omega]
      exact ⟨rfl, rfl, rfl, rfl, rfl⟩
end Go.Proofs.Ytmdmgpikbebejaa
/- Kill: the last step; the outcome. -/
namespace Go.Proofs.Ytmdmgpikbebejaa
open Go.RowKit
set_option linter.unusedSimpArgs false
set_option linter.unusedVariables false

/-! Plain: the last step -/
theorem over_last {j : Jb} {k : Nat} (hk : k ≤ lastN j) (h : overS j k = true) : k = lastN j := by
  rcases Nat.lt_or_eq_of_le hk with h1 | h1
  · have := firstN_no (overS j) 400 0 k (Nat.zero_le _) h1
    rw [h] at this; cases this
  · exact h1
theorem last_none {j : Jb} (h : overS j (lastN j) = false) : lastN j = 400 := by
  have h1 := lastN_le j
  rcases Nat.lt_or_ge (lastN j) 400 with h2 | h2
  · have := firstN_yes (overS j) 400 0 (by unfold lastN at h2; omega)
    unfold lastN at h
    rw [this] at h; cases h
  · omega
theorem firstO_all {f : Nat → Oc} : ∀ (n i : Nat), (∀ k, i ≤ k → k < i + n → (f k).is = 0) → firstO f n i = noOc
  | 0, _, _ => rfl
  | n + 1, i, h => by
    rw [firstO_no (h i (Nat.le_refl _) (by omega))]
    exact firstO_all n (i + 1) fun k h1 h2 => h k (by omega) (by omega)
theorem firstO_at {f : Nat → Oc} : ∀ (n i k : Nat), i ≤ k → k < i + n → (∀ m, i ≤ m → m < k → (f m).is = 0) → (f k).is ≠ 0 → firstO f n i = f k
  | 0, _, _, h1, h2, _, _ => by omega
  | n + 1, i, k, h1, h2, h, hk => by
    by_cases e : i = k
    · subst e; rw [firstO_yes hk]
    · rw [firstO_no (h i (Nat.le_refl _) (by omega))]
      exact firstO_at n (i + 1) k (by omega) (by omega) (fun m h3 h4 => h m (by omega) h4) hk
theorem stepO_at {j : Jb} {k : Nat} {e : Int} (h0 : -1 ≤ e) (h1 : e ≤ 1) (h : ∀ d, -1 ≤ d → d < e → (lookV j (k : Int) d).is = 0) (hk : (lookV j (k : Int) e).is ≠ 0) : stepO j k = lookV j (k : Int) e := by
  unfold stepO
  rcases (show e = -1 ∨ e = 0 ∨ e = 1 by omega) with rfl | rfl | rfl
  · rw [orO_yes hk]
  · rw [orO_no (h (-1) (by decide) (by decide)), orO_yes hk]
  · rw [orO_no (h (-1) (by decide) (by decide)), orO_no (h 0 (by decide) (by decide))]
theorem stepO_zero {j : Jb} {k : Nat} (h : ∀ d, -1 ≤ d → d < 2 → (lookV j (k : Int) d).is = 0) : (stepO j k).is = 0 := by
  unfold stepO
  rw [orO_no (h (-1) (by decide) (by decide)), orO_no (h 0 (by decide) (by decide))]
  exact h 1 (by decide) (by decide)
/-! The last step -/
theorem job_pre {cs xs : List C} (hcs : CTy Try.prog jobKs cs) : cs_ (cs ++ xs) jobLfs = cs := by
  have hl : cs.length = 14 := hcs.len
  refine Eq.trans (cs_ext (nb := 1) (ks := jobKs) rfl ?_) ?_
  · rw [hl]; decide
  · suffices key : allC Try.prog jobKs (fun cs => cs_ cs jobLfs = cs) from allC_elim key cs hcs
    unfold jobKs
    simp only [VC, allC, List.map_cons, List.map_nil, List.length_cons, List.length_nil, List.getElem?_cons_zero, List.getElem?_cons_succ, List.cons.injEq, C.i.injEq, C.b.injEq, and_true, true_and, forall_const, kindsOf_nil, kindsOf_lf, kindsOf_agg, kindsOf_box, boxKinds_nil, boxKinds_lf, boxKinds_agg, boxKinds_box, List.append_nil, List.cons_append, List.nil_append, den_cmp_le, den_cmp_lt, den_cmp_eq, den_cmp_ne, den_cmp_le', den_cmp_lt', den_cmp_eq', den_cmp_ne', den_and, den_and', den_or, den_or', den_not, den_not', den_blit, den_of, ev_var, at_0, at_1, at_2, at_3, at_4, at_5, at_6, at_7, at_skip, c_int, c_bool, c_arr, c_cnt, c_vec, ev_nil, ev_join, ev_sub3, loc_s, int_i, bool_b, rows_s, cs_nil, cs_cons, E.den_lit, E.den_var, E.den_add, E.den_sub, E.den_mul, E.den_quo, E.den_rem, E.den_max, E.den_min, E.den_len, E.den_wr, E.den_cell, Nat.reduceAdd]
    intro v0 r0 _ _ _ n1 _ _ v2 r2 _ _ _ n3 _ _ n4 _ _ n5 _ _ n6 _ _ n7 _ _ n8 _ _ n9 _ _ n10 _ _ n11 _ _ v12 r12 _ _ _ n13 _ _
    rfl
end Go.Proofs.Ytmdmgpikbebejaa
/- Kill: the outcome; the document's Last and Ends. -/
namespace Go.Proofs.Ytmdmgpikbebejaa
open Go.RowKit
set_option linter.unusedSimpArgs false
set_option linter.unusedVariables false

theorem ends_at {j : Jb} {k : Nat} (hk : k ≤ lastN j) (h : ∀ i, i < k → (stepO j i).is = 0) (h1 : (stepO j k).is ≠ 0) : endsV j = stepO j k := by
  unfold endsV
  rw [firstO_at (lastN j + 1) 0 k (Nat.zero_le _) (by omega) (fun m _ hm => h m hm) h1, orO_yes h1]
theorem ends_end {j : Jb} (h : ∀ i, i < lastN j + 1 → (stepO j i).is = 0) : endsV j = endO j := by
  unfold endsV
  rw [firstO_all _ _ fun k _ hk => h k (by omega), orO_no rfl]
theorem ends2_vc {cs : List C} (hcs : CTy Try.prog jobKs cs) (hok : JobOK cs 0) {k : Nat} (hk : k ≤ lastN (jobOf cs 0)) (h : ∀ i, i < k → (stepO (jobOf cs 0) i).is = 0 ∧ overS (jobOf cs 0) i = false) :
    VC cends2 (ctJEnds.post cs) tends2 (cs ++ [] ++ stepEl (jobOf cs 0) k) [fun xs => xs = [] ∧ ∀ i, i < k + 1 → (stepO (jobOf cs 0) i).is = 0 ∧ overS (jobOf cs 0) i = false] := by
  have hpost : ctJEnds.post cs = fun rs => rs = ocC (endsV (jobOf cs 0)) := rfl
  rw [hpost]
  suffices key : allC Try.prog jobKs (fun cs => ∀ j, j = jobOf cs 0 → JobOK cs 0 → k ≤ lastN j → (∀ i, i < k → (stepO j i).is = 0 ∧ overS j i = false) → VC cends2 (fun rs => rs = ocC (endsV j)) tends2 (cs ++ [] ++ stepEl j k) [fun xs => xs = [] ∧ ∀ i, i < k + 1 → (stepO j i).is = 0 ∧ overS j i = false]) from allC_elim key cs hcs _ rfl hok hk h
  clear hpost hcs hok hk h
  have h1 : cends2.ct 63 = some ctLook := rfl
  have h2 : cends2.ct 64 = some ctRest := rfl
  unfold tends2 jobKs stepEl
  simp only [VC, allC, List.map_cons, List.map_nil, List.length_cons, List.length_nil, List.getElem?_cons_zero, List.getElem?_cons_succ, List.cons.injEq, C.i.injEq, C.b.injEq, and_true, true_and, forall_const, kindsOf_nil, kindsOf_lf, kindsOf_agg, kindsOf_box, boxKinds_nil, boxKinds_lf, boxKinds_agg, boxKinds_box, List.append_nil, List.cons_append, List.nil_append, den_cmp_le, den_cmp_lt, den_cmp_eq, den_cmp_ne, den_cmp_le', den_cmp_lt', den_cmp_eq', den_cmp_ne', den_and, den_and', den_or, den_or', den_not, den_not', den_blit, den_of, ev_var, at_0, at_1, at_2, at_3, at_4, at_5, at_6, at_7, at_skip, c_int, c_bool, c_arr, c_cnt, c_vec, ev_nil, ev_join, ev_sub3, loc_s, int_i, bool_b, rows_s, cs_nil, cs_cons, E.den_lit, E.den_var, E.den_add, E.den_sub, E.den_mul, E.den_quo, E.den_rem, E.den_max, E.den_min, E.den_len, E.den_wr, E.den_cell, Nat.reduceAdd, h1, h2, ctLook, ctRest, ctF, jobSh, ocSh, n_, ocC, List.cons_append, List.nil_append, List.append_nil]
  intro v0 r0 _ _ _ n1 _ _ v2 r2 _ _ _ n3 _ _ n4 _ _ n5 _ _ n6 _ _ n7 _ _ n8 _ _ n9 _ _ n10 _ _ n11 _ _ v12 r12 _ _ _ n13 _ _ j hj hok hk h
  have h400 := lastN_le j
  have hs : StepOK (k : Int) := ⟨by omega, by omega⟩
  refine ⟨fun xs => match xs with | [.i e] => -1 ≤ e ∧ e ≤ 2 ∧ ∀ d, -1 ≤ d → d < e → (lookV j (k : Int) d).is = 0 | _ => False, fun xs => match xs with | [.i e] => (2 - e).toNat | _ => 0, ⟨by omega, by omega, fun d h1 h2 => by omega⟩, ?_⟩
  rintro e _ _ ⟨e0, e1, hI⟩
  refine ⟨fun hle => ⟨⟨hok, hs, e0, hle⟩, ?_⟩, fun hgt => ⟨fun ho => ⟨⟨hok, hs⟩, ?_⟩, fun ho => ?_⟩⟩
  · rintro o1 _ _ o2 _ _ o3 _ _ o4 _ _ o5 _ _ ⟨p1, p2, p3, p4, p5⟩
    have p1 : o1 = (lookV j (k : Int) e).is := by rw [hj]; exact p1
    have p2 : o2 = (lookV j (k : Int) e).step := by rw [hj]; exact p2
    have p3 : o3 = (lookV j (k : Int) e).err := by rw [hj]; exact p3
    have p4 : o4 = (lookV j (k : Int) e).why := by rw [hj]; exact p4
    have p5 : o5 = (lookV j (k : Int) e).point := by rw [hj]; exact p5
    refine ⟨fun hne => ?_, fun h0 => ⟨⟨by omega, by omega, fun d d0 d1 => ?_⟩, (show (2 - (e + 1)).toNat < (2 - e).toNat by omega)⟩⟩
    · have hs := stepO_at e0 hle hI (by rw [← p1]; exact hne)
      have he := ends_at hk (fun i hi => (h i hi).1) (by rw [hs, ← p1]; exact hne)
      rw [he, hs]
      exact ⟨p1, p2, p3, p4, p5⟩
    · rcases Int.lt_or_eq_of_le (show d ≤ e by omega) with h3 | h3
      · exact hI d d0 h3
      · rw [h3, ← p1]; exact h0
  · have hz := stepO_zero (j := j) (k := k) fun d d0 d1 => hI d d0 (by omega)
    have hkn := over_last hk ho
    have he : endsV j = orO (deadV j (k : Int)) ⟨1, (k : Int), 0, 0, 0⟩ := by
      rw [ends_end fun i hi => ?_]
      · unfold endO
        rw [← hkn, if_pos ho]
      · rcases Nat.lt_or_eq_of_le (show i ≤ k by omega) with h3 | h3
        · exact (h i h3).1
        · rw [h3]; exact hz
    rw [he]
    rintro o1 _ _ o2 _ _ o3 _ _ o4 _ _ o5 _ _ ⟨p1, p2, p3, p4, p5⟩
    have p1 : o1 = (deadV j (k : Int)).is := by rw [hj]; exact p1
    have p2 : o2 = (deadV j (k : Int)).step := by rw [hj]; exact p2
    have p3 : o3 = (deadV j (k : Int)).err := by rw [hj]; exact p3
    have p4 : o4 = (deadV j (k : Int)).why := by rw [hj]; exact p4
    have p5 : o5 = (deadV j (k : Int)).point := by rw [hj]; exact p5
    refine ⟨fun hne => ?_, fun h0 => ?_⟩
    · rw [orO_yes (by rw [← p1]; exact hne)]; exact ⟨p1, p2, p3, p4, p5⟩
    · rw [orO_no (by rw [← p1]; exact h0)]; exact ⟨rfl, rfl, rfl, rfl, rfl⟩
  · intro i hi
    rcases Nat.lt_or_eq_of_le (Nat.le_of_lt_succ hi) with h3 | h3
    · exact h i h3
    · rw [h3]; exact ⟨stepO_zero fun d d0 d1 => hI d d0 (by omega), ho⟩
theorem ends_split : bodyOf Try.f53 = pre (heads 1 (bodyOf Try.f53)) (Code.seq (.seq (.region 1 #[opN (nav [1, 0, 0] (bodyOf Try.f53)) 0, opN (nav [1, 0, 0] (bodyOf Try.f53)) 1] false) (.block 0 (.rangeFunc (.tmp endsR.d2) #[endsR.p0, endsR.p1] (rangeAssign (nav [1, 0, 1, 0] (bodyOf Try.f53))) (rangeBody (nav [1, 0, 1, 0] (bodyOf Try.f53)))))) (nav [1, 1] (bodyOf Try.f53))) := by kernel_rfl
theorem ends_t1 : execL cends2 (heads 1 (bodyOf Try.f53)) { startOf Try.f53 ctJEnds [] [] with lvl := (startOf Try.f53 ctJEnds [] []).lvl + 1 } (joinK (startOf Try.f53 ctJEnds [] []) endsS0 [] [] (endQ cends2 Try.f53 ctJEnds)) = some tends1 := by kernel_rfl
theorem ends_t2 : rgRound cends2 (endQ cends2 Try.f53 ctJEnds) endsR (rangeAssign (nav [1, 0, 1, 0] (bodyOf Try.f53))) (rangeBody (nav [1, 0, 1, 0] (bodyOf Try.f53))) = some tends2 := by kernel_rfl
theorem ends_t3 : rgTail cends2 (endQ cends2 Try.f53 ctJEnds) endsR (nav [1, 1] (bodyOf Try.f53)) = some tends3 := by kernel_rfl
theorem ends_cx : CxOK cends2 := Tab.cx_ok (all_cons look_ok (all_cons rest_ok all_nil))
theorem ends_ok : tab5.ok 53 := by
  refine Tab.of_ct rfl rfl ⟨_, Try.func53, by decide, rfl⟩ ?_ ctF_det
  refine ct_ok_marks (cx := cends2) (bds := []) ends_cx Try.func53 (c := bodyOf Try.f53) rfl ⟨by decide, by decide, by decide⟩ fun cs hcs hp => ⟨bds_nil _, fun F w0 Γ a w Q hρ hds hs hk hm => ?_⟩
  have hcs : CTy Try.prog jobKs cs := hcs
  have hp : JobOK cs 0 := hp
  rw [ends_split]
  refine pre_seg (R := ctJEnds.post cs) ends_cx (Ls := []) (I := fun _ => True) ends_t1 (by kernel_rfl) rfl (by unfold tends1; simp only [VC, allC, List.map_cons, List.map_nil, List.length_cons, List.length_nil, List.getElem?_cons_zero, List.getElem?_cons_succ, List.cons.injEq, C.i.injEq, C.b.injEq, and_true, true_and, forall_const, kindsOf_nil, kindsOf_lf, kindsOf_agg, kindsOf_box, boxKinds_nil, boxKinds_lf, boxKinds_agg, boxKinds_box, List.append_nil, List.cons_append, List.nil_append, den_cmp_le, den_cmp_lt, den_cmp_eq, den_cmp_ne, den_cmp_le', den_cmp_lt', den_cmp_eq', den_cmp_ne', den_and, den_and', den_or, den_or', den_not, den_not', den_blit, den_of, ev_var, at_0, at_1, at_2, at_3, at_4, at_5, at_6, at_7, at_skip, c_int, c_bool, c_arr, c_cnt, c_vec, ev_nil, ev_join, ev_sub3, loc_s, int_i, bool_b, rows_s, cs_nil, cs_cons, E.den_lit, E.den_var, E.den_add, E.den_sub, E.den_mul, E.den_quo, E.den_rem, E.den_max, E.den_min, E.den_len, E.den_wr, E.den_cell]) hs ?_ ?_
  · intro xs Γx a' wp hxs hI hρ' he hs'
    obtain rfl := nil_of hxs
    have hρx : Γx.ρ = cs := by rw [hρ', hρ, List.append_nil]
    refine range_fn (R := ctJEnds.post cs) ends_cx endsR (it := stepsIt) (init := []) (cs := cs) (by kernel_rfl) rfl rfl (call_op rfl callable_mksteps) rfl rfl (by kernel_rfl) rfl steps_made steps_ok callable_steps (by rw [hρx]; exact (by have := job_pre (xs := []) hcs; rw [List.append_nil] at this; exact this.symm)) hp step_el ends_t2 ends_t3 hs' he hds hm
      (fun k xs => xs = [] ∧ ∀ i, i < k → (stepO (jobOf cs 0) i).is = 0 ∧ overS (jobOf cs 0) i = false) ⟨rfl, fun i hi => by omega⟩ (fun k xs x hx hty hI => ?_) (fun xs hty hI => ?_)
    · obtain ⟨rfl, hI⟩ := hI
      obtain ⟨hk', rfl⟩ := stepEls_get (j := jobOf cs 0) hx
      rw [hρx]
      exact ends2_vc hcs hp hk' hI
    · obtain ⟨rfl, hI⟩ := hI
      have hle : (stepsIt.els cs).length = lastN (jobOf cs 0) + 1 := by simp [stepsIt, stepEls]
      rw [hle] at hI
      have h1 := (hI (lastN (jobOf cs 0)) (by omega)).2
      have h2 := last_none h1
      unfold tends3
      simp only [VC, allC, List.map_cons, List.map_nil, List.length_cons, List.length_nil, List.getElem?_cons_zero, List.getElem?_cons_succ, List.cons.injEq, C.i.injEq, C.b.injEq, and_true, true_and, forall_const, kindsOf_nil, kindsOf_lf, kindsOf_agg, kindsOf_box, boxKinds_nil, boxKinds_lf, boxKinds_agg, boxKinds_box, List.append_nil, List.cons_append, List.nil_append, den_cmp_le, den_cmp_lt, den_cmp_eq, den_cmp_ne, den_cmp_le', den_cmp_lt', den_cmp_eq', den_cmp_ne', den_and, den_and', den_or, den_or', den_not, den_not', den_blit, den_of, ev_var, at_0, at_1, at_2, at_3, at_4, at_5, at_6, at_7, at_skip, c_int, c_bool, c_arr, c_cnt, c_vec, ev_nil, ev_join, ev_sub3, loc_s, int_i, bool_b, rows_s, cs_nil, cs_cons, E.den_lit, E.den_var, E.den_add, E.den_sub, E.den_mul, E.den_quo, E.den_rem, E.den_max, E.den_min, E.den_len, E.den_wr, E.den_cell]
      show [C.i 3, C.i 400, C.i 0, C.i 6, C.i 0] = ocC (endsV (jobOf cs 0))
      rw [ends_end fun i hi => (hI i hi).1]
      unfold endO
      rw [if_neg (by rw [h1]; decide)]
      rfl
  · intro x st' T' Γ' Ls' hx hk' he hlen' hv' a' w' hs'
    exact hk x st' T' Γ' Ls' hk' he List.nil_prefix hlen' hv' a' w' hs'
/-! The document's -/
theorem endsOc_no {j : Jb} (h : jobV j ≠ 0) : endsOc j = noOc := if_neg h
theorem endsOc_yes {j : Jb} (h : jobV j = 0) : endsOc j = endsV j := if_pos h
theorem kends_ok : tab5.ok 35 := by
  refine Tab.of_ct rfl rfl ⟨_, Try.func35, by decide, rfl⟩ ?_ ctF_det
  refine ct_ok (cx := ckends) (Tab.cx_ok (all_cons (up5_ok (up4_ok chk_ok)) (all_cons (up5_ok (up4_ok (up3_ok hgt_ok))) (all_cons (up5_ok (up4_ok (up3_ok volm_ok))) (all_cons ends_ok all_nil)))) fxkends) Try.func35 (bds := []) (T := tkends) (by kernel_rfl) ?_
  have h1 : ckends.ct 48 = some ctCheckJ := rfl
  have h2 : ckends.ct 58 = some ctHeight := rfl
  have h3 : ckends.ct 30 = some ctVol := rfl
  have h4 : ckends.ct 53 = some ctJEnds := rfl
  unfold tkends
  simp only [VC, allC, List.map_cons, List.map_nil, List.length_cons, List.length_nil, List.getElem?_cons_zero, List.getElem?_cons_succ, List.cons.injEq, C.i.injEq, C.b.injEq, and_true, true_and, forall_const, kindsOf_nil, kindsOf_lf, kindsOf_agg, kindsOf_box, boxKinds_nil, boxKinds_lf, boxKinds_agg, boxKinds_box, List.append_nil, List.cons_append, List.nil_append, den_cmp_le, den_cmp_lt, den_cmp_eq, den_cmp_ne, den_cmp_le', den_cmp_lt', den_cmp_eq', den_cmp_ne', den_and, den_and', den_or, den_or', den_not, den_not', den_blit, den_of, ev_var, at_0, at_1, at_2, at_3, at_4, at_5, at_6, at_7, at_skip, c_int, c_bool, c_arr, c_cnt, c_vec, ev_nil, ev_join, ev_sub3, loc_s, int_i, bool_b, rows_s, cs_nil, cs_cons, E.den_lit, E.den_var, E.den_add, E.den_sub, E.den_mul, E.den_quo, E.den_rem, E.den_max, E.den_min, E.den_len, E.den_wr, E.den_cell, Nat.reduceAdd, h1, h2, h3, h4, ctCheckJ, ctHeight, ctVol, ctJEnds, ctEndsK, ctF, wellSh, wellKs, progSh, bubSh, holeSh, lineSh, jobSh, ocSh, n_, s_, ocC]
  rintro u1 r1 _ _ _ w _ _ u2 r2 _ _ _ li _ _ pi _ _ st _ _ ka _ _ kb _ _ kc _ _ kd _ _ v _ _ po _ _
  obtain ⟨j, hjd⟩ : ∃ j, j = jobOf [C.s u1 r1, C.i w, C.s u2 r2, C.i li, C.i pi, C.i st, C.i ka, C.i kb, C.i kc, C.i kd, C.i v, C.i po] 0 := ⟨_, rfl⟩
  rw [← hjd]
  refine ⟨bds_nil _, ?_⟩
  rintro n _ _ hn
  refine ⟨fun h => ?_, fun h => ?_⟩
  · rw [endsOc_no (by rw [← hn]; exact h)]
    exact ⟨rfl, rfl, rfl, rfl, rfl, hn⟩
  have h0 : jobV j = 0 := by rw [← hn]; exact h
  rw [endsOc_yes h0, h0]
  rintro vl rows _ _ _ ⟨v', rows', e1, e2⟩
  cases e1
  rintro room _ _ hroom
  have hf : JF j := jf_of h0
  have hs : holeV (segsOf r1) = 0 := by have := hf.hole; rw [hjd] at this; exact this
  refine ⟨⟨by rw [hjd] at h0; exact h0, e2, ?_⟩, ?_⟩
  · show room = volV (segsOf r1)
    rw [hroom]; exact roomS_yes hs
  rintro o1 _ _ o2 _ _ o3 _ _ o4 _ _ o5 _ _ ⟨p1, p2, p3, p4, p5⟩
  rw [hjd]
  exact ⟨p1, p2, p3, p4, p5, rfl⟩
end Go.Proofs.Ytmdmgpikbebejaa
/- Kill: the plain laws of gas and of outcomes. -/
namespace Go.Proofs.Ytmdmgpikbebejaa
set_option linter.unusedVariables false
set_option linter.unusedSimpArgs false

/-! The amount of gas -/
/-! Outcomes -/
theorem n2 : (2 : Int) ≠ 0 := by decide
theorem n3 : (3 : Int) ≠ 0 := by decide
theorem over_two {p : Kn} {l : Int} : overP p l = 2 ↔ l < p.1 := by unfold overP; split <;> (try split) <;> omega
theorem over_zero {p : Kn} {l : Int} : overP p l = 0 ↔ p.1 ≤ l ∧ p.2 ≤ l := by unfold overP; split <;> (try split) <;> omega
theorem over_cases (p : Kn) (l : Int) : overP p l = 0 ∨ overP p l = 2 ∨ overP p l = 3 := by unfold overP; split <;> (try split) <;> omega
theorem firstO_cases (f : Nat → Oc) : ∀ (n i : Nat), (firstO f n i = noOc ∧ ∀ k, i ≤ k → k < i + n → (f k).is = 0) ∨ ∃ k, i ≤ k ∧ k < i + n ∧ (f k).is ≠ 0 ∧ firstO f n i = f k ∧ ∀ m, i ≤ m → m < k → (f m).is = 0
  | 0, i => .inl ⟨rfl, fun k h1 h2 => by omega⟩
  | n + 1, i => by
    by_cases h : (f i).is = 0
    · rw [firstO_no h]
      rcases firstO_cases f n (i + 1) with ⟨e, h1⟩ | ⟨k, h1, h2, h3, h4, h5⟩
      · refine .inl ⟨e, fun k h2 h3 => ?_⟩
        rcases Nat.lt_or_eq_of_le h2 with h4 | h4
        · exact h1 k (by omega) (by omega)
        · rw [← h4]; exact h
      · refine .inr ⟨k, by omega, by omega, h3, h4, fun m h6 h7 => ?_⟩
        rcases Nat.lt_or_eq_of_le h6 with h8 | h8
        · exact h5 m (by omega) h7
        · rw [← h8]; exact h
    · rw [firstO_yes h]
      exact .inr ⟨i, Nat.le_refl _, by omega, h, rfl, fun m h1 h2 => by omega⟩
/-- What an outcome of a moment says. -/
theorem look_cases {j : Jb} {s e : Int} : (lookV j s e = noOc ∧ j.k.pore ≤ botV j.p j.k e ∧ (∀ i, i < j.w.points.length → ((momentV j s e).pts.getD i (0, 0)).1 ≤ (j.w.points.getD i (0, 0)).2 ∧ ((momentV j s e).pts.getD i (0, 0)).2 ≤ (j.w.points.getD i (0, 0)).2) ∧ (0 ≤ (momentV j s e).surf.2 ∧ 0 ≤ (momentV j s e).surf.1) ∧ (momentV j s e).surf.1 ≤ j.w.limit ∧ (momentV j s e).surf.2 ≤ j.w.limit) ∨
    ((lookV j s e).is ≠ 0 ∧ ((lookV j s e).is = 2 ∨ (lookV j s e).is = 3) ∧ (lookV j s e).step = s ∧ (lookV j s e).err = e ∧ (
      ((lookV j s e).why = 1 ∧ botV j.p j.k e < j.k.pore) ∨
      ((lookV j s e).why = 2 ∧ ∃ i, i < j.w.points.length ∧ (lookV j s e).point = (i : Int) ∧ ((lookV j s e).is = 2 → (j.w.points.getD i (0, 0)).2 < ((momentV j s e).pts.getD i (0, 0)).1)) ∨
      ((lookV j s e).why = 3 ∧ ((lookV j s e).is = 2 → (momentV j s e).surf.2 < 0)) ∨
      ((lookV j s e).why = 4 ∧ ((lookV j s e).is = 2 → j.w.limit < (momentV j s e).surf.1)))) := by
  unfold lookV
  split
  · rename_i h
    exact .inr ⟨n2, .inl rfl, rfl, rfl, .inl ⟨rfl, h⟩⟩
  · rename_i hb
    generalize momentV j s e = x
    unfold lookM
    rcases firstO_cases (fracO j x s e) j.w.points.length 0 with ⟨h1, h2⟩ | ⟨i, h1, h2, h3, h4, h5⟩
    · rw [h1, orO_no rfl]
      rcases over_cases (-x.surf.2, -x.surf.1) 0 with g | g | g
      · rw [orO_no g]
        have gz := over_zero.1 g
        rcases over_cases x.surf j.w.limit with k | k | k
        · rw [orO_no k]
          have kz := over_zero.1 k
          refine .inl ⟨rfl, by omega, fun i hi => over_zero.1 (h2 i (Nat.zero_le _) (by omega)), ⟨?_, ?_⟩, kz⟩
          · have := gz.1; simp only [] at this; omega
          · have := gz.2; simp only [] at this; omega
        · rw [orO_yes (by rw [k]; first | exact n2 | exact n3)]
          exact .inr ⟨by rw [k]; first | exact n2 | exact n3, .inl k, rfl, rfl, .inr (.inr (.inr ⟨rfl, fun _ => over_two.1 k⟩))⟩
        · rw [orO_yes (by rw [k]; first | exact n2 | exact n3)]
          exact .inr ⟨by rw [k]; first | exact n2 | exact n3, .inr k, rfl, rfl, .inr (.inr (.inr ⟨rfl, fun h => over_two.1 h⟩))⟩
      · rw [orO_yes (by rw [g]; first | exact n2 | exact n3)]
        exact .inr ⟨by rw [g]; first | exact n2 | exact n3, .inl g, rfl, rfl, .inr (.inr (.inl ⟨rfl, fun _ => by have := over_two.1 g; simp only [] at this; omega⟩))⟩
      · rw [orO_yes (by rw [g]; first | exact n2 | exact n3)]
        exact .inr ⟨by rw [g]; first | exact n2 | exact n3, .inr g, rfl, rfl, .inr (.inr (.inl ⟨rfl, fun h => by have := over_two.1 h; simp only [] at this; omega⟩))⟩
    · rw [h4, orO_yes h3]
      refine .inr ⟨h3, ?_, rfl, rfl, .inr (.inl ⟨rfl, i, by omega, rfl, fun h => over_two.1 h⟩)⟩
      rcases over_cases (x.pts.getD i (0, 0)) (j.w.points.getD i (0, 0)).2 with g | g | g
      · exact absurd g h3
      · exact .inl g
      · exact .inr g
theorem dead_cases {j : Jb} {s : Int} : (deadV j s = noOc ∧ j.k.pore ≤ j.p.weight * (allV j).1 ∧ ∀ i, i < j.w.points.length → overP (leftV j (j.w.points.getD i (0, 0)).1) (j.w.points.getD i (0, 0)).2 = 0) ∨ ((deadV j s).is ≠ 0 ∧ ((deadV j s).is = 2 ∨ (deadV j s).is = 3) ∧ (deadV j s).step = s ∧ (deadV j s).err = 0 ∧ (deadV j s).why = 5) := by
  unfold deadV
  split
  · exact .inr ⟨n2, .inl rfl, rfl, rfl, rfl⟩
  · rename_i h
    rcases firstO_cases (deadO j s) j.w.points.length 0 with ⟨h1, h2⟩ | ⟨i, h1, h2, h3, h4, h5⟩
    · exact .inl ⟨h1, by omega, fun i hi => h2 i (Nat.zero_le _) (by omega)⟩
    · rw [h4]
      refine .inr ⟨h3, ?_, rfl, rfl, rfl⟩
      rcases over_cases (leftV j (j.w.points.getD i (0, 0)).1) (j.w.points.getD i (0, 0)).2 with g | g | g
      · exact absurd g h3
      · exact .inl g
      · exact .inr g
theorem step_cases {j : Jb} {k : Nat} : ((stepO j k).is = 0 ∧ ∀ e, -1 ≤ e → e ≤ 1 → (lookV j (k : Int) e).is = 0) ∨ ∃ e, -1 ≤ e ∧ e ≤ 1 ∧ stepO j k = lookV j (k : Int) e ∧ (lookV j (k : Int) e).is ≠ 0 := by
  by_cases h1 : (lookV j (k : Int) (-1)).is = 0
  · by_cases h2 : (lookV j (k : Int) 0).is = 0
    · by_cases h3 : (lookV j (k : Int) 1).is = 0
      · refine .inl ⟨by unfold stepO; rw [orO_no h1, orO_no h2]; exact h3, fun e a b => ?_⟩
        rcases (show e = -1 ∨ e = 0 ∨ e = 1 by omega) with rfl | rfl | rfl
        · exact h1
        · exact h2
        · exact h3
      · exact .inr ⟨1, by decide, by decide, by unfold stepO; rw [orO_no h1, orO_no h2], h3⟩
    · exact .inr ⟨0, by decide, by decide, by unfold stepO; rw [orO_no h1, orO_yes h2], h2⟩
  · exact .inr ⟨-1, by decide, by decide, by unfold stepO; rw [orO_yes h1], h1⟩
/-- The ways an outcome comes about. -/
theorem ends_cases (j : Jb) : (∃ (k : Nat) (e : Int), k ≤ lastN j ∧ -1 ≤ e ∧ e ≤ 1 ∧ endsV j = lookV j (k : Int) e ∧ (lookV j (k : Int) e).is ≠ 0) ∨
    ((∀ (k : Nat) (e : Int), k ≤ lastN j → -1 ≤ e → e ≤ 1 → (lookV j (k : Int) e).is = 0) ∧
      ((overS j (lastN j) = true ∧ endsV j = deadV j (lastN j : Int) ∧ (deadV j (lastN j : Int)).is ≠ 0) ∨ (overS j (lastN j) = true ∧ (deadV j (lastN j : Int)).is = 0 ∧ endsV j = ⟨1, (lastN j : Int), 0, 0, 0⟩) ∨ (overS j (lastN j) = false ∧ endsV j = ⟨3, 400, 0, 6, 0⟩))) := by
  rcases firstO_cases (stepO j) (lastN j + 1) 0 with ⟨h1, h2⟩ | ⟨k, h1, h2, h3, h4, h5⟩
  · refine .inr ⟨fun k e hk e0 e1 => ?_, ?_⟩
    · rcases step_cases (j := j) (k := k) with h | ⟨d, d0, d1, e, h⟩
      · exact h.2 e e0 e1
      · exact absurd (h2 k (Nat.zero_le _) (by omega)) (by rw [e]; exact h)
    · unfold endsV
      rw [h1, orO_no rfl]
      unfold endO
      by_cases ho : overS j (lastN j) = true
      · rw [if_pos ho]
        by_cases hd : (deadV j (lastN j : Int)).is = 0
        · exact .inr (.inl ⟨ho, hd, orO_no hd⟩)
        · exact .inl ⟨ho, orO_yes hd, hd⟩
      · rw [if_neg ho]
        exact .inr (.inr ⟨by simpa using ho, rfl⟩)
  · rcases step_cases (j := j) (k := k) with h | ⟨e, e0, e1, he, h⟩
    · exact absurd h.1 h3
    · refine .inl ⟨k, e, by omega, e0, e1, ?_, h⟩
      unfold endsV
      rw [h4, orO_yes h3, he]
end Go.Proofs.Ytmdmgpikbebejaa
/- Kill: the amount of gas is kept: the law. -/
namespace Go.Proofs.Ytmdmgpikbebejaa
open Go.RowKit
set_option linter.unusedSimpArgs false
set_option linter.unusedVariables false

end Go.Proofs.Ytmdmgpikbebejaa
/- Kill: with greater limits, too: the law. -/
namespace Go.Proofs.Ytmdmgpikbebejaa
open Go.RowKit
set_option linter.unusedSimpArgs false
set_option linter.unusedVariables false

/-! Plain -/
/-- The same but for greater limits. -/
structure Wider (j i : Jb) : Prop where
  segs : i.w.segs = j.w.segs
  weight : i.w.weight = j.w.weight
  pipe : i.w.pipe = j.w.pipe
  step : i.w.step = j.w.step
  p : i.p = j.p
  k : i.k = j.k
  limit : j.w.limit ≤ i.w.limit
  len : i.w.points.length = j.w.points.length
  pts : ∀ n, (i.w.points.getD n (0, 0)).1 = (j.w.points.getD n (0, 0)).1 ∧ (j.w.points.getD n (0, 0)).2 ≤ (i.w.points.getD n (0, 0)).2
theorem map_fst {α : Type} (f : Int → α) : ∀ {a b : List Kn}, a.length = b.length → (∀ n, (a.getD n (0, 0)).1 = (b.getD n (0, 0)).1) → a.map (fun p => f p.1) = b.map (fun p => f p.1)
  | [], [], _, _ => rfl
  | x :: a, y :: b, h, hf => by
    have h0 := hf 0
    simp only [List.getD_cons_zero] at h0
    rw [List.map_cons, List.map_cons, h0, map_fst f (by simpa using h) fun n => by have := hf (n + 1); simpa using this]
  | [], _ :: _, h, _ => by simp at h
  | _ :: _, [], h, _ => by simp at h
theorem wider_mom {j i : Jb} (h : Wider j i) (s e : Int) : momentV i s e = momentV j s e := by
  obtain ⟨⟨a1, a2, a3, a4, a5, a6⟩, ap, ak⟩ := j
  obtain ⟨⟨b1, b2, b3, b4, b5, b6⟩, bp, bk⟩ := i
  obtain ⟨e1, e2, e3, e4, e5, e6, -, hl, hp⟩ := h
  simp only [] at e1 e2 e3 e4 e5 e6 hl hp
  subst e1 e2 e3 e4 e5 e6
  have hm : ∀ {α : Type} (f : Int → α), b3.map (fun p => f p.1) = a3.map (fun p => f p.1) := fun f => map_fst f hl fun n => (hp n).1
  unfold momentV
  split
  · unfold pushedV
    simp only []
    rw [hm (fun u => patV _ _ _ u)]
    rfl
  · unfold risingV
    simp only []
    rw [hm (fun u => ratV _ _ _ u)]
    rfl
theorem wider_over {j i : Jb} (h : Wider j i) (n : Nat) : overS i n = overS j n := by
  unfold overS
  rw [wider_mom h]
  unfold overV
  rw [h.p, h.segs]
theorem wider_last {j i : Jb} (h : Wider j i) : lastN i = lastN j := by
  unfold lastN
  rw [show overS i = overS j from funext fun n => wider_over h n]
theorem over_wider {p : Kn} {a b : Int} (h : a ≤ b) (h0 : overP p a = 0) : overP p b = 0 := by
  rw [over_zero] at *; omega
theorem wider_look {j i : Jb} (h : Wider j i) {s e : Int} (h0 : (lookV j s e).is = 0) : (lookV i s e).is = 0 := by
  rcases look_cases (j := j) (s := s) (e := e) with ⟨-, g1, g2, g3, g4, g5⟩ | ⟨g, -⟩
  · unfold lookV
    rw [h.p, h.k, if_neg (show ¬ botV j.p j.k e < j.k.pore by omega), wider_mom h]
    unfold lookM
    rw [firstO_all _ _ fun n _ hn => ?_, orO_no rfl, orO_no (over_zero.2 ⟨by simp only []; omega, by simp only []; omega⟩), orO_no (over_wider h.limit (over_zero.2 ⟨g4, g5⟩))]
    · rfl
    · exact over_wider (h.pts n).2 (over_zero.2 (g2 n (by rw [← h.len]; omega)))
  · exact absurd h0 g
theorem wider_dead {j i : Jb} (h : Wider j i) {s : Int} (h0 : (deadV j s).is = 0) : (deadV i s).is = 0 := by
  rcases dead_cases (j := j) (s := s) with ⟨-, g1, g2⟩ | ⟨g, -⟩
  · have ha : allV i = allV j := by unfold allV; rw [h.segs]
    unfold deadV
    rw [ha, h.p, h.k, if_neg (show ¬ j.p.weight * (allV j).1 < j.k.pore by omega), firstO_all _ _ fun n _ hn => ?_]
    · rfl
    · show overP (leftV i (i.w.points.getD n (0, 0)).1) (i.w.points.getD n (0, 0)).2 = 0
      have hl : leftV i (i.w.points.getD n (0, 0)).1 = leftV j (j.w.points.getD n (0, 0)).1 := by
        unfold leftV
        rw [ha, h.p, h.segs, (h.pts n).1]
      rw [hl]
      exact over_wider (h.pts n).2 (g2 n (by rw [← h.len]; omega))
  · exact absurd h0 g
theorem wider_ends {j i : Jb} (h : Wider j i) (hk : (endsV j).is = 1) : endsV i = endsV j := by
  have hl := wider_last h
  have h1 : ∀ {k : Nat} {e : Int}, endsV j = lookV j (k : Int) e → (lookV j (k : Int) e).is ≠ 0 → False := fun {k e} he hne => by
    rcases look_cases (j := j) (s := (k : Int)) (e := e) with ⟨g, -⟩ | ⟨-, g, -⟩
    · rw [g] at hne; exact hne rfl
    · rw [he] at hk; omega
  rcases ends_cases j with ⟨k, e, -, -, -, he, hne⟩ | ⟨hz, ⟨-, he, hne⟩ | ⟨ho, hd, he⟩ | ⟨-, he⟩⟩
  · exact (h1 he hne).elim
  · rcases dead_cases (j := j) (s := (lastN j : Int)) with ⟨g, -⟩ | ⟨-, g, -⟩
    · rw [g] at hne; exact absurd rfl hne
    · rw [he] at hk; omega
  · have hd' := wider_dead h hd
    rcases ends_cases i with ⟨k, e, k1, e0, e1, -, hne⟩ | ⟨-, ⟨-, -, hne⟩ | ⟨-, -, he'⟩ | ⟨ho', -⟩⟩
    · exact absurd (wider_look h (hz k e (by rw [← hl]; exact k1) e0 e1)) hne
    · rw [hl] at hne; exact absurd hd' hne
    · rw [he', he, hl]
    · rw [hl, wider_over h, ho] at ho'; cases ho'
  · rw [he] at hk; simp at hk
/-- Greater limits stay valid. -/
theorem wider_valid {j i : Jb} (h : Wider j i) (hj : jobV j = 0) (h1 : i.w.limit ≤ 68719476736) (h2 : ∀ n, (i.w.points.getD n (0, 0)).2 ≤ 68719476736) : jobV i = 0 := by
  obtain ⟨g1, g2, g3⟩ := jobV_iff.1 hj
  refine jobV_iff.2 ⟨?_, by rw [h.p]; exact g2, by rw [h.k]; exact g3⟩
  obtain ⟨⟨a1, a2, a3, a4, a5, a6⟩, ap, ak⟩ := j
  obtain ⟨⟨b1, b2, b3, b4, b5, b6⟩, bp, bk⟩ := i
  obtain ⟨e1, e2, e3, e4, e5, e6, e7, hl, hp⟩ := h
  simp only [] at e1 e2 e3 e4 e5 e6 e7 hl hp h1 h2
  subst e1 e2 e3 e4
  have w := wellV_ok g1
  have hb : ∀ {a b : List Kn} {last : Int}, a.length = b.length → (∀ n, (b.getD n (0, 0)).1 = (a.getD n (0, 0)).1 ∧ (a.getD n (0, 0)).2 ≤ (b.getD n (0, 0)).2) → (∀ n, (b.getD n (0, 0)).2 ≤ 68719476736) → badKs (volV b1) 68719476736 last a = 0 → badKs (volV b1) 68719476736 last b = 0 := by
    intro a
    induction a with
    | nil => intro b last hl _ _ _; cases b with | nil => rfl | cons _ _ => simp at hl
    | cons x a ih =>
      intro b last hl hp hm hz
      cases b with
      | nil => simp at hl
      | cons y b =>
        have q0 := hp 0
        have m0 := hm 0
        simp only [List.getD_cons_zero] at q0 m0
        obtain ⟨r1, r2⟩ : (0 ≤ x.1 ∧ x.1 ≤ volV b1 ∧ 0 ≤ x.2 ∧ x.2 ≤ 68719476736) ∧ last < x.1 := by
          by_cases hr : 0 ≤ x.1 ∧ x.1 ≤ volV b1 ∧ 0 ≤ x.2 ∧ x.2 ≤ 68719476736
          · by_cases hr2 : last < x.1
            · exact ⟨hr, hr2⟩
            · rw [badKs_order hr (by omega)] at hz; cases hz
          · rw [badKs_range (by omega)] at hz; cases hz
        rw [badKs_next r1 r2] at hz
        rw [badKs_next (by omega) (by omega), q0.1]
        exact ih (by simpa using hl) (fun n => by have := hp (n + 1); simpa using this) (fun n => by have := hm (n + 1); simpa using this) hz
  have hbad := hb hl.symm hp h2 w.2.2.2.1
  rcases wellV_last (s := b1) (wt := b2) (ps := b3) (li := b4) (pi := b5) (st := b6) w.1 w.2.1 (by omega) hbad with g | g
  · exact g.2.2.2
  · exfalso; omega
end Go.Proofs.Ytmdmgpikbebejaa
/- Kill: what is killed is killed with greater limits, too: the law. -/
namespace Go.Proofs.Ytmdmgpikbebejaa
open Go.RowKit
set_option linter.unusedSimpArgs false
set_option linter.unusedVariables false

def lift (off : Int) (l : List Kn) : List Kn := l.map fun k => (k.1, k.2 + off)
def ofKnots (l : List Kn) : List (List C) := l.map ofKn
theorem ofKnots_len (l : List Kn) : (ofKnots l).length = l.length := by simp [ofKnots]
theorem knots_of (l : List Kn) : knots (ofKnots l) = l := by
  unfold knots ofKnots
  rw [List.map_map]
  exact (List.map_congr_left (g := id) fun r _ => rfl).trans (List.map_id _)
theorem rows_knots {d : Nat} {rows : List (List C)} (h : TyN Try.prog d 70 rows) : rows = ofKnots (knots rows) := by
  cases d with
  | zero => exact h.elim
  | succ d =>
    obtain ⟨ks, hk, hh⟩ := h
    rw [show kinds Try.prog 70 = some [.int, .int] by kernel_rfl] at hk
    cases hk
    unfold ofKnots knots
    rw [List.map_map]
    refine (List.map_congr_left (g := id) fun r hr => ?_).trans (List.map_id _) |>.symm
    obtain ⟨hl, hc⟩ := hh r hr
    obtain ⟨c0, h0, n0, rfl⟩ := hc 0 .int rfl
    obtain ⟨c1, h1, n1, rfl⟩ := hc 1 .int rfl
    match r, hl, h0, h1 with
    | [a, b], _, h0, h1 => simp at h0 h1; subst h0; subst h1; rfl
def liftN (off : Int) (i : Nat) (l : List Kn) : List Kn := lift off (l.take i) ++ l.drop i
theorem liftN_len (off : Int) (i : Nat) (l : List Kn) : (liftN off i l).length = l.length := by
  unfold liftN lift; rw [List.length_append, List.length_map, List.length_take, List.length_drop]; omega
theorem liftN_at {off : Int} {i : Nat} {l : List Kn} (h : i < l.length) (d : Kn) : (liftN off i l).getD i d = l.getD i d := by
  unfold liftN lift
  rw [drop_cons h d, List.getD_eq_getElem?_getD, List.getElem?_append_right (by simp; omega)]
  simp [Nat.min_eq_left (Nat.le_of_lt h)]
theorem liftN_step {off : Int} {i : Nat} {l : List Kn} (h : i < l.length) (d : Kn) : (liftN off i l).set i ((l.getD i d).1, (l.getD i d).2 + off) = liftN off (i + 1) l := by
  unfold liftN lift
  rw [take_snoc h d, drop_cons h d, List.map_append, List.append_assoc, List.set_append_right _ _ (by simp; omega)]
  simp [Nat.min_eq_left (Nat.le_of_lt h)]
theorem liftN_end {off : Int} {i : Nat} {l : List Kn} (h : l.length ≤ i) : liftN off i l = lift off l := by
  unfold liftN; rw [List.take_of_length_le h, List.drop_eq_nil_of_le h, List.append_nil]
theorem upd_knot {l : List Kn} {i : Nat} (h : i < l.length) (n : Int) (d : Kn) : updRow (ofKnots l) i 1 [.i n] = ofKnots (l.set i ((l.getD i d).1, n)) := by
  have e : (ofKnots l).getD i [] = [.i (l.getD i d).1, .i (l.getD i d).2] := by
    unfold ofKnots
    rw [List.getD_eq_getElem?_getD, List.getElem?_map, List.getElem?_eq_getElem h, List.getD_eq_getElem?_getD, List.getElem?_eq_getElem h]; rfl
  unfold updRow
  rw [e]
  unfold ofKnots
  rw [List.map_set]; rfl
theorem lift_step {off : Int} {l : List Kn} {i : Int} (i0 : 0 ≤ i) (hi : i < l.length) : updRow (ofKnots (liftN off i.toNat l)) i.toNat 1 [.i ((l.getD i.toNat (0, 0)).2 + off)] = ofKnots (liftN off (i + 1).toNat l) := by
  rw [upd_knot (by rw [liftN_len]; omega) _ (0, 0), liftN_at (by omega), show (i + 1).toNat = i.toNat + 1 by omega, ← liftN_step (by omega) (0, 0)]
theorem lift_get {off : Int} {l : List Kn} (n : Nat) (h : n < l.length) : (lift off l).getD n (0, 0) = ((l.getD n (0, 0)).1, (l.getD n (0, 0)).2 + off) := by
  unfold lift
  rw [List.getD_eq_getElem?_getD, List.getElem?_map, List.getElem?_eq_getElem h, List.getD_eq_getElem?_getD, List.getElem?_eq_getElem h]; rfl
theorem lift_len (off : Int) (l : List Kn) : (lift off l).length = l.length := by simp [lift]
theorem ptsB_get {l : List Int} {room all : Int} (hr : 500000 ≤ room) (ha : 0 ≤ all ∧ all ≤ 330000) : ∀ (n i k : Nat) (a : Int), i + n ≤ 3 → 0 ≤ ((ptsB l room all n i a).getD k (0, 0)).2 ∧ ((ptsB l room all n i a).getD k (0, 0)).2 ≤ 7260000000
  | 0, _, k, _, _ => by simp [ptsB]
  | n + 1, i, k, a, h => by
    rw [ptsB]
    cases k with
    | zero =>
      have := (ptB_box (l := l) hr ha (i := i) (by omega) (i : Int)).2
      rw [List.getD_cons_zero]
      exact this
    | succ k =>
      rw [List.getD_cons_succ]
      exact ptsB_get hr ha n (i + 1) k _ (by omega)
theorem ptsB_box (x : Br) (n : Nat) : 0 ≤ ((ptsB x.points (volV (segsB x)) (riseV (segsB x)) (min x.points.length 3) 0 0).getD n (0, 0)).2 ∧ ((ptsB x.points (volV (segsB x)) (riseV (segsB x)) (min x.points.length 3) 0 0).getD n (0, 0)).2 ≤ 7260000000 := by
  obtain ⟨h1, h2, h3, h4⟩ := segsB_box x
  exact ptsB_get h1 (by omega) _ 0 n 0 (by omega)
set_option maxHeartbeats 1000000 in
theorem leas_ok : CtOK Try.prog 9 (ctLaw [boreSh, .lf .int]) := by
  refine ct_ok (cx := cleas) (Tab.cx_ok (all_cons (up5_ok kwell_ok) (all_cons (up5_ok kprog_ok) (all_cons (up5_ok kkicks_ok) (all_cons (up5_ok mod64_ok) (all_cons kends_ok (all_cons (up5_ok awake_ok) all_nil))))))) Try.func9 (bds := []) (T := tleas) (by kernel_rfl) ?_
  have h1 : cleas.ct 23 = some ctKWell := rfl
  have h2 : cleas.ct 24 = some ctKProg := rfl
  have h3 : cleas.ct 25 = some ctKKicks := rfl
  have h4 : cleas.ct 29 = some ctMod := rfl
  have h6 : cleas.ct 35 = some ctEndsK := rfl
  have h7 : cleas.ct 14 = some ctAwake := rfl
  unfold tleas
  simp only [VC, allC, List.map_cons, List.map_nil, List.length_cons, List.length_nil, List.getElem?_cons_zero, List.getElem?_cons_succ, List.cons.injEq, C.i.injEq, C.b.injEq, and_true, true_and, forall_const, kindsOf_nil, kindsOf_lf, kindsOf_agg, kindsOf_box, boxKinds_nil, boxKinds_lf, boxKinds_agg, boxKinds_box, List.append_nil, List.cons_append, List.nil_append, den_cmp_le, den_cmp_lt, den_cmp_eq, den_cmp_ne, den_cmp_le', den_cmp_lt', den_cmp_eq', den_cmp_ne', den_and, den_and', den_or, den_or', den_not, den_not', den_blit, den_of, ev_var, at_0, at_1, at_2, at_3, at_4, at_5, at_6, at_7, at_skip, c_int, c_bool, c_arr, c_cnt, c_vec, ev_nil, ev_join, ev_sub3, loc_s, int_i, bool_b, rows_s, cs_nil, cs_cons, E.den_lit, E.den_var, E.den_add, E.den_sub, E.den_mul, E.den_quo, E.den_rem, E.den_max, E.den_min, E.den_len, E.den_wr, E.den_cell, Nat.reduceAdd, h1, h2, h3, ctKWell, ctKProg, ctKKicks, ctLaw, ctF, boreSh, wellVSh, n_, ev_cell, in1]
  intro u1 r1 _ _ _ u2 r2 _ _ _ we _ _ li _ _ pi _ _ st _ _ ki _ _ kl _ _ ma _ _ er _ _ u3 r3 _ _ _ u4 r4 _ _ _ mo _ _
  obtain ⟨x, hx⟩ : ∃ x, x = brOf [C.s u1 r1, C.s u2 r2, C.i we, C.i li, C.i pi, C.i st, C.i ki, C.i kl, C.i ma, C.i er, C.s u3 r3, C.s u4 r4] 0 := ⟨_, rfl⟩
  rw [← hx]
  refine ⟨bds_nil _, fun xs => wellOf xs 0 = wellB x ∧ progOf xs 6 = progB x, ?_, ?_⟩
  · rintro v1 ro1 _ _ _ w _ _ v2 ro2 _ _ _ li2 _ _ pi2 _ _ st2 _ _ ⟨_, _, _, _, _, _, _, _, -, hw⟩
    unfold tleas_1
    simp only [VC, allC, List.map_cons, List.map_nil, List.length_cons, List.length_nil, List.getElem?_cons_zero, List.getElem?_cons_succ, List.cons.injEq, C.i.injEq, C.b.injEq, and_true, true_and, forall_const, kindsOf_nil, kindsOf_lf, kindsOf_agg, kindsOf_box, boxKinds_nil, boxKinds_lf, boxKinds_agg, boxKinds_box, List.append_nil, List.cons_append, List.nil_append, den_cmp_le, den_cmp_lt, den_cmp_eq, den_cmp_ne, den_cmp_le', den_cmp_lt', den_cmp_eq', den_cmp_ne', den_and, den_and', den_or, den_or', den_not, den_not', den_blit, den_of, ev_var, at_0, at_1, at_2, at_3, at_4, at_5, at_6, at_7, at_skip, c_int, c_bool, c_arr, c_cnt, c_vec, ev_nil, ev_join, ev_sub3, loc_s, int_i, bool_b, rows_s, cs_nil, cs_cons, E.den_lit, E.den_var, E.den_add, E.den_sub, E.den_mul, E.den_quo, E.den_rem, E.den_max, E.den_min, E.den_len, E.den_wr, E.den_cell, Nat.reduceAdd, h2, ctKProg, boreSh, progSh, ctF, n_, pgC]
    rw [← hx]
    rintro k1 _ _ k2 _ _ k3 _ _ k4 _ _ ⟨e1, e2, e3, e4⟩
    refine ⟨hw, ?_⟩
    show Pg.mk k1 k2 k3 k4 = _
    rw [e1, e2, e3, e4]
  · rintro v1 ro1 _ _ _ w _ _ v2 ro2 _ hty _ li2 _ _ pi2 _ _ st2 _ _ k1 _ _ k2 _ _ k3 _ _ k4 _ _ ⟨hw, hp⟩ v3 ro3 _ _ _ v4 ro4 _ _ _ ⟨_, _, _, _, ⟨q1, q2⟩, hv, hr⟩
    cases q1; cases q2
    have lv : ro3.length = (volsB x).length := by rw [← hv, ints_len]
    have lr : ro4.length = (poresB x).length := by rw [← hr, ints_len]
    have lv2 := many_box x.vols
    have lr2 := many_box x.pores
    rw [← volsB_len] at lv2
    rw [← poresB_len] at lr2
    have hw0 : wellV ⟨segsOf ro1, w, knots ro2, li2, pi2, st2⟩ = 0 := by rw [show (⟨segsOf ro1, w, knots ro2, li2, pi2, st2⟩ : Wl) = wellB x from hw]; exact wellB_ok x
    have hp0 : progV ⟨k1, k2, k3, k4⟩ = 0 := by rw [show (⟨k1, k2, k3, k4⟩ : Pg) = progB x from hp]; exact progB_ok x
    have hli : li2 = x.limit % 1500000000 := congrArg Wl.limit hw
    have hpts : knots ro2 = ptsB x.points (volV (segsB x)) (riseV (segsB x)) (min x.points.length 3) 0 0 := congrArg Wl.points hw
    have hpb : ∀ n, 0 ≤ ((knots ro2).getD n (0, 0)).2 ∧ ((knots ro2).getD n (0, 0)).2 ≤ 7260000000 := fun n => by rw [hpts]; exact ptsB_box x n
    have hk := kick_first hv hr
    obtain ⟨vo, hvo⟩ : ∃ v, v = (ints ro3).getD 0 0 := ⟨_, rfl⟩
    obtain ⟨po, hpo⟩ : ∃ v, v = (ints ro4).getD 0 0 := ⟨_, rfl⟩
    rw [← hvo, ← hpo] at hk
    obtain ⟨j, hj⟩ : ∃ j : Jb, j = ⟨⟨segsOf ro1, w, knots ro2, li2, pi2, st2⟩, ⟨k1, k2, k3, k4⟩, ⟨vo, po⟩⟩ := ⟨_, rfl⟩
    have hjv : jobV j = 0 := by rw [hj]; exact jobV_iff.2 ⟨hw0, hp0, kickB_ok (by omega) (by omega)⟩
    have hrk := rows_knots hty
    have hlen := knots_len2 ro2
    generalize hP : knots ro2 = P at *
    unfold tleas_4
    simp only [VC, allC, List.map_cons, List.map_nil, List.length_cons, List.length_nil, List.getElem?_cons_zero, List.getElem?_cons_succ, List.cons.injEq, C.i.injEq, C.b.injEq, and_true, true_and, forall_const, kindsOf_nil, kindsOf_lf, kindsOf_agg, kindsOf_box, boxKinds_nil, boxKinds_lf, boxKinds_agg, boxKinds_box, List.append_nil, List.cons_append, List.nil_append, den_cmp_le, den_cmp_lt, den_cmp_eq, den_cmp_ne, den_cmp_le', den_cmp_lt', den_cmp_eq', den_cmp_ne', den_and, den_and', den_or, den_or', den_not, den_not', den_blit, den_of, ev_var, at_0, at_1, at_2, at_3, at_4, at_5, at_6, at_7, at_skip, c_int, c_bool, c_arr, c_cnt, c_vec, ev_nil, ev_join, ev_sub3, loc_s, int_i, bool_b, rows_s, cs_nil, cs_cons, E.den_lit, E.den_var, E.den_add, E.den_sub, E.den_mul, E.den_quo, E.den_rem, E.den_max, E.den_min, E.den_len, E.den_wr, E.den_cell, Nat.reduceAdd, h4, h6, ctMod, ctEndsK, wellSh, wellKs, progSh, bubSh, ocSh, ctF, n_, ev_cell, in1, Int.toNat_zero, ocC]
    rw [← hvo, ← hpo]
    refine ⟨by omega, by omega, ?_⟩
    rintro o1 _ _ o2 _ _ o3 _ _ o4 _ _ o5 _ _ oe _ _ ⟨p1, p2, p3, p4, p5, p6⟩
    have p6 : oe = jobV j := by rw [hj, ← hP]; exact p6
    rw [hjv] at p6
    have hO : (⟨o1, o2, o3, o4, o5⟩ : Oc) = endsV j := by
      rw [← endsOc_yes hjv, hj, p1, p2, p3, p4, p5, ← hP]; rfl
    refine ⟨by decide, fun d _ _ ed => ?_⟩
    have bd : 0 ≤ d ∧ d ≤ 1073741823 := by omega
    unfold tleas_3
    simp only [VC, allC, List.map_cons, List.map_nil, List.length_cons, List.length_nil, List.getElem?_cons_zero, List.getElem?_cons_succ, List.cons.injEq, C.i.injEq, C.b.injEq, and_true, true_and, forall_const, kindsOf_nil, kindsOf_lf, kindsOf_agg, kindsOf_box, boxKinds_nil, boxKinds_lf, boxKinds_agg, boxKinds_box, List.append_nil, List.cons_append, List.nil_append, den_cmp_le, den_cmp_lt, den_cmp_eq, den_cmp_ne, den_cmp_le', den_cmp_lt', den_cmp_eq', den_cmp_ne', den_and, den_and', den_or, den_or', den_not, den_not', den_blit, den_of, ev_var, at_0, at_1, at_2, at_3, at_4, at_5, at_6, at_7, at_skip, c_int, c_bool, c_arr, c_cnt, c_vec, ev_nil, ev_join, ev_sub3, loc_s, int_i, bool_b, rows_s, cs_nil, cs_cons, E.den_lit, E.den_var, E.den_add, E.den_sub, E.den_mul, E.den_quo, E.den_rem, E.den_max, E.den_min, E.den_len, E.den_wr, E.den_cell, Nat.reduceAdd, h6, ctEndsK, wellSh, wellKs, progSh, bubSh, ocSh, ctF, n_, ev_cell, in1, kn1, kn2, Int.toNat_zero, ocC]
    rw [← hvo, ← hpo]
    refine ⟨by omega, fun xs => match xs with | [.i i, .s _ rows] => 0 ≤ i ∧ i ≤ P.length ∧ rows = ofKnots (liftN d i.toNat P) | _ => False, fun xs => match xs with | [.i i, _] => ((P.length : Int) - i).toNat | _ => 0, ⟨by omega, by omega, by rw [hrk]; simp [liftN, lift]⟩, ?_⟩
    rintro i _ _ v5 rows _ _ _ ⟨i0, i1, rfl⟩
    rw [ofKnots_len, liftN_len, knots_of]
    refine ⟨fun hlt => ?_, fun hge => ⟨by omega, ?_⟩⟩
    · rw [liftN_at (show i.toNat < P.length by omega) (0, 0)]
      have hb := hpb i.toNat
      exact ⟨i0, hlt, by omega, hlt, by omega, fun _ => ⟨⟨by omega, by omega, lift_step i0 hlt⟩, (show ((P.length : Int) - (i + 1)).toNat < ((P.length : Int) - i).toNat by omega)⟩⟩
    · have hW : Wider j ⟨⟨segsOf ro1, w, lift d P, li2 + d, pi2, st2⟩, ⟨k1, k2, k3, k4⟩, ⟨vo, po⟩⟩ := by
        rw [hj]
        refine ⟨rfl, rfl, rfl, rfl, rfl, rfl, by show li2 ≤ li2 + d; omega, lift_len d P, fun n => ?_⟩
        show ((lift d P).getD n (0, 0)).1 = (P.getD n (0, 0)).1 ∧ (P.getD n (0, 0)).2 ≤ ((lift d P).getD n (0, 0)).2
        rcases Nat.lt_or_ge n P.length with h | h
        · rw [lift_get n h]; exact ⟨rfl, by show _ ≤ (P.getD n (0, 0)).2 + d; omega⟩
        · rw [List.getD_eq_getElem?_getD, List.getD_eq_getElem?_getD, List.getElem?_eq_none (by rw [lift_len]; exact h), List.getElem?_eq_none h]; exact ⟨rfl, Int.le_refl _⟩
      have hiv := wider_valid hW hjv (by show li2 + d ≤ _; omega) (fun n => by
        show ((lift d P).getD n (0, 0)).2 ≤ _
        rcases Nat.lt_or_ge n P.length with h | h
        · rw [lift_get n h]; have := hpb n; show (P.getD n (0, 0)).2 + d ≤ _; omega
        · rw [List.getD_eq_getElem?_getD, List.getElem?_eq_none (by rw [lift_len]; exact h)]; exact (by decide : ((none : Option Kn).getD (0, 0)).2 ≤ (68719476736 : Int)))
      rintro b1 _ _ b2 _ _ b3 _ _ b4 _ _ b5 _ _ be _ _ ⟨p1, p2, p3, p4, p5, p6'⟩
      obtain ⟨I, hI⟩ : ∃ I : Jb, I = ⟨⟨segsOf ro1, w, lift d P, li2 + d, pi2, st2⟩, ⟨k1, k2, k3, k4⟩, ⟨vo, po⟩⟩ := ⟨_, rfl⟩
      have hJ : jobOf [C.s v1 ro1, C.i w, C.s v2 (ofKnots (liftN d i.toNat P)), C.i (li2 + d), C.i pi2, C.i st2, C.i k1, C.i k2, C.i k3, C.i k4, C.i vo, C.i po] 0 = I := by
        show Jb.mk ⟨segsOf ro1, w, knots (ofKnots (liftN d i.toNat P)), li2 + d, pi2, st2⟩ ⟨k1, k2, k3, k4⟩ ⟨vo, po⟩ = I
        rw [knots_of, liftN_end (by omega), hI]
      rw [← hI] at hW hiv
      have p6' : be = jobV I := by rw [← hJ]; exact p6'
      rw [hiv] at p6'
      have hO2 : (⟨b1, b2, b3, b4, b5⟩ : Oc) = endsV I := by
        rw [← endsOc_yes hiv, ← hJ, p1, p2, p3, p4, p5]
      unfold tleas_2
      simp only [VC, allC, List.map_cons, List.map_nil, List.length_cons, List.length_nil, List.getElem?_cons_zero, List.getElem?_cons_succ, List.cons.injEq, C.i.injEq, C.b.injEq, and_true, true_and, forall_const, kindsOf_nil, kindsOf_lf, kindsOf_agg, kindsOf_box, boxKinds_nil, boxKinds_lf, boxKinds_agg, boxKinds_box, List.append_nil, List.cons_append, List.nil_append, den_cmp_le, den_cmp_lt, den_cmp_eq, den_cmp_ne, den_cmp_le', den_cmp_lt', den_cmp_eq', den_cmp_ne', den_and, den_and', den_or, den_or', den_not, den_not', den_blit, den_of, ev_var, at_0, at_1, at_2, at_3, at_4, at_5, at_6, at_7, at_skip, c_int, c_bool, c_arr, c_cnt, c_vec, ev_nil, ev_join, ev_sub3, loc_s, int_i, bool_b, rows_s, cs_nil, cs_cons, E.den_lit, E.den_var, E.den_add, E.den_sub, E.den_mul, E.den_quo, E.den_rem, E.den_max, E.den_min, E.den_len, E.den_wr, E.den_cell, Nat.reduceAdd, h7, ctAwake, ctF]
      refine ⟨fun _ => ⟨fun _ => ⟨fun _ t h => h, fun g => ⟨fun _ t h => h, fun hne => ?_⟩⟩, fun h => absurd p6' h⟩, fun h => absurd p6 h⟩
      have e := wider_ends hW (by rw [← hO]; exact g)
      rw [← hO2, ← hO] at e
      injection e with e1 e2 e3 e4 e5
      exact absurd e5 (hne e1 e2 e3 e4)
end Go.Proofs.Ytmdmgpikbebejaa
/- Arguments of any shape that the engine knows, opened: structs, and slices within slices. -/
namespace Go.Proofs.Ytmdmgpikbebejaa
open Go.ChangeShapes Go.WideShapes Go.RowKit
set_option linter.unusedVariables false
/-- A type of integers, truth values and slices, without arrays. -/
def flatB (P : Program) : Nat → TypeId → Bool
  | 0, _ => false
  | d + 1, t => match P.underlying t with
    | some (.int .i64) => true
    | some .bool => true
    | some (.slice _) => true
    | some (.struct fs) => fs.toList.all fun f => flatB P d f.type
    | _ => false
/-- What a slice of this kind holds is known, to depth n. -/
def deepB (P : Program) : Nat → Lk → Bool
  | _, .int => true
  | _, .bool => true
  | n + 1, .arr e => match kinds P e with
    | some ks => ks.all (deepB P n) && (P.cellsOf e == ks.length) && flatB P 6 e
    | none => false
  | _, _ => false
def CellN (P : Program) (w : World) (n : Nat) (k : Lk) (u : Value) (c : C) : Prop := (∀ m, c.small m) ∧ match k with
  | .int => ∃ n, u = .int .i64 n ∧ c = .i n
  | .bool => ∃ t, u = .bool t ∧ c = .b t
  | .arr t => ∃ rows', c = .s u rows' ∧ ArrN P (fun b _ => b < w.heap.size) w n t u rows'
  | .vec _ => False
def kStep (P : Program) (d : Nat) (acc : Option (List Lk)) (f : Field) : Option (List Lk) := match acc, kindsF P d f.type with
  | some l, some m => if l.length = f.offset then some (l ++ m) else none
  | _, _ => none
theorem kStep_none {P : Program} {d : Nat} : ∀ {fs : List Field}, fs.foldl (kStep P d) none = none
  | [] => rfl
  | f :: fs => by rw [List.foldl_cons]; exact kStep_none
theorem kStep_at {P : Program} {d : Nat} : ∀ {fs : List Field} {a ks : List Lk}, fs.foldl (kStep P d) (some a) = some ks → ∀ (j : Nat) (k : Lk), ks[j]? = some k →
    a[j]? = some k ∨ ∃ f ∈ fs, ∃ m, kindsF P d f.type = some m ∧ f.offset ≤ j ∧ m[j - f.offset]? = some k
  | [], a, ks, h, j, k, hj => by cases h; exact .inl hj
  | f :: fs, a, ks, h, j, k, hj => by
    rw [List.foldl_cons] at h
    cases hm : kindsF P d f.type with
    | none => rw [show kStep P d (some a) f = none by simp [kStep, hm], kStep_none] at h; cases h
    | some m =>
      by_cases hl : a.length = f.offset
      · rw [show kStep P d (some a) f = some (a ++ m) by simp [kStep, hm, hl]] at h
        rcases kStep_at h j k hj with h1 | ⟨g, hg, m', h2⟩
        · by_cases hja : j < a.length
          · rw [List.getElem?_append_left hja] at h1; exact .inl h1
          · rw [List.getElem?_append_right (by omega), hl] at h1
            exact .inr ⟨f, List.mem_cons_self .., m, hm, by omega, h1⟩
        · exact .inr ⟨g, List.mem_cons_of_mem _ hg, m', h2⟩
      · rw [show kStep P d (some a) f = none by simp [kStep, hm, hl], kStep_none] at h; cases h
theorem kinds_F {P : Program} {t : TypeId} {ks : List Lk} (h : kinds P t = some ks) : kindsF P 6 t = some ks := by
  unfold kinds at h
  split at h
  · rename_i l hl
    split at h
    · cases h; exact hl
    · cases h
  · cases h
section
variable {H : Type} {enc : TypeId × Value → H} {P : Program} {w : World} {base : Nat} {spare : Nat → Bool} {held : Bool}
theorem small_int {n : Int} (h : -9223372036854775808 ≤ n ∧ n ≤ 9223372036854775807) : ∀ m, (C.i n).small m := fun m => by cases m <;> exact h
theorem cells_deep : ∀ (fuel n d : Nat) (t : TypeId) (ks : List Lk) (cs : List Value) (x : DataW H × List MemPlace), kindsF P d t = some ks → flatB P d t = true →
    DataW.trod enc P w base spare held fuel t cs = some x → ∀ (j : Nat) (k : Lk), ks[j]? = some k → deepB P n k = true → ∃ u c, cs[j]? = some u ∧ CellN P w n k u c := by
  intro fuel
  induction fuel with
  | zero => intro n d t ks cs x _ _ hx; simp [DataW.trod] at hx
  | succ fuel ih =>
    intro n d t ks cs x hk hfl hx j k hj hall
    cases d with
    | zero => simp [kindsF] at hk
    | succ d =>
      unfold flatB at hfl
      cases hu : P.underlying t with
      | none => rw [hu] at hfl; cases hfl
      | some ty =>
      rw [hu] at hfl
      unfold kindsF at hk
      rw [hu] at hk
      match ty, hu, hfl, hk with
      | .int .i64, hu, hfl, hk =>
        cases hk
        obtain ⟨z, rfl, -, hwf⟩ := DataW.trod_int hu hx
        match j, hj with
        | 0, hj => cases hj; exact ⟨_, .i z, rfl, small_int (wf_bd hwf), z, rfl, rfl⟩
      | .bool, hu, hfl, hk =>
        cases hk
        obtain ⟨z, rfl, -⟩ := DataW.trod_bool hu hx
        match j, hj with
        | 0, hj => cases hj; exact ⟨_, .b z, rfl, fun m => by cases m <;> trivial, z, rfl, rfl⟩
      | .slice e, hu, hfl, hk =>
        cases hk
        match j, hj with
        | 0, hj =>
        cases hj
        cases n with
        | zero => simp [deepB] at hall
        | succ n =>
        have hd : deepB P (n + 1) (.arr e) = true := hall
        unfold deepB at hd
        cases hke : kinds P e with
        | none => rw [hke] at hd; cases hd
        | some kse =>
        rw [hke] at hd
        simp only [Bool.and_eq_true, beq_iff_eq] at hd
        obtain ⟨⟨hd1, hd2⟩, hd3⟩ := hd
        rcases DataW.trod_slice hu hx with ⟨rfl, -⟩ | ⟨a, len, cap, elems, rest, m, hm, rfl, -, -, hl, hc, hlen, hel, -, -⟩
        · refine ⟨_, .s (.slice none 0 0) [], rfl, fun m => ?_, [], rfl, kse, hke, none, 0, rfl, fun h => absurd rfl h⟩
          cases m with
          | zero => trivial
          | succ m => exact ⟨by simp, fun r hr => by cases hr⟩
        · cases hm
          have each : ∀ i, i < len → ∀ (j : Nat) (k : Lk), kse[j]? = some k → ∃ u c, w.cell? (a.add (i * kse.length + j)) = some u ∧ CellN P w n k u c := by
            intro i hi j k hj
            have h1 := hel i hi
            rw [List.getElem?_eq_getElem (by omega), hd2] at h1
            obtain ⟨cs', h2, h3⟩ := Option.bind_eq_some_iff.1 h1
            obtain ⟨_, hlen', hcell⟩ := World.cells?_some h2
            obtain ⟨u, c, h4, h5⟩ := ih n 6 e kse cs' _ (kinds_F hke) hd3 h3 j k hj (List.all_eq_true.1 hd1 k (List.mem_of_getElem? hj))
            refine ⟨u, c, ?_, h5⟩
            have hjl : j < kse.length := by
              rcases Nat.lt_or_ge j kse.length with h | h
              · exact h
              · rw [List.getElem?_eq_none h] at hj; cases hj
            rw [← h4, ← hcell j hjl, Go.Deep.add_add]
          have each2 : ∀ i j, ∃ c : C, i < len → ∀ k, kse[j]? = some k → ∃ u, w.cell? (a.add (i * kse.length + j)) = some u ∧ CellN P w n k u c := by
            intro i j
            by_cases hi : i < len
            · cases hj : kse[j]? with
              | none => exact ⟨.i 0, fun _ k h => by cases h⟩
              | some k =>
                obtain ⟨u, c, h1, h2⟩ := each i hi j k hj
                exact ⟨c, fun _ k' h => by cases h; exact ⟨u, h1, h2⟩⟩
            · exact ⟨.i 0, fun h => absurd h hi⟩
          let f : Nat → Nat → C := fun i j => (each2 i j).choose
          have hf : ∀ i j, i < len → ∀ k, kse[j]? = some k → ∃ u, w.cell? (a.add (i * kse.length + j)) = some u ∧ CellN P w n k u (f i j) := fun i j => (each2 i j).choose_spec
          let rows : List (List C) := (List.range len).map fun i => (List.range kse.length).map fun j => f i j
          have hrl : rows.length = len := by simp [rows]
          refine ⟨_, .s (.slice (some a) len cap) rows, rfl, fun q => ?_, rows, rfl, kse, hke, some a, cap, by rw [hrl], fun hne => ?_⟩
          · cases q with
            | zero => trivial
            | succ q =>
              refine ⟨by rw [hrl]; unfold maxLen at hc; omega, fun r hr c hcr => ?_⟩
              obtain ⟨i, hi, rfl⟩ := List.mem_map.1 hr
              obtain ⟨j, hj, rfl⟩ := List.mem_map.1 hcr
              rw [List.mem_range] at hi hj
              obtain ⟨u, -, h⟩ := hf i j hi _ (List.getElem?_eq_getElem hj)
              exact h.1 q
          · have hpos : 0 < len := by
              rcases Nat.eq_zero_or_pos len with h | h
              · exact absurd (List.eq_nil_of_length_eq_zero (by rw [hrl]; exact h)) hne
              · exact h
            have hk0 : 0 < kse.length := Nat.pos_of_ne_zero (kinds_size hke).2
            obtain ⟨u0, h0, -⟩ := hf 0 0 hpos _ (List.getElem?_eq_getElem hk0)
            obtain ⟨b, o, s⟩ := a
            have hs : s = none := by simpa [Addr.add] using World.cell?_spot h0
            subst hs
            have hblk : b < w.heap.size := by
              have := World.block_lt_of_cell? _ _ h0
              simpa [Addr.add] using this
            refine ⟨b, o, rfl, by rw [hrl]; exact hl, fun i r hi => ?_⟩
            have hi' : i < len := by
              rcases Nat.lt_or_ge i len with h | h
              · exact h
              · rw [List.getElem?_eq_none (by rw [hrl]; exact h)] at hi; cases hi
            have hr : r = (List.range kse.length).map fun j => f i j := by
              simp only [rows, List.getElem?_map, List.getElem?_range hi', Option.map_some] at hi
              exact (Option.some.inj hi).symm
            subst hr
            refine ⟨by simp, fun j k hj => ⟨hblk, ?_⟩⟩
            have hjl : j < kse.length := by
              rcases Nat.lt_or_ge j kse.length with h | h
              · exact h
              · rw [List.getElem?_eq_none h] at hj; cases hj
            obtain ⟨u, h1, h2⟩ := hf i j hi' k hj
            refine ⟨u, f i j, by rw [← Go.WideShapes.add_plain]; exact h1, by simp [List.getElem?_range hjl], ?_⟩
            exact h2.2
      | .struct fs, hu, hfl, hk =>
        obtain ⟨xs, m, hm, -, -, hxl, hf⟩ := DataW.trod_struct hu hx
        cases hm
        have hk' : fs.toList.foldl (kStep P d) (some []) = some ks := hk
        rcases kStep_at hk' j k hj with h | ⟨f, hfm, m', hm', ho, hmj⟩
        · simp at h
        · obtain ⟨i, hi⟩ := List.mem_iff_getElem?.1 hfm
          have hi' : fs[i]? = some f := by rw [← hi]; simp
          have hil : i < xs.length := by
            rw [hxl]
            rcases Nat.lt_or_ge i fs.size with h | h
            · exact h
            · rw [Array.getElem?_eq_none h] at hi'; cases hi'
          have hg := hf i f hi'
          rw [List.getElem?_eq_getElem hil] at hg
          obtain ⟨u, c, h1, h2⟩ := ih n d f.type m' _ _ hm' (List.all_eq_true.1 hfl f hfm) hg (j - f.offset) k hmj hall
          refine ⟨u, c, ?_, h2⟩
          rw [List.getElem?_take] at h1
          split at h1
          · rw [List.getElem?_drop] at h1
            rw [← h1]; congr 1; omega
          · cases h1
theorem CellN.rep {n : Nat} {k : Lk} {u : Value} {c : C} (h : CellN P w n k u c) : LRep P w (fun _ _ => False) k u c := by
  refine ⟨h.1, ?_⟩
  cases k with
  | int => exact h.2
  | bool => exact h.2
  | arr t =>
    obtain ⟨rows, rfl, hA⟩ := h.2
    exact ⟨rfl, u, rows, rfl, n, _, fun b o hb => ⟨hb, fun h => h⟩, hA⟩
  | vec t => exact h.2.elim
theorem lreps_of : ∀ {ks : List Lk} {us : List Value} {n : Nat}, us.length = ks.length → (∀ (j : Nat) (k : Lk), ks[j]? = some k → ∃ u c, us[j]? = some u ∧ CellN P w n k u c) → ∃ rs, LReps P w (fun _ _ => False) ks us rs
  | [], [], _, _, _ => ⟨[], trivial⟩
  | k :: ks, u :: us, n, hl, h => by
    obtain ⟨u', c, hu, hc⟩ := h 0 k rfl
    cases hu
    obtain ⟨rs, hr⟩ := lreps_of (ks := ks) (us := us) (n := n) (by simpa using hl) fun j k hj => h (j + 1) k hj
    exact ⟨c :: rs, hc.rep, hr⟩
  | [], _ :: _, _, hl, _ => by simp at hl
  | _ :: _, [], _, hl, _ => by simp at hl
/-- A struct of integers, truth values and slices among the arguments. -/
theorem open_agg {r : Reach} {b0 n : Nat} {t : TypeId} {fs : Array Field} {v : Value} {d : DataW H} {p : List MemPlace} {ks : List Lk} (hu : P.underlying t = some (.struct fs)) (hk : kindsF P 6 t = some ks) (hfl : flatB P 6 t = true)
    (hd : ks.all (deepB P n) = true) (hc : P.cellsOf t = ks.length) (hv : Value.okWide P w r b0 t v) (hx : DataW.Trod enc P w base spare held t v d p) :
    ∃ us : List Value, v = .agg us.toArray ∧ ∃ rs, LReps P w (fun _ _ => False) ks us rs := by
  obtain ⟨cs, rfl, hsz⟩ := okWide_struct hu hv
  obtain ⟨fuel, hf⟩ := hx
  have hf : DataW.trod enc P w base spare held fuel t cs.toList = some (d, p) := hf
  obtain ⟨-, -, -, -, hlen, -, -⟩ := DataW.trod_struct hu hf
  exact ⟨cs.toList, by simp, lreps_of (n := n) (hlen.trans hc) fun j k hj => cells_deep fuel n 6 t ks _ _ hk hfl hf j k hj (List.all_eq_true.1 hd k (List.mem_of_getElem? hj))⟩
end
theorem rep_struct {W : World} {O : Nat → Nat → Prop} {ss : List Sh0} {vs : List Value} {cs rs : List C} {us : List Value} {ks : List Lk} {old : Option Nat} (h : LReps Try.prog W O ks us rs) (hr : Reps Try.prog W O old ss vs cs) :
    Reps Try.prog W O old (.agg ks :: ss) (.agg us.toArray :: vs) (rs ++ cs) :=
  ⟨rs, _, rfl, ⟨us, rfl, h⟩, hr⟩
end Go.Proofs.Ytmdmgpikbebejaa
/- The call of KillEasier. -/
namespace Go.Proofs.Ytmdmgpikbebejaa
open Go.RowKit
theorem walk_KillEasier (V0 : Value) (a1 : Int) (W : World) (h0 : ∃ us : List Value, V0 = .agg us.toArray ∧ ∃ rs, LReps Try.prog W (fun _ _ => False) [.arr 2, .arr 2, .int, .int, .int, .int, .int, .int, .int, .int, .arr 2, .arr 2] us rs) (h1 : -9223372036854775808 ≤ a1 ∧ a1 ≤ 9223372036854775807) :
    Calls Try.prog 9 #[V0, .int .i64 a1] W fun e w' => e = .returned (.bool true) ∧ Below W.heap.size W w' := by
  obtain ⟨us0, rfl, rs0, h0⟩ := h0
  exact law_walk leas_ok rfl (rep_struct h0 (rep_lf h1 rfl))
end Go.Proofs.Ytmdmgpikbebejaa
namespace Go.Proofs.Ytmdmgpikbebejaa.lawKillEasier
open Go.ChangeShapes Go.WideShapes Go.ChangeAt Go.RowKit
set_option linter.unusedVariables false

set_option maxRecDepth 100000 in
theorem lifted (os : Os) (started : os.Started) (H : Type) (enc : TypeId × Value → H) :
    ReturnsInHanded {} Try.checked os 9 .any (Rows.killEasierSpec.pre6 enc Try.prog Try.f9 Rows.killEasierRow.domain false) (Rows.killEasierSpec.post enc Try.prog Try.f9 false true false false) := by
  refine returnsInHanded_of_change (C := Try.checked) own started (by kernel_rfl) Try.func9
    (ChangeSpec.witness6 (enc := enc) (C := Try.checked) false ⟨#[], #[.agg #[.slice none 0 0, .slice none 0 0, .int .i64 0, .int .i64 0, .int .i64 0, .int .i64 0, .int .i64 0, .int .i64 0, .int .i64 0, .int .i64 0, .slice none 0 0, .slice none 0 0], .int .i64 0], []⟩ 8 (by kernel_rfl) (by kernel_rfl) (by kernel_rfl) (by kernel_rfl)) ?_
  intro W base args ds gs before hval0 hW hcnd _
  have hval : ∀ (j : Nat) t v, Try.f9.params[j]? = some t → args[j]? = some v → Value.okWide Try.prog W .any base t v := hval0
  have hW' := hW
  obtain ⟨p, q, hA0, hV, rfl, hfz, hnd⟩ := hW
  have hA : DataW.TrodAll enc Try.prog W 0 (fun _ => true) true Try.f9.params.toList args.toList ds p := hA0
  rw [Try.params9] at hA hval
  obtain ⟨v0, vs0, d0, ds0, p0, q0, hargs, rfl, rfl, h0, r0⟩ := trodAll_cons hA
  obtain ⟨v1, vs1, d1, ds1, p1, q1, rfl, rfl, rfl, h1, r1⟩ := trodAll_cons r0
  obtain ⟨rfl, rfl, rfl⟩ := trodAll_nil r1
  obtain rfl : args = #[v0, v1] := by cases args; simp_all
  obtain ⟨rfl, rfl⟩ := trodVars_none hV
  have k0 := h0
  have lt0 : ∀ x ∈ p0, x.block < W.heap.size := by obtain ⟨m, hm⟩ := k0; exact DataW.trod_lt m _ _ _ hm
  obtain ⟨us0, e0, b0⟩ := open_agg (n := 4) (ks := [.arr 2, .arr 2, .int, .int, .int, .int, .int, .int, .int, .int, .arr 2, .arr 2]) Try.underlying42 (by kernel_rfl) (by kernel_rfl) (by kernel_rfl) (by kernel_rfl) (hval 0 42 v0 rfl rfl) h0
  have k1 := h1
  have lt1 : ∀ x ∈ p1, x.block < W.heap.size := by obtain ⟨m, hm⟩ := k1; exact DataW.trod_lt m _ _ _ hm
  obtain ⟨a1, e1, -, -, wf1⟩ := open_int Try.underlying2 (hval 1 2 v1 rfl rfl) h1
  subst e1
  have b1 := wf_bd wf1
  clear hA0 hval0
  refine (walk_KillEasier v0 a1 W ⟨us0, e0, b0⟩ b1).mono fun e W' ⟨he, bel⟩ => ?_
  subst he
  exact ⟨_, rfl, _, _, _, [], _, [], hW', trodAll_mk1 (shut_bool Try.underlying4 _), (trodAll_cons_mk (Below.trod laidOut (by kernel_rfl) (of_decide_eq_true (by kernel_rfl)) k0 bel lt0) (trodAll_cons_mk (Below.trod laidOut (by kernel_rfl) (of_decide_eq_true (by kernel_rfl)) k1 bel lt1) trodAll_mk0)), rfl, bel.frame _, fun h => by cases h⟩

theorem over : Rows.killEasierRow.holds Try.pinned (OpenSpec.ofChange Rows.killEasierSpec) :=
  OpenClaim.holds_of_wide 9 Try.f9 rfl rfl rfl rfl rfl rfl rfl ⟨rfl, rfl, rfl, rfl, rfl⟩ rfl rfl rfl rfl rfl (by kernel_rfl) Try.func9 (by kernel_rfl)
    (of_decide_eq_true (by kernel_rfl)) (by unfold Func.isWrapper; first | (rw [if_pos (by decide +kernel)]; kernel_rfl) | (rw [if_neg (by decide +kernel)]; exact ⟨rfl, rfl⟩))
    (fun os started H enc _ => lifted os started H enc)

theorem proved : Rows.KillEasierSaid := over
#print axioms proved
end Go.Proofs.Ytmdmgpikbebejaa.lawKillEasier
