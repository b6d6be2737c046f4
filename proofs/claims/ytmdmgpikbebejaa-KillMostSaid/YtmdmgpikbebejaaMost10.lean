/- The law KillMost: for every input the call returns true, and each argument reads afterwards as it read before. The frame is printed by frame.py. -/
import Derived.Test.YtmdmgpikbebejaaMost9
import Derived.Test.YtmdmgpikbebejaaRows
import Derived.ShutString
import Derived.ChangeOld
/- What is to be shown of each function, as the executor has it. Printed by trees.py. -/
namespace Go.Proofs.Ytmdmgpikbebejaa
noncomputable def cexc : Cx := tab5.only [] (fun _ => []) [] 0 [] (fun _ => none)
def texc : Tree :=
  (.split (.cmp .lt (.var 2) (.var 0)) (.ret [(.int (.lit 2))]) (.split (.cmp .lt (.var 2) (.var 1)) (.ret [(.int (.lit 3))]) (.ret [(.int (.lit 0))])))
noncomputable def clook : Cx := tab5.only [45, 50, 84] (fun _ => []) [] 0 [] (fun _ => none)
def tlook_1 : Tree :=
  (.split (.cmp .ne (.var 28) (.lit 0)) (.ret [(.int (.var 28)), (.int (.var 14)), (.int (.var 15)), (.int (.lit 4)), (.int (.lit 0))]) (.ret [(.int (.lit 0)), (.int (.lit 0)), (.int (.lit 0)), (.int (.lit 0)), (.int (.lit 0))]))
def tlook_2 : Tree :=
  (.split (.cmp .ne (.var 27) (.lit 0)) (.ret [(.int (.var 27)), (.int (.var 14)), (.int (.var 15)), (.int (.lit 3)), (.int (.lit 0))]) (.call 84 [(.int (.var 22)), (.int (.var 23)), (.int (.var 3))] tlook_1))
def tlook_3 : Tree :=
  (.dfn .nil (.loop [.int] [(.int (.lit 0))] (.split (.cmp .lt (.var 26) (.len (.var 24))) (.ob (.cmp .le (.lit 0) (.var 26)) (.ob (.cmp .lt (.var 26) (.len (.var 24))) (.ob (.cmp .lt (.var 26) (.len (.var 2))) (.call 84 [(.int (.cell (.var 24) (.var 26) 0)), (.int (.cell (.var 24) (.var 26) 1)), (.int (.cell (.var 2) (.var 26) 1))] (.split (.cmp .ne (.var 27) (.lit 0)) (.ret [(.int (.var 27)), (.int (.var 14)), (.int (.var 15)), (.int (.lit 2)), (.int (.var 26))]) (.back 0 [(.int (.add (.var 26) (.lit 1)))])))))) (.ob (.and (.cmp .le (.lit (-9223372036854775808)) (.sub (.lit 0) (.var 23))) (.cmp .le (.sub (.lit 0) (.var 23)) (.lit 9223372036854775807))) (.ob (.and (.cmp .le (.lit (-9223372036854775808)) (.sub (.lit 0) (.var 22))) (.cmp .le (.sub (.lit 0) (.var 22)) (.lit 9223372036854775807))) (.ob (.and (.cmp .le (.lit (-9223372036854775808)) (.sub (.lit 0) (.var 23))) (.cmp .le (.sub (.lit 0) (.var 23)) (.lit 9223372036854775807))) (.ob (.and (.cmp .le (.lit (-9223372036854775808)) (.sub (.lit 0) (.var 22))) (.cmp .le (.sub (.lit 0) (.var 22)) (.lit 9223372036854775807))) (.call 84 [(.int (.sub (.lit 0) (.var 23))), (.int (.sub (.lit 0) (.var 22))), (.int (.lit 0))] tlook_2))))))))
def tlook_4 : Tree :=
  (.split (.cmp .lt (.var 16) (.var 11)) (.ret [(.int (.lit 2)), (.int (.var 14)), (.int (.var 15)), (.int (.lit 1)), (.int (.lit 0))]) (.call 50 [(.arr 97 (.var 0)), (.int (.var 1)), (.arr 70 (.var 2)), (.int (.var 3)), (.int (.var 4)), (.int (.var 5)), (.int (.var 6)), (.int (.var 7)), (.int (.var 8)), (.int (.var 9)), (.int (.var 10)), (.int (.var 11)), (.arr 70 (.var 12)), (.int (.var 13)), (.int (.var 14)), (.int (.var 15))] tlook_3))
def tlook : Tree :=
  (.call 45 [(.arr 97 (.var 0)), (.int (.var 1)), (.arr 70 (.var 2)), (.int (.var 3)), (.int (.var 4)), (.int (.var 5)), (.int (.var 6)), (.int (.var 7)), (.int (.var 8)), (.int (.var 9)), (.int (.var 10)), (.int (.var 11)), (.arr 70 (.var 12)), (.int (.var 13)), (.int (.var 15))] tlook_4)
noncomputable def crest : Cx := tab5.only [75, 79, 84] (fun _ => []) [] 0 [] (fun _ => none)
def trest_1 : Tree :=
  (.ob (.and (.cmp .le (.lit (-9223372036854775808)) (.mul (.var 7) (.var 20))) (.cmp .le (.mul (.var 7) (.var 20)) (.lit 9223372036854775807))) (.ob (.and (.cmp .le (.lit (-9223372036854775808)) (.mul (.var 7) (.var 21))) (.cmp .le (.mul (.var 7) (.var 21)) (.lit 9223372036854775807))) (.ob (.and (.cmp .le (.lit (-9223372036854775808)) (.mul (.var 7) (.var 20))) (.cmp .le (.mul (.var 7) (.var 20)) (.lit 9223372036854775807))) (.ob (.and (.cmp .le (.lit (-9223372036854775808)) (.mul (.var 7) (.var 21))) (.cmp .le (.mul (.var 7) (.var 21)) (.lit 9223372036854775807))) (.call 84 [(.int (.mul (.var 7) (.var 20))), (.int (.mul (.var 7) (.var 21))), (.int (.cell (.var 2) (.var 17) 1))] (.split (.cmp .ne (.var 22) (.lit 0)) (.ret [(.int (.var 22)), (.int (.var 14)), (.int (.lit 0)), (.int (.lit 5)), (.int (.var 17))]) (.back 0 [(.int (.add (.var 17) (.lit 1)))])))))))
def trest_2 : Tree :=
  (.ob (.and (.cmp .le (.lit (-9223372036854775808)) (.mul (.var 7) (.var 15))) (.cmp .le (.mul (.var 7) (.var 15)) (.lit 9223372036854775807))) (.split (.cmp .lt (.mul (.var 7) (.var 15)) (.var 11)) (.ret [(.int (.lit 2)), (.int (.var 14)), (.int (.lit 0)), (.int (.lit 5)), (.int (.lit 0))]) (.loop [.int] [(.int (.lit 0))] (.split (.cmp .lt (.var 17) (.len (.var 2))) (.ob (.cmp .le (.lit 0) (.var 17)) (.ob (.cmp .lt (.var 17) (.len (.var 2))) (.call 75 [(.arr 97 (.var 0)), (.int (.var 1)), (.arr 70 (.var 2)), (.int (.var 3)), (.int (.var 4)), (.int (.var 5)), (.int (.var 6)), (.int (.var 7)), (.int (.var 8)), (.int (.var 9)), (.int (.var 10)), (.int (.var 11)), (.arr 70 (.var 12)), (.int (.var 13)), (.int (.cell (.var 2) (.var 17) 0))] (.call 79 [(.int (.var 15)), (.int (.var 16)), (.int (.var 18)), (.int (.var 19))] trest_1)))) (.ret [(.int (.lit 0)), (.int (.lit 0)), (.int (.lit 0)), (.int (.lit 0)), (.int (.lit 0))])))))
def trest : Tree :=
  (.call 75 [(.arr 97 (.var 0)), (.int (.var 1)), (.arr 70 (.var 2)), (.int (.var 3)), (.int (.var 4)), (.int (.var 5)), (.int (.var 6)), (.int (.var 7)), (.int (.var 8)), (.int (.var 9)), (.int (.var 10)), (.int (.var 11)), (.arr 70 (.var 12)), (.int (.var 13)), (.int (.var 13))] trest_2)
noncomputable def flkends : List (Nat × Func) := [(49, Try.f49)]
theorem fxkends : ∀ p ∈ flkends, FnOK p := fns_cons ⟨Try.func49, ⟨_, Try.func49, by decide, rfl⟩⟩ (fns_nil)
noncomputable def ckends : Cx := tab5.only [48, 58, 30, 53] (fun _ => []) flkends 1 [] (fun _ => none)
def tkends : Tree :=
  (.call 48 [(.arr 97 (.var 0)), (.int (.var 1)), (.arr 70 (.var 2)), (.int (.var 3)), (.int (.var 4)), (.int (.var 5)), (.int (.var 6)), (.int (.var 7)), (.int (.var 8)), (.int (.var 9)), (.int (.var 10)), (.int (.var 11))] (.split (.cmp .ne (.var 12) (.lit 0)) (.ret [(.int (.lit 0)), (.int (.lit 0)), (.int (.lit 0)), (.int (.lit 0)), (.int (.lit 0)), (.int (.var 12))]) (.dfn .nil (.dfn .nil (.dfn .nil (.call 58 [(.arr 97 (.var 0))] (.call 30 [(.arr 97 (.var 0))] (.call 53 [(.arr 97 (.var 0)), (.int (.var 1)), (.arr 70 (.var 2)), (.int (.var 3)), (.int (.var 4)), (.int (.var 5)), (.int (.var 6)), (.int (.var 7)), (.int (.var 8)), (.int (.var 9)), (.int (.var 10)), (.int (.var 11)), (.arr 70 (.var 16)), (.int (.var 17))] (.ret [(.int (.var 18)), (.int (.var 19)), (.int (.var 20)), (.int (.var 21)), (.int (.var 22)), (.int (.lit 0))])))))))))
end Go.Proofs.Ytmdmgpikbebejaa
/- Kill: what comes of a moment; of kill mud alone. -/
namespace Go.Proofs.Ytmdmgpikbebejaa
open Go.RowKit
set_option linter.unusedSimpArgs false
set_option linter.unusedVariables false

theorem exc_ok : tab5.ok 84 := by
  refine Tab.of_ct rfl rfl ⟨_, Try.func84, by decide, rfl⟩ ?_ ctF_det
  refine ct_ok (cx := cexc) (Tab.cx_ok all_nil) Try.func84 (bds := []) (T := texc) (by kernel_rfl) ?_
  unfold texc
  simp only [VC, allC, List.map_cons, List.map_nil, List.length_cons, List.length_nil, List.getElem?_cons_zero, List.getElem?_cons_succ, List.cons.injEq, C.i.injEq, C.b.injEq, and_true, true_and, forall_const, kindsOf_nil, kindsOf_lf, kindsOf_agg, kindsOf_box, boxKinds_nil, boxKinds_lf, boxKinds_agg, boxKinds_box, List.append_nil, List.cons_append, List.nil_append, den_cmp_le, den_cmp_lt, den_cmp_eq, den_cmp_ne, den_cmp_le', den_cmp_lt', den_cmp_eq', den_cmp_ne', den_and, den_and', den_or, den_or', den_not, den_not', den_blit, den_of, ev_var, at_0, at_1, at_2, at_3, at_4, at_5, at_6, at_7, at_skip, c_int, c_bool, c_arr, c_cnt, c_vec, ev_nil, ev_join, ev_sub3, loc_s, int_i, bool_b, rows_s, cs_nil, cs_cons, E.den_lit, E.den_var, E.den_add, E.den_sub, E.den_mul, E.den_quo, E.den_rem, E.den_max, E.den_min, E.den_len, E.den_wr, E.den_cell, Nat.reduceAdd, ctOverP, ctF, rangeSh, n_, kn_]
  intro a _ _ b _ _ l _ _
  refine ⟨bds_nil _, fun h => ?_, fun h => ⟨fun h2 => ?_, fun h2 => ?_⟩⟩
  · show (2 : Int) = overP (a, b) l
    unfold overP; rw [if_pos h]
  · show (3 : Int) = overP (a, b) l
    unfold overP; rw [if_neg (show ¬ l < a by omega), if_pos h2]
  · show (0 : Int) = overP (a, b) l
    unfold overP; rw [if_neg (show ¬ l < a by omega), if_neg (show ¬ l < b by omega)]
theorem orO_no {a b : Oc} (h : a.is = 0) : orO a b = b := if_pos h
theorem orO_yes {a b : Oc} (h : a.is ≠ 0) : orO a b = a := if_neg h
/-- The rounds of a loop over outcomes. -/
theorem firstO_no {f : Nat → Oc} {n i : Nat} (h : (f i).is = 0) : firstO f (n + 1) i = firstO f n (i + 1) := by rw [firstO, orO_no h]
theorem firstO_yes {f : Nat → Oc} {n i : Nat} (h : (f i).is ≠ 0) : firstO f (n + 1) i = f i := by rw [firstO, orO_yes h]
theorem pts_len (j : Jb) (s e : Int) : (momentV j s e).pts.length = j.w.points.length := by
  unfold momentV
  split
  · simp [pushedV]
  · simp [risingV]
theorem mul_kn {j : Jb} (hf : JF j) {a : Int} (h : 0 ≤ a ∧ a ≤ 1048576) : 0 ≤ j.p.weight * a ∧ j.p.weight * a ≤ 41943040000 := mul_bd hf.pweight h.1 h.2
theorem look_ok : tab5.ok 63 := by
  refine Tab.of_ct rfl rfl ⟨_, Try.func63, by decide, rfl⟩ ?_ ctF_det
  refine ct_ok (cx := clook) (Tab.cx_ok (all_cons (up5_ok (up4_ok (up3_ok botj_ok))) (all_cons (up5_ok (up4_ok moment_ok)) (all_cons exc_ok all_nil)))) Try.func63 (bds := []) (T := tlook) (by kernel_rfl) ?_
  have h1 : clook.ct 45 = some ctBotJ := rfl
  have h2 : clook.ct 50 = some ctMoment := rfl
  have h3 : clook.ct 84 = some ctOverP := rfl
  unfold tlook
  simp only [VC, allC, List.map_cons, List.map_nil, List.length_cons, List.length_nil, List.getElem?_cons_zero, List.getElem?_cons_succ, List.cons.injEq, C.i.injEq, C.b.injEq, and_true, true_and, forall_const, kindsOf_nil, kindsOf_lf, kindsOf_agg, kindsOf_box, boxKinds_nil, boxKinds_lf, boxKinds_agg, boxKinds_box, List.append_nil, List.cons_append, List.nil_append, den_cmp_le, den_cmp_lt, den_cmp_eq, den_cmp_ne, den_cmp_le', den_cmp_lt', den_cmp_eq', den_cmp_ne', den_and, den_and', den_or, den_or', den_not, den_not', den_blit, den_of, ev_var, at_0, at_1, at_2, at_3, at_4, at_5, at_6, at_7, at_skip, c_int, c_bool, c_arr, c_cnt, c_vec, ev_nil, ev_join, ev_sub3, loc_s, int_i, bool_b, rows_s, cs_nil, cs_cons, E.den_lit, E.den_var, E.den_add, E.den_sub, E.den_mul, E.den_quo, E.den_rem, E.den_max, E.den_min, E.den_len, E.den_wr, E.den_cell, Nat.reduceAdd, h1, ctBotJ, ctLook, ctF, jobSh, n_, ocC]
  intro u1 r1 _ _ _ w _ _ u2 r2 _ _ _ li _ _ pi _ _ st _ _ ka _ _ kb _ _ kc _ _ kd _ _ v _ _ po _ _ u3 r3 _ _ _ ro _ _ s _ _ e _ _ h
  obtain ⟨hok, hs, he⟩ := h
  obtain ⟨j, hj⟩ : ∃ j, j = jobOf [C.s u1 r1, C.i w, C.s u2 r2, C.i li, C.i pi, C.i st, C.i ka, C.i kb, C.i kc, C.i kd, C.i v, C.i po, C.s u3 r3, C.i ro] 0 := ⟨_, rfl⟩
  have hf : JF j := by rw [hj]; exact JobOK.jf (cs := [C.s u1 r1, C.i w, C.s u2 r2, C.i li, C.i pi, C.i st, C.i ka, C.i kb, C.i kc, C.i kd, C.i v, C.i po, C.s u3 r3, C.i ro, C.i s, C.i e]) (i := 0) hok
  have hv : jobV j = 0 := by rw [hj]; exact hok.1
  rw [show jobOf [C.s u1 r1, C.i w, C.s u2 r2, C.i li, C.i pi, C.i st, C.i ka, C.i kb, C.i kc, C.i kd, C.i v, C.i po, C.s u3 r3, C.i ro, C.i s, C.i e] 0 = j from hj.symm]
  obtain ⟨v1, v2, v3⟩ := jobV_iff.1 hv
  have e1 : j.p = ⟨ka, kb, kc, kd⟩ := by rw [hj]; rfl
  have e2 : j.k = ⟨v, po⟩ := by rw [hj]; rfl
  have e3 : j.w.points = knots r2 := by rw [hj]; rfl
  have e4 : j.w.limit = li := by rw [hj]; rfl
  refine ⟨bds_nil _, ⟨by rw [e1] at v2; exact v2, by rw [e2] at v3; exact v3, he.1, he.2⟩, fun b _ _ hb => ?_⟩
  have hb : b = botV j.p j.k e := by rw [e1, e2]; exact hb
  unfold tlook_4
  simp only [VC, allC, List.map_cons, List.map_nil, List.length_cons, List.length_nil, List.getElem?_cons_zero, List.getElem?_cons_succ, List.cons.injEq, C.i.injEq, C.b.injEq, and_true, true_and, forall_const, kindsOf_nil, kindsOf_lf, kindsOf_agg, kindsOf_box, boxKinds_nil, boxKinds_lf, boxKinds_agg, boxKinds_box, List.append_nil, List.cons_append, List.nil_append, den_cmp_le, den_cmp_lt, den_cmp_eq, den_cmp_ne, den_cmp_le', den_cmp_lt', den_cmp_eq', den_cmp_ne', den_and, den_and', den_or, den_or', den_not, den_not', den_blit, den_of, ev_var, at_0, at_1, at_2, at_3, at_4, at_5, at_6, at_7, at_skip, c_int, c_bool, c_arr, c_cnt, c_vec, ev_nil, ev_join, ev_sub3, loc_s, int_i, bool_b, rows_s, cs_nil, cs_cons, E.den_lit, E.den_var, E.den_add, E.den_sub, E.den_mul, E.den_quo, E.den_rem, E.den_max, E.den_min, E.den_len, E.den_wr, E.den_cell, Nat.reduceAdd, h2, ctMoment, jobSh, momSh, momKs, n_]
  refine ⟨fun hlt => ?_, fun hge => ⟨⟨hok, hs, he⟩, ?_⟩⟩
  · unfold lookV
    rw [if_pos (by rw [← hb, e2]; exact hlt)]
    exact ⟨rfl, rfl, rfl, rfl, rfl⟩
  · rintro a1 _ _ a2 _ _ a3 _ _ a4 _ _ a5 _ _ a6 _ _ a7 _ _ va ra _ _ _ hm
    have hm := mo_inv (x := momentV j s e) (by rw [hj]; exact hm)
    have hbx := mom_box hf hs he
    have hl : lookV j s e = lookM j (momentV j s e) s e := by
      unfold lookV
      rw [if_neg (by rw [← hb, e2]; show ¬ b < po; omega)]
    rw [hl]
    have hpl := pts_len j s e
    generalize momentV j s e = x at *
    obtain ⟨p1, p2, p3, p4, p5, p6, p7, p8⟩ := hm
    have lra : (ra.length : Int) = r2.length := by rw [← knots_len2, p8, hpl, e3, knots_len2]
    have hsf := hbx.surf
    unfold KnB at hsf
    rw [← p6, ← p7] at hsf
    unfold tlook_3
    simp only [VC, allC, List.map_cons, List.map_nil, List.length_cons, List.length_nil, List.getElem?_cons_zero, List.getElem?_cons_succ, List.cons.injEq, C.i.injEq, C.b.injEq, and_true, true_and, forall_const, kindsOf_nil, kindsOf_lf, kindsOf_agg, kindsOf_box, boxKinds_nil, boxKinds_lf, boxKinds_agg, boxKinds_box, List.append_nil, List.cons_append, List.nil_append, den_cmp_le, den_cmp_lt, den_cmp_eq, den_cmp_ne, den_cmp_le', den_cmp_lt', den_cmp_eq', den_cmp_ne', den_and, den_and', den_or, den_or', den_not, den_not', den_blit, den_of, ev_var, at_0, at_1, at_2, at_3, at_4, at_5, at_6, at_7, at_skip, c_int, c_bool, c_arr, c_cnt, c_vec, ev_nil, ev_join, ev_sub3, loc_s, int_i, bool_b, rows_s, cs_nil, cs_cons, E.den_lit, E.den_var, E.den_add, E.den_sub, E.den_mul, E.den_quo, E.den_rem, E.den_max, E.den_min, E.den_len, E.den_wr, E.den_cell, Nat.reduceAdd, h3, ctOverP, ctF, rangeSh, n_, kn_, ev_cell, kn1, kn2]
    refine ⟨fun xs => match xs with | [.i i] => 0 ≤ i ∧ i ≤ r2.length ∧ firstO (fracO j x s e) j.w.points.length 0 = firstO (fracO j x s e) (j.w.points.length - i.toNat) i.toNat | _ => False, fun xs => match xs with | [.i i] => ((r2.length : Int) - i).toNat | _ => 0, ⟨by omega, by omega, rfl⟩, ?_⟩
    rintro i _ _ ⟨i0, i1, hI⟩
    have hwl : j.w.points.length = r2.length := by rw [e3, knots_len2]
    refine ⟨fun hlt => ⟨i0, hlt, by omega, ?_⟩, fun hge2 => ⟨by omega, by omega, by omega, by omega, ?_⟩⟩
    · rintro o _ _ ho
      have hfr : fracO j x s e i.toNat = ⟨o, s, e, 2, i⟩ := by
        unfold fracO
        rw [e3, ← p8, ho, show ((i.toNat : Nat) : Int) = i by omega]
      rw [show j.w.points.length - i.toNat = (j.w.points.length - (i + 1).toNat) + 1 by omega] at hI
      refine ⟨fun hne => ?_, fun h0 => ⟨⟨by omega, by omega, ?_⟩, ?_⟩⟩
      · rw [firstO_yes (by rw [hfr]; exact hne), hfr] at hI
        unfold lookM
        rw [hI, orO_yes (by exact hne)]
        exact ⟨rfl, rfl, rfl, rfl, rfl⟩
      · rw [firstO_no (by rw [hfr]; exact h0)] at hI
        rw [show (i + 1).toNat = i.toNat + 1 by omega] at *
        exact hI
      · show ((r2.length : Int) - (i + 1)).toNat < ((r2.length : Int) - i).toNat; omega
    · have hI0 : firstO (fracO j x s e) j.w.points.length 0 = noOc := by
        rw [hI, show j.w.points.length - i.toNat = 0 by omega]; rfl
      rintro o _ _ ho
      unfold tlook_2
      simp only [VC, allC, List.map_cons, List.map_nil, List.length_cons, List.length_nil, List.getElem?_cons_zero, List.getElem?_cons_succ, List.cons.injEq, C.i.injEq, C.b.injEq, and_true, true_and, forall_const, kindsOf_nil, kindsOf_lf, kindsOf_agg, kindsOf_box, boxKinds_nil, boxKinds_lf, boxKinds_agg, boxKinds_box, List.append_nil, List.cons_append, List.nil_append, den_cmp_le, den_cmp_lt, den_cmp_eq, den_cmp_ne, den_cmp_le', den_cmp_lt', den_cmp_eq', den_cmp_ne', den_and, den_and', den_or, den_or', den_not, den_not', den_blit, den_of, ev_var, at_0, at_1, at_2, at_3, at_4, at_5, at_6, at_7, at_skip, c_int, c_bool, c_arr, c_cnt, c_vec, ev_nil, ev_join, ev_sub3, loc_s, int_i, bool_b, rows_s, cs_nil, cs_cons, E.den_lit, E.den_var, E.den_add, E.den_sub, E.den_mul, E.den_quo, E.den_rem, E.den_max, E.den_min, E.den_len, E.den_wr, E.den_cell, Nat.reduceAdd, h3, ctOverP, ctF, rangeSh, n_, kn_]
      have hx1 : overP (-x.surf.2, -x.surf.1) 0 = o := by rw [ho, ← p6, ← p7, Int.zero_sub, Int.zero_sub]
      unfold lookM
      rw [hI0, orO_no rfl, hx1]
      refine ⟨fun hne => by rw [orO_yes (by exact hne)]; exact ⟨rfl, rfl, rfl, rfl, rfl⟩, fun h0 => ?_⟩
      rintro o2 _ _ ho2
      unfold tlook_1
      simp only [VC, allC, List.map_cons, List.map_nil, List.length_cons, List.length_nil, List.getElem?_cons_zero, List.getElem?_cons_succ, List.cons.injEq, C.i.injEq, C.b.injEq, and_true, true_and, forall_const, kindsOf_nil, kindsOf_lf, kindsOf_agg, kindsOf_box, boxKinds_nil, boxKinds_lf, boxKinds_agg, boxKinds_box, List.append_nil, List.cons_append, List.nil_append, den_cmp_le, den_cmp_lt, den_cmp_eq, den_cmp_ne, den_cmp_le', den_cmp_lt', den_cmp_eq', den_cmp_ne', den_and, den_and', den_or, den_or', den_not, den_not', den_blit, den_of, ev_var, at_0, at_1, at_2, at_3, at_4, at_5, at_6, at_7, at_skip, c_int, c_bool, c_arr, c_cnt, c_vec, ev_nil, ev_join, ev_sub3, loc_s, int_i, bool_b, rows_s, cs_nil, cs_cons, E.den_lit, E.den_var, E.den_add, E.den_sub, E.den_mul, E.den_quo, E.den_rem, E.den_max, E.den_min, E.den_len, E.den_wr, E.den_cell, Nat.reduceAdd]
      have hx2 : overP x.surf j.w.limit = o2 := by rw [ho2, p6, p7, e4]
      rw [orO_no (by exact h0), hx2]
      exact ⟨fun hne => by rw [orO_yes (by exact hne)]; exact ⟨rfl, rfl, rfl, rfl, rfl⟩, fun h0 => by rw [orO_no (by exact h0)]; exact ⟨rfl, rfl, rfl, rfl, rfl⟩⟩
theorem kn_inv {a b : Int} {x : Kn} (h : ([.i a, .i b] : List C) = ofKn x) : x = (a, b) := by
  obtain ⟨c, d⟩ := x
  rw [kn_den] at h
  injection h with h1 h2
  injection h2 with h2 _
  injection h1 with h1
  injection h2 with h2
  rw [h1, h2]
theorem rest_ok : tab5.ok 64 := by
  refine Tab.of_ct rfl rfl ⟨_, Try.func64, by decide, rfl⟩ ?_ ctF_det
  refine ct_ok (cx := crest) (Tab.cx_ok (all_cons (up5_ok (up4_ok jht_ok)) (all_cons (up5_ok (up4_ok less_ok)) (all_cons exc_ok all_nil)))) Try.func64 (bds := []) (T := trest) (by kernel_rfl) ?_
  have h1 : crest.ct 75 = some ctJHeight := rfl
  have h2 : crest.ct 79 = some ctLess := rfl
  have h3 : crest.ct 84 = some ctOverP := rfl
  unfold trest
  simp only [VC, allC, List.map_cons, List.map_nil, List.length_cons, List.length_nil, List.getElem?_cons_zero, List.getElem?_cons_succ, List.cons.injEq, C.i.injEq, C.b.injEq, and_true, true_and, forall_const, kindsOf_nil, kindsOf_lf, kindsOf_agg, kindsOf_box, boxKinds_nil, boxKinds_lf, boxKinds_agg, boxKinds_box, List.append_nil, List.cons_append, List.nil_append, den_cmp_le, den_cmp_lt, den_cmp_eq, den_cmp_ne, den_cmp_le', den_cmp_lt', den_cmp_eq', den_cmp_ne', den_and, den_and', den_or, den_or', den_not, den_not', den_blit, den_of, ev_var, at_0, at_1, at_2, at_3, at_4, at_5, at_6, at_7, at_skip, c_int, c_bool, c_arr, c_cnt, c_vec, ev_nil, ev_join, ev_sub3, loc_s, int_i, bool_b, rows_s, cs_nil, cs_cons, E.den_lit, E.den_var, E.den_add, E.den_sub, E.den_mul, E.den_quo, E.den_rem, E.den_max, E.den_min, E.den_len, E.den_wr, E.den_cell, Nat.reduceAdd, h1, ctJHeight, ctRest, ctF, jobSh, rangeSh, n_, k_, ocC]
  intro u1 r1 _ _ _ w _ _ u2 r2 _ _ _ li _ _ pi _ _ st _ _ ka _ _ kb _ _ kc _ _ kd _ _ v _ _ po _ _ u3 r3 _ _ _ ro _ _ s _ _ h
  obtain ⟨hok, hs⟩ := h
  obtain ⟨j, hj⟩ : ∃ j, j = jobOf [C.s u1 r1, C.i w, C.s u2 r2, C.i li, C.i pi, C.i st, C.i ka, C.i kb, C.i kc, C.i kd, C.i v, C.i po, C.s u3 r3, C.i ro] 0 := ⟨_, rfl⟩
  have hf : JF j := by rw [hj]; exact JobOK.jf (cs := [C.s u1 r1, C.i w, C.s u2 r2, C.i li, C.i pi, C.i st, C.i ka, C.i kb, C.i kc, C.i kd, C.i v, C.i po, C.s u3 r3, C.i ro, C.i s]) (i := 0) hok
  have hv : jobV j = 0 := by rw [hj]; exact hok.1
  rw [show jobOf [C.s u1 r1, C.i w, C.s u2 r2, C.i li, C.i pi, C.i st, C.i ka, C.i kb, C.i kc, C.i kd, C.i v, C.i po, C.s u3 r3, C.i ro, C.i s] 0 = j from hj.symm]
  have e1 : j.p = ⟨ka, kb, kc, kd⟩ := by rw [hj]; rfl
  have e2 : j.k = ⟨v, po⟩ := by rw [hj]; rfl
  have e3 : j.w.points = knots r2 := by rw [hj]; rfl
  have hline : knots r3 = heightV j.w.segs := by rw [hj]; exact hok.2.1
  have hro : ro = volV j.w.segs := by rw [hj]; exact hok.2.2
  have hht : ∀ u, atV (knots r3) u = htV j.w.segs u := fun u => by rw [hline]; rfl
  have h0 := ht_ok hf.hole
  refine ⟨bds_nil _, ?_⟩
  rintro a1 _ _ a2 _ _ ha
  have ha : [C.i a1, C.i a2] = ofKn (atV (knots r3) ro) := by rw [← ha]
  rw [hht, hro] at ha
  have ea : allV j = (a1, a2) := kn_inv ha
  have hb := h0 (volV j.w.segs)
  rw [show htV j.w.segs (volV j.w.segs) = (a1, a2) from ea] at hb
  obtain ⟨b1, b2, b3, b4⟩ := hb
  have m1 := mul_kn hf ⟨b1, b2⟩
  have e5 : j.p.weight = kb := by rw [e1]
  rw [e5] at m1
  have hwl : j.w.points.length = r2.length := by rw [e3, knots_len2]
  unfold trest_2
  simp only [VC, allC, List.map_cons, List.map_nil, List.length_cons, List.length_nil, List.getElem?_cons_zero, List.getElem?_cons_succ, List.cons.injEq, C.i.injEq, C.b.injEq, and_true, true_and, forall_const, kindsOf_nil, kindsOf_lf, kindsOf_agg, kindsOf_box, boxKinds_nil, boxKinds_lf, boxKinds_agg, boxKinds_box, List.append_nil, List.cons_append, List.nil_append, den_cmp_le, den_cmp_lt, den_cmp_eq, den_cmp_ne, den_cmp_le', den_cmp_lt', den_cmp_eq', den_cmp_ne', den_and, den_and', den_or, den_or', den_not, den_not', den_blit, den_of, ev_var, at_0, at_1, at_2, at_3, at_4, at_5, at_6, at_7, at_skip, c_int, c_bool, c_arr, c_cnt, c_vec, ev_nil, ev_join, ev_sub3, loc_s, int_i, bool_b, rows_s, cs_nil, cs_cons, E.den_lit, E.den_var, E.den_add, E.den_sub, E.den_mul, E.den_quo, E.den_rem, E.den_max, E.den_min, E.den_len, E.den_wr, E.den_cell, Nat.reduceAdd, h1, h2, ctJHeight, ctLess, ctF, jobSh, rangeSh, n_, k_, kn_, ev_cell, kn1, kn2]
  refine ⟨by simp only [] at m1; omega, fun hlt => ?_, fun hge => ?_⟩
  · unfold deadV
    rw [ea, e5, e2, if_pos hlt]
    exact ⟨rfl, rfl, rfl, rfl, rfl⟩
  · have hd : deadV j s = firstO (deadO j s) j.w.points.length 0 := by
      unfold deadV
      rw [ea, e5, e2, if_neg (show ¬ kb * a1 < po by omega)]
    rw [hd]
    refine ⟨fun xs => match xs with | [.i i] => 0 ≤ i ∧ i ≤ r2.length ∧ firstO (deadO j s) j.w.points.length 0 = firstO (deadO j s) (j.w.points.length - i.toNat) i.toNat | _ => False, fun xs => match xs with | [.i i] => ((r2.length : Int) - i).toNat | _ => 0, ⟨by omega, by omega, rfl⟩, ?_⟩
    rintro i _ _ ⟨i0, i1, hI⟩
    refine ⟨fun hlt => ⟨i0, hlt, ?_⟩, fun hge2 => ?_⟩
    · rintro c1 _ _ c2 _ _ hc
      have hc : [C.i c1, C.i c2] = ofKn (atV (knots r3) ((knots r2).getD i.toNat (0, 0)).1) := by rw [← hc]
      rw [hht] at hc
      have ec := kn_inv hc
      have hcb := h0 ((knots r2).getD i.toNat (0, 0)).1
      rw [ec] at hcb
      refine ⟨⟨⟨b1, b2, b3, b4⟩, hcb⟩, ?_⟩
      rintro d1 _ _ d2 _ _ hdd
      have hdd : [C.i d1, C.i d2] = ofKn (lessK (a1, a2) (c1, c2)) := by rw [← hdd]
      have ed := kn_inv hdd
      have hlb := less_ht ⟨b1, b2, b3, b4⟩ hcb
      rw [ed] at hlb
      obtain ⟨l1, l2, l3, l4⟩ := hlb
      have m2 := mul_kn hf ⟨l1, l2⟩
      have m3 := mul_kn hf ⟨l3, l4⟩
      rw [e5] at m2 m3
      unfold trest_1
      simp only [VC, allC, List.map_cons, List.map_nil, List.length_cons, List.length_nil, List.getElem?_cons_zero, List.getElem?_cons_succ, List.cons.injEq, C.i.injEq, C.b.injEq, and_true, true_and, forall_const, kindsOf_nil, kindsOf_lf, kindsOf_agg, kindsOf_box, boxKinds_nil, boxKinds_lf, boxKinds_agg, boxKinds_box, List.append_nil, List.cons_append, List.nil_append, den_cmp_le, den_cmp_lt, den_cmp_eq, den_cmp_ne, den_cmp_le', den_cmp_lt', den_cmp_eq', den_cmp_ne', den_and, den_and', den_or, den_or', den_not, den_not', den_blit, den_of, ev_var, at_0, at_1, at_2, at_3, at_4, at_5, at_6, at_7, at_skip, c_int, c_bool, c_arr, c_cnt, c_vec, ev_nil, ev_join, ev_sub3, loc_s, int_i, bool_b, rows_s, cs_nil, cs_cons, E.den_lit, E.den_var, E.den_add, E.den_sub, E.den_mul, E.den_quo, E.den_rem, E.den_max, E.den_min, E.den_len, E.den_wr, E.den_cell, Nat.reduceAdd, h3, ctOverP, ctF, rangeSh, n_, kn_, ev_cell, kn1, kn2]
      simp only [] at m2 m3
      refine ⟨by omega, by omega, by omega, by omega, ?_⟩
      rintro o _ _ ho
      have hfr : deadO j s i.toNat = ⟨o, s, 0, 5, i⟩ := by
        unfold deadO leftV
        rw [e3, ea, ec, ed, e5, ho, show ((i.toNat : Nat) : Int) = i by omega]
      rw [show j.w.points.length - i.toNat = (j.w.points.length - (i + 1).toNat) + 1 by omega] at hI
      refine ⟨fun hne => ?_, fun h0 => ⟨⟨by omega, by omega, ?_⟩, ?_⟩⟩
      · rw [firstO_yes (by rw [hfr]; exact hne), hfr] at hI
        rw [hI]
        exact ⟨rfl, rfl, rfl, rfl, rfl⟩
      · rw [firstO_no (by rw [hfr]; exact h0)] at hI
        rw [show (i + 1).toNat = i.toNat + 1 by omega] at *
        exact hI
      · show ((r2.length : Int) - (i + 1)).toNat < ((r2.length : Int) - i).toNat; omega
    · rw [hI, show j.w.points.length - i.toNat = 0 by omega]
      exact ⟨rfl, rfl, rfl, rfl, rfl⟩
end Go.Proofs.Ytmdmgpikbebejaa
/- Kill: the last step; the outcome. -/
namespace Go.Proofs.Ytmdmgpikbebejaa
open Go.RowKit
set_option linter.unusedSimpArgs false
set_option linter.unusedVariables false

/-! Plain: the last step -/
theorem over_last {j : Jb} {k : Nat} (hk : k ≤ lastN j) (h : overS j k = true) : k = lastN j := by
  rcases Nat.lt_or_eq_of_le hk with h1 | h1
  · have := firstN_no (overS j) 400 0 k (Nat.zero_le _) h1
    rw [h] at this; cases this
  · exact h1
theorem last_none {j : Jb} (h : overS j (lastN j) = false) : lastN j = 400 := by
  have h1 := lastN_le j
  rcases Nat.lt_or_ge (lastN j) 400 with h2 | h2
  · have := firstN_yes (overS j) 400 0 (by unfold lastN at h2; omega)
    unfold lastN at h
    rw [this] at h; cases h
  · omega
theorem firstO_all {f : Nat → Oc} : ∀ (n i : Nat), (∀ k, i ≤ k → k < i + n → (f k).is = 0) → firstO f n i = noOc
  | 0, _, _ => rfl
  | n + 1, i, h => by
    rw [firstO_no (h i (Nat.le_refl _) (by omega))]
    exact firstO_all n (i + 1) fun k h1 h2 => h k (by omega) (by omega)
theorem firstO_at {f : Nat → Oc} : ∀ (n i k : Nat), i ≤ k → k < i + n → (∀ m, i ≤ m → m < k → (f m).is = 0) → (f k).is ≠ 0 → firstO f n i = f k
  | 0, _, _, h1, h2, _, _ => by omega
  | n + 1, i, k, h1, h2, h, hk => by
    by_cases e : i = k
    · subst e; rw [firstO_yes hk]
    · rw [firstO_no (h i (Nat.le_refl _) (by omega))]
      exact firstO_at n (i + 1) k (by omega) (by omega) (fun m h3 h4 => h m (by omega) h4) hk
theorem stepO_at {j : Jb} {k : Nat} {e : Int} (h0 : -1 ≤ e) (h1 : e ≤ 1) (h : ∀ d, -1 ≤ d → d < e → (lookV j (k : Int) d).is = 0) (hk : (lookV j (k : Int) e).is ≠ 0) : stepO j k = lookV j (k : Int) e := by
  unfold stepO
  rcases (show e = -1 ∨ e = 0 ∨ e = 1 by omega) with rfl | rfl | rfl
  · rw [orO_yes hk]
  · rw [orO_no (h (-1) (by decide) (by decide)), orO_yes hk]
  · rw [orO_no (h (-1) (by decide) (by decide)), orO_no (h 0 (by decide) (by decide))]
theorem stepO_zero {j : Jb} {k : Nat} (h : ∀ d, -1 ≤ d → d < 2 → (lookV j (k : Int) d).is = 0) : (stepO j k).is = 0 := by
  unfold stepO
  rw [orO_no (h (-1) (by decide) (by decide)), orO_no (h 0 (by decide) (by decide))]
  exact h 1 (by decide) (by decide)
/-! The last step -/
theorem job_pre {cs xs : List C} (hcs : CTy Try.prog jobKs cs) : cs_ (cs ++ xs) jobLfs = cs := by
  have hl : cs.length = 14 := hcs.len
  refine Eq.trans (cs_ext (nb := 1) (ks := jobKs) rfl ?_) ?_
  · rw [hl]; decide
  · suffices key : allC Try.prog jobKs (fun cs => cs_ cs jobLfs = cs) from allC_elim key cs hcs
    unfold jobKs
    simp only [VC, allC, List.map_cons, List.map_nil, List.length_cons, List.length_nil, List.getElem?_cons_zero, List.getElem?_cons_succ, List.cons.injEq, C.i.injEq, C.b.injEq, and_true, true_and, forall_const, kindsOf_nil, kindsOf_lf, kindsOf_agg, kindsOf_box, boxKinds_nil, boxKinds_lf, boxKinds_agg, boxKinds_box, List.append_nil, List.cons_append, List.nil_append, den_cmp_le, den_cmp_lt, den_cmp_eq, den_cmp_ne, den_cmp_le', den_cmp_lt', den_cmp_eq', den_cmp_ne', den_and, den_and', den_or, den_or', den_not, den_not', den_blit, den_of, ev_var, at_0, at_1, at_2, at_3, at_4, at_5, at_6, at_7, at_skip, c_int, c_bool, c_arr, c_cnt, c_vec, ev_nil, ev_join, ev_sub3, loc_s, int_i, bool_b, rows_s, cs_nil, cs_cons, E.den_lit, E.den_var, E.den_add, E.den_sub, E.den_mul, E.den_quo, E.den_rem, E.den_max, E.den_min, E.den_len, E.den_wr, E.den_cell, Nat.reduceAdd]
    intro v0 r0 _ _ _ n1 _ _ v2 r2 _ _ _ n3 _ _ n4 _ _ n5 _ _ n6 _ _ n7 _ _ n8 _ _ n9 _ _ n10 _ _ n11 _ _ v12 r12 _ _ _ n13 _ _
    rfl
end Go.Proofs.Ytmdmgpikbebejaa
/- Kill: the outcome; the document's Last and Ends. -/
namespace Go.Proofs.Ytmdmgpikbebejaa
open Go.RowKit
set_option linter.unusedSimpArgs false
set_option linter.unusedVariables false

theorem ends_at {j : Jb} {k : Nat} (hk : k ≤ lastN j) (h : ∀ i, i < k → (stepO j i).is = 0) (h1 : (stepO j k).is ≠ 0) : endsV j = stepO j k := by
  unfold endsV
  rw [firstO_at (lastN j + 1) 0 k (Nat.zero_le _) (by omega) (fun m _ hm => h m hm) h1, orO_yes h1]
theorem ends_end {j : Jb} (h : ∀ i, i < lastN j + 1 → (stepO j i).is = 0) : endsV j = endO j := by
  unfold endsV
  rw [firstO_all _ _ fun k _ hk => h k (by omega), orO_no rfl]
theorem ends2_vc {cs : List C} (hcs : CTy Try.prog jobKs cs) (hok : JobOK cs 0) {k : Nat} (hk : k ≤ lastN (jobOf cs 0)) (h : ∀ i, i < k → (stepO (jobOf cs 0) i).is = 0 ∧ overS (jobOf cs 0) i = false) :
    VC cends2 (ctJEnds.post cs) tends2 (cs ++ [] ++ stepEl (jobOf cs 0) k) [fun xs => xs = [] ∧ ∀ i, i < k + 1 → (stepO (jobOf cs 0) i).is = 0 ∧ overS (jobOf cs 0) i = false] := by
  have hpost : ctJEnds.post cs = fun rs => rs = ocC (endsV (jobOf cs 0)) := rfl
  rw [hpost]
  suffices key : allC Try.prog jobKs (fun cs => ∀ j, j = jobOf cs 0 → JobOK cs 0 → k ≤ lastN j → (∀ i, i < k → (stepO j i).is = 0 ∧ overS j i = false) → VC cends2 (fun rs => rs = ocC (endsV j)) tends2 (cs ++ [] ++ stepEl j k) [fun xs => xs = [] ∧ ∀ i, i < k + 1 → (stepO j i).is = 0 ∧ overS j i = false]) from allC_elim key cs hcs _ rfl hok hk h
  clear hpost hcs hok hk h
  have h1 : cends2.ct 63 = some ctLook := rfl
  have h2 : cends2.ct 64 = some ctRest := rfl
  unfold tends2 jobKs stepEl
  simp only [VC, allC, List.map_cons, List.map_nil, List.length_cons, List.length_nil, List.getElem?_cons_zero, List.getElem?_cons_succ, List.cons.injEq, C.i.injEq, C.b.injEq, and_true, true_and, forall_const, kindsOf_nil, kindsOf_lf, kindsOf_agg, kindsOf_box, boxKinds_nil, boxKinds_lf, boxKinds_agg, boxKinds_box, List.append_nil, List.cons_append, List.nil_append, den_cmp_le, den_cmp_lt, den_cmp_eq, den_cmp_ne, den_cmp_le', den_cmp_lt', den_cmp_eq', den_cmp_ne', den_and, den_and', den_or, den_or', den_not, den_not', den_blit, den_of, ev_var, at_0, at_1, at_2, at_3, at_4, at_5, at_6, at_7, at_skip, c_int, c_bool, c_arr, c_cnt, c_vec, ev_nil, ev_join, ev_sub3, loc_s, int_i, bool_b, rows_s, cs_nil, cs_cons, E.den_lit, E.den_var, E.den_add, E.den_sub, E.den_mul, E.den_quo, E.den_rem, E.den_max, E.den_min, E.den_len, E.den_wr, E.den_cell, Nat.reduceAdd, h1, h2, ctLook, ctRest, ctF, jobSh, ocSh, n_, ocC, List.cons_append, List.nil_append, List.append_nil]
  intro v0 r0 _ _ _ n1 _ _ v2 r2 _ _ _ n3 _ _ n4 _ _ n5 _ _ n6 _ _ n7 _ _ n8 _ _ n9 _ _ n10 _ _ n11 _ _ v12 r12 _ _ _ n13 _ _ j hj hok hk h
  have h400 := lastN_le j
  have hs : StepOK (k : Int) := ⟨by omega, by omega⟩
  refine ⟨fun xs => match xs with | [.i e] => -1 ≤ e ∧ e ≤ 2 ∧ ∀ d, -1 ≤ d → d < e → (lookV j (k : Int) d).is = 0 | _ => False, fun xs => match xs with | [.i e] => (2 - e).toNat | _ => 0, ⟨by omega, by omega, fun d h1 h2 => by omega⟩, ?_⟩
  rintro e _ _ ⟨e0, e1, hI⟩
  refine ⟨fun hle => ⟨⟨hok, hs, e0, hle⟩, ?_⟩, fun hgt => ⟨fun ho => ⟨⟨hok, hs⟩, ?_⟩, fun ho => ?_⟩⟩
  · rintro o1 _ _ o2 _ _ o3 _ _ o4 _ _ o5 _ _ ⟨p1, p2, p3, p4, p5⟩
    have p1 : o1 = (lookV j (k : Int) e).is := by rw [hj]; exact p1
    have p2 : o2 = (lookV j (k : Int) e).step := by rw [hj]; exact p2
    have p3 : o3 = (lookV j (k : Int) e).err := by rw [hj]; exact p3
    have p4 : o4 = (lookV j (k : Int) e).why := by rw [hj]; exact p4
    have p5 : o5 = (lookV j (k : Int) e).point := by rw [hj]; exact p5
    refine ⟨fun hne => ?_, fun h0 => ⟨⟨by omega, by omega, fun d d0 d1 => ?_⟩, (show (2 - (e + 1)).toNat < (2 - e).toNat by omega)⟩⟩
    · have hs := stepO_at e0 hle hI (by rw [← p1]; exact hne)
      have he := ends_at hk (fun i hi => (h i hi).1) (by rw [hs, ← p1]; exact hne)
      rw [he, hs]
      exact ⟨p1, p2, p3, p4, p5⟩
    · rcases Int.lt_or_eq_of_le (show d ≤ e by omega) with h3 | h3
      · exact hI d d0 h3
      · rw [h3, ← p1]; exact h0
  · have hz := stepO_zero (j := j) (k := k) fun d d0 d1 => hI d d0 (by omega)
    have hkn := over_last hk ho
    have he : endsV j = orO (deadV j (k : Int)) ⟨1, (k : Int), 0, 0, 0⟩ := by
      rw [ends_end fun i hi => ?_]
      · unfold endO
        rw [← hkn, if_pos ho]
      · rcases Nat.lt_or_eq_of_le (show i ≤ k by omega) with h3 | h3
        · exact (h i h3).1
        · rw [h3]; exact hz
    rw [he]
    rintro o1 _ _ o2 _ _ o3 _ _ o4 _ _ o5 _ _ ⟨p1, p2, p3, p4, p5⟩
    have p1 : o1 = (deadV j (k : Int)).is := by rw [hj]; exact p1
    have p2 : o2 = (deadV j (k : Int)).step := by rw [hj]; exact p2
    have p3 : o3 = (deadV j (k : Int)).err := by rw [hj]; exact p3
    have p4 : o4 = (deadV j (k : Int)).why := by rw [hj]; exact p4
    have p5 : o5 = (deadV j (k : Int)).point := by rw [hj]; exact p5
    refine ⟨fun hne => ?_, fun h0 => ?_⟩
    · rw [orO_yes (by rw [← p1]; exact hne)]; exact ⟨p1, p2, p3, p4, p5⟩
    · rw [orO_no (by rw [← p1]; exact h0)]; exact ⟨rfl, rfl, rfl, rfl, rfl⟩
  · intro i hi
    rcases Nat.lt_or_eq_of_le (Nat.le_of_lt_succ hi) with h3 | h3
    · exact h i h3
    · rw [h3]; exact ⟨stepO_zero fun d d0 d1 => hI d d0 (by omega), ho⟩
theorem ends_split : bodyOf Try.f53 = pre (heads 1 (bodyOf Try.f53)) (Code.seq (.seq (.region 1 #[opN (nav [1, 0, 0] (bodyOf Try.f53)) 0, opN (nav [1, 0, 0] (bodyOf Try.f53)) 1] false) (.block 0 (.rangeFunc (.tmp endsR.d2) #[endsR.p0, endsR.p1] (rangeAssign (nav [1, 0, 1, 0] (bodyOf Try.f53))) (rangeBody (nav [1, 0, 1, 0] (bodyOf Try.f53)))))) (nav [1, 1] (bodyOf Try.f53))) := by kernel_rfl
theorem ends_t1 : execL cends2 (heads 1 (bodyOf Try.f53)) { startOf Try.f53 ctJEnds [] [] with lvl := (startOf Try.f53 ctJEnds [] []).lvl + 1 } (joinK (startOf Try.f53 ctJEnds [] []) endsS0 [] [] (endQ cends2 Try.f53 ctJEnds)) = some tends1 := by kernel_rfl
theorem ends_t2 : rgRound cends2 (endQ cends2 Try.f53 ctJEnds) endsR (rangeAssign (nav [1, 0, 1, 0] (bodyOf Try.f53))) (rangeBody (nav [1, 0, 1, 0] (bodyOf Try.f53))) = some tends2 := by kernel_rfl
theorem ends_t3 : rgTail cends2 (endQ cends2 Try.f53 ctJEnds) endsR (nav [1, 1] (bodyOf Try.f53)) = some tends3 := by kernel_rfl
theorem ends_cx : CxOK cends2 := Tab.cx_ok (all_cons look_ok (all_cons rest_ok all_nil))
theorem ends_ok : tab5.ok 53 := by
  refine Tab.of_ct rfl rfl ⟨_, Try.func53, by decide, rfl⟩ ?_ ctF_det
  refine ct_ok_marks (cx := cends2) (bds := []) ends_cx Try.func53 (c := bodyOf Try.f53) rfl ⟨by decide, by decide, by decide⟩ fun cs hcs hp => ⟨bds_nil _, fun F w0 Γ a w Q hρ hds hs hk hm => ?_⟩
  have hcs : CTy Try.prog jobKs cs := hcs
  have hp : JobOK cs 0 := hp
  rw [ends_split]
  refine pre_seg (R := ctJEnds.post cs) ends_cx (Ls := []) (I := fun _ => True) ends_t1 (by kernel_rfl) rfl (by unfold tends1; simp only [VC, allC, List.map_cons, List.map_nil, List.length_cons, List.length_nil, List.getElem?_cons_zero, List.getElem?_cons_succ, List.cons.injEq, C.i.injEq, C.b.injEq, and_true, true_and, forall_const, kindsOf_nil, kindsOf_lf, kindsOf_agg, kindsOf_box, boxKinds_nil, boxKinds_lf, boxKinds_agg, boxKinds_box, List.append_nil, List.cons_append, List.nil_append, den_cmp_le, den_cmp_lt, den_cmp_eq, den_cmp_ne, den_cmp_le', den_cmp_lt', den_cmp_eq', den_cmp_ne', den_and, den_and', den_or, den_or', den_not, den_not', den_blit, den_of, ev_var, at_0, at_1, at_2, at_3, at_4, at_5, at_6, at_7, at_skip, c_int, c_bool, c_arr, c_cnt, c_vec, ev_nil, ev_join, ev_sub3, loc_s, int_i, bool_b, rows_s, cs_nil, cs_cons, E.den_lit, E.den_var, E.den_add, E.den_sub, E.den_mul, E.den_quo, E.den_rem, E.den_max, E.den_min, E.den_len, E.den_wr, E.den_cell]) hs ?_ ?_
  · intro xs Γx a' wp hxs hI hρ' he hs'
    obtain rfl := nil_of hxs
    have hρx : Γx.ρ = cs := by rw [hρ', hρ, List.append_nil]
    refine range_fn (R := ctJEnds.post cs) ends_cx endsR (it := stepsIt) (init := []) (cs := cs) (by kernel_rfl) rfl rfl (call_op rfl callable_mksteps) rfl rfl (by kernel_rfl) rfl steps_made steps_ok callable_steps (by rw [hρx]; exact (by have := job_pre (xs := []) hcs; rw [List.append_nil] at this; exact this.symm)) hp step_el ends_t2 ends_t3 hs' he hds hm
      (fun k xs => xs = [] ∧ ∀ i, i < k → (stepO (jobOf cs 0) i).is = 0 ∧ overS (jobOf cs 0) i = false) ⟨rfl, fun i hi => by omega⟩ (fun k xs x hx hty hI => ?_) (fun xs hty hI => ?_)
    · obtain ⟨rfl, hI⟩ := hI
      obtain ⟨hk', rfl⟩ := stepEls_get (j := jobOf cs 0) hx
      rw [hρx]
      exact ends2_vc hcs hp hk' hI
    · obtain ⟨rfl, hI⟩ := hI
      have hle : (stepsIt.els cs).length = lastN (jobOf cs 0) + 1 := by simp [stepsIt, stepEls]
      rw [hle] at hI
      have h1 := (hI (lastN (jobOf cs 0)) (by omega)).2
      have h2 := last_none h1
      unfold tends3
      simp only [VC, allC, List.map_cons, List.map_nil, List.length_cons, List.length_nil, List.getElem?_cons_zero, List.getElem?_cons_succ, List.cons.injEq, C.i.injEq, C.b.injEq, and_true, true_and, forall_const, kindsOf_nil, kindsOf_lf, kindsOf_agg, kindsOf_box, boxKinds_nil, boxKinds_lf, boxKinds_agg, boxKinds_box, List.append_nil, List.cons_append, List.nil_append, den_cmp_le, den_cmp_lt, den_cmp_eq, den_cmp_ne, den_cmp_le', den_cmp_lt', den_cmp_eq', den_cmp_ne', den_and, den_and', den_or, den_or', den_not, den_not', den_blit, den_of, ev_var, at_0, at_1, at_2, at_3, at_4, at_5, at_6, at_7, at_skip, c_int, c_bool, c_arr, c_cnt, c_vec, ev_nil, ev_join, ev_sub3, loc_s, int_i, bool_b, rows_s, cs_nil, cs_cons, E.den_lit, E.den_var, E.den_add, E.den_sub, E.den_mul, E.den_quo, E.den_rem, E.den_max, E.den_min, E.den_len, E.den_wr, E.den_cell]
      show [C.i 3, C.i 400, C.i 0, C.i 6, C.i 0] = ocC (endsV (jobOf cs 0))
      rw [ends_end fun i hi => (hI i hi).1]
      unfold endO
      rw [if_neg (by rw [h1]; decide)]
      rfl
  · intro x st' T' Γ' Ls' hx hk' he hlen' hv' a' w' hs'
    exact hk x st' T' Γ' Ls' hk' he List.nil_prefix hlen' hv' a' w' hs'
/-! The document's -/
theorem endsOc_no {j : Jb} (h : jobV j ≠ 0) : endsOc j = noOc := if_neg h
theorem endsOc_yes {j : Jb} (h : jobV j = 0) : endsOc j = endsV j := if_pos h
theorem kends_ok : tab5.ok 35 := by
  refine Tab.of_ct rfl rfl ⟨_, Try.func35, by decide, rfl⟩ ?_ ctF_det
  refine ct_ok (cx := ckends) (Tab.cx_ok (all_cons (up5_ok (up4_ok chk_ok)) (all_cons (up5_ok (up4_ok (up3_ok hgt_ok))) (all_cons (up5_ok (up4_ok (up3_ok volm_ok))) (all_cons ends_ok all_nil)))) fxkends) Try.func35 (bds := []) (T := tkends) (by kernel_rfl) ?_
  have h1 : ckends.ct 48 = some ctCheckJ := rfl
  have h2 : ckends.ct 58 = some ctHeight := rfl
  have h3 : ckends.ct 30 = some ctVol := rfl
  have h4 : ckends.ct 53 = some ctJEnds := rfl
  unfold tkends
  simp only [VC, allC, List.map_cons, List.map_nil, List.length_cons, List.length_nil, List.getElem?_cons_zero, List.getElem?_cons_succ, List.cons.injEq, C.i.injEq, C.b.injEq, and_true, true_and, forall_const, kindsOf_nil, kindsOf_lf, kindsOf_agg, kindsOf_box, boxKinds_nil, boxKinds_lf, boxKinds_agg, boxKinds_box, List.append_nil, List.cons_append, List.nil_append, den_cmp_le, den_cmp_lt, den_cmp_eq, den_cmp_ne, den_cmp_le', den_cmp_lt', den_cmp_eq', den_cmp_ne', den_and, den_and', den_or, den_or', den_not, den_not', den_blit, den_of, ev_var, at_0, at_1, at_2, at_3, at_4, at_5, at_6, at_7, at_skip, c_int, c_bool, c_arr, c_cnt, c_vec, ev_nil, ev_join, ev_sub3, loc_s, int_i, bool_b, rows_s, cs_nil, cs_cons, E.den_lit, E.den_var, E.den_add, E.den_sub, E.den_mul, E.den_quo, E.den_rem, E.den_max, E.den_min, E.den_len, E.den_wr, E.den_cell, Nat.reduceAdd, h1, h2, h3, h4, ctCheckJ, ctHeight, ctVol, ctJEnds, ctEndsK, ctF, wellSh, wellKs, progSh, bubSh, holeSh, lineSh, jobSh, ocSh, n_, s_, ocC]
  rintro u1 r1 _ _ _ w _ _ u2 r2 _ _ _ li _ _ pi _ _ st _ _ ka _ _ kb _ _ kc _ _ kd _ _ v _ _ po _ _
  obtain ⟨j, hjd⟩ : ∃ j, j = jobOf [C.s u1 r1, C.i w, C.s u2 r2, C.i li, C.i pi, C.i st, C.i ka, C.i kb, C.i kc, C.i kd, C.i v, C.i po] 0 := ⟨_, rfl⟩
  rw [← hjd]
  refine ⟨bds_nil _, ?_⟩
  rintro n _ _ hn
  refine ⟨fun h => ?_, fun h => ?_⟩
  · rw [endsOc_no (by rw [← hn]; exact h)]
    exact ⟨rfl, rfl, rfl, rfl, rfl, hn⟩
  have h0 : jobV j = 0 := by rw [← hn]; exact h
  rw [endsOc_yes h0, h0]
  rintro vl rows _ _ _ ⟨v', rows', e1, e2⟩
  cases e1
  rintro room _ _ hroom
  have hf : JF j := jf_of h0
  have hs : holeV (segsOf r1) = 0 := by have := hf.hole; rw [hjd] at this; exact this
  refine ⟨⟨by rw [hjd] at h0; exact h0, e2, ?_⟩, ?_⟩
  · show room = volV (segsOf r1)
    rw [hroom]; exact roomS_yes hs
  rintro o1 _ _ o2 _ _ o3 _ _ o4 _ _ o5 _ _ ⟨p1, p2, p3, p4, p5⟩
  rw [hjd]
  exact ⟨p1, p2, p3, p4, p5, rfl⟩
end Go.Proofs.Ytmdmgpikbebejaa
/- Kill: sets of kicks: what is valid. -/
namespace Go.Proofs.Ytmdmgpikbebejaa
open Go.RowKit
set_option linter.unusedSimpArgs false
set_option linter.unusedVariables false

theorem asc_step {l : List Int} {n : Nat} (h : n + 1 < l.length) : asc2 (l.drop n) = (decide (l.getD n 0 < l.getD (n + 1) 0) && asc2 (l.drop (n + 1))) := by
  rw [drop_cons (show n < l.length by omega) 0, drop_cons h 0, asc2, ← drop_cons h 0]
theorem asc_end {l : List Int} {n : Nat} (h : l.length ≤ n + 1) : asc2 (l.drop n) = true := by
  rcases Nat.lt_or_ge n l.length with h1 | h1
  · rw [drop_cons h1 0, List.drop_eq_nil_of_le h]; rfl
  · rw [List.drop_eq_nil_of_le h1]; rfl
theorem ckl_ok : tab6.ok 65 := by
  refine Tab.of_ct rfl rfl ⟨_, Try.func65, by decide, rfl⟩ ?_ ctF_det
  refine ct_ok (cx := cckl) (Tab.cx_ok all_nil) Try.func65 (bds := []) (T := tckl) (by kernel_rfl) ?_
  unfold tckl
  simp only [VC, allC, List.map_cons, List.map_nil, List.length_cons, List.length_nil, List.getElem?_cons_zero, List.getElem?_cons_succ, List.cons.injEq, C.i.injEq, C.b.injEq, and_true, true_and, forall_const, kindsOf_nil, kindsOf_lf, kindsOf_agg, kindsOf_box, boxKinds_nil, boxKinds_lf, boxKinds_agg, boxKinds_box, List.append_nil, List.cons_append, List.nil_append, den_cmp_le, den_cmp_lt, den_cmp_eq, den_cmp_ne, den_cmp_le', den_cmp_lt', den_cmp_eq', den_cmp_ne', den_and, den_and', den_or, den_or', den_not, den_not', den_blit, den_of, ev_var, at_0, at_1, at_2, at_3, at_4, at_5, at_6, at_7, at_skip, c_int, c_bool, c_arr, c_cnt, c_vec, ev_nil, ev_join, ev_sub3, loc_s, int_i, bool_b, rows_s, cs_nil, cs_cons, E.den_lit, E.den_var, E.den_add, E.den_sub, E.den_mul, E.den_quo, E.den_rem, E.den_max, E.den_min, E.den_len, E.den_wr, E.den_cell, Nat.reduceAdd, ctKList, ctF, ev_cell, in1, l_]
  intro u r _ _ _
  have hl := ints_len r
  rw [← hl]
  have hd : ((List.drop (Int.toNat 1) (List.take ((ints r).length : Int).toNat r)).length : Int) = ((ints r).length : Int) - 1 ∨ (ints r).length = 0 := by
    rw [List.length_drop, List.length_take]
    have : Int.toNat 1 = 1 := rfl
    omega
  generalize ints r = l at *
  generalize ((List.drop (Int.toNat 1) (List.take ((l.length : Int)).toNat r)).length : Int) = m at *
  have e0 : l.length ≠ 0 → l.length ≤ 8 → ∀ t, asc2 l = t → listE l = if t then 0 else 11 := fun h1 h2 t ht => by
    unfold listE
    rw [if_neg h1, if_neg (by omega), ht]
  refine ⟨bds_nil _, fun h => by unfold listE; rw [if_pos (by omega)], fun h => ⟨fun h8 => by unfold listE; rw [if_neg (by omega), if_pos (by omega)], fun h8 => ⟨by omega, Int.le_refl _, ?_⟩⟩⟩
  refine ⟨fun xs => match xs with | [_, .i n] => 0 ≤ n ∧ n ≤ (l.length : Int) - 1 ∧ asc2 l = asc2 (l.drop n.toNat) | _ => False, fun xs => match xs with | [_, .i n] => ((l.length : Int) - n).toNat | _ => 0, ⟨by omega, by omega, rfl⟩, ?_⟩
  rintro z _ _ n _ _ ⟨n0, n1, hI⟩
  refine ⟨fun hlt => ?_, fun hge => ?_⟩
  · have hs := asc_step (l := l) (n := n.toNat) (by omega)
    rw [show n.toNat + 1 = (n + 1).toNat by omega] at hs
    refine ⟨by omega, by omega, n0, by omega, fun h => ?_, fun h => ⟨⟨by omega, by omega, ?_⟩, (show ((l.length : Int) - (n + 1)).toNat < ((l.length : Int) - n).toNat by omega)⟩⟩
    · rw [e0 (by omega) (by omega) false (by rw [hI, hs, decide_eq_false (by omega)]; rfl)]; rfl
    · rw [hI, hs, decide_eq_true h, Bool.true_and]
  · rw [e0 (by omega) (by omega) true (by rw [hI, asc_end (by omega)])]; rfl
theorem any_step {l : List Int} {n : Nat} (h : n < l.length) (f : Int → Bool) : (l.take (n + 1)).any f = ((l.take n).any f || f (l.getD n 0)) := by
  rw [take_snoc h 0, List.any_append]; simp
theorem any_take {l : List Int} {n : Nat} (h : n < l.length) (f : Int → Bool) (hf : f (l.getD n 0) = true) : l.any f = true := List.any_eq_true.2 ⟨_, getD_mem h 0, hf⟩
theorem setE_1 {vs ps : List Int} (h : listE vs ≠ 0) : setE vs ps = listE vs := by unfold setE orE; rw [if_neg h]
theorem setE_2 {vs ps : List Int} (h : listE vs = 0) (h2 : listE ps ≠ 0) : setE vs ps = listE ps := by unfold setE orE; rw [if_pos h, if_neg h2]
theorem setE_3 {vs ps : List Int} (h : listE vs = 0) (h2 : listE ps = 0) {t : Bool} (ht : (vs.any badVol || ps.any badPore) = t) : setE vs ps = if t then 2 else 0 := by unfold setE orE; rw [if_pos h, if_pos h2, ht]
theorem cks_ok : tab6.ok 55 := by
  refine Tab.of_ct rfl rfl ⟨_, Try.func55, by decide, rfl⟩ ?_ ctF_det
  refine ct_ok (cx := ccks) (Tab.cx_ok (all_cons ckl_ok (all_cons (up6_ok (up5_ok (up4_ok (up3_ok ckick_ok)))) all_nil)) fxcks) Try.func55 (bds := []) (T := tcks) (by kernel_rfl) ?_
  have h1 : ccks.ct 65 = some ctKList := rfl
  have h2 : ccks.ct 19 = some ctKick := rfl
  unfold tcks
  simp only [VC, allC, List.map_cons, List.map_nil, List.length_cons, List.length_nil, List.getElem?_cons_zero, List.getElem?_cons_succ, List.cons.injEq, C.i.injEq, C.b.injEq, and_true, true_and, forall_const, kindsOf_nil, kindsOf_lf, kindsOf_agg, kindsOf_box, boxKinds_nil, boxKinds_lf, boxKinds_agg, boxKinds_box, List.append_nil, List.cons_append, List.nil_append, den_cmp_le, den_cmp_lt, den_cmp_eq, den_cmp_ne, den_cmp_le', den_cmp_lt', den_cmp_eq', den_cmp_ne', den_and, den_and', den_or, den_or', den_not, den_not', den_blit, den_of, ev_var, at_0, at_1, at_2, at_3, at_4, at_5, at_6, at_7, at_skip, c_int, c_bool, c_arr, c_cnt, c_vec, ev_nil, ev_join, ev_sub3, loc_s, int_i, bool_b, rows_s, cs_nil, cs_cons, E.den_lit, E.den_var, E.den_add, E.den_sub, E.den_mul, E.den_quo, E.den_rem, E.den_max, E.den_min, E.den_len, E.den_wr, E.den_cell, Nat.reduceAdd, h1, ctKList, ctKSet, ctF, ev_cell, in1, l_]
  intro u1 r1 _ _ _ u2 r2 _ _ _
  refine ⟨bds_nil _, fun n _ _ hn => ⟨fun h => ?_, fun h => fun m _ _ hm => ?_⟩⟩
  · rw [hn] at h ⊢; exact (setE_1 h).symm
  · have hv : listE (ints r1) = 0 := by rw [← h, hn]
    have hm : m = listE (ints r2) := hm
    unfold tcks_1
    simp only [VC, allC, List.map_cons, List.map_nil, List.length_cons, List.length_nil, List.getElem?_cons_zero, List.getElem?_cons_succ, List.cons.injEq, C.i.injEq, C.b.injEq, and_true, true_and, forall_const, kindsOf_nil, kindsOf_lf, kindsOf_agg, kindsOf_box, boxKinds_nil, boxKinds_lf, boxKinds_agg, boxKinds_box, List.append_nil, List.cons_append, List.nil_append, den_cmp_le, den_cmp_lt, den_cmp_eq, den_cmp_ne, den_cmp_le', den_cmp_lt', den_cmp_eq', den_cmp_ne', den_and, den_and', den_or, den_or', den_not, den_not', den_blit, den_of, ev_var, at_0, at_1, at_2, at_3, at_4, at_5, at_6, at_7, at_skip, c_int, c_bool, c_arr, c_cnt, c_vec, ev_nil, ev_join, ev_sub3, loc_s, int_i, bool_b, rows_s, cs_nil, cs_cons, E.den_lit, E.den_var, E.den_add, E.den_sub, E.den_mul, E.den_quo, E.den_rem, E.den_max, E.den_min, E.den_len, E.den_wr, E.den_cell, Nat.reduceAdd, h2, ctKick, bubSh, ctF, ev_cell, in1, l_]
    have l1 := ints_len r1
    have l2 := ints_len r2
    rw [← l1, ← l2]
    show (m ≠ 0 → m = setE (ints r1) (ints r2)) ∧ _
    generalize ints r1 = vs at *
    generalize ints r2 = ps at *
    refine ⟨fun h => by rw [hm] at h ⊢; exact (setE_2 hv h).symm, fun h => ?_⟩
    have hp : listE ps = 0 := by rw [← hm]; exact h
    refine ⟨fun xs => match xs with | [_, .i n] => 0 ≤ n ∧ n ≤ vs.length ∧ (vs.take n.toNat).any badVol = false | _ => False, fun xs => match xs with | [_, .i n] => ((vs.length : Int) - n).toNat | _ => 0, ⟨by omega, by omega, rfl⟩, ?_⟩
    rintro z _ _ i _ _ ⟨i0, i1, hI⟩
    refine ⟨fun hlt => ⟨i0, hlt, fun k _ _ hk => ⟨fun hne => ?_, fun h0 => ⟨⟨by omega, by omega, ?_⟩, (show ((vs.length : Int) - (i + 1)).toNat < ((vs.length : Int) - i).toNat by omega)⟩⟩⟩, fun hge => ?_⟩
    · have hk : k = kickV ⟨vs.getD i.toNat 0, 1⟩ := hk
      have hb : badVol (vs.getD i.toNat 0) = true := by unfold badVol; rw [← hk]; exact bne_iff_ne.2 hne
      show 2 = setE vs ps
      rw [setE_3 hv hp (t := true) (by rw [any_take (by omega) _ hb]; rfl)]; rfl
    · have hk : k = kickV ⟨vs.getD i.toNat 0, 1⟩ := hk
      rw [show (i + 1).toNat = i.toNat + 1 by omega, any_step (by omega), hI]
      unfold badVol; rw [← hk, h0]; rfl
    · have hvs : vs.any badVol = false := by rw [List.take_of_length_le (by omega)] at hI; exact hI
      refine ⟨fun xs => match xs with | [_, .i n] => 0 ≤ n ∧ n ≤ ps.length ∧ (ps.take n.toNat).any badPore = false | _ => False, fun xs => match xs with | [_, .i n] => ((ps.length : Int) - n).toNat | _ => 0, ⟨by omega, by omega, rfl⟩, ?_⟩
      rintro z2 _ _ i' _ _ ⟨i0', i1', hI'⟩
      refine ⟨fun hlt => ⟨i0', hlt, fun k _ _ hk => ⟨fun hne => ?_, fun h0 => ⟨⟨by omega, by omega, ?_⟩, (show ((ps.length : Int) - (i' + 1)).toNat < ((ps.length : Int) - i').toNat by omega)⟩⟩⟩, fun hge' => ?_⟩
      · have hk : k = kickV ⟨1, ps.getD i'.toNat 0⟩ := hk
        have hb : badPore (ps.getD i'.toNat 0) = true := by unfold badPore; rw [← hk]; exact bne_iff_ne.2 hne
        show 2 = setE vs ps
        rw [setE_3 hv hp (t := true) (by rw [any_take (by omega) _ hb, Bool.or_true])]; rfl
      · have hk : k = kickV ⟨1, ps.getD i'.toNat 0⟩ := hk
        rw [show (i' + 1).toNat = i'.toNat + 1 by omega, any_step (by omega), hI']
        unfold badPore; rw [← hk, h0]; rfl
      · have hps : ps.any badPore = false := by rw [List.take_of_length_le (by omega)] at hI'; exact hI'
        show 0 = setE vs ps
        rw [setE_3 hv hp (t := false) (by rw [hvs, hps]; rfl)]; rfl
theorem ckb_ok : tab6.ok 54 := by
  refine Tab.of_ct rfl rfl ⟨_, Try.func54, by decide, rfl⟩ ?_ ctF_det
  refine ct_ok (cx := cckb) (Tab.cx_ok (all_cons (up6_ok (up5_ok (up4_ok (up3_ok cwell_ok)))) (all_cons (up6_ok (up5_ok (up4_ok (up3_ok cprog_ok)))) all_nil))) Try.func54 (bds := []) (T := tckb) (by kernel_rfl) ?_
  have h1 : cckb.ct 15 = some ctWell := rfl
  have h2 : cckb.ct 17 = some ctProg := rfl
  unfold tckb
  simp only [VC, allC, List.map_cons, List.map_nil, List.length_cons, List.length_nil, List.getElem?_cons_zero, List.getElem?_cons_succ, List.cons.injEq, C.i.injEq, C.b.injEq, and_true, true_and, forall_const, kindsOf_nil, kindsOf_lf, kindsOf_agg, kindsOf_box, boxKinds_nil, boxKinds_lf, boxKinds_agg, boxKinds_box, List.append_nil, List.cons_append, List.nil_append, den_cmp_le, den_cmp_lt, den_cmp_eq, den_cmp_ne, den_cmp_le', den_cmp_lt', den_cmp_eq', den_cmp_ne', den_and, den_and', den_or, den_or', den_not, den_not', den_blit, den_of, ev_var, at_0, at_1, at_2, at_3, at_4, at_5, at_6, at_7, at_skip, c_int, c_bool, c_arr, c_cnt, c_vec, ev_nil, ev_join, ev_sub3, loc_s, int_i, bool_b, rows_s, cs_nil, cs_cons, E.den_lit, E.den_var, E.den_add, E.den_sub, E.den_mul, E.den_quo, E.den_rem, E.den_max, E.den_min, E.den_len, E.den_wr, E.den_cell, Nat.reduceAdd, h1, h2, ctWell, ctProg, ctKBoth, ctF, wellSh, wellKs, progSh]
  intro u1 r1 _ _ _ w _ _ u2 r2 _ _ _ li _ _ pi _ _ st _ _ a _ _ b _ _ c _ _ d _ _
  refine ⟨bds_nil _, fun n _ _ hn => ⟨fun h => ?_, fun h m _ _ hm => ?_⟩⟩
  · have hn : n = wellV ⟨segsOf r1, w, knots r2, li, pi, st⟩ := hn
    show n = orE (wellV ⟨segsOf r1, w, knots r2, li, pi, st⟩) (progV ⟨a, b, c, d⟩)
    unfold orE
    rw [if_neg (by rw [← hn]; exact h)]; exact hn
  · have hn : n = wellV ⟨segsOf r1, w, knots r2, li, pi, st⟩ := hn
    show m = orE (wellV ⟨segsOf r1, w, knots r2, li, pi, st⟩) (progV ⟨a, b, c, d⟩)
    unfold orE
    rw [if_pos (by rw [← hn]; exact h)]; exact hm
end Go.Proofs.Ytmdmgpikbebejaa
/- Kill: Verify. -/
namespace Go.Proofs.Ytmdmgpikbebejaa
open Go.RowKit
set_option linter.unusedSimpArgs false
set_option linter.unusedVariables false

theorem kicks_cons (v : Int) (vs ps : List Int) : kicksOf (v :: vs) ps = ps.map (fun p => (⟨v, p⟩ : Bb)) ++ kicksOf vs ps := by unfold kicksOf; rw [List.flatMap_cons]
theorem setE_facts {vs ps : List Int} (h : setE vs ps = 0) : (1 ≤ vs.length ∧ vs.length ≤ 8) ∧ (1 ≤ ps.length ∧ ps.length ≤ 8) ∧ (∀ v ∈ vs, 1 ≤ v ∧ v ≤ 16777216) ∧ ∀ p ∈ ps, 1 ≤ p ∧ p ≤ 17179869184 := by
  have hl : ∀ {l : List Int}, listE l = 0 → 1 ≤ l.length ∧ l.length ≤ 8 := fun {l} h => by
    unfold listE at h
    split at h
    · omega
    split at h
    · omega
    omega
  by_cases h1 : listE vs = 0
  · by_cases h2 : listE ps = 0
    · rw [setE_3 h1 h2 rfl] at h
      have hb : (vs.any badVol || ps.any badPore) = false := by
        cases hx : (vs.any badVol || ps.any badPore) with
        | false => rfl
        | true => rw [hx] at h; simp at h
      rw [Bool.or_eq_false_iff] at hb
      refine ⟨hl h1, hl h2, fun v hv => ?_, fun p hp => ?_⟩
      · have : ¬ badVol v = true := fun hx => by rw [List.any_eq_true.2 ⟨v, hv, hx⟩] at hb; cases hb.1
        unfold badVol at this
        simp only [bne_iff_ne, ne_eq, Decidable.not_not] at this
        have := kickV_cases v 1
        omega
      · have : ¬ badPore p = true := fun hx => by rw [List.any_eq_true.2 ⟨p, hp, hx⟩] at hb; cases hb.2
        unfold badPore at this
        simp only [bne_iff_ne, ne_eq, Decidable.not_not] at this
        have := kickV_cases 1 p
        omega
    · rw [setE_2 h1 h2] at h; exact absurd h h2
  · rw [setE_1 h1] at h; exact absurd h h1
theorem verE_0 {w : Wl} {p : Pg} {vs ps : List Int} (h1 : bothE w p = 0) (h2 : setE vs ps = 0) : verE w p vs ps = 0 ∧ verOut w p vs ps = verV w p vs ps := by
  have e : verE w p vs ps = 0 := by unfold verE orE; rw [if_pos h1]; exact h2
  exact ⟨e, if_pos e⟩
theorem verE_1 {w : Wl} {p : Pg} {vs ps : List Int} (h1 : bothE w p ≠ 0) : verE w p vs ps = bothE w p ∧ verOut w p vs ps = (⟨0, 0⟩, noOc) := by
  have e : verE w p vs ps = bothE w p := by unfold verE orE; rw [if_neg h1]
  exact ⟨e, if_neg (by rw [e]; exact h1)⟩
theorem verE_2 {w : Wl} {p : Pg} {vs ps : List Int} (h1 : bothE w p = 0) (h2 : setE vs ps ≠ 0) : verE w p vs ps = setE vs ps ∧ verOut w p vs ps = (⟨0, 0⟩, noOc) := by
  have e : verE w p vs ps = setE vs ps := by unfold verE orE; rw [if_pos h1]
  exact ⟨e, if_neg (by rw [e]; exact h2)⟩
theorem bothE_0 {w : Wl} {p : Pg} (h : bothE w p = 0) : wellV w = 0 ∧ progV p = 0 := by unfold bothE at h; exact orE_iff.1 h
set_option maxHeartbeats 1000000 in
theorem ver_ok : tab6.ok 36 := by
  refine Tab.of_ct rfl rfl ⟨_, Try.func36, by decide, rfl⟩ ?_ ctF_det
  refine ct_ok (cx := cver) (Tab.cx_ok (all_cons ckb_ok (all_cons cks_ok (all_cons (up6_ok (up5_ok (up4_ok (up3_ok hgt_ok)))) (all_cons (up6_ok (up5_ok (up4_ok (up3_ok volm_ok)))) (all_cons (up6_ok ends_ok) all_nil))))) fxver) Try.func36 (bds := []) (T := tver) (by kernel_rfl) ?_
  have h1 : cver.ct 54 = some ctKBoth := rfl
  have h2 : cver.ct 55 = some ctKSet := rfl
  have h3 : cver.ct 58 = some ctHeight := rfl
  have h4 : cver.ct 30 = some ctVol := rfl
  have h5 : cver.ct 53 = some ctJEnds := rfl
  unfold tver
  simp only [VC, allC, List.map_cons, List.map_nil, List.length_cons, List.length_nil, List.getElem?_cons_zero, List.getElem?_cons_succ, List.cons.injEq, C.i.injEq, C.b.injEq, and_true, true_and, forall_const, kindsOf_nil, kindsOf_lf, kindsOf_agg, kindsOf_box, boxKinds_nil, boxKinds_lf, boxKinds_agg, boxKinds_box, List.append_nil, List.cons_append, List.nil_append, den_cmp_le, den_cmp_lt, den_cmp_eq, den_cmp_ne, den_cmp_le', den_cmp_lt', den_cmp_eq', den_cmp_ne', den_and, den_and', den_or, den_or', den_not, den_not', den_blit, den_of, ev_var, at_0, at_1, at_2, at_3, at_4, at_5, at_6, at_7, at_skip, c_int, c_bool, c_arr, c_cnt, c_vec, ev_nil, ev_join, ev_sub3, loc_s, int_i, bool_b, rows_s, cs_nil, cs_cons, E.den_lit, E.den_var, E.den_add, E.den_sub, E.den_mul, E.den_quo, E.den_rem, E.den_max, E.den_min, E.den_len, E.den_wr, E.den_cell, Nat.reduceAdd, h1, ctKBoth, ctVerify, ctF, wellSh, wellKs, progSh, bubSh, ocSh, l_, bbC, ocC, List.cons_append, List.nil_append]
  intro u1 r1 _ _ _ w _ _ u2 r2 _ _ _ li _ _ pi _ _ st _ _ ka _ _ kb _ _ kc _ _ kd _ _ u3 r3 _ _ _ u4 r4 _ _ _
  obtain ⟨W, hW⟩ : ∃ W : Wl, W = ⟨segsOf r1, w, knots r2, li, pi, st⟩ := ⟨_, rfl⟩
  obtain ⟨G, hG⟩ : ∃ G : Pg, G = ⟨ka, kb, kc, kd⟩ := ⟨_, rfl⟩
  have eW : wellOf [C.s u1 r1, C.i w, C.s u2 r2, C.i li, C.i pi, C.i st, C.i ka, C.i kb, C.i kc, C.i kd, C.s u3 r3, C.s u4 r4] 0 = W := by rw [hW]; rfl
  have eG : progOf [C.s u1 r1, C.i w, C.s u2 r2, C.i li, C.i pi, C.i st, C.i ka, C.i kb, C.i kc, C.i kd, C.s u3 r3, C.s u4 r4] 6 = G := by rw [hG]; rfl
  rw [eW, eG]
  have l1 := ints_len r3
  have l2 := ints_len r4
  refine ⟨bds_nil _, fun n _ _ hn => ?_⟩
  have hn : n = bothE W G := by rw [hW, hG]; exact hn
  unfold tver_4
  simp only [VC, allC, List.map_cons, List.map_nil, List.length_cons, List.length_nil, List.getElem?_cons_zero, List.getElem?_cons_succ, List.cons.injEq, C.i.injEq, C.b.injEq, and_true, true_and, forall_const, kindsOf_nil, kindsOf_lf, kindsOf_agg, kindsOf_box, boxKinds_nil, boxKinds_lf, boxKinds_agg, boxKinds_box, List.append_nil, List.cons_append, List.nil_append, den_cmp_le, den_cmp_lt, den_cmp_eq, den_cmp_ne, den_cmp_le', den_cmp_lt', den_cmp_eq', den_cmp_ne', den_and, den_and', den_or, den_or', den_not, den_not', den_blit, den_of, ev_var, at_0, at_1, at_2, at_3, at_4, at_5, at_6, at_7, at_skip, c_int, c_bool, c_arr, c_cnt, c_vec, ev_nil, ev_join, ev_sub3, loc_s, int_i, bool_b, rows_s, cs_nil, cs_cons, E.den_lit, E.den_var, E.den_add, E.den_sub, E.den_mul, E.den_quo, E.den_rem, E.den_max, E.den_min, E.den_len, E.den_wr, E.den_cell, Nat.reduceAdd, h2, ctKSet, ctF, l_]
  refine ⟨fun h => ?_, fun h => fun m _ _ hm => ?_⟩
  · obtain ⟨e1, e2⟩ := verE_1 (vs := ints r3) (ps := ints r4) (show bothE W G ≠ 0 by rw [← hn]; exact h)
    rw [e1, e2]
    exact ⟨rfl, rfl, rfl, rfl, rfl, rfl, rfl, hn⟩
  have hb0 : bothE W G = 0 := by rw [← hn]; exact h
  have hm : m = setE (ints r3) (ints r4) := hm
  unfold tver_3
  simp only [VC, allC, List.map_cons, List.map_nil, List.length_cons, List.length_nil, List.getElem?_cons_zero, List.getElem?_cons_succ, List.cons.injEq, C.i.injEq, C.b.injEq, and_true, true_and, forall_const, kindsOf_nil, kindsOf_lf, kindsOf_agg, kindsOf_box, boxKinds_nil, boxKinds_lf, boxKinds_agg, boxKinds_box, List.append_nil, List.cons_append, List.nil_append, den_cmp_le, den_cmp_lt, den_cmp_eq, den_cmp_ne, den_cmp_le', den_cmp_lt', den_cmp_eq', den_cmp_ne', den_and, den_and', den_or, den_or', den_not, den_not', den_blit, den_of, ev_var, at_0, at_1, at_2, at_3, at_4, at_5, at_6, at_7, at_skip, c_int, c_bool, c_arr, c_cnt, c_vec, ev_nil, ev_join, ev_sub3, loc_s, int_i, bool_b, rows_s, cs_nil, cs_cons, E.den_lit, E.den_var, E.den_add, E.den_sub, E.den_mul, E.den_quo, E.den_rem, E.den_max, E.den_min, E.den_len, E.den_wr, E.den_cell, Nat.reduceAdd, h3, h4, ctHeight, ctVol, ctF, holeSh, lineSh, ev_cell, in1, s_]
  refine ⟨fun h => ?_, fun h => ?_⟩
  · obtain ⟨e1, e2⟩ := verE_2 (vs := ints r3) (ps := ints r4) hb0 (by rw [← hm]; exact h)
    rw [e1, e2]
    exact ⟨rfl, rfl, rfl, rfl, rfl, rfl, rfl, hm⟩
  have hs0 : setE (ints r3) (ints r4) = 0 := by rw [← hm]; exact h
  obtain ⟨e1, e2⟩ := verE_0 hb0 hs0
  rw [e1, e2]
  obtain ⟨⟨c1, c2⟩, ⟨c3, c4⟩, c5, c6⟩ := setE_facts hs0
  obtain ⟨hw0, hp0⟩ := bothE_0 hb0
  rw [← l1, ← l2]
  generalize hvs : ints r3 = vs at *
  generalize hps : ints r4 = ps at *
  have hole : holeV W.segs = 0 := by rw [hW] at hw0 ⊢; exact (wellV_ok hw0).1
  refine ⟨fun xs => match xs with | [.i i, .i v, .i p, .i a, .i b, .i c, .i d, .i e] => 0 ≤ i ∧ i ≤ vs.length ∧ verV W G vs ps = verGo W G (kicksOf (vs.drop i.toNat) ps) (⟨v, p⟩, ⟨a, b, c, d, e⟩) | _ => False, fun xs => match xs with | [.i i, _, _, _, _, _, _, _] => ((vs.length : Int) - i).toNat | _ => 0, ⟨by omega, by omega, rfl⟩, ?_⟩
  rintro i _ _ v _ _ p _ _ a _ _ b _ _ c _ _ d _ _ e _ _ ⟨i0, i1, hI⟩
  refine ⟨fun hlt => ⟨i0, hlt, ?_⟩, fun hge => ?_⟩
  rotate_left
  · rw [List.drop_eq_nil_of_le (by omega)] at hI
    rw [hI]
    exact ⟨rfl, rfl, rfl, rfl, rfl, rfl, rfl, rfl⟩
  obtain ⟨V, hV⟩ : ∃ V, V = vs.getD i.toNat 0 := ⟨_, rfl⟩
  have hVb : 1 ≤ V ∧ V ≤ 16777216 := by rw [hV]; exact c5 _ (getD_mem (by omega) 0)
  rw [drop_cons (show i.toNat < vs.length by omega) 0, kicks_cons, ← hV, show i.toNat + 1 = (i + 1).toNat by omega] at hI
  refine ⟨fun xs => match xs with | [.i q, .i v, .i p, .i a, .i b, .i c, .i d, .i e] => 0 ≤ q ∧ q ≤ ps.length ∧ verV W G vs ps = verGo W G ((ps.drop q.toNat).map (fun p => (⟨V, p⟩ : Bb)) ++ kicksOf (vs.drop (i + 1).toNat) ps) (⟨v, p⟩, ⟨a, b, c, d, e⟩) | _ => False, fun xs => match xs with | [.i q, _, _, _, _, _, _, _] => ((ps.length : Int) - q).toNat | _ => 0, ⟨by omega, by omega, hI⟩, ?_⟩
  clear hI
  rintro q _ _ v _ _ p _ _ a _ _ b _ _ c _ _ d _ _ e _ _ ⟨q0, q1, hI⟩
  refine ⟨fun hlt2 => ⟨q0, hlt2, ?_⟩, fun hge2 => ⟨⟨by omega, by omega, ?_⟩, (show ((vs.length : Int) - (i + 1)).toNat < ((vs.length : Int) - i).toNat by omega)⟩⟩
  rotate_left
  · rw [List.drop_eq_nil_of_le (show ps.length ≤ q.toNat by omega), List.map_nil, List.nil_append] at hI
    exact hI
  obtain ⟨K, hK⟩ : ∃ K, K = ps.getD q.toNat 0 := ⟨_, rfl⟩
  have hKb : 1 ≤ K ∧ K ≤ 17179869184 := by rw [hK]; exact c6 _ (getD_mem (by omega) 0)
  rw [drop_cons (show q.toNat < ps.length by omega) 0, List.map_cons, List.cons_append, ← hK, show q.toNat + 1 = (q + 1).toNat by omega, verGo] at hI
  have hjv : jobV ⟨W, G, ⟨V, K⟩⟩ = 0 := jobV_iff.2 ⟨hw0, hp0, kickB_ok hVb hKb⟩
  rintro vl rows _ _ _ ⟨v', rows', f1, f2⟩
  cases f1
  rintro room _ _ hroom
  unfold tver_2
  simp only [VC, allC, List.map_cons, List.map_nil, List.length_cons, List.length_nil, List.getElem?_cons_zero, List.getElem?_cons_succ, List.cons.injEq, C.i.injEq, C.b.injEq, and_true, true_and, forall_const, kindsOf_nil, kindsOf_lf, kindsOf_agg, kindsOf_box, boxKinds_nil, boxKinds_lf, boxKinds_agg, boxKinds_box, List.append_nil, List.cons_append, List.nil_append, den_cmp_le, den_cmp_lt, den_cmp_eq, den_cmp_ne, den_cmp_le', den_cmp_lt', den_cmp_eq', den_cmp_ne', den_and, den_and', den_or, den_or', den_not, den_not', den_blit, den_of, ev_var, at_0, at_1, at_2, at_3, at_4, at_5, at_6, at_7, at_skip, c_int, c_bool, c_arr, c_cnt, c_vec, ev_nil, ev_join, ev_sub3, loc_s, int_i, bool_b, rows_s, cs_nil, cs_cons, E.den_lit, E.den_var, E.den_add, E.den_sub, E.den_mul, E.den_quo, E.den_rem, E.den_max, E.den_min, E.den_len, E.den_wr, E.den_cell, Nat.reduceAdd, h5, ctJEnds, jobSh, ocSh, ctF, ev_cell, in1, ocC]
  rw [hvs, hps, ← hV, ← hK]
  have eJ : jobOf [C.s u1 r1, C.i w, C.s u2 r2, C.i li, C.i pi, C.i st, C.i ka, C.i kb, C.i kc, C.i kd, C.i V, C.i K, C.s vl rows, C.i room] 0 = ⟨W, G, ⟨V, K⟩⟩ := by rw [hW, hG]; rfl
  refine ⟨⟨by rw [eJ]; exact hjv, by rw [eJ, hW]; exact f2, ?_⟩, ?_⟩
  · rw [eJ]
    show room = volV W.segs
    rw [hroom, hW]
    rw [hW] at hole
    exact roomS_yes hole
  rw [eJ]
  rintro o1 _ _ o2 _ _ o3 _ _ o4 _ _ o5 _ _ ⟨p1, p2, p3, p4, p5⟩
  have eO : endsV ⟨W, G, ⟨V, K⟩⟩ = ⟨o1, o2, o3, o4, o5⟩ := by rw [p1, p2, p3, p4, p5]
  rw [eO] at hI
  unfold tver_1
  simp only [VC, allC, List.map_cons, List.map_nil, List.length_cons, List.length_nil, List.getElem?_cons_zero, List.getElem?_cons_succ, List.cons.injEq, C.i.injEq, C.b.injEq, and_true, true_and, forall_const, kindsOf_nil, kindsOf_lf, kindsOf_agg, kindsOf_box, boxKinds_nil, boxKinds_lf, boxKinds_agg, boxKinds_box, List.append_nil, List.cons_append, List.nil_append, den_cmp_le, den_cmp_lt, den_cmp_eq, den_cmp_ne, den_cmp_le', den_cmp_lt', den_cmp_eq', den_cmp_ne', den_and, den_and', den_or, den_or', den_not, den_not', den_blit, den_of, ev_var, at_0, at_1, at_2, at_3, at_4, at_5, at_6, at_7, at_skip, c_int, c_bool, c_arr, c_cnt, c_vec, ev_nil, ev_join, ev_sub3, loc_s, int_i, bool_b, rows_s, cs_nil, cs_cons, E.den_lit, E.den_var, E.den_add, E.den_sub, E.den_mul, E.den_quo, E.den_rem, E.den_max, E.den_min, E.den_len, E.den_wr, E.den_cell, Nat.reduceAdd, ev_cell, in1]
  rw [hvs, hps, ← hV, ← hK]
  refine ⟨fun hne => ?_, fun h1' => ⟨⟨by omega, by omega, ?_⟩, (show ((ps.length : Int) - (q + 1)).toNat < ((ps.length : Int) - q).toNat by omega)⟩⟩
  · rw [if_neg hne] at hI
    rw [hI]
    exact ⟨rfl, rfl, rfl, rfl, rfl, rfl, rfl⟩
  · rw [if_pos h1'] at hI
    exact hI
end Go.Proofs.Ytmdmgpikbebejaa
/- Kill: Tolerance, Choose. -/
namespace Go.Proofs.Ytmdmgpikbebejaa
open Go.RowKit
set_option linter.unusedSimpArgs false
set_option linter.unusedVariables false

theorem tol_ok : tab6.ok 38 := by
  refine Tab.of_ct rfl rfl ⟨_, Try.func38, by decide, rfl⟩ ?_ ctF_det
  refine ct_ok (cx := ctol) (Tab.cx_ok (all_cons ckb_ok (all_cons (up6_ok (up5_ok (up4_ok (up3_ok ckick_ok)))) (all_cons (up6_ok (up5_ok (up4_ok (up3_ok kwithin_ok)))) (all_cons (up6_ok (up5_ok (up4_ok (up3_ok hgt_ok)))) (all_cons (up6_ok (up5_ok (up4_ok (up3_ok volm_ok)))) (all_cons (up6_ok ends_ok) all_nil)))))) fxtol) Try.func38 (bds := []) (T := ttol) (by kernel_rfl) ?_
  have h1 : ctol.ct 54 = some ctKBoth := rfl
  have h2 : ctol.ct 19 = some ctKick := rfl
  have h3 : ctol.ct 58 = some ctHeight := rfl
  have h4 : ctol.ct 30 = some ctVol := rfl
  have h5 : ctol.ct 53 = some ctJEnds := rfl
  unfold ttol
  simp only [VC, allC, List.map_cons, List.map_nil, List.length_cons, List.length_nil, List.getElem?_cons_zero, List.getElem?_cons_succ, List.cons.injEq, C.i.injEq, C.b.injEq, and_true, true_and, forall_const, kindsOf_nil, kindsOf_lf, kindsOf_agg, kindsOf_box, boxKinds_nil, boxKinds_lf, boxKinds_agg, boxKinds_box, List.append_nil, List.cons_append, List.nil_append, den_cmp_le, den_cmp_lt, den_cmp_eq, den_cmp_ne, den_cmp_le', den_cmp_lt', den_cmp_eq', den_cmp_ne', den_and, den_and', den_or, den_or', den_not, den_not', den_blit, den_of, ev_var, at_0, at_1, at_2, at_3, at_4, at_5, at_6, at_7, at_skip, c_int, c_bool, c_arr, c_cnt, c_vec, ev_nil, ev_join, ev_sub3, loc_s, int_i, bool_b, rows_s, cs_nil, cs_cons, E.den_lit, E.den_var, E.den_add, E.den_sub, E.den_mul, E.den_quo, E.den_rem, E.den_max, E.den_min, E.den_len, E.den_wr, E.den_cell, Nat.reduceAdd, h1, h2, ctKBoth, ctKick, ctTol, ctF, wellSh, wellKs, progSh, bubSh, ocSh, n_, List.cons_append, List.nil_append]
  intro u1 r1 _ _ _ w _ _ u2 r2 _ _ _ li _ _ pi _ _ st _ _ ka _ _ kb _ _ kc _ _ kd _ _ po _ _ sp _ _ mo _ _
  obtain ⟨W, hW⟩ : ∃ W : Wl, W = ⟨segsOf r1, w, knots r2, li, pi, st⟩ := ⟨_, rfl⟩
  obtain ⟨G, hG⟩ : ∃ G : Pg, G = ⟨ka, kb, kc, kd⟩ := ⟨_, rfl⟩
  have eW : wellOf [C.s u1 r1, C.i w, C.s u2 r2, C.i li, C.i pi, C.i st, C.i ka, C.i kb, C.i kc, C.i kd, C.i po, C.i sp, C.i mo] 0 = W := by rw [hW]; rfl
  have eG : progOf [C.s u1 r1, C.i w, C.s u2 r2, C.i li, C.i pi, C.i st, C.i ka, C.i kb, C.i kc, C.i kd, C.i po, C.i sp, C.i mo] 6 = G := by rw [hG]; rfl
  rw [eW, eG]
  have no : ∀ n, tolE W G po sp mo = n → n ≠ 0 → (0 : Int) = tolV W G po sp mo ∧ n = tolE W G po sp mo := fun n h h0 => ⟨by unfold tolV; rw [if_neg (by rw [h]; exact h0)], h.symm⟩
  refine ⟨bds_nil _, fun n _ _ hn => ?_⟩
  have hn : n = bothE W G := by rw [hW, hG]; exact hn
  refine ⟨fun h => no n (by unfold tolE orE; rw [if_neg (by rw [← hn]; exact h)]; exact hn.symm) h, fun h m _ _ hm => ?_⟩
  have hb0 : bothE W G = 0 := by rw [← hn]; exact h
  have hm : m = kickV ⟨1, po⟩ := hm
  have two : ¬ (kickV ⟨1, po⟩ = 0 ∧ 1 ≤ sp ∧ sp ≤ 65536 ∧ 0 ≤ mo ∧ mo ≤ 64) → (0 : Int) = tolV W G po sp mo ∧ (2 : Int) = tolE W G po sp mo := fun hx => no 2 (by unfold tolE orE; rw [if_pos hb0, if_neg hx]) (by decide)
  unfold ttol_2
  simp only [VC, allC, List.map_cons, List.map_nil, List.length_cons, List.length_nil, List.getElem?_cons_zero, List.getElem?_cons_succ, List.cons.injEq, C.i.injEq, C.b.injEq, and_true, true_and, forall_const, kindsOf_nil, kindsOf_lf, kindsOf_agg, kindsOf_box, boxKinds_nil, boxKinds_lf, boxKinds_agg, boxKinds_box, List.append_nil, List.cons_append, List.nil_append, den_cmp_le, den_cmp_lt, den_cmp_eq, den_cmp_ne, den_cmp_le', den_cmp_lt', den_cmp_eq', den_cmp_ne', den_and, den_and', den_or, den_or', den_not, den_not', den_blit, den_of, ev_var, at_0, at_1, at_2, at_3, at_4, at_5, at_6, at_7, at_skip, c_int, c_bool, c_arr, c_cnt, c_vec, ev_nil, ev_join, ev_sub3, loc_s, int_i, bool_b, rows_s, cs_nil, cs_cons, E.den_lit, E.den_var, E.den_add, E.den_sub, E.den_mul, E.den_quo, E.den_rem, E.den_max, E.den_min, E.den_len, E.den_wr, E.den_cell, Nat.reduceAdd, h3, h4, ctHeight, ctVol, ctF, holeSh, lineSh, s_]
  refine ⟨fun hx => two (by omega), fun m0 => ⟨fun hx => two (by omega), fun s0 => ⟨fun hx => two (by omega), fun s1 => ⟨fun hx => two (by omega), fun s2 => ?_⟩⟩⟩⟩
  obtain ⟨hw0, hp0⟩ := bothE_0 hb0
  have hkv : kickV ⟨1, po⟩ = 0 := by rw [← hm]; exact m0
  have hkc := kickV_cases 1 po
  have hE : tolE W G po sp mo = 0 := by unfold tolE orE; rw [if_pos hb0, if_pos ⟨hkv, by omega, by omega, by omega, by omega⟩]
  have hV : tolV W G po sp mo = (firstN (notKilled W G po sp) mo.toNat 0 : Int) := by unfold tolV; rw [if_pos hE]
  rw [hE, hV]
  have hole : holeV W.segs = 0 := by rw [hW] at hw0 ⊢; exact (wellV_ok hw0).1
  refine ⟨fun xs => match xs with | [_, _, .i n] => 0 ≤ n ∧ n ≤ mo ∧ ∀ k : Nat, (k : Int) < n → notKilled W G po sp k = false | _ => False, fun xs => match xs with | [_, _, .i n] => (mo - n).toNat | _ => 0, ⟨by omega, by omega, fun k hk => by omega⟩, ?_⟩
  rintro z1 _ _ z2 _ _ i _ _ ⟨i0, i1, hI⟩
  have hf := firstN_le (notKilled W G po sp) mo.toNat 0
  refine ⟨fun hlt => ?_, fun hge => ?_⟩
  rotate_left
  · have e : firstN (notKilled W G po sp) mo.toNat 0 = mo.toNat := by
      rcases Nat.lt_or_ge (firstN (notKilled W G po sp) mo.toNat 0) mo.toNat with g | g
      · have := firstN_yes (notKilled W G po sp) mo.toNat 0 (by omega)
        rw [hI _ (by omega)] at this; cases this
      · omega
    rw [e]
    exact ⟨by omega, rfl⟩
  have hb := mul_box (a := i + 1) (b := sp) (A := 64) (B := 65536) (by omega) (by omega) (by omega) (by omega)
  have hb1 : 1 * 1 ≤ (i + 1) * sp := Int.mul_le_mul (by omega) (by omega) (by omega) (by omega)
  obtain ⟨V, hVd⟩ : ∃ V, V = (i + 1) * sp := ⟨_, rfl⟩
  rw [← hVd] at hb hb1 ⊢
  have hjv : jobV ⟨W, G, ⟨V, po⟩⟩ = 0 := jobV_iff.2 ⟨hw0, hp0, kickB_ok (by omega) (by omega)⟩
  refine ⟨by omega, ?_⟩
  rintro vl rows _ _ _ ⟨v', rows', f1, f2⟩
  cases f1
  rintro room _ _ hroom
  unfold ttol_1
  simp only [VC, allC, List.map_cons, List.map_nil, List.length_cons, List.length_nil, List.getElem?_cons_zero, List.getElem?_cons_succ, List.cons.injEq, C.i.injEq, C.b.injEq, and_true, true_and, forall_const, kindsOf_nil, kindsOf_lf, kindsOf_agg, kindsOf_box, boxKinds_nil, boxKinds_lf, boxKinds_agg, boxKinds_box, List.append_nil, List.cons_append, List.nil_append, den_cmp_le, den_cmp_lt, den_cmp_eq, den_cmp_ne, den_cmp_le', den_cmp_lt', den_cmp_eq', den_cmp_ne', den_and, den_and', den_or, den_or', den_not, den_not', den_blit, den_of, ev_var, at_0, at_1, at_2, at_3, at_4, at_5, at_6, at_7, at_skip, c_int, c_bool, c_arr, c_cnt, c_vec, ev_nil, ev_join, ev_sub3, loc_s, int_i, bool_b, rows_s, cs_nil, cs_cons, E.den_lit, E.den_var, E.den_add, E.den_sub, E.den_mul, E.den_quo, E.den_rem, E.den_max, E.den_min, E.den_len, E.den_wr, E.den_cell, Nat.reduceAdd, h5, ctJEnds, jobSh, ocSh, ctF, ocC]
  rw [← hVd]
  have eJ : jobOf [C.s u1 r1, C.i w, C.s u2 r2, C.i li, C.i pi, C.i st, C.i ka, C.i kb, C.i kc, C.i kd, C.i V, C.i po, C.s vl rows, C.i room] 0 = ⟨W, G, ⟨V, po⟩⟩ := by rw [hW, hG]; rfl
  refine ⟨by omega, ⟨by rw [eJ]; exact hjv, by rw [eJ, hW]; exact f2, ?_⟩, ?_⟩
  · rw [eJ]
    show room = volV W.segs
    rw [hroom, hW]
    rw [hW] at hole
    exact roomS_yes hole
  rw [eJ]
  rintro o1 _ _ o2 _ _ o3 _ _ o4 _ _ o5 _ _ ⟨p1, p2, p3, p4, p5⟩
  have hnk : notKilled W G po sp i.toNat = (o1 != 1) := by
    unfold notKilled
    rw [show ((i.toNat : Int) + 1) * sp = V by rw [hVd]; congr 2; omega, p1]
  refine ⟨fun hne => ?_, fun h1' => ⟨⟨by omega, by omega, fun k hk => ?_⟩, (show (mo - (i + 1)).toNat < (mo - i).toNat by omega)⟩⟩
  · have e : firstN (notKilled W G po sp) mo.toNat 0 = i.toNat := by
      rcases Nat.lt_trichotomy (firstN (notKilled W G po sp) mo.toNat 0) i.toNat with g | g | g
      · have := firstN_yes (notKilled W G po sp) mo.toNat 0 (by omega)
        rw [hI _ (by omega)] at this; cases this
      · exact g
      · have := firstN_no (notKilled W G po sp) mo.toNat 0 i.toNat (by omega) g
        rw [hnk] at this
        exact absurd (bne_iff_ne.2 hne) (by rw [this]; decide)
    rw [e]
    omega
  · rcases Int.lt_or_eq_of_le (show (k : Int) ≤ i by omega) with g | g
    · exact hI k g
    · rw [show k = i.toNat by omega, hnk, h1']; rfl
theorem pgOf_at (v : Value) (rows : List (List C)) (i : Nat) : (⟨((C.s v rows).at i 0).int, ((C.s v rows).at i 1).int, ((C.s v rows).at i 2).int, ((C.s v rows).at i 3).int⟩ : Pg) = (progsOf rows).getD i ⟨0, 0, 0, 0⟩ := by
  have e : ∀ x : Option (List C), (Option.map pgOf x).getD ⟨0, 0, 0, 0⟩ = pgOf (x.getD []) := fun x => by cases x <;> rfl
  unfold progsOf
  rw [List.getD_eq_getElem?_getD (l := rows.map pgOf), List.getElem?_map, e, ← List.getD_eq_getElem?_getD]
  rfl
theorem progs_len (rows : List (List C)) : (progsOf rows).length = rows.length := by simp [progsOf]
theorem cho_ok : tab6.ok 39 := by
  refine Tab.of_ct rfl rfl ⟨_, Try.func39, by decide, rfl⟩ ?_ ctF_det
  refine ct_ok (cx := ccho) (Tab.cx_ok (all_cons ver_ok all_nil)) Try.func39 (bds := []) (T := tcho) (by kernel_rfl) ?_
  have h1 : ccho.ct 36 = some ctVerify := rfl
  unfold tcho
  simp only [VC, allC, List.map_cons, List.map_nil, List.length_cons, List.length_nil, List.getElem?_cons_zero, List.getElem?_cons_succ, List.cons.injEq, C.i.injEq, C.b.injEq, and_true, true_and, forall_const, kindsOf_nil, kindsOf_lf, kindsOf_agg, kindsOf_box, boxKinds_nil, boxKinds_lf, boxKinds_agg, boxKinds_box, List.append_nil, List.cons_append, List.nil_append, den_cmp_le, den_cmp_lt, den_cmp_eq, den_cmp_ne, den_cmp_le', den_cmp_lt', den_cmp_eq', den_cmp_ne', den_and, den_and', den_or, den_or', den_not, den_not', den_blit, den_of, ev_var, at_0, at_1, at_2, at_3, at_4, at_5, at_6, at_7, at_skip, c_int, c_bool, c_arr, c_cnt, c_vec, ev_nil, ev_join, ev_sub3, loc_s, int_i, bool_b, rows_s, cs_nil, cs_cons, E.den_lit, E.den_var, E.den_add, E.den_sub, E.den_mul, E.den_quo, E.den_rem, E.den_max, E.den_min, E.den_len, E.den_wr, E.den_cell, Nat.reduceAdd, h1, ctVerify, ctChoose, ctF, wellSh, wellKs, progSh, bubSh, ocSh, l_, ev_cell, bbC, ocC, List.cons_append, List.nil_append]
  intro u1 r1 _ _ _ w _ _ u2 r2 _ _ _ li _ _ pi _ _ st _ _ u3 r3 _ _ _ u4 r4 _ _ _ u5 r5 _ _ _
  obtain ⟨W, hW⟩ : ∃ W : Wl, W = ⟨segsOf r1, w, knots r2, li, pi, st⟩ := ⟨_, rfl⟩
  have eW : wellOf [C.s u1 r1, C.i w, C.s u2 r2, C.i li, C.i pi, C.i st, C.s u3 r3, C.s u4 r4, C.s u5 r5] 0 = W := by rw [hW]; rfl
  rw [eW]
  have l3 := progs_len r3
  refine ⟨bds_nil _, fun h => ?_, fun h => ?_⟩
  · show (0 : Int) = (choV W (progsOf r3) (ints r4) (ints r5)).1 ∧ (8 : Int) = (choV W (progsOf r3) (ints r4) (ints r5)).2
    unfold choV
    rw [if_pos (by omega)]
    exact ⟨rfl, rfl⟩
  · have e : choV W (progsOf r3) (ints r4) (ints r5) = choGo W (ints r4) (ints r5) (progsOf r3) 0 := by unfold choV; rw [if_neg (by omega)]
    show ∃ I μ, _
    refine ⟨fun xs => match xs with | [_, _, .i n] => 0 ≤ n ∧ n ≤ r3.length ∧ choV W (progsOf r3) (ints r4) (ints r5) = choGo W (ints r4) (ints r5) ((progsOf r3).drop n.toNat) n | _ => False, fun xs => match xs with | [_, _, .i n] => ((r3.length : Int) - n).toNat | _ => 0, ⟨by omega, by omega, e⟩, ?_⟩
    rintro z1 _ _ z2 _ _ i _ _ ⟨i0, i1, hI⟩
    refine ⟨fun hlt => ⟨i0, hlt, ?_⟩, fun hge => ?_⟩
    rotate_left
    · rw [List.drop_eq_nil_of_le (by omega)] at hI
      show (-1 : Int) = (choV W (progsOf r3) (ints r4) (ints r5)).1 ∧ (0 : Int) = (choV W (progsOf r3) (ints r4) (ints r5)).2
      rw [hI]
      exact ⟨rfl, rfl⟩
    rw [drop_cons (show i.toNat < (progsOf r3).length by omega) ⟨0, 0, 0, 0⟩, choGo, show i.toNat + 1 = (i + 1).toNat by omega] at hI
    obtain ⟨G, hG⟩ : ∃ G : Pg, G = (progsOf r3).getD i.toNat ⟨0, 0, 0, 0⟩ := ⟨_, rfl⟩
    rw [← hG] at hI
    have hGc := (pgOf_at u3 r3 i.toNat).trans hG.symm
    rintro k1 _ _ k2 _ _ o1 _ _ o2 _ _ o3 _ _ o4 _ _ o5 _ _ e0 _ _ hh
    have hh : (k1 = (verOut W G (ints r4) (ints r5)).1.vol ∧ k2 = (verOut W G (ints r4) (ints r5)).1.pore ∧ o1 = (verOut W G (ints r4) (ints r5)).2.is ∧ o2 = (verOut W G (ints r4) (ints r5)).2.step ∧ o3 = (verOut W G (ints r4) (ints r5)).2.err ∧ o4 = (verOut W G (ints r4) (ints r5)).2.why ∧ o5 = (verOut W G (ints r4) (ints r5)).2.point ∧ e0 = verE W G (ints r4) (ints r5)) := by
      rw [hW, ← hGc]; exact hh
    obtain ⟨-, -, p1, -, -, -, -, p2⟩ := hh
    unfold tcho_1
    simp only [VC, allC, List.map_cons, List.map_nil, List.length_cons, List.length_nil, List.getElem?_cons_zero, List.getElem?_cons_succ, List.cons.injEq, C.i.injEq, C.b.injEq, and_true, true_and, forall_const, kindsOf_nil, kindsOf_lf, kindsOf_agg, kindsOf_box, boxKinds_nil, boxKinds_lf, boxKinds_agg, boxKinds_box, List.append_nil, List.cons_append, List.nil_append, den_cmp_le, den_cmp_lt, den_cmp_eq, den_cmp_ne, den_cmp_le', den_cmp_lt', den_cmp_eq', den_cmp_ne', den_and, den_and', den_or, den_or', den_not, den_not', den_blit, den_of, ev_var, at_0, at_1, at_2, at_3, at_4, at_5, at_6, at_7, at_skip, c_int, c_bool, c_arr, c_cnt, c_vec, ev_nil, ev_join, ev_sub3, loc_s, int_i, bool_b, rows_s, cs_nil, cs_cons, E.den_lit, E.den_var, E.den_add, E.den_sub, E.den_mul, E.den_quo, E.den_rem, E.den_max, E.den_min, E.den_len, E.den_wr, E.den_cell, Nat.reduceAdd]
    refine ⟨fun hne => ?_, fun hz => ⟨fun hy => ?_, fun hn => ⟨⟨by omega, by omega, ?_⟩, (show ((r3.length : Int) - (i + 1)).toNat < ((r3.length : Int) - i).toNat by omega)⟩⟩⟩
    · rw [if_neg (by rw [← p2]; exact hne)] at hI
      rw [hI]
      exact ⟨rfl, p2⟩
    · rw [if_pos (by rw [← p2]; exact hz), if_pos (by rw [← p1]; exact hy)] at hI
      rw [hI]
      exact ⟨rfl, rfl⟩
    · rw [if_pos (by rw [← p2]; exact hz), if_neg (by rw [← p1]; exact hn)] at hI
      exact hI
end Go.Proofs.Ytmdmgpikbebejaa
/- Kill: the plain laws of gas and of outcomes. -/
namespace Go.Proofs.Ytmdmgpikbebejaa
set_option linter.unusedVariables false
set_option linter.unusedSimpArgs false

/-! The amount of gas -/
/-! Outcomes -/
theorem n2 : (2 : Int) ≠ 0 := by decide
theorem n3 : (3 : Int) ≠ 0 := by decide
theorem over_two {p : Kn} {l : Int} : overP p l = 2 ↔ l < p.1 := by unfold overP; split <;> (try split) <;> omega
theorem over_zero {p : Kn} {l : Int} : overP p l = 0 ↔ p.1 ≤ l ∧ p.2 ≤ l := by unfold overP; split <;> (try split) <;> omega
theorem over_cases (p : Kn) (l : Int) : overP p l = 0 ∨ overP p l = 2 ∨ overP p l = 3 := by unfold overP; split <;> (try split) <;> omega
theorem firstO_cases (f : Nat → Oc) : ∀ (n i : Nat), (firstO f n i = noOc ∧ ∀ k, i ≤ k → k < i + n → (f k).is = 0) ∨ ∃ k, i ≤ k ∧ k < i + n ∧ (f k).is ≠ 0 ∧ firstO f n i = f k ∧ ∀ m, i ≤ m → m < k → (f m).is = 0
  | 0, i => .inl ⟨rfl, fun k h1 h2 => by omega⟩
  | n + 1, i => by
    by_cases h : (f i).is = 0
    · rw [firstO_no h]
      rcases firstO_cases f n (i + 1) with ⟨e, h1⟩ | ⟨k, h1, h2, h3, h4, h5⟩
      · refine .inl ⟨e, fun k h2 h3 => ?_⟩
        rcases Nat.lt_or_eq_of_le h2 with h4 | h4
        · exact h1 k (by omega) (by omega)
        · rw [← h4]; exact h
      · refine .inr ⟨k, by omega, by omega, h3, h4, fun m h6 h7 => ?_⟩
        rcases Nat.lt_or_eq_of_le h6 with h8 | h8
        · exact h5 m (by omega) h7
        · rw [← h8]; exact h
    · rw [firstO_yes h]
      exact .inr ⟨i, Nat.le_refl _, by omega, h, rfl, fun m h1 h2 => by omega⟩
/-- What an outcome of a moment says. -/
theorem look_cases {j : Jb} {s e : Int} : (lookV j s e = noOc ∧ j.k.pore ≤ botV j.p j.k e ∧ (∀ i, i < j.w.points.length → ((momentV j s e).pts.getD i (0, 0)).1 ≤ (j.w.points.getD i (0, 0)).2 ∧ ((momentV j s e).pts.getD i (0, 0)).2 ≤ (j.w.points.getD i (0, 0)).2) ∧ (0 ≤ (momentV j s e).surf.2 ∧ 0 ≤ (momentV j s e).surf.1) ∧ (momentV j s e).surf.1 ≤ j.w.limit ∧ (momentV j s e).surf.2 ≤ j.w.limit) ∨
    ((lookV j s e).is ≠ 0 ∧ ((lookV j s e).is = 2 ∨ (lookV j s e).is = 3) ∧ (lookV j s e).step = s ∧ (lookV j s e).err = e ∧ (
      ((lookV j s e).why = 1 ∧ botV j.p j.k e < j.k.pore) ∨
      ((lookV j s e).why = 2 ∧ ∃ i, i < j.w.points.length ∧ (lookV j s e).point = (i : Int) ∧ ((lookV j s e).is = 2 → (j.w.points.getD i (0, 0)).2 < ((momentV j s e).pts.getD i (0, 0)).1)) ∨
      ((lookV j s e).why = 3 ∧ ((lookV j s e).is = 2 → (momentV j s e).surf.2 < 0)) ∨
      ((lookV j s e).why = 4 ∧ ((lookV j s e).is = 2 → j.w.limit < (momentV j s e).surf.1)))) := by
  unfold lookV
  split
  · rename_i h
    exact .inr ⟨n2, .inl rfl, rfl, rfl, .inl ⟨rfl, h⟩⟩
  · rename_i hb
    generalize momentV j s e = x
    unfold lookM
    rcases firstO_cases (fracO j x s e) j.w.points.length 0 with ⟨h1, h2⟩ | ⟨i, h1, h2, h3, h4, h5⟩
    · rw [h1, orO_no rfl]
      rcases over_cases (-x.surf.2, -x.surf.1) 0 with g | g | g
      · rw [orO_no g]
        have gz := over_zero.1 g
        rcases over_cases x.surf j.w.limit with k | k | k
        · rw [orO_no k]
          have kz := over_zero.1 k
          refine .inl ⟨rfl, by omega, fun i hi => over_zero.1 (h2 i (Nat.zero_le _) (by omega)), ⟨?_, ?_⟩, kz⟩
          · have := gz.1; simp only [] at this; omega
          · have := gz.2; simp only [] at this; omega
        · rw [orO_yes (by rw [k]; first | exact n2 | exact n3)]
          exact .inr ⟨by rw [k]; first | exact n2 | exact n3, .inl k, rfl, rfl, .inr (.inr (.inr ⟨rfl, fun _ => over_two.1 k⟩))⟩
        · rw [orO_yes (by rw [k]; first | exact n2 | exact n3)]
          exact .inr ⟨by rw [k]; first | exact n2 | exact n3, .inr k, rfl, rfl, .inr (.inr (.inr ⟨rfl, fun h => over_two.1 h⟩))⟩
      · rw [orO_yes (by rw [g]; first | exact n2 | exact n3)]
        exact .inr ⟨by rw [g]; first | exact n2 | exact n3, .inl g, rfl, rfl, .inr (.inr (.inl ⟨rfl, fun _ => by have := over_two.1 g; simp only [] at this; omega⟩))⟩
      · rw [orO_yes (by rw [g]; first | exact n2 | exact n3)]
        exact .inr ⟨by rw [g]; first | exact n2 | exact n3, .inr g, rfl, rfl, .inr (.inr (.inl ⟨rfl, fun h => by have := over_two.1 h; simp only [] at this; omega⟩))⟩
    · rw [h4, orO_yes h3]
      refine .inr ⟨h3, ?_, rfl, rfl, .inr (.inl ⟨rfl, i, by omega, rfl, fun h => over_two.1 h⟩)⟩
      rcases over_cases (x.pts.getD i (0, 0)) (j.w.points.getD i (0, 0)).2 with g | g | g
      · exact absurd g h3
      · exact .inl g
      · exact .inr g
theorem dead_cases {j : Jb} {s : Int} : (deadV j s = noOc ∧ j.k.pore ≤ j.p.weight * (allV j).1 ∧ ∀ i, i < j.w.points.length → overP (leftV j (j.w.points.getD i (0, 0)).1) (j.w.points.getD i (0, 0)).2 = 0) ∨ ((deadV j s).is ≠ 0 ∧ ((deadV j s).is = 2 ∨ (deadV j s).is = 3) ∧ (deadV j s).step = s ∧ (deadV j s).err = 0 ∧ (deadV j s).why = 5) := by
  unfold deadV
  split
  · exact .inr ⟨n2, .inl rfl, rfl, rfl, rfl⟩
  · rename_i h
    rcases firstO_cases (deadO j s) j.w.points.length 0 with ⟨h1, h2⟩ | ⟨i, h1, h2, h3, h4, h5⟩
    · exact .inl ⟨h1, by omega, fun i hi => h2 i (Nat.zero_le _) (by omega)⟩
    · rw [h4]
      refine .inr ⟨h3, ?_, rfl, rfl, rfl⟩
      rcases over_cases (leftV j (j.w.points.getD i (0, 0)).1) (j.w.points.getD i (0, 0)).2 with g | g | g
      · exact absurd g h3
      · exact .inl g
      · exact .inr g
theorem step_cases {j : Jb} {k : Nat} : ((stepO j k).is = 0 ∧ ∀ e, -1 ≤ e → e ≤ 1 → (lookV j (k : Int) e).is = 0) ∨ ∃ e, -1 ≤ e ∧ e ≤ 1 ∧ stepO j k = lookV j (k : Int) e ∧ (lookV j (k : Int) e).is ≠ 0 := by
  by_cases h1 : (lookV j (k : Int) (-1)).is = 0
  · by_cases h2 : (lookV j (k : Int) 0).is = 0
    · by_cases h3 : (lookV j (k : Int) 1).is = 0
      · refine .inl ⟨by unfold stepO; rw [orO_no h1, orO_no h2]; exact h3, fun e a b => ?_⟩
        rcases (show e = -1 ∨ e = 0 ∨ e = 1 by omega) with rfl | rfl | rfl
        · exact h1
        · exact h2
        · exact h3
      · exact .inr ⟨1, by decide, by decide, by unfold stepO; rw [orO_no h1, orO_no h2], h3⟩
    · exact .inr ⟨0, by decide, by decide, by unfold stepO; rw [orO_no h1, orO_yes h2], h2⟩
  · exact .inr ⟨-1, by decide, by decide, by unfold stepO; rw [orO_yes h1], h1⟩
/-- The ways an outcome comes about. -/
theorem ends_cases (j : Jb) : (∃ (k : Nat) (e : Int), k ≤ lastN j ∧ -1 ≤ e ∧ e ≤ 1 ∧ endsV j = lookV j (k : Int) e ∧ (lookV j (k : Int) e).is ≠ 0) ∨
    ((∀ (k : Nat) (e : Int), k ≤ lastN j → -1 ≤ e → e ≤ 1 → (lookV j (k : Int) e).is = 0) ∧
      ((overS j (lastN j) = true ∧ endsV j = deadV j (lastN j : Int) ∧ (deadV j (lastN j : Int)).is ≠ 0) ∨ (overS j (lastN j) = true ∧ (deadV j (lastN j : Int)).is = 0 ∧ endsV j = ⟨1, (lastN j : Int), 0, 0, 0⟩) ∨ (overS j (lastN j) = false ∧ endsV j = ⟨3, 400, 0, 6, 0⟩))) := by
  rcases firstO_cases (stepO j) (lastN j + 1) 0 with ⟨h1, h2⟩ | ⟨k, h1, h2, h3, h4, h5⟩
  · refine .inr ⟨fun k e hk e0 e1 => ?_, ?_⟩
    · rcases step_cases (j := j) (k := k) with h | ⟨d, d0, d1, e, h⟩
      · exact h.2 e e0 e1
      · exact absurd (h2 k (Nat.zero_le _) (by omega)) (by rw [e]; exact h)
    · unfold endsV
      rw [h1, orO_no rfl]
      unfold endO
      by_cases ho : overS j (lastN j) = true
      · rw [if_pos ho]
        by_cases hd : (deadV j (lastN j : Int)).is = 0
        · exact .inr (.inl ⟨ho, hd, orO_no hd⟩)
        · exact .inl ⟨ho, orO_yes hd, hd⟩
      · rw [if_neg ho]
        exact .inr (.inr ⟨by simpa using ho, rfl⟩)
  · rcases step_cases (j := j) (k := k) with h | ⟨e, e0, e1, he, h⟩
    · exact absurd h.1 h3
    · refine .inl ⟨k, e, by omega, e0, e1, ?_, h⟩
      unfold endsV
      rw [h4, orO_yes h3, he]
end Go.Proofs.Ytmdmgpikbebejaa
/- What is to be shown of each function, as the executor has it. Printed by trees.py. -/
namespace Go.Proofs.Ytmdmgpikbebejaa
end Go.Proofs.Ytmdmgpikbebejaa
/- Kill: the amount of gas is kept: the law. -/
namespace Go.Proofs.Ytmdmgpikbebejaa
open Go.RowKit
set_option linter.unusedSimpArgs false
set_option linter.unusedVariables false

end Go.Proofs.Ytmdmgpikbebejaa
/- Kill: with greater limits, too: the law. -/
namespace Go.Proofs.Ytmdmgpikbebejaa
open Go.RowKit
set_option linter.unusedSimpArgs false
set_option linter.unusedVariables false

/-! Plain -/
/-- The same but for greater limits. -/
structure Wider (j i : Jb) : Prop where
  segs : i.w.segs = j.w.segs
  weight : i.w.weight = j.w.weight
  pipe : i.w.pipe = j.w.pipe
  step : i.w.step = j.w.step
  p : i.p = j.p
  k : i.k = j.k
  limit : j.w.limit ≤ i.w.limit
  len : i.w.points.length = j.w.points.length
  pts : ∀ n, (i.w.points.getD n (0, 0)).1 = (j.w.points.getD n (0, 0)).1 ∧ (j.w.points.getD n (0, 0)).2 ≤ (i.w.points.getD n (0, 0)).2
theorem map_fst {α : Type} (f : Int → α) : ∀ {a b : List Kn}, a.length = b.length → (∀ n, (a.getD n (0, 0)).1 = (b.getD n (0, 0)).1) → a.map (fun p => f p.1) = b.map (fun p => f p.1)
  | [], [], _, _ => rfl
  | x :: a, y :: b, h, hf => by
    have h0 := hf 0
    simp only [List.getD_cons_zero] at h0
    rw [List.map_cons, List.map_cons, h0, map_fst f (by simpa using h) fun n => by have := hf (n + 1); simpa using this]
  | [], _ :: _, h, _ => by simp at h
  | _ :: _, [], h, _ => by simp at h
theorem wider_mom {j i : Jb} (h : Wider j i) (s e : Int) : momentV i s e = momentV j s e := by
  obtain ⟨⟨a1, a2, a3, a4, a5, a6⟩, ap, ak⟩ := j
  obtain ⟨⟨b1, b2, b3, b4, b5, b6⟩, bp, bk⟩ := i
  obtain ⟨e1, e2, e3, e4, e5, e6, -, hl, hp⟩ := h
  simp only [] at e1 e2 e3 e4 e5 e6 hl hp
  subst e1 e2 e3 e4 e5 e6
  have hm : ∀ {α : Type} (f : Int → α), b3.map (fun p => f p.1) = a3.map (fun p => f p.1) := fun f => map_fst f hl fun n => (hp n).1
  unfold momentV
  split
  · unfold pushedV
    simp only []
    rw [hm (fun u => patV _ _ _ u)]
    rfl
  · unfold risingV
    simp only []
    rw [hm (fun u => ratV _ _ _ u)]
    rfl
theorem wider_over {j i : Jb} (h : Wider j i) (n : Nat) : overS i n = overS j n := by
  unfold overS
  rw [wider_mom h]
  unfold overV
  rw [h.p, h.segs]
theorem wider_last {j i : Jb} (h : Wider j i) : lastN i = lastN j := by
  unfold lastN
  rw [show overS i = overS j from funext fun n => wider_over h n]
theorem over_wider {p : Kn} {a b : Int} (h : a ≤ b) (h0 : overP p a = 0) : overP p b = 0 := by
  rw [over_zero] at *; omega
theorem wider_look {j i : Jb} (h : Wider j i) {s e : Int} (h0 : (lookV j s e).is = 0) : (lookV i s e).is = 0 := by
  rcases look_cases (j := j) (s := s) (e := e) with ⟨-, g1, g2, g3, g4, g5⟩ | ⟨g, -⟩
  · unfold lookV
    rw [h.p, h.k, if_neg (show ¬ botV j.p j.k e < j.k.pore by omega), wider_mom h]
    unfold lookM
    rw [firstO_all _ _ fun n _ hn => ?_, orO_no rfl, orO_no (over_zero.2 ⟨by simp only []; omega, by simp only []; omega⟩), orO_no (over_wider h.limit (over_zero.2 ⟨g4, g5⟩))]
    · rfl
    · exact over_wider (h.pts n).2 (over_zero.2 (g2 n (by rw [← h.len]; omega)))
  · exact absurd h0 g
theorem wider_dead {j i : Jb} (h : Wider j i) {s : Int} (h0 : (deadV j s).is = 0) : (deadV i s).is = 0 := by
  rcases dead_cases (j := j) (s := s) with ⟨-, g1, g2⟩ | ⟨g, -⟩
  · have ha : allV i = allV j := by unfold allV; rw [h.segs]
    unfold deadV
    rw [ha, h.p, h.k, if_neg (show ¬ j.p.weight * (allV j).1 < j.k.pore by omega), firstO_all _ _ fun n _ hn => ?_]
    · rfl
    · show overP (leftV i (i.w.points.getD n (0, 0)).1) (i.w.points.getD n (0, 0)).2 = 0
      have hl : leftV i (i.w.points.getD n (0, 0)).1 = leftV j (j.w.points.getD n (0, 0)).1 := by
        unfold leftV
        rw [ha, h.p, h.segs, (h.pts n).1]
      rw [hl]
      exact over_wider (h.pts n).2 (g2 n (by rw [← h.len]; omega))
  · exact absurd h0 g
theorem wider_ends {j i : Jb} (h : Wider j i) (hk : (endsV j).is = 1) : endsV i = endsV j := by
  have hl := wider_last h
  have h1 : ∀ {k : Nat} {e : Int}, endsV j = lookV j (k : Int) e → (lookV j (k : Int) e).is ≠ 0 → False := fun {k e} he hne => by
    rcases look_cases (j := j) (s := (k : Int)) (e := e) with ⟨g, -⟩ | ⟨-, g, -⟩
    · rw [g] at hne; exact hne rfl
    · rw [he] at hk; omega
  rcases ends_cases j with ⟨k, e, -, -, -, he, hne⟩ | ⟨hz, ⟨-, he, hne⟩ | ⟨ho, hd, he⟩ | ⟨-, he⟩⟩
  · exact (h1 he hne).elim
  · rcases dead_cases (j := j) (s := (lastN j : Int)) with ⟨g, -⟩ | ⟨-, g, -⟩
    · rw [g] at hne; exact absurd rfl hne
    · rw [he] at hk; omega
  · have hd' := wider_dead h hd
    rcases ends_cases i with ⟨k, e, k1, e0, e1, -, hne⟩ | ⟨-, ⟨-, -, hne⟩ | ⟨-, -, he'⟩ | ⟨ho', -⟩⟩
    · exact absurd (wider_look h (hz k e (by rw [← hl]; exact k1) e0 e1)) hne
    · rw [hl] at hne; exact absurd hd' hne
    · rw [he', he, hl]
    · rw [hl, wider_over h, ho] at ho'; cases ho'
  · rw [he] at hk; simp at hk
end Go.Proofs.Ytmdmgpikbebejaa
/- Kill: the plain laws of sets of kicks. -/
namespace Go.Proofs.Ytmdmgpikbebejaa
set_option linter.unusedVariables false
set_option linter.unusedSimpArgs false

theorem runB_asc {l : List Int} {m : Int} (hm : 1 ≤ m) : ∀ (n i : Nat) (a : Int), asc2 (runB l m n i a) = true
  | 0, _, _ => rfl
  | 1, _, _ => rfl
  | n + 2, i, a => by
    have ih := runB_asc (l := l) hm (n + 1) (i + 1) (a + 1 + pickV l i % m)
    have hb := (runB_box (l := l) hm (n + 1) (i + 1) (a + 1 + pickV l i % m) (a + 1 + pickV l i % m + 1 + pickV l ((i + 1 : Nat) : Int) % m) (by rw [runB]; exact List.mem_cons_self ..)).1
    rw [runB]
    rw [runB] at ih ⊢
    rw [asc2, ih, Bool.and_true]
    exact decide_eq_true (by omega)
theorem listE_0 {l : List Int} (h1 : 1 ≤ l.length) (h2 : l.length ≤ 8) (h3 : asc2 l = true) : listE l = 0 := by
  unfold listE
  rw [if_neg (by omega), if_neg (by omega), if_pos h3]
/-- The sets of numbers are valid. -/
theorem setB_ok (x : Br) : setE (volsB x) (poresB x) = 0 := by
  have m1 := many_box x.vols
  have m2 := many_box x.pores
  have l1 := volsB_len x
  have l2 := poresB_len x
  have a1 : asc2 (volsB x) = true := runB_asc (by decide) _ _ _
  have a2 : asc2 (poresB x) = true := runB_asc (by decide) _ _ _
  refine (setE_3 (vs := volsB x) (ps := poresB x) (t := false) (listE_0 (by omega) (by omega) a1) (listE_0 (by omega) (by omega) a2) ?_).trans rfl
  rw [Bool.or_eq_false_iff]
  refine ⟨?_, ?_⟩
  · cases h : (volsB x).any badVol with
    | false => rfl
    | true =>
      obtain ⟨v, hv, hb⟩ := List.any_eq_true.1 h
      have := volsB_box x v hv
      unfold badVol at hb
      rw [kickB_ok (by omega) (by omega)] at hb
      exact absurd hb (by decide)
  · cases h : (poresB x).any badPore with
    | false => rfl
    | true =>
      obtain ⟨v, hv, hb⟩ := List.any_eq_true.1 h
      have := poresB_box x v hv
      unfold badPore at hb
      rw [kickB_ok (by omega) (by omega)] at hb
      exact absurd hb (by decide)
theorem bothB_ok {w : Wl} {p : Pg} (h1 : wellV w = 0) (h2 : progV p = 0) : bothE w p = 0 := orE_iff.2 ⟨h1, h2⟩
end Go.Proofs.Ytmdmgpikbebejaa
/- Kill: the greatest kicks and the first program: the law. -/
namespace Go.Proofs.Ytmdmgpikbebejaa
open Go.RowKit
set_option linter.unusedSimpArgs false
set_option linter.unusedVariables false

theorem firstN_mono {p q : Nat → Bool} (h : ∀ k, p k = false → q k = false) : ∀ (n a : Nat), firstN p n a ≤ firstN q n a
  | 0, a => by simp [firstN]
  | n + 1, a => by
    rw [firstN, firstN]
    cases hq : q a with
    | true =>
      have hp : p a = true := by
        cases hp : p a with
        | true => rfl
        | false => rw [h a hp] at hq; cases hq
      rw [if_pos hp, if_pos rfl]; exact Nat.le_refl _
    | false =>
      rw [if_neg (by decide : ¬ false = true)]
      split
      · have := firstN_le q n (a + 1); omega
      · exact firstN_mono h n (a + 1)
theorem wide_killed {w : Wl} {p : Pg} {pore step d : Int} (hd : 0 ≤ d) (k : Nat) (h : notKilled w p pore step k = false) : notKilled { w with limit := w.limit + d } p pore step k = false := by
  unfold notKilled at *
  have h1 : (endsV ⟨w, p, ⟨((k : Int) + 1) * step, pore⟩⟩).is = 1 := by
    have : ¬ (endsV ⟨w, p, ⟨((k : Int) + 1) * step, pore⟩⟩).is ≠ 1 := fun hx => by rw [bne_iff_ne.2 hx] at h; cases h
    omega
  rw [wider_ends (j := ⟨w, p, ⟨((k : Int) + 1) * step, pore⟩⟩) (i := ⟨{ w with limit := w.limit + d }, p, ⟨((k : Int) + 1) * step, pore⟩⟩) ⟨rfl, rfl, rfl, rfl, rfl, rfl, by show w.limit ≤ w.limit + d; omega, rfl, fun n => ⟨rfl, Int.le_refl _⟩⟩ h1, h1]
  rfl
/-- What is chosen of two programs. -/
theorem cho_two {w : Wl} {p q : Pg} {vs ps : List Int} (h1 : verE w p vs ps = 0) (h2 : verE w q vs ps = 0) : choV w [p, q] vs ps = (if (verOut w p vs ps).2.is = 1 then 0 else if (verOut w q vs ps).2.is = 1 then 1 else -1, 0) := by
  unfold choV
  rw [if_neg (by simp), choGo, if_pos h1]
  split
  · rfl
  · rw [choGo, if_pos h2]
    split
    · rfl
    · rfl
def tolOK (w : Wl) (p : Pg) (pore step most : Int) : Prop := tolE w p pore step most = 0 ∧ tolV w p pore step most = (firstN (notKilled w p pore step) most.toNat 0 : Int)
theorem tol_in {w : Wl} {p : Pg} {pore step most : Int} (h1 : wellV w = 0) (h2 : progV p = 0) (h3 : 1 ≤ pore ∧ pore ≤ 17179869184) (h4 : 1 ≤ step ∧ step ≤ 65536) (h5 : 0 ≤ most ∧ most ≤ 64) : tolOK w p pore step most := by
  have hE : tolE w p pore step most = 0 := by unfold tolE orE; rw [if_pos (bothB_ok h1 h2), if_pos ⟨kickB_ok (by decide) h3, by omega, by omega, by omega, by omega⟩]
  exact ⟨hE, by unfold tolV; rw [if_pos hE]⟩
theorem well_limit {s : List Sg} {wt : Int} {ps : List Kn} {li li' pi st : Int} (h : wellV ⟨s, wt, ps, li, pi, st⟩ = 0) (hp : 0 ≤ li' ∧ li' ≤ 68719476736) : wellV ⟨s, wt, ps, li', pi, st⟩ = 0 := by
  have w := wellV_ok h
  rcases wellV_last (li := li') (pi := pi) (st := st) w.1 w.2.1 w.2.2.1 w.2.2.2.1 with h | h
  · exact h.2.2.2
  · exfalso; omega
set_option maxRecDepth 8000 in
set_option maxHeartbeats 2000000 in
theorem lmost_ok : CtOK Try.prog 12 (ctLaw [boreSh, boreSh, .lf .int, .lf .int, .lf .int]) := by
  refine ct_ok (cx := clmost) (Tab.cx_ok (all_cons kwellA_ok (all_cons (up7_ok (up6_ok (up5_ok kprog_ok))) (all_cons (up7_ok (up6_ok (up5_ok kkicks_ok))) (all_cons (up7_ok (up6_ok (up5_ok mod_ok))) (all_cons (up7_ok (up6_ok (up5_ok mod64_ok))) (all_cons (up7_ok ver_ok) (all_cons (up7_ok (up6_ok kends_ok)) (all_cons (up7_ok tol_ok) (all_cons (up7_ok cho_ok) (all_cons (up7_ok (up6_ok (up5_ok awake_ok))) all_nil))))))))))) Try.func12 (bds := []) (T := tlmost) (by kernel_rfl) ?_
  have h1 : clmost.ct 23 = some ctKWellA := rfl
  have h2 : clmost.ct 24 = some ctKProg := rfl
  have h3 : clmost.ct 25 = some ctKKicks := rfl
  have h4 : clmost.ct 26 = some ctMod := rfl
  have h4' : clmost.ct 29 = some ctMod := rfl
  have h5 : clmost.ct 36 = some ctVerify := rfl
  have h6 : clmost.ct 35 = some ctEndsK := rfl
  have h7 : clmost.ct 14 = some ctAwake := rfl
  have h8 : clmost.ct 38 = some ctTol := rfl
  have h9 : clmost.ct 39 = some ctChoose := rfl
  unfold tlmost
  simp only [VC, allC, List.map_cons, List.map_nil, List.length_cons, List.length_nil, List.getElem?_cons_zero, List.getElem?_cons_succ, List.cons.injEq, C.i.injEq, C.b.injEq, and_true, true_and, forall_const, kindsOf_nil, kindsOf_lf, kindsOf_agg, kindsOf_box, boxKinds_nil, boxKinds_lf, boxKinds_agg, boxKinds_box, List.append_nil, List.cons_append, List.nil_append, den_cmp_le, den_cmp_lt, den_cmp_eq, den_cmp_ne, den_cmp_le', den_cmp_lt', den_cmp_eq', den_cmp_ne', den_and, den_and', den_or, den_or', den_not, den_not', den_blit, den_of, ev_var, at_0, at_1, at_2, at_3, at_4, at_5, at_6, at_7, at_skip, c_int, c_bool, c_arr, c_cnt, c_vec, ev_nil, ev_join, ev_sub3, loc_s, int_i, bool_b, rows_s, cs_nil, cs_cons, E.den_lit, E.den_var, E.den_add, E.den_sub, E.den_mul, E.den_quo, E.den_rem, E.den_max, E.den_min, E.den_len, E.den_wr, E.den_cell, Nat.reduceAdd, h1, h3, ctKWellA, ctKWell, ctKKicks, ctLaw, ctF, boreSh, wellSh, wellKs, n_]
  intro u1 r1 _ _ _ u2 r2 _ _ _ we _ _ li _ _ pi _ _ st _ _ ki _ _ kl _ _ ma _ _ er _ _ u3 r3 _ _ _ u4 r4 _ _ _ y1 t1 _ _ _ y2 t2 _ _ _ ywe _ _ yli _ _ ypi _ _ yst _ _ yki _ _ ykl _ _ yma _ _ yer _ _ y3 t3 _ _ _ y4 t4 _ _ _ sp _ _ mo _ _ mx _ _
  obtain ⟨x, hx⟩ : ∃ x, x = brOf [C.s u1 r1, C.s u2 r2, C.i we, C.i li, C.i pi, C.i st, C.i ki, C.i kl, C.i ma, C.i er, C.s u3 r3, C.s u4 r4] 0 := ⟨_, rfl⟩
  obtain ⟨y, hy⟩ : ∃ y, y = brOf [C.s y1 t1, C.s y2 t2, C.i ywe, C.i yli, C.i ypi, C.i yst, C.i yki, C.i ykl, C.i yma, C.i yer, C.s y3 t3, C.s y4 t4] 0 := ⟨_, rfl⟩
  rw [← hx]
  refine ⟨bds_nil _, fun xs => wellOf xs 0 = wellB x ∧ progOf xs 6 = progB x ∧ progOf xs 10 = progB y, ?_, ?_⟩
  · rintro v1 ro1 _ _ _ w _ _ v2 ro2 _ _ _ li2 _ _ pi2 _ _ st2 _ _ ⟨_, _, _, _, _, _, _, _, -, hw⟩
    unfold tlmost_3
    simp only [VC, allC, List.map_cons, List.map_nil, List.length_cons, List.length_nil, List.getElem?_cons_zero, List.getElem?_cons_succ, List.cons.injEq, C.i.injEq, C.b.injEq, and_true, true_and, forall_const, kindsOf_nil, kindsOf_lf, kindsOf_agg, kindsOf_box, boxKinds_nil, boxKinds_lf, boxKinds_agg, boxKinds_box, List.append_nil, List.cons_append, List.nil_append, den_cmp_le, den_cmp_lt, den_cmp_eq, den_cmp_ne, den_cmp_le', den_cmp_lt', den_cmp_eq', den_cmp_ne', den_and, den_and', den_or, den_or', den_not, den_not', den_blit, den_of, ev_var, at_0, at_1, at_2, at_3, at_4, at_5, at_6, at_7, at_skip, c_int, c_bool, c_arr, c_cnt, c_vec, ev_nil, ev_join, ev_sub3, loc_s, int_i, bool_b, rows_s, cs_nil, cs_cons, E.den_lit, E.den_var, E.den_add, E.den_sub, E.den_mul, E.den_quo, E.den_rem, E.den_max, E.den_min, E.den_len, E.den_wr, E.den_cell, Nat.reduceAdd, h2, ctKProg, boreSh, progSh, ctF, n_, pgC]
    rw [← hx]
    rintro k1 _ _ k2 _ _ k3 _ _ k4 _ _ ⟨e1, e2, e3, e4⟩
    unfold tlmost_2
    simp only [VC, allC, List.map_cons, List.map_nil, List.length_cons, List.length_nil, List.getElem?_cons_zero, List.getElem?_cons_succ, List.cons.injEq, C.i.injEq, C.b.injEq, and_true, true_and, forall_const, kindsOf_nil, kindsOf_lf, kindsOf_agg, kindsOf_box, boxKinds_nil, boxKinds_lf, boxKinds_agg, boxKinds_box, List.append_nil, List.cons_append, List.nil_append, den_cmp_le, den_cmp_lt, den_cmp_eq, den_cmp_ne, den_cmp_le', den_cmp_lt', den_cmp_eq', den_cmp_ne', den_and, den_and', den_or, den_or', den_not, den_not', den_blit, den_of, ev_var, at_0, at_1, at_2, at_3, at_4, at_5, at_6, at_7, at_skip, c_int, c_bool, c_arr, c_cnt, c_vec, ev_nil, ev_join, ev_sub3, loc_s, int_i, bool_b, rows_s, cs_nil, cs_cons, E.den_lit, E.den_var, E.den_add, E.den_sub, E.den_mul, E.den_quo, E.den_rem, E.den_max, E.den_min, E.den_len, E.den_wr, E.den_cell, Nat.reduceAdd, h2, ctKProg, boreSh, progSh, ctF, n_, pgC]
    rw [← hy]
    rintro m1 _ _ m2 _ _ m3 _ _ m4 _ _ ⟨f1, f2, f3, f4⟩
    unfold tlmost_1
    simp only [VC, allC, List.map_cons, List.map_nil, List.length_cons, List.length_nil, List.getElem?_cons_zero, List.getElem?_cons_succ, List.cons.injEq, C.i.injEq, C.b.injEq, and_true, true_and, forall_const, kindsOf_nil, kindsOf_lf, kindsOf_agg, kindsOf_box, boxKinds_nil, boxKinds_lf, boxKinds_agg, boxKinds_box, List.append_nil, List.cons_append, List.nil_append, den_cmp_le, den_cmp_lt, den_cmp_eq, den_cmp_ne, den_cmp_le', den_cmp_lt', den_cmp_eq', den_cmp_ne', den_and, den_and', den_or, den_or', den_not, den_not', den_blit, den_of, ev_var, at_0, at_1, at_2, at_3, at_4, at_5, at_6, at_7, at_skip, c_int, c_bool, c_arr, c_cnt, c_vec, ev_nil, ev_join, ev_sub3, loc_s, int_i, bool_b, rows_s, cs_nil, cs_cons, E.den_lit, E.den_var, E.den_add, E.den_sub, E.den_mul, E.den_quo, E.den_rem, E.den_max, E.den_min, E.den_len, E.den_wr, E.den_cell, Nat.reduceAdd]
    refine ⟨hw, ?_, ?_⟩
    · show Pg.mk k1 k2 k3 k4 = _
      rw [e1, e2, e3, e4]
    · show Pg.mk m1 m2 m3 m4 = _
      rw [f1, f2, f3, f4]
  · rintro v1 ro1 _ _ _ w _ _ v2 ro2 _ _ _ li2 _ _ pi2 _ _ st2 _ _ k1 _ _ k2 _ _ k3 _ _ k4 _ _ m1 _ _ m2 _ _ m3 _ _ m4 _ _ ⟨hw, hp, hq⟩ v3 ro3 _ _ _ v4 ro4 _ _ _ ⟨_, _, _, _, ⟨q1, q2⟩, hv, hr⟩
    cases q1; cases q2
    have lr : ro4.length = (poresB x).length := by rw [← hr, ints_len]
    have lr2 := many_box x.pores
    rw [← poresB_len] at lr2
    obtain ⟨W, hW⟩ : ∃ W : Wl, W = ⟨segsOf ro1, w, knots ro2, li2, pi2, st2⟩ := ⟨_, rfl⟩
    obtain ⟨G, hG⟩ : ∃ G : Pg, G = ⟨k1, k2, k3, k4⟩ := ⟨_, rfl⟩
    obtain ⟨H, hH⟩ : ∃ H : Pg, H = ⟨m1, m2, m3, m4⟩ := ⟨_, rfl⟩
    have hw0 : wellV W = 0 := by rw [hW, show (⟨segsOf ro1, w, knots ro2, li2, pi2, st2⟩ : Wl) = wellB x from hw]; exact wellB_ok x
    have hp0 : progV G = 0 := by rw [hG, show (⟨k1, k2, k3, k4⟩ : Pg) = progB x from hp]; exact progB_ok x
    have hq0 : progV H = 0 := by rw [hH, show (⟨m1, m2, m3, m4⟩ : Pg) = progB y from hq]; exact progB_ok y
    have hli : li2 = x.limit % 1500000000 := congrArg Wl.limit hw
    obtain ⟨hE1, -⟩ := verE_0 (bothB_ok hw0 hp0) (setB_ok x)
    obtain ⟨hE2, -⟩ := verE_0 (bothB_ok hw0 hq0) (setB_ok x)
    have hk := kick_first hv hr
    obtain ⟨po, hpo⟩ : ∃ v, v = (ints ro4).getD 0 0 := ⟨_, rfl⟩
    rw [← hpo] at hk
    unfold tlmost_9
    simp only [VC, allC, List.map_cons, List.map_nil, List.length_cons, List.length_nil, List.getElem?_cons_zero, List.getElem?_cons_succ, List.cons.injEq, C.i.injEq, C.b.injEq, and_true, true_and, forall_const, kindsOf_nil, kindsOf_lf, kindsOf_agg, kindsOf_box, boxKinds_nil, boxKinds_lf, boxKinds_agg, boxKinds_box, List.append_nil, List.cons_append, List.nil_append, den_cmp_le, den_cmp_lt, den_cmp_eq, den_cmp_ne, den_cmp_le', den_cmp_lt', den_cmp_eq', den_cmp_ne', den_and, den_and', den_or, den_or', den_not, den_not', den_blit, den_of, ev_var, at_0, at_1, at_2, at_3, at_4, at_5, at_6, at_7, at_skip, c_int, c_bool, c_arr, c_cnt, c_vec, ev_nil, ev_join, ev_sub3, loc_s, int_i, bool_b, rows_s, cs_nil, cs_cons, E.den_lit, E.den_var, E.den_add, E.den_sub, E.den_mul, E.den_quo, E.den_rem, E.den_max, E.den_min, E.den_len, E.den_wr, E.den_cell, Nat.reduceAdd, h4, h4', ctMod, ctF, n_]
    refine ⟨by decide, fun sp2 _ _ es => ⟨by omega, by decide, fun mx2 _ _ em => ?_⟩⟩
    have bs : 0 ≤ sp2 ∧ sp2 ≤ 65535 := by omega
    have bm : 0 ≤ mx2 ∧ mx2 ≤ 8 := by omega
    obtain ⟨tE, tV⟩ := tol_in (step := 1 + sp2) (most := mx2) hw0 hp0 ⟨hk.2.1, by omega⟩ ⟨by omega, by omega⟩ ⟨by omega, by omega⟩
    unfold tlmost_8
    simp only [VC, allC, List.map_cons, List.map_nil, List.length_cons, List.length_nil, List.getElem?_cons_zero, List.getElem?_cons_succ, List.cons.injEq, C.i.injEq, C.b.injEq, and_true, true_and, forall_const, kindsOf_nil, kindsOf_lf, kindsOf_agg, kindsOf_box, boxKinds_nil, boxKinds_lf, boxKinds_agg, boxKinds_box, List.append_nil, List.cons_append, List.nil_append, den_cmp_le, den_cmp_lt, den_cmp_eq, den_cmp_ne, den_cmp_le', den_cmp_lt', den_cmp_eq', den_cmp_ne', den_and, den_and', den_or, den_or', den_not, den_not', den_blit, den_of, ev_var, at_0, at_1, at_2, at_3, at_4, at_5, at_6, at_7, at_skip, c_int, c_bool, c_arr, c_cnt, c_vec, ev_nil, ev_join, ev_sub3, loc_s, int_i, bool_b, rows_s, cs_nil, cs_cons, E.den_lit, E.den_var, E.den_add, E.den_sub, E.den_mul, E.den_quo, E.den_rem, E.den_max, E.den_min, E.den_len, E.den_wr, E.den_cell, Nat.reduceAdd, h4', h8, ctMod, ctTol, wellSh, wellKs, progSh, ctF, n_, ev_cell, in1, Int.toNat_zero]
    rw [← hpo]
    refine ⟨by omega, by omega, ?_⟩
    rintro a _ _ e _ _ ⟨ea, ee⟩
    have ea : a = tolV W G po (1 + sp2) mx2 := by rw [hW, hG]; exact ea
    have ee : e = tolE W G po (1 + sp2) mx2 := by rw [hW, hG]; exact ee
    rw [tE] at ee
    rw [tV] at ea
    refine ⟨by decide, fun d _ _ ed => ?_⟩
    have bd : 0 ≤ d ∧ d ≤ 1073741823 := by omega
    have hw1' : wellV ⟨segsOf ro1, w, knots ro2, li2 + d, pi2, st2⟩ = 0 := well_limit (li := li2) (by rw [← hW]; exact hw0) (by omega)
    have hw1 : wellV { W with limit := W.limit + d } = 0 := by rw [hW]; exact hw1'
    obtain ⟨tE2, tV2⟩ := tol_in (step := 1 + sp2) (most := mx2) hw1 hp0 ⟨hk.2.1, by omega⟩ ⟨by omega, by omega⟩ ⟨by omega, by omega⟩
    unfold tlmost_7
    simp only [VC, allC, List.map_cons, List.map_nil, List.length_cons, List.length_nil, List.getElem?_cons_zero, List.getElem?_cons_succ, List.cons.injEq, C.i.injEq, C.b.injEq, and_true, true_and, forall_const, kindsOf_nil, kindsOf_lf, kindsOf_agg, kindsOf_box, boxKinds_nil, boxKinds_lf, boxKinds_agg, boxKinds_box, List.append_nil, List.cons_append, List.nil_append, den_cmp_le, den_cmp_lt, den_cmp_eq, den_cmp_ne, den_cmp_le', den_cmp_lt', den_cmp_eq', den_cmp_ne', den_and, den_and', den_or, den_or', den_not, den_not', den_blit, den_of, ev_var, at_0, at_1, at_2, at_3, at_4, at_5, at_6, at_7, at_skip, c_int, c_bool, c_arr, c_cnt, c_vec, ev_nil, ev_join, ev_sub3, loc_s, int_i, bool_b, rows_s, cs_nil, cs_cons, E.den_lit, E.den_var, E.den_add, E.den_sub, E.den_mul, E.den_quo, E.den_rem, E.den_max, E.den_min, E.den_len, E.den_wr, E.den_cell, Nat.reduceAdd, h8, ctTol, wellSh, wellKs, progSh, ctF, n_, ev_cell, in1, Int.toNat_zero]
    rw [← hpo]
    refine ⟨by omega, by omega, by omega, by omega, ?_⟩
    rintro b _ _ f _ _ ⟨eb, ef⟩
    have eb : b = tolV { W with limit := W.limit + d } G po (1 + sp2) mx2 := by rw [hW, hG]; exact eb
    have ef : f = tolE { W with limit := W.limit + d } G po (1 + sp2) mx2 := by rw [hW, hG]; exact ef
    rw [tE2] at ef
    rw [tV2] at eb
    have n1 := firstN_le (notKilled W G po (1 + sp2)) mx2.toNat 0
    have n2 := firstN_le (notKilled { W with limit := W.limit + d } G po (1 + sp2)) mx2.toNat 0
    have n3 := firstN_mono (fun k => wide_killed (w := W) (p := G) (pore := po) (step := 1 + sp2) bd.1 k) mx2.toNat 0
    have n4 := fun k => firstN_no (notKilled W G po (1 + sp2)) mx2.toNat 0 k (Nat.zero_le _)
    generalize firstN (notKilled W G po (1 + sp2)) mx2.toNat 0 = A at *
    generalize firstN (notKilled { W with limit := W.limit + d } G po (1 + sp2)) mx2.toNat 0 = B2 at *
    unfold tlmost_6
    simp only [VC, allC, List.map_cons, List.map_nil, List.length_cons, List.length_nil, List.getElem?_cons_zero, List.getElem?_cons_succ, List.cons.injEq, C.i.injEq, C.b.injEq, and_true, true_and, forall_const, kindsOf_nil, kindsOf_lf, kindsOf_agg, kindsOf_box, boxKinds_nil, boxKinds_lf, boxKinds_agg, boxKinds_box, List.append_nil, List.cons_append, List.nil_append, den_cmp_le, den_cmp_lt, den_cmp_eq, den_cmp_ne, den_cmp_le', den_cmp_lt', den_cmp_eq', den_cmp_ne', den_and, den_and', den_or, den_or', den_not, den_not', den_blit, den_of, ev_var, at_0, at_1, at_2, at_3, at_4, at_5, at_6, at_7, at_skip, c_int, c_bool, c_arr, c_cnt, c_vec, ev_nil, ev_join, ev_sub3, loc_s, int_i, bool_b, rows_s, cs_nil, cs_cons, E.den_lit, E.den_var, E.den_add, E.den_sub, E.den_mul, E.den_quo, E.den_rem, E.den_max, E.den_min, E.den_len, E.den_wr, E.den_cell, Nat.reduceAdd, h6, h9, ctEndsK, ctChoose, wellSh, wellKs, progSh, bubSh, ocSh, ctF, n_, l_, ev_cell, in1, Int.toNat_zero, ocC, List.cons_append, List.nil_append]
    rw [← hpo]
    refine ⟨fun h => absurd ee h, fun _ => ⟨fun h => absurd ef h, fun _ => ⟨fun h => by omega, fun _ => ⟨fun h => by omega, fun _ => ⟨fun h => by omega, fun _ => ⟨fun h => by omega, fun _ => ?_⟩⟩⟩⟩⟩⟩
    have bmul := mul_box (a := a) (b := 1 + sp2) (A := 8) (B := 65536) (by omega) (by omega) (by omega) (by omega)
    refine ⟨fun _ => True, ⟨fun ha => ⟨by omega, by omega, by omega, ?_⟩, fun _ => trivial⟩, fun t _ => ?_⟩
    · have b1 : 1 * 1 ≤ a * (1 + sp2) := Int.mul_le_mul (by omega) (by omega) (by omega) (by omega)
      have hjv : jobV ⟨W, G, ⟨a * (1 + sp2), po⟩⟩ = 0 := jobV_iff.2 ⟨hw0, hp0, kickB_ok (by omega) (by omega)⟩
      have eJ : jobOf [C.s v1 ro1, C.i w, C.s v2 ro2, C.i li2, C.i pi2, C.i st2, C.i k1, C.i k2, C.i k3, C.i k4, C.i (a * (1 + sp2)), C.i po] 0 = ⟨W, G, ⟨a * (1 + sp2), po⟩⟩ := by rw [hW, hG]; rfl
      rw [eJ, endsOc_yes hjv, hjv]
      rintro o1 _ _ o2 _ _ o3 _ _ o4 _ _ o5 _ _ oe _ _ ⟨g1, -, -, -, -, g6⟩
      have hkill := n4 (A - 1) (by omega)
      unfold notKilled at hkill
      rw [show (((A - 1 : Nat) : Int) + 1) = a by omega, ← g1] at hkill
      have ho : o1 = 1 := by
        have : ¬ o1 ≠ 1 := fun hx => by rw [bne_iff_ne.2 hx] at hkill; cases hkill
        omega
      exact ⟨fun h => absurd g6 h, fun _ => ⟨fun h => absurd ho h, fun _ => trivial⟩⟩
    · rintro v5 n _ _ ne _ _ ⟨c1, c2⟩
      have hcho := cho_two hE1 hE2
      have c1 : n = (choV W [G, H] (volsB x) (poresB x)).1 := by rw [hW, hG, hH, ← hv, ← hr]; exact c1
      have c2 : ne = (choV W [G, H] (volsB x) (poresB x)).2 := by rw [hW, hG, hH, ← hv, ← hr]; exact c2
      rw [hcho] at c1 c2
      have c2 : ne = 0 := c2
      have c1 : n = if (verOut W G (volsB x) (poresB x)).2.is = 1 then 0 else if (verOut W H (volsB x) (poresB x)).2.is = 1 then 1 else -1 := c1
      unfold tlmost_5
      simp only [VC, allC, List.map_cons, List.map_nil, List.length_cons, List.length_nil, List.getElem?_cons_zero, List.getElem?_cons_succ, List.cons.injEq, C.i.injEq, C.b.injEq, and_true, true_and, forall_const, kindsOf_nil, kindsOf_lf, kindsOf_agg, kindsOf_box, boxKinds_nil, boxKinds_lf, boxKinds_agg, boxKinds_box, List.append_nil, List.cons_append, List.nil_append, den_cmp_le, den_cmp_lt, den_cmp_eq, den_cmp_ne, den_cmp_le', den_cmp_lt', den_cmp_eq', den_cmp_ne', den_and, den_and', den_or, den_or', den_not, den_not', den_blit, den_of, ev_var, at_0, at_1, at_2, at_3, at_4, at_5, at_6, at_7, at_skip, c_int, c_bool, c_arr, c_cnt, c_vec, ev_nil, ev_join, ev_sub3, loc_s, int_i, bool_b, rows_s, cs_nil, cs_cons, E.den_lit, E.den_var, E.den_add, E.den_sub, E.den_mul, E.den_quo, E.den_rem, E.den_max, E.den_min, E.den_len, E.den_wr, E.den_cell, Nat.reduceAdd, h5, h7, ctVerify, ctAwake, wellSh, wellKs, progSh, bubSh, ocSh, ctF, l_, ev_cell, bbC, ocC, List.cons_append, List.nil_append]
      refine ⟨fun h => absurd c2 h, fun _ => ⟨fun h => ?_, fun _ => ⟨fun h => ?_, fun _ => ?_⟩⟩⟩
      · split at c1
        · omega
        · split at c1 <;> omega
      · split at c1
        · omega
        · split at c1 <;> omega
      refine ⟨fun xs => match xs with | [_, .i i] => 0 ≤ i ∧ i ≤ 2 | _ => False, fun xs => match xs with | [_, .i i] => (2 - i).toNat | _ => 0, ⟨by omega, by omega⟩, ?_⟩
      rintro z i _ _ ⟨i0, i1⟩
      refine ⟨fun hlt => ⟨i0, by show i < ((2 : Nat) : Int); omega, ?_⟩, fun hge => fun t h => h⟩
      rintro d1 _ _ d2 _ _ o1 _ _ o2 _ _ o3 _ _ o4 _ _ o5 _ _ oe _ _ hh
      obtain ⟨D, hD⟩ : ∃ D : Pg, D = if i = 0 then G else H := ⟨_, rfl⟩
      have hh : o1 = (verOut W D (volsB x) (poresB x)).2.is ∧ oe = verE W D (volsB x) (poresB x) := by
        obtain ⟨-, -, g1, -, -, -, -, g2⟩ := hh
        rw [hD, hW]
        rcases (show i = 0 ∨ i = 1 by omega) with rfl | rfl
        · rw [if_pos rfl, hG, ← hv, ← hr]; exact ⟨g1, g2⟩
        · rw [if_neg (by decide), hH, ← hv, ← hr]; exact ⟨g1, g2⟩
      obtain ⟨g1, g2⟩ := hh
      have g2 : oe = 0 := by
        rw [g2, hD]
        split
        · exact hE1
        · exact hE2
      unfold tlmost_4
      simp only [VC, allC, List.map_cons, List.map_nil, List.length_cons, List.length_nil, List.getElem?_cons_zero, List.getElem?_cons_succ, List.cons.injEq, C.i.injEq, C.b.injEq, and_true, true_and, forall_const, kindsOf_nil, kindsOf_lf, kindsOf_agg, kindsOf_box, boxKinds_nil, boxKinds_lf, boxKinds_agg, boxKinds_box, List.append_nil, List.cons_append, List.nil_append, den_cmp_le, den_cmp_lt, den_cmp_eq, den_cmp_ne, den_cmp_le', den_cmp_lt', den_cmp_eq', den_cmp_ne', den_and, den_and', den_or, den_or', den_not, den_not', den_blit, den_of, ev_var, at_0, at_1, at_2, at_3, at_4, at_5, at_6, at_7, at_skip, c_int, c_bool, c_arr, c_cnt, c_vec, ev_nil, ev_join, ev_sub3, loc_s, int_i, bool_b, rows_s, cs_nil, cs_cons, E.den_lit, E.den_var, E.den_add, E.den_sub, E.den_mul, E.den_quo, E.den_rem, E.den_max, E.den_min, E.den_len, E.den_wr, E.den_cell, Nat.reduceAdd]
      have hbq : ∀ ρ : List C, at_ ρ 62 = .i o1 → at_ ρ 59 = .i i → at_ ρ 56 = .i n → B.den ρ ((B.cmp Cmp.eq (E.var 62) (E.lit 1)).beq (B.cmp Cmp.eq (E.var 59) (E.var 56))) = ((o1 == 1) == (i == n)) := fun ρ e1 e2 e3 => by
        show ((E.den ρ (E.var 62) == E.den ρ (E.lit 1)) == (E.den ρ (E.var 59) == E.den ρ (E.var 56))) = _
        rw [E.den_var, E.den_var, E.den_var, e1, e2, e3]
        rfl
      have back : (0 ≤ i + 1 ∧ i + 1 ≤ 2) ∧ (2 - (i + 1)).toNat < (2 - i).toNat := by omega
      refine ⟨fun h => absurd g2 h, fun _ => ⟨fun hb => ?_, fun _ => back⟩⟩
      rw [hbq _ rfl rfl rfl] at hb
      have hne : ¬ ((o1 = 1) ↔ (i = n)) := fun hx => by
        by_cases e : o1 = 1
        · rw [e, ← hx.1 e] at hb; simp at hb
        · have e' : ¬ i = n := fun h => e (hx.2 h)
          rw [beq_eq_false_iff_ne.2 e, beq_eq_false_iff_ne.2 e'] at hb
          cases hb
      have key : n ≠ -1 ∧ n < i := by
        rcases (show i = 0 ∨ i = 1 by omega) with rfl | rfl
        · rw [if_pos rfl] at hD
          rw [hD] at g1
          exfalso
          refine hne ⟨fun h => ?_, fun h => ?_⟩
          · rw [if_pos (by rw [← g1]; exact h)] at c1; omega
          · split at c1
            · rename_i hx; rw [g1]; exact hx
            · split at c1 <;> omega
        · rw [if_neg (by decide)] at hD
          rw [hD] at g1
          split at c1
          · omega
          · split at c1
            · rename_i hx; exact absurd ⟨fun _ => c1.symm, fun _ => by rw [g1]; exact hx⟩ hne
            · rename_i hx
              exact absurd ⟨fun h => absurd (by rw [← g1]; exact h) hx, fun h => by omega⟩ hne
      exact ⟨fun h => absurd h key.1, fun _ => ⟨fun h => by omega, fun _ => back⟩⟩
end Go.Proofs.Ytmdmgpikbebejaa
/- Arguments of any shape that the engine knows, opened: structs, and slices within slices. -/
namespace Go.Proofs.Ytmdmgpikbebejaa
open Go.ChangeShapes Go.WideShapes Go.RowKit
set_option linter.unusedVariables false
/-- A type of integers, truth values and slices, without arrays. -/
def flatB (P : Program) : Nat → TypeId → Bool
  | 0, _ => false
  | d + 1, t => match P.underlying t with
    | some (.int .i64) => true
    | some .bool => true
    | some (.slice _) => true
    | some (.struct fs) => fs.toList.all fun f => flatB P d f.type
    | _ => false
/-- What a slice of this kind holds is known, to depth n. -/
def deepB (P : Program) : Nat → Lk → Bool
  | _, .int => true
  | _, .bool => true
  | n + 1, .arr e => match kinds P e with
    | some ks => ks.all (deepB P n) && (P.cellsOf e == ks.length) && flatB P 6 e
    | none => false
  | _, _ => false
def CellN (P : Program) (w : World) (n : Nat) (k : Lk) (u : Value) (c : C) : Prop := (∀ m, c.small m) ∧ match k with
  | .int => ∃ n, u = .int .i64 n ∧ c = .i n
  | .bool => ∃ t, u = .bool t ∧ c = .b t
  | .arr t => ∃ rows', c = .s u rows' ∧ ArrN P (fun b _ => b < w.heap.size) w n t u rows'
  | .vec _ => False
def kStep (P : Program) (d : Nat) (acc : Option (List Lk)) (f : Field) : Option (List Lk) := match acc, kindsF P d f.type with
  | some l, some m => if l.length = f.offset then some (l ++ m) else none
  | _, _ => none
theorem kStep_none {P : Program} {d : Nat} : ∀ {fs : List Field}, fs.foldl (kStep P d) none = none
  | [] => rfl
  | f :: fs => by rw [List.foldl_cons]; exact kStep_none
theorem kStep_at {P : Program} {d : Nat} : ∀ {fs : List Field} {a ks : List Lk}, fs.foldl (kStep P d) (some a) = some ks → ∀ (j : Nat) (k : Lk), ks[j]? = some k →
    a[j]? = some k ∨ ∃ f ∈ fs, ∃ m, kindsF P d f.type = some m ∧ f.offset ≤ j ∧ m[j - f.offset]? = some k
  | [], a, ks, h, j, k, hj => by cases h; exact .inl hj
  | f :: fs, a, ks, h, j, k, hj => by
    rw [List.foldl_cons] at h
    cases hm : kindsF P d f.type with
    | none => rw [show kStep P d (some a) f = none by simp [kStep, hm], kStep_none] at h; cases h
    | some m =>
      by_cases hl : a.length = f.offset
      · rw [show kStep P d (some a) f = some (a ++ m) by simp [kStep, hm, hl]] at h
        rcases kStep_at h j k hj with h1 | ⟨g, hg, m', h2⟩
        · by_cases hja : j < a.length
          · rw [List.getElem?_append_left hja] at h1; exact .inl h1
          · rw [List.getElem?_append_right (by omega), hl] at h1
            exact .inr ⟨f, List.mem_cons_self .., m, hm, by omega, h1⟩
        · exact .inr ⟨g, List.mem_cons_of_mem _ hg, m', h2⟩
      · rw [show kStep P d (some a) f = none by simp [kStep, hm, hl], kStep_none] at h; cases h
theorem kinds_F {P : Program} {t : TypeId} {ks : List Lk} (h : kinds P t = some ks) : kindsF P 6 t = some ks := by
  unfold kinds at h
  split at h
  · rename_i l hl
    split at h
    · cases h; exact hl
    · cases h
  · cases h
section
variable {H : Type} {enc : TypeId × Value → H} {P : Program} {w : World} {base : Nat} {spare : Nat → Bool} {held : Bool}
theorem small_int {n : Int} (h : -9223372036854775808 ≤ n ∧ n ≤ 9223372036854775807) : ∀ m, (C.i n).small m := fun m => by cases m <;> exact h
theorem cells_deep : ∀ (fuel n d : Nat) (t : TypeId) (ks : List Lk) (cs : List Value) (x : DataW H × List MemPlace), kindsF P d t = some ks → flatB P d t = true →
    DataW.trod enc P w base spare held fuel t cs = some x → ∀ (j : Nat) (k : Lk), ks[j]? = some k → deepB P n k = true → ∃ u c, cs[j]? = some u ∧ CellN P w n k u c := by
  intro fuel
  induction fuel with
  | zero => intro n d t ks cs x _ _ hx; simp [DataW.trod] at hx
  | succ fuel ih =>
    intro n d t ks cs x hk hfl hx j k hj hall
    cases d with
    | zero => simp [kindsF] at hk
    | succ d =>
      unfold flatB at hfl
      cases hu : P.underlying t with
      | none => rw [hu] at hfl; cases hfl
      | some ty =>
      rw [hu] at hfl
      unfold kindsF at hk
      rw [hu] at hk
      match ty, hu, hfl, hk with
      | .int .i64, hu, hfl, hk =>
        cases hk
        obtain ⟨z, rfl, -, hwf⟩ := DataW.trod_int hu hx
        match j, hj with
        | 0, hj => cases hj; exact ⟨_, .i z, rfl, small_int (wf_bd hwf), z, rfl, rfl⟩
      | .bool, hu, hfl, hk =>
        cases hk
        obtain ⟨z, rfl, -⟩ := DataW.trod_bool hu hx
        match j, hj with
        | 0, hj => cases hj; exact ⟨_, .b z, rfl, fun m => by cases m <;> trivial, z, rfl, rfl⟩
      | .slice e, hu, hfl, hk =>
        cases hk
        match j, hj with
        | 0, hj =>
        cases hj
        cases n with
        | zero => simp [deepB] at hall
        | succ n =>
        have hd : deepB P (n + 1) (.arr e) = true := hall
        unfold deepB at hd
        cases hke : kinds P e with
        | none => rw [hke] at hd; cases hd
        | some kse =>
        rw [hke] at hd
        simp only [Bool.and_eq_true, beq_iff_eq] at hd
        obtain ⟨⟨hd1, hd2⟩, hd3⟩ := hd
        rcases DataW.trod_slice hu hx with ⟨rfl, -⟩ | ⟨a, len, cap, elems, rest, m, hm, rfl, -, -, hl, hc, hlen, hel, -, -⟩
        · refine ⟨_, .s (.slice none 0 0) [], rfl, fun m => ?_, [], rfl, kse, hke, none, 0, rfl, fun h => absurd rfl h⟩
          cases m with
          | zero => trivial
          | succ m => exact ⟨by simp, fun r hr => by cases hr⟩
        · cases hm
          have each : ∀ i, i < len → ∀ (j : Nat) (k : Lk), kse[j]? = some k → ∃ u c, w.cell? (a.add (i * kse.length + j)) = some u ∧ CellN P w n k u c := by
            intro i hi j k hj
            have h1 := hel i hi
            rw [List.getElem?_eq_getElem (by omega), hd2] at h1
            obtain ⟨cs', h2, h3⟩ := Option.bind_eq_some_iff.1 h1
            obtain ⟨_, hlen', hcell⟩ := World.cells?_some h2
            obtain ⟨u, c, h4, h5⟩ := ih n 6 e kse cs' _ (kinds_F hke) hd3 h3 j k hj (List.all_eq_true.1 hd1 k (List.mem_of_getElem? hj))
            refine ⟨u, c, ?_, h5⟩
            have hjl : j < kse.length := by
              rcases Nat.lt_or_ge j kse.length with h | h
              · exact h
              · rw [List.getElem?_eq_none h] at hj; cases hj
            rw [← h4, ← hcell j hjl, Go.Deep.add_add]
          have each2 : ∀ i j, ∃ c : C, i < len → ∀ k, kse[j]? = some k → ∃ u, w.cell? (a.add (i * kse.length + j)) = some u ∧ CellN P w n k u c := by
            intro i j
            by_cases hi : i < len
            · cases hj : kse[j]? with
              | none => exact ⟨.i 0, fun _ k h => by cases h⟩
              | some k =>
                obtain ⟨u, c, h1, h2⟩ := each i hi j k hj
                exact ⟨c, fun _ k' h => by cases h; exact ⟨u, h1, h2⟩⟩
            · exact ⟨.i 0, fun h => absurd h hi⟩
          let f : Nat → Nat → C := fun i j => (each2 i j).choose
          have hf : ∀ i j, i < len → ∀ k, kse[j]? = some k → ∃ u, w.cell? (a.add (i * kse.length + j)) = some u ∧ CellN P w n k u (f i j) := fun i j => (each2 i j).choose_spec
          let rows : List (List C) := (List.range len).map fun i => (List.range kse.length).map fun j => f i j
          have hrl : rows.length = len := by simp [rows]
          refine ⟨_, .s (.slice (some a) len cap) rows, rfl, fun q => ?_, rows, rfl, kse, hke, some a, cap, by rw [hrl], fun hne => ?_⟩
          · cases q with
            | zero => trivial
            | succ q =>
              refine ⟨by rw [hrl]; unfold maxLen at hc; omega, fun r hr c hcr => ?_⟩
              obtain ⟨i, hi, rfl⟩ := List.mem_map.1 hr
              obtain ⟨j, hj, rfl⟩ := List.mem_map.1 hcr
              rw [List.mem_range] at hi hj
              obtain ⟨u, -, h⟩ := hf i j hi _ (List.getElem?_eq_getElem hj)
              exact h.1 q
          · have hpos : 0 < len := by
              rcases Nat.eq_zero_or_pos len with h | h
              · exact absurd (List.eq_nil_of_length_eq_zero (by rw [hrl]; exact h)) hne
              · exact h
            have hk0 : 0 < kse.length := Nat.pos_of_ne_zero (kinds_size hke).2
            obtain ⟨u0, h0, -⟩ := hf 0 0 hpos _ (List.getElem?_eq_getElem hk0)
            obtain ⟨b, o, s⟩ := a
            have hs : s = none := by simpa [Addr.add] using World.cell?_spot h0
            subst hs
            have hblk : b < w.heap.size := by
              have := World.block_lt_of_cell? _ _ h0
              simpa [Addr.add] using this
            refine ⟨b, o, rfl, by rw [hrl]; exact hl, fun i r hi => ?_⟩
            have hi' : i < len := by
              rcases Nat.lt_or_ge i len with h | h
              · exact h
              · rw [List.getElem?_eq_none (by rw [hrl]; exact h)] at hi; cases hi
            have hr : r = (List.range kse.length).map fun j => f i j := by
              simp only [rows, List.getElem?_map, List.getElem?_range hi', Option.map_some] at hi
              exact (Option.some.inj hi).symm
            subst hr
            refine ⟨by simp, fun j k hj => ⟨hblk, ?_⟩⟩
            have hjl : j < kse.length := by
              rcases Nat.lt_or_ge j kse.length with h | h
              · exact h
              · rw [List.getElem?_eq_none h] at hj; cases hj
            obtain ⟨u, h1, h2⟩ := hf i j hi' k hj
            refine ⟨u, f i j, by rw [← Go.WideShapes.add_plain]; exact h1, by simp [List.getElem?_range hjl], ?_⟩
            exact h2.2
      | .struct fs, hu, hfl, hk =>
        obtain ⟨xs, m, hm, -, -, hxl, hf⟩ := DataW.trod_struct hu hx
        cases hm
        have hk' : fs.toList.foldl (kStep P d) (some []) = some ks := hk
        rcases kStep_at hk' j k hj with h | ⟨f, hfm, m', hm', ho, hmj⟩
        · simp at h
        · obtain ⟨i, hi⟩ := List.mem_iff_getElem?.1 hfm
          have hi' : fs[i]? = some f := by rw [← hi]; simp
          have hil : i < xs.length := by
            rw [hxl]
            rcases Nat.lt_or_ge i fs.size with h | h
            · exact h
            · rw [Array.getElem?_eq_none h] at hi'; cases hi'
          have hg := hf i f hi'
          rw [List.getElem?_eq_getElem hil] at hg
          obtain ⟨u, c, h1, h2⟩ := ih n d f.type m' _ _ hm' (List.all_eq_true.1 hfl f hfm) hg (j - f.offset) k hmj hall
          refine ⟨u, c, ?_, h2⟩
          rw [List.getElem?_take] at h1
          split at h1
          · rw [List.getElem?_drop] at h1
            rw [← h1]; congr 1; omega
          · cases h1
theorem CellN.rep {n : Nat} {k : Lk} {u : Value} {c : C} (h : CellN P w n k u c) : LRep P w (fun _ _ => False) k u c := by
  refine ⟨h.1, ?_⟩
  cases k with
  | int => exact h.2
  | bool => exact h.2
  | arr t =>
    obtain ⟨rows, rfl, hA⟩ := h.2
    exact ⟨rfl, u, rows, rfl, n, _, fun b o hb => ⟨hb, fun h => h⟩, hA⟩
  | vec t => exact h.2.elim
theorem lreps_of : ∀ {ks : List Lk} {us : List Value} {n : Nat}, us.length = ks.length → (∀ (j : Nat) (k : Lk), ks[j]? = some k → ∃ u c, us[j]? = some u ∧ CellN P w n k u c) → ∃ rs, LReps P w (fun _ _ => False) ks us rs
  | [], [], _, _, _ => ⟨[], trivial⟩
  | k :: ks, u :: us, n, hl, h => by
    obtain ⟨u', c, hu, hc⟩ := h 0 k rfl
    cases hu
    obtain ⟨rs, hr⟩ := lreps_of (ks := ks) (us := us) (n := n) (by simpa using hl) fun j k hj => h (j + 1) k hj
    exact ⟨c :: rs, hc.rep, hr⟩
  | [], _ :: _, _, hl, _ => by simp at hl
  | _ :: _, [], _, hl, _ => by simp at hl
/-- A struct of integers, truth values and slices among the arguments. -/
theorem open_agg {r : Reach} {b0 n : Nat} {t : TypeId} {fs : Array Field} {v : Value} {d : DataW H} {p : List MemPlace} {ks : List Lk} (hu : P.underlying t = some (.struct fs)) (hk : kindsF P 6 t = some ks) (hfl : flatB P 6 t = true)
    (hd : ks.all (deepB P n) = true) (hc : P.cellsOf t = ks.length) (hv : Value.okWide P w r b0 t v) (hx : DataW.Trod enc P w base spare held t v d p) :
    ∃ us : List Value, v = .agg us.toArray ∧ ∃ rs, LReps P w (fun _ _ => False) ks us rs := by
  obtain ⟨cs, rfl, hsz⟩ := okWide_struct hu hv
  obtain ⟨fuel, hf⟩ := hx
  have hf : DataW.trod enc P w base spare held fuel t cs.toList = some (d, p) := hf
  obtain ⟨-, -, -, -, hlen, -, -⟩ := DataW.trod_struct hu hf
  exact ⟨cs.toList, by simp, lreps_of (n := n) (hlen.trans hc) fun j k hj => cells_deep fuel n 6 t ks _ _ hk hfl hf j k hj (List.all_eq_true.1 hd k (List.mem_of_getElem? hj))⟩
end
theorem rep_struct {W : World} {O : Nat → Nat → Prop} {ss : List Sh0} {vs : List Value} {cs rs : List C} {us : List Value} {ks : List Lk} {old : Option Nat} (h : LReps Try.prog W O ks us rs) (hr : Reps Try.prog W O old ss vs cs) :
    Reps Try.prog W O old (.agg ks :: ss) (.agg us.toArray :: vs) (rs ++ cs) :=
  ⟨rs, _, rfl, ⟨us, rfl, h⟩, hr⟩
end Go.Proofs.Ytmdmgpikbebejaa
/- The call of KillMost. -/
namespace Go.Proofs.Ytmdmgpikbebejaa
open Go.RowKit
theorem walk_KillMost (V0 : Value) (V1 : Value) (a2 : Int) (a3 : Int) (a4 : Int) (W : World) (h0 : ∃ us : List Value, V0 = .agg us.toArray ∧ ∃ rs, LReps Try.prog W (fun _ _ => False) [.arr 2, .arr 2, .int, .int, .int, .int, .int, .int, .int, .int, .arr 2, .arr 2] us rs) (h1 : ∃ us : List Value, V1 = .agg us.toArray ∧ ∃ rs, LReps Try.prog W (fun _ _ => False) [.arr 2, .arr 2, .int, .int, .int, .int, .int, .int, .int, .int, .arr 2, .arr 2] us rs) (h2 : -9223372036854775808 ≤ a2 ∧ a2 ≤ 9223372036854775807) (h3 : -9223372036854775808 ≤ a3 ∧ a3 ≤ 9223372036854775807) (h4 : -9223372036854775808 ≤ a4 ∧ a4 ≤ 9223372036854775807) :
    Calls Try.prog 12 #[V0, V1, .int .i64 a2, .int .i64 a3, .int .i64 a4] W fun e w' => e = .returned (.bool true) ∧ Below W.heap.size W w' := by
  obtain ⟨us0, rfl, rs0, h0⟩ := h0
  obtain ⟨us1, rfl, rs1, h1⟩ := h1
  exact law_walk lmost_ok rfl (rep_struct h0 (rep_struct h1 (rep_lf h2 (rep_lf h3 (rep_lf h4 rfl)))))
end Go.Proofs.Ytmdmgpikbebejaa
namespace Go.Proofs.Ytmdmgpikbebejaa.lawKillMost
open Go.ChangeShapes Go.WideShapes Go.ChangeAt Go.RowKit
set_option linter.unusedVariables false

set_option maxRecDepth 100000 in
theorem lifted (os : Os) (started : os.Started) (H : Type) (enc : TypeId × Value → H) :
    ReturnsInHanded {} Try.checked os 12 .any (Rows.killMostSpec.pre6 enc Try.prog Try.f12 Rows.killMostRow.domain false) (Rows.killMostSpec.post enc Try.prog Try.f12 false true false false) := by
  refine returnsInHanded_of_change (C := Try.checked) own started (by kernel_rfl) Try.func12
    (ChangeSpec.witness6 (enc := enc) (C := Try.checked) false ⟨#[], #[.agg #[.slice none 0 0, .slice none 0 0, .int .i64 0, .int .i64 0, .int .i64 0, .int .i64 0, .int .i64 0, .int .i64 0, .int .i64 0, .int .i64 0, .slice none 0 0, .slice none 0 0], .agg #[.slice none 0 0, .slice none 0 0, .int .i64 0, .int .i64 0, .int .i64 0, .int .i64 0, .int .i64 0, .int .i64 0, .int .i64 0, .int .i64 0, .slice none 0 0, .slice none 0 0], .int .i64 0, .int .i64 0, .int .i64 0], []⟩ 8 (by kernel_rfl) (by kernel_rfl) (by kernel_rfl) (by kernel_rfl)) ?_
  intro W base args ds gs before hval0 hW hcnd _
  have hval : ∀ (j : Nat) t v, Try.f12.params[j]? = some t → args[j]? = some v → Value.okWide Try.prog W .any base t v := hval0
  have hW' := hW
  obtain ⟨p, q, hA0, hV, rfl, hfz, hnd⟩ := hW
  have hA : DataW.TrodAll enc Try.prog W 0 (fun _ => true) true Try.f12.params.toList args.toList ds p := hA0
  rw [Try.params12] at hA hval
  obtain ⟨v0, vs0, d0, ds0, p0, q0, hargs, rfl, rfl, h0, r0⟩ := trodAll_cons hA
  obtain ⟨v1, vs1, d1, ds1, p1, q1, rfl, rfl, rfl, h1, r1⟩ := trodAll_cons r0
  obtain ⟨v2, vs2, d2, ds2, p2, q2, rfl, rfl, rfl, h2, r2⟩ := trodAll_cons r1
  obtain ⟨v3, vs3, d3, ds3, p3, q3, rfl, rfl, rfl, h3, r3⟩ := trodAll_cons r2
  obtain ⟨v4, vs4, d4, ds4, p4, q4, rfl, rfl, rfl, h4, r4⟩ := trodAll_cons r3
  obtain ⟨rfl, rfl, rfl⟩ := trodAll_nil r4
  obtain rfl : args = #[v0, v1, v2, v3, v4] := by cases args; simp_all
  obtain ⟨rfl, rfl⟩ := trodVars_none hV
  have k0 := h0
  have lt0 : ∀ x ∈ p0, x.block < W.heap.size := by obtain ⟨m, hm⟩ := k0; exact DataW.trod_lt m _ _ _ hm
  obtain ⟨us0, e0, b0⟩ := open_agg (n := 4) (ks := [.arr 2, .arr 2, .int, .int, .int, .int, .int, .int, .int, .int, .arr 2, .arr 2]) Try.underlying42 (by kernel_rfl) (by kernel_rfl) (by kernel_rfl) (by kernel_rfl) (hval 0 42 v0 rfl rfl) h0
  have k1 := h1
  have lt1 : ∀ x ∈ p1, x.block < W.heap.size := by obtain ⟨m, hm⟩ := k1; exact DataW.trod_lt m _ _ _ hm
  obtain ⟨us1, e1, b1⟩ := open_agg (n := 4) (ks := [.arr 2, .arr 2, .int, .int, .int, .int, .int, .int, .int, .int, .arr 2, .arr 2]) Try.underlying42 (by kernel_rfl) (by kernel_rfl) (by kernel_rfl) (by kernel_rfl) (hval 1 42 v1 rfl rfl) h1
  have k2 := h2
  have lt2 : ∀ x ∈ p2, x.block < W.heap.size := by obtain ⟨m, hm⟩ := k2; exact DataW.trod_lt m _ _ _ hm
  obtain ⟨a2, e2, -, -, wf2⟩ := open_int Try.underlying2 (hval 2 2 v2 rfl rfl) h2
  subst e2
  have b2 := wf_bd wf2
  have k3 := h3
  have lt3 : ∀ x ∈ p3, x.block < W.heap.size := by obtain ⟨m, hm⟩ := k3; exact DataW.trod_lt m _ _ _ hm
  obtain ⟨a3, e3, -, -, wf3⟩ := open_int Try.underlying2 (hval 3 2 v3 rfl rfl) h3
  subst e3
  have b3 := wf_bd wf3
  have k4 := h4
  have lt4 : ∀ x ∈ p4, x.block < W.heap.size := by obtain ⟨m, hm⟩ := k4; exact DataW.trod_lt m _ _ _ hm
  obtain ⟨a4, e4, -, -, wf4⟩ := open_int Try.underlying3 (hval 4 3 v4 rfl rfl) h4
  subst e4
  have b4 := wf_bd wf4
  clear hA0 hval0
  refine (walk_KillMost v0 v1 a2 a3 a4 W ⟨us0, e0, b0⟩ ⟨us1, e1, b1⟩ b2 b3 b4).mono fun e W' ⟨he, bel⟩ => ?_
  subst he
  exact ⟨_, rfl, _, _, _, [], _, [], hW', trodAll_mk1 (shut_bool Try.underlying4 _), (trodAll_cons_mk (Below.trod laidOut (by kernel_rfl) (of_decide_eq_true (by kernel_rfl)) k0 bel lt0) (trodAll_cons_mk (Below.trod laidOut (by kernel_rfl) (of_decide_eq_true (by kernel_rfl)) k1 bel lt1) (trodAll_cons_mk (Below.trod laidOut (by kernel_rfl) (of_decide_eq_true (by kernel_rfl)) k2 bel lt2) (trodAll_cons_mk (Below.trod laidOut (by kernel_rfl) (of_decide_eq_true (by kernel_rfl)) k3 bel lt3) (trodAll_cons_mk (Below.trod laidOut (by kernel_rfl) (of_decide_eq_true (by kernel_rfl)) k4 bel lt4) trodAll_mk0))))), rfl, bel.frame _, fun h => by cases h⟩

theorem over : Rows.killMostRow.holds Try.pinned (OpenSpec.ofChange Rows.killMostSpec) :=
  OpenClaim.holds_of_wide 12 Try.f12 rfl rfl rfl rfl rfl rfl rfl ⟨rfl, rfl, rfl, rfl, rfl⟩ rfl rfl rfl rfl rfl (by kernel_rfl) Try.func12 (by kernel_rfl)
    (of_decide_eq_true (by kernel_rfl)) (by unfold Func.isWrapper; first | (rw [if_pos (by decide +kernel)]; kernel_rfl) | (rw [if_neg (by decide +kernel)]; exact ⟨rfl, rfl⟩))
    (fun os started H enc _ => lifted os started H enc)

theorem proved : Rows.KillMostSaid := over
#print axioms proved
end Go.Proofs.Ytmdmgpikbebejaa.lawKillMost
