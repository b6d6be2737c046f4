/- Texts laid into one: XB2 XB3 XS4 XT4 XB4 XB5 XB6 XS5. -/
import Derived.Test.YtcglpbchejkolaaChecks8
/- Earth: the least and the greatest value of a part. -/
namespace Go.Proofs.Ytcglpbchejkolaa
open Go.RowKit
set_option linter.unusedSimpArgs false
set_option linter.unusedVariables false

theorem ints_app (a b : List (List C)) : ints (a ++ b) = ints a ++ ints b := by simp [ints]
def midP (a b : Int) (k : Kn) : Bool := decide (a < k.1) && decide (k.1 < b)
theorem innerV_eq (ks : List Kn) (a b : Int) : innerV ks a b = [a, b] ++ (ks.filter (midP a b)).map (·.1) := rfl
theorem inner_snoc_yes {l : List Kn} {a b : Int} {k : Kn} (h : a < k.1) (h2 : k.1 < b) : innerV (l ++ [k]) a b = innerV l a b ++ [k.1] := by
  have hm : midP a b k = true := by unfold midP; rw [decide_eq_true h, decide_eq_true h2]; rfl
  rw [innerV_eq, innerV_eq, List.filter_append, List.map_append, List.filter_cons_of_pos hm, List.append_assoc]; rfl
theorem inner_snoc_no {l : List Kn} {a b : Int} {k : Kn} (h : k.1 ≤ a ∨ b ≤ k.1) : innerV (l ++ [k]) a b = innerV l a b := by
  have hm : midP a b k = false := by
    unfold midP
    rcases h with h | h
    · rw [decide_eq_false (by omega), Bool.false_and]
    · rw [decide_eq_false (p := k.1 < b) (by omega), Bool.and_false]
  rw [innerV_eq, innerV_eq, List.filter_append, List.map_append, List.filter_cons_of_neg (by rw [hm]; simp)]; simp
theorem inner_len (l : List Kn) (a b : Int) : (innerV l a b).length ≤ l.length + 2 := by
  rw [innerV_eq, List.length_append, List.length_map]
  have := List.length_filter_le (midP a b) l
  simp only [List.length_cons, List.length_nil]
  omega
theorem inner_ok : tab3.ok 75 := by
  refine Tab.of_ct rfl rfl ⟨_, Try.func75, by decide, rfl⟩ ?_ (fun h => by cases h)
  refine ct_ok (cx := cinner) (Tab.cx_ok all_nil) Try.func75 (bds := []) (T := tinner) (by kernel_rfl) ?_
  unfold tinner
  simp only [VC, allC, List.map_cons, List.map_nil, List.length_cons, List.length_nil, List.getElem?_cons_zero, List.getElem?_cons_succ, List.cons.injEq, C.i.injEq, C.b.injEq, and_true, true_and, forall_const, kindsOf_nil, kindsOf_lf, kindsOf_agg, kindsOf_box, boxKinds_nil, boxKinds_lf, boxKinds_agg, boxKinds_box, List.append_nil, List.cons_append, List.nil_append, den_cmp_le, den_cmp_lt, den_cmp_eq, den_cmp_ne, den_cmp_le', den_cmp_lt', den_cmp_eq', den_cmp_ne', den_and, den_and', den_or, den_or', den_not, den_not', den_blit, den_of, ev_var, at_0, at_1, at_2, at_3, at_4, at_5, at_6, at_7, at_skip, c_int, c_bool, c_arr, c_cnt, c_vec, ev_nil, ev_join, ev_sub3, loc_s, int_i, bool_b, rows_s, cs_nil, cs_cons, E.den_lit, E.den_var, E.den_add, E.den_sub, E.den_mul, E.den_quo, E.den_rem, E.den_max, E.den_min, E.den_len, E.den_wr, E.den_cell, ev_cell, kn1, kn2, ctInner, ctF, lineSh, k_, n_]
  intro u r _ _ _ a _ _ b _ _ hp
  have hp : r.length ≤ 1000 := hp
  have hk := knots_len r
  rw [← hk] at hp ⊢
  generalize knots r = ks at *
  refine ⟨bds_nil _, fun v4 => ?_⟩
  refine ⟨fun xs => match xs with | [.s _ rows, .i i] => 0 ≤ i ∧ i ≤ ks.length ∧ ints rows = innerV (ks.take i.toNat) a b | _ => False, fun xs => match xs with | [_, .i i] => ((ks.length : Int) - i).toNat | _ => 0, ⟨by omega, by omega, rfl⟩, ?_⟩; rintro v6 r6 _ _ _ i _ _ ⟨i0, i1, hi⟩; have hle : r6.length ≤ 2000 := by rw [← ints_len, hi]; have := inner_len (ks.take i.toNat) a b; rw [List.length_take] at this; omega
  refine ⟨fun hlt => ?_, fun hge => ⟨v6, r6, rfl, by rw [hi, List.take_of_length_le (by omega)]⟩⟩
  have yes : a < (ks.getD i.toNat (0, 0)).1 → (ks.getD i.toNat (0, 0)).1 < b → ∀ v : Value, (0 ≤ i + 1 ∧ i + 1 ≤ ks.length ∧ ints (r6 ++ [[C.i (ks.getD i.toNat (0, 0)).1]]) = innerV (ks.take (i + 1).toNat) a b) ∧ ((ks.length : Int) - (i + 1)).toNat < ((ks.length : Int) - i).toNat := fun h1 h2 _ => ⟨⟨by omega, by omega, by rw [ints_app, hi, show (i + 1).toNat = i.toNat + 1 by omega, take_snoc (by omega) (0, 0), inner_snoc_yes h1 h2]; rfl⟩, by omega⟩
  have nay : ((ks.getD i.toNat (0, 0)).1 ≤ a ∨ b ≤ (ks.getD i.toNat (0, 0)).1) → (0 ≤ i + 1 ∧ i + 1 ≤ ks.length ∧ ints r6 = innerV (ks.take (i + 1).toNat) a b) ∧ ((ks.length : Int) - (i + 1)).toNat < ((ks.length : Int) - i).toNat := fun h => ⟨⟨by omega, by omega, by rw [hi, show (i + 1).toNat = i.toNat + 1 by omega, take_snoc (by omega) (0, 0), inner_snoc_no h]⟩, by omega⟩
  exact ⟨i0, hlt, fun h1 => ⟨hlt, fun h2 => ⟨hlt, by omega, fun v => yes h1 h2 v⟩, fun h2 => nay (.inr h2)⟩, fun h1 => nay (.inl h1)⟩
theorem foldMin_step (f : Int → Int) (l : List Int) (i : Nat) (hi : i < l.length) (so : Int) : foldMin ((l.drop i).map f) so = foldMin ((l.drop (i + 1)).map f) (min so (f (l.getD i 0))) := by
  rw [drop_cons hi 0]; rfl
theorem foldMax_step (f : Int → Int) (l : List Int) (i : Nat) (hi : i < l.length) (so : Int) : foldMax ((l.drop i).map f) so = foldMax ((l.drop (i + 1)).map f) (max so (f (l.getD i 0))) := by
  rw [drop_cons hi 0]; rfl
theorem least_ok : tab3.ok 39 := by
  refine Tab.of_ct rfl rfl ⟨_, Try.func39, by decide, rfl⟩ ?_ ctF_det
  refine ct_ok (cx := cleast) (Tab.cx_ok (all_cons (up3_ok (up_ok right_ok)) (all_cons (up3_ok (up_ok value_ok)) all_nil)) fxleast) Try.func39 (bds := []) (T := tleast) (by kernel_rfl) ?_
  have h1 : cleast.ct 63 = some ctRight := rfl
  have h2 : cleast.ct 65 = some ctValue := rfl
  unfold tleast
  simp only [VC, allC, List.map_cons, List.map_nil, List.length_cons, List.length_nil, List.getElem?_cons_zero, List.getElem?_cons_succ, List.cons.injEq, C.i.injEq, C.b.injEq, and_true, true_and, forall_const, kindsOf_nil, kindsOf_lf, kindsOf_agg, kindsOf_box, boxKinds_nil, boxKinds_lf, boxKinds_agg, boxKinds_box, List.append_nil, List.cons_append, List.nil_append, den_cmp_le, den_cmp_lt, den_cmp_eq, den_cmp_ne, den_cmp_le', den_cmp_lt', den_cmp_eq', den_cmp_ne', den_and, den_and', den_or, den_or', den_not, den_not', den_blit, den_of, ev_var, at_0, at_1, at_2, at_3, at_4, at_5, at_6, at_7, at_skip, c_int, c_bool, c_arr, c_cnt, c_vec, ev_nil, ev_join, ev_sub3, loc_s, int_i, bool_b, rows_s, cs_nil, cs_cons, E.den_lit, E.den_var, E.den_add, E.den_sub, E.den_mul, E.den_quo, E.den_rem, E.den_max, E.den_min, E.den_len, E.den_wr, E.den_cell, ev_cell, h1, h2, ctRight, ctValue, ctPart, ctF, lineSh, rangeSh, k_, n_, ofKn]
  intro u r _ _ _ a _ _ b _ _ hp
  have hp : r.length ≤ 1000 := hp
  have hk := knots_len r
  simp only [kn1 u r]
  rw [← hk] at hp ⊢
  refine ⟨bds_nil _, fun t ht => ?_⟩
  have ht : t = rightB (knots r) := by rw [ht]; show (rightB (knots r) && true) = _; rw [Bool.and_true]
  subst ht
  generalize knots r = ks at *
  unfold leastV
  refine ⟨fun h => by rw [if_neg (by rw [h]; simp)]; exact ⟨rfl, rfl⟩, fun hr => ⟨fun h => by rw [if_neg (by omega)]; exact ⟨rfl, rfl⟩, fun hab v5 => ?_⟩⟩
  rw [if_pos ⟨hr, hab⟩]
  refine ⟨fun xs => match xs with | [.s _ rows, .i i] => 0 ≤ i ∧ i ≤ ks.length ∧ ints rows = innerV (ks.take i.toNat) a b | _ => False, fun xs => match xs with | [_, .i i] => ((ks.length : Int) - i).toNat | _ => 0, ⟨by omega, by omega, rfl⟩, ?_⟩; rintro v6 r6 _ _ _ i _ _ ⟨i0, i1, hi⟩; have hle : r6.length ≤ 2000 := by rw [← ints_len, hi]; have := inner_len (ks.take i.toNat) a b; rw [List.length_take] at this; omega
  refine ⟨fun hlt => ?_, fun hge => ⟨hr, ?_⟩⟩
  · have yes : a < (ks.getD i.toNat (0, 0)).1 → (ks.getD i.toNat (0, 0)).1 < b → ∀ v : Value, (0 ≤ i + 1 ∧ i + 1 ≤ ks.length ∧ ints (r6 ++ [[C.i (ks.getD i.toNat (0, 0)).1]]) = innerV (ks.take (i + 1).toNat) a b) ∧ ((ks.length : Int) - (i + 1)).toNat < ((ks.length : Int) - i).toNat := fun h1 h2 _ => ⟨⟨by omega, by omega, by rw [ints_app, hi, show (i + 1).toNat = i.toNat + 1 by omega, take_snoc (by omega) (0, 0), inner_snoc_yes h1 h2]; rfl⟩, by omega⟩
    have nay : ((ks.getD i.toNat (0, 0)).1 ≤ a ∨ b ≤ (ks.getD i.toNat (0, 0)).1) → (0 ≤ i + 1 ∧ i + 1 ≤ ks.length ∧ ints r6 = innerV (ks.take (i + 1).toNat) a b) ∧ ((ks.length : Int) - (i + 1)).toNat < ((ks.length : Int) - i).toNat := fun h => ⟨⟨by omega, by omega, by rw [hi, show (i + 1).toNat = i.toNat + 1 by omega, take_snoc (by omega) (0, 0), inner_snoc_no h]⟩, by omega⟩
    exact ⟨i0, hlt, fun h1 => ⟨fun h2 => ⟨by omega, fun v => yes h1 h2 v⟩, fun h2 => nay (.inr h2)⟩, fun h1 => nay (.inl h1)⟩
  rw [List.take_of_length_le (by omega)] at hi
  have hl6 := ints_len r6
  simp only [in1]
  rw [← hl6]
  rw [hi]
  generalize innerV ks a b = L at *
  rintro lo _ _ hv _ _ ⟨rfl, rfl⟩
  refine ⟨fun xs => match xs with | [.i so, .i i] => 0 ≤ i ∧ i ≤ L.length ∧ foldMin (L.map fun x => (rangeP ks x).1) (rangeP ks a).1 = foldMin ((L.drop i.toNat).map fun x => (rangeP ks x).1) so | _ => False, fun xs => match xs with | [_, .i i] => ((L.length : Int) - i).toNat | _ => 0, ⟨by omega, by omega, rfl⟩, ?_⟩
  rintro so s0 s1 j _ _ ⟨j0, j1, hj⟩
  refine ⟨fun hlt => ⟨j0, hlt, hr, ?_⟩, fun hge2 => ?_⟩
  · rintro x x0 x1 y _ _ ⟨rfl, -⟩
    rw [foldMin_step _ _ _ (by omega)] at hj
    exact ⟨⟨by omega, by omega, by rw [hj, show (j + 1).toNat = j.toNat + 1 by omega]⟩, (show ((L.length : Int) - (j + 1)).toNat < ((L.length : Int) - j).toNat by omega)⟩
  rw [List.drop_of_length_le (by omega)] at hj
  refine ⟨fun xs => match xs with | [.i so, .i i] => 0 ≤ i ∧ i ≤ L.length ∧ foldMin (L.map fun x => (rangeP ks x).2) (rangeP ks a).2 = foldMin ((L.drop i.toNat).map fun x => (rangeP ks x).2) so | _ => False, fun xs => match xs with | [_, .i i] => ((L.length : Int) - i).toNat | _ => 0, ⟨by omega, by omega, rfl⟩, ?_⟩
  rintro so2 s0 s1 m _ _ ⟨m0, m1, hm⟩
  refine ⟨fun hlt => ⟨m0, hlt, hr, ?_⟩, fun hge3 => ?_⟩
  · rintro x _ _ y y0 y1 ⟨-, rfl⟩
    rw [foldMin_step _ _ _ (by omega)] at hm
    exact ⟨⟨by omega, by omega, by rw [hm, show (m + 1).toNat = m.toNat + 1 by omega]⟩, (show ((L.length : Int) - (m + 1)).toNat < ((L.length : Int) - m).toNat by omega)⟩
  rw [List.drop_of_length_le (by omega)] at hm
  exact ⟨hj.symm, hm.symm⟩
theorem rleast_ok : tab3.ok 40 := by
  refine Tab.of_ct rfl rfl ⟨_, Try.func40, by decide, rfl⟩ ?_ ctF_det
  refine ct_ok (cx := crleast) (Tab.cx_ok (all_cons (up3_ok (up_ok rright_ok)) (all_cons (up3_ok (up_ok rvalue_ok)) (all_cons inner_ok all_nil)))) Try.func40 (bds := []) (T := trleast) (by kernel_rfl) ?_
  have h1 : crleast.ct 71 = some ctRRight := rfl
  have h2 : crleast.ct 72 = some ctValue := rfl
  have h3 : crleast.ct 75 = some ctInner := rfl
  unfold trleast
  simp only [VC, allC, List.map_cons, List.map_nil, List.length_cons, List.length_nil, List.getElem?_cons_zero, List.getElem?_cons_succ, List.cons.injEq, C.i.injEq, C.b.injEq, and_true, true_and, forall_const, kindsOf_nil, kindsOf_lf, kindsOf_agg, kindsOf_box, boxKinds_nil, boxKinds_lf, boxKinds_agg, boxKinds_box, List.append_nil, List.cons_append, List.nil_append, den_cmp_le, den_cmp_lt, den_cmp_eq, den_cmp_ne, den_cmp_le', den_cmp_lt', den_cmp_eq', den_cmp_ne', den_and, den_and', den_or, den_or', den_not, den_not', den_blit, den_of, ev_var, at_0, at_1, at_2, at_3, at_4, at_5, at_6, at_7, at_skip, c_int, c_bool, c_arr, c_cnt, c_vec, ev_nil, ev_join, ev_sub3, loc_s, int_i, bool_b, rows_s, cs_nil, cs_cons, E.den_lit, E.den_var, E.den_add, E.den_sub, E.den_mul, E.den_quo, E.den_rem, E.den_max, E.den_min, E.den_len, E.den_wr, E.den_cell, ev_cell, h1, h2, h3, ctRRight, ctValue, ctInner, ctPart, ctF, lineSh, rangeSh, k_, n_, ofKn]
  intro u r _ _ _ a _ _ b _ _ hp
  have hp : r.length ≤ 1000 := hp
  refine ⟨bds_nil _, fun t ht => ?_⟩
  subst ht
  generalize knots r = ks at *
  unfold leastV
  refine ⟨fun h => by rw [if_neg (by rw [h]; simp)]; exact ⟨rfl, rfl⟩, fun hr => ⟨fun h => by rw [if_neg (by omega)]; exact ⟨rfl, rfl⟩, fun hab => ⟨hr, ?_⟩⟩⟩
  rw [if_pos ⟨hr, hab⟩]
  rintro lo _ _ hv _ _ ⟨rfl, rfl⟩
  refine ⟨hp, ?_⟩
  rintro v6 r6 _ _ _ ⟨_, _, hh, hi⟩
  obtain rfl := (by simpa using hh : v6 = _ ∧ r6 = _).2
  have hl6 := ints_len r6
  simp only [in1]
  rw [← hl6]
  rw [hi]
  generalize innerV ks a b = L at *
  refine ⟨fun xs => match xs with | [.i i, .i so, .i so2] => 0 ≤ i ∧ i ≤ L.length ∧ foldMin (L.map fun x => (rangeP ks x).1) (rangeP ks a).1 = foldMin ((L.drop i.toNat).map fun x => (rangeP ks x).1) so ∧ foldMin (L.map fun x => (rangeP ks x).2) (rangeP ks a).2 = foldMin ((L.drop i.toNat).map fun x => (rangeP ks x).2) so2 | _ => False, fun xs => match xs with | [.i i, _, _] => ((L.length : Int) - i).toNat | _ => 0, ⟨by omega, by omega, rfl, rfl⟩, ?_⟩
  rintro j _ _ so s0 s1 so2 s2 s3 ⟨j0, j1, hj, hm⟩
  refine ⟨fun hlt => ⟨j0, hlt, hr, ?_⟩, fun hge2 => ?_⟩
  · rintro x x0 x1 y y0 y1 ⟨rfl, rfl⟩
    rw [foldMin_step _ _ _ (by omega)] at hj hm
    exact ⟨⟨by omega, by omega, by rw [hj, show (j + 1).toNat = j.toNat + 1 by omega], by rw [hm, show (j + 1).toNat = j.toNat + 1 by omega]⟩, (show ((L.length : Int) - (j + 1)).toNat < ((L.length : Int) - j).toNat by omega)⟩
  rw [List.drop_of_length_le (by omega)] at hj hm
  exact ⟨hj.symm, hm.symm⟩
theorem most_ok : tab3.ok 41 := by
  refine Tab.of_ct rfl rfl ⟨_, Try.func41, by decide, rfl⟩ ?_ ctF_det
  refine ct_ok (cx := cmost) (Tab.cx_ok (all_cons (up3_ok (up_ok right_ok)) (all_cons (up3_ok (up_ok value_ok)) all_nil)) fxmost) Try.func41 (bds := []) (T := tmost) (by kernel_rfl) ?_
  have h1 : cmost.ct 63 = some ctRight := rfl
  have h2 : cmost.ct 65 = some ctValue := rfl
  unfold tmost
  simp only [VC, allC, List.map_cons, List.map_nil, List.length_cons, List.length_nil, List.getElem?_cons_zero, List.getElem?_cons_succ, List.cons.injEq, C.i.injEq, C.b.injEq, and_true, true_and, forall_const, kindsOf_nil, kindsOf_lf, kindsOf_agg, kindsOf_box, boxKinds_nil, boxKinds_lf, boxKinds_agg, boxKinds_box, List.append_nil, List.cons_append, List.nil_append, den_cmp_le, den_cmp_lt, den_cmp_eq, den_cmp_ne, den_cmp_le', den_cmp_lt', den_cmp_eq', den_cmp_ne', den_and, den_and', den_or, den_or', den_not, den_not', den_blit, den_of, ev_var, at_0, at_1, at_2, at_3, at_4, at_5, at_6, at_7, at_skip, c_int, c_bool, c_arr, c_cnt, c_vec, ev_nil, ev_join, ev_sub3, loc_s, int_i, bool_b, rows_s, cs_nil, cs_cons, E.den_lit, E.den_var, E.den_add, E.den_sub, E.den_mul, E.den_quo, E.den_rem, E.den_max, E.den_min, E.den_len, E.den_wr, E.den_cell, ev_cell, h1, h2, ctRight, ctValue, ctPart, ctF, lineSh, rangeSh, k_, n_, ofKn]
  intro u r _ _ _ a _ _ b _ _ hp
  have hp : r.length ≤ 1000 := hp
  have hk := knots_len r
  simp only [kn1 u r]
  rw [← hk] at hp ⊢
  refine ⟨bds_nil _, fun t ht => ?_⟩
  have ht : t = rightB (knots r) := by rw [ht]; show (rightB (knots r) && true) = _; rw [Bool.and_true]
  subst ht
  generalize knots r = ks at *
  unfold mostV
  refine ⟨fun h => by rw [if_neg (by rw [h]; simp)]; exact ⟨rfl, rfl⟩, fun hr => ⟨fun h => by rw [if_neg (by omega)]; exact ⟨rfl, rfl⟩, fun hab v5 => ?_⟩⟩
  rw [if_pos ⟨hr, hab⟩]
  refine ⟨fun xs => match xs with | [.s _ rows, .i i] => 0 ≤ i ∧ i ≤ ks.length ∧ ints rows = innerV (ks.take i.toNat) a b | _ => False, fun xs => match xs with | [_, .i i] => ((ks.length : Int) - i).toNat | _ => 0, ⟨by omega, by omega, rfl⟩, ?_⟩; rintro v6 r6 _ _ _ i _ _ ⟨i0, i1, hi⟩; have hle : r6.length ≤ 2000 := by rw [← ints_len, hi]; have := inner_len (ks.take i.toNat) a b; rw [List.length_take] at this; omega
  refine ⟨fun hlt => ?_, fun hge => ⟨hr, ?_⟩⟩
  · have yes : a < (ks.getD i.toNat (0, 0)).1 → (ks.getD i.toNat (0, 0)).1 < b → ∀ v : Value, (0 ≤ i + 1 ∧ i + 1 ≤ ks.length ∧ ints (r6 ++ [[C.i (ks.getD i.toNat (0, 0)).1]]) = innerV (ks.take (i + 1).toNat) a b) ∧ ((ks.length : Int) - (i + 1)).toNat < ((ks.length : Int) - i).toNat := fun h1 h2 _ => ⟨⟨by omega, by omega, by rw [ints_app, hi, show (i + 1).toNat = i.toNat + 1 by omega, take_snoc (by omega) (0, 0), inner_snoc_yes h1 h2]; rfl⟩, by omega⟩
    have nay : ((ks.getD i.toNat (0, 0)).1 ≤ a ∨ b ≤ (ks.getD i.toNat (0, 0)).1) → (0 ≤ i + 1 ∧ i + 1 ≤ ks.length ∧ ints r6 = innerV (ks.take (i + 1).toNat) a b) ∧ ((ks.length : Int) - (i + 1)).toNat < ((ks.length : Int) - i).toNat := fun h => ⟨⟨by omega, by omega, by rw [hi, show (i + 1).toNat = i.toNat + 1 by omega, take_snoc (by omega) (0, 0), inner_snoc_no h]⟩, by omega⟩
    exact ⟨i0, hlt, fun h1 => ⟨fun h2 => ⟨by omega, fun v => yes h1 h2 v⟩, fun h2 => nay (.inr h2)⟩, fun h1 => nay (.inl h1)⟩
  rw [List.take_of_length_le (by omega)] at hi
  have hl6 := ints_len r6
  simp only [in1]
  rw [← hl6]
  rw [hi]
  generalize innerV ks a b = L at *
  rintro lo _ _ hv _ _ ⟨rfl, rfl⟩
  refine ⟨fun xs => match xs with | [.i so, .i i] => 0 ≤ i ∧ i ≤ L.length ∧ foldMax (L.map fun x => (rangeP ks x).1) (rangeP ks a).1 = foldMax ((L.drop i.toNat).map fun x => (rangeP ks x).1) so | _ => False, fun xs => match xs with | [_, .i i] => ((L.length : Int) - i).toNat | _ => 0, ⟨by omega, by omega, rfl⟩, ?_⟩
  rintro so s0 s1 j _ _ ⟨j0, j1, hj⟩
  refine ⟨fun hlt => ⟨j0, hlt, hr, ?_⟩, fun hge2 => ?_⟩
  · rintro x x0 x1 y _ _ ⟨rfl, -⟩
    rw [foldMax_step _ _ _ (by omega)] at hj
    exact ⟨⟨by omega, by omega, by rw [hj, show (j + 1).toNat = j.toNat + 1 by omega]⟩, (show ((L.length : Int) - (j + 1)).toNat < ((L.length : Int) - j).toNat by omega)⟩
  rw [List.drop_of_length_le (by omega)] at hj
  refine ⟨fun xs => match xs with | [.i so, .i i] => 0 ≤ i ∧ i ≤ L.length ∧ foldMax (L.map fun x => (rangeP ks x).2) (rangeP ks a).2 = foldMax ((L.drop i.toNat).map fun x => (rangeP ks x).2) so | _ => False, fun xs => match xs with | [_, .i i] => ((L.length : Int) - i).toNat | _ => 0, ⟨by omega, by omega, rfl⟩, ?_⟩
  rintro so2 s0 s1 m _ _ ⟨m0, m1, hm⟩
  refine ⟨fun hlt => ⟨m0, hlt, hr, ?_⟩, fun hge3 => ?_⟩
  · rintro x _ _ y y0 y1 ⟨-, rfl⟩
    rw [foldMax_step _ _ _ (by omega)] at hm
    exact ⟨⟨by omega, by omega, by rw [hm, show (m + 1).toNat = m.toNat + 1 by omega]⟩, (show ((L.length : Int) - (m + 1)).toNat < ((L.length : Int) - m).toNat by omega)⟩
  rw [List.drop_of_length_le (by omega)] at hm
  exact ⟨hj.symm, hm.symm⟩
theorem rmost_ok : tab3.ok 42 := by
  refine Tab.of_ct rfl rfl ⟨_, Try.func42, by decide, rfl⟩ ?_ ctF_det
  refine ct_ok (cx := crmost) (Tab.cx_ok (all_cons (up3_ok (up_ok rright_ok)) (all_cons (up3_ok (up_ok rvalue_ok)) (all_cons inner_ok all_nil)))) Try.func42 (bds := []) (T := trmost) (by kernel_rfl) ?_
  have h1 : crmost.ct 71 = some ctRRight := rfl
  have h2 : crmost.ct 72 = some ctValue := rfl
  have h3 : crmost.ct 75 = some ctInner := rfl
  unfold trmost
  simp only [VC, allC, List.map_cons, List.map_nil, List.length_cons, List.length_nil, List.getElem?_cons_zero, List.getElem?_cons_succ, List.cons.injEq, C.i.injEq, C.b.injEq, and_true, true_and, forall_const, kindsOf_nil, kindsOf_lf, kindsOf_agg, kindsOf_box, boxKinds_nil, boxKinds_lf, boxKinds_agg, boxKinds_box, List.append_nil, List.cons_append, List.nil_append, den_cmp_le, den_cmp_lt, den_cmp_eq, den_cmp_ne, den_cmp_le', den_cmp_lt', den_cmp_eq', den_cmp_ne', den_and, den_and', den_or, den_or', den_not, den_not', den_blit, den_of, ev_var, at_0, at_1, at_2, at_3, at_4, at_5, at_6, at_7, at_skip, c_int, c_bool, c_arr, c_cnt, c_vec, ev_nil, ev_join, ev_sub3, loc_s, int_i, bool_b, rows_s, cs_nil, cs_cons, E.den_lit, E.den_var, E.den_add, E.den_sub, E.den_mul, E.den_quo, E.den_rem, E.den_max, E.den_min, E.den_len, E.den_wr, E.den_cell, ev_cell, h1, h2, h3, ctRRight, ctValue, ctInner, ctPart, ctF, lineSh, rangeSh, k_, n_, ofKn]
  intro u r _ _ _ a _ _ b _ _ hp
  have hp : r.length ≤ 1000 := hp
  refine ⟨bds_nil _, fun t ht => ?_⟩
  subst ht
  generalize knots r = ks at *
  unfold mostV
  refine ⟨fun h => by rw [if_neg (by rw [h]; simp)]; exact ⟨rfl, rfl⟩, fun hr => ⟨fun h => by rw [if_neg (by omega)]; exact ⟨rfl, rfl⟩, fun hab => ⟨hr, ?_⟩⟩⟩
  rw [if_pos ⟨hr, hab⟩]
  rintro lo _ _ hv _ _ ⟨rfl, rfl⟩
  refine ⟨hp, ?_⟩
  rintro v6 r6 _ _ _ ⟨_, _, hh, hi⟩
  obtain rfl := (by simpa using hh : v6 = _ ∧ r6 = _).2
  have hl6 := ints_len r6
  simp only [in1]
  rw [← hl6]
  rw [hi]
  generalize innerV ks a b = L at *
  refine ⟨fun xs => match xs with | [.i i, .i so, .i so2] => 0 ≤ i ∧ i ≤ L.length ∧ foldMax (L.map fun x => (rangeP ks x).1) (rangeP ks a).1 = foldMax ((L.drop i.toNat).map fun x => (rangeP ks x).1) so ∧ foldMax (L.map fun x => (rangeP ks x).2) (rangeP ks a).2 = foldMax ((L.drop i.toNat).map fun x => (rangeP ks x).2) so2 | _ => False, fun xs => match xs with | [.i i, _, _] => ((L.length : Int) - i).toNat | _ => 0, ⟨by omega, by omega, rfl, rfl⟩, ?_⟩
  rintro j _ _ so s0 s1 so2 s2 s3 ⟨j0, j1, hj, hm⟩
  refine ⟨fun hlt => ⟨j0, hlt, hr, ?_⟩, fun hge2 => ?_⟩
  · rintro x x0 x1 y y0 y1 ⟨rfl, rfl⟩
    rw [foldMax_step _ _ _ (by omega)] at hj hm
    exact ⟨⟨by omega, by omega, by rw [hj, show (j + 1).toNat = j.toNat + 1 by omega], by rw [hm, show (j + 1).toNat = j.toNat + 1 by omega]⟩, (show ((L.length : Int) - (j + 1)).toNat < ((L.length : Int) - j).toNat by omega)⟩
  rw [List.drop_of_length_le (by omega)] at hj hm
  exact ⟨hj.symm, hm.symm⟩
end Go.Proofs.Ytcglpbchejkolaa
/- Earth: EarthLines, EarthValues, EarthRanges, by the table. -/
namespace Go.Proofs.Ytcglpbchejkolaa
open Go.RowKit
set_option linter.unusedSimpArgs false
set_option linter.unusedVariables false

theorem llines_ok : CtOK Try.prog 3 (ctLaw [lineSh, .lf .int, .lf .int]) := by
  refine ct_ok (cx := cllines) (Tab.cx_ok (all_cons short_ok (all_cons (up3_ok (up_ok line_ok)) (all_cons (up3_ok (up_ok rline_ok)) (all_cons (up3_ok awake_ok) all_nil))))) Try.func3 (bds := []) (T := tllines) (by kernel_rfl) ?_
  have h1 : cllines.ct 16 = some ctShort := rfl
  have h2 : cllines.ct 18 = some ctLine := rfl
  have h3 : cllines.ct 19 = some ctLine := rfl
  have h4 : cllines.ct 17 = some ctAwake := rfl
  unfold tllines
  simp only [VC, allC, List.map_cons, List.map_nil, List.length_cons, List.length_nil, List.getElem?_cons_zero, List.getElem?_cons_succ, List.cons.injEq, C.i.injEq, C.b.injEq, and_true, true_and, forall_const, kindsOf_nil, kindsOf_lf, kindsOf_agg, kindsOf_box, boxKinds_nil, boxKinds_lf, boxKinds_agg, boxKinds_box, List.append_nil, List.cons_append, List.nil_append, den_cmp_le, den_cmp_lt, den_cmp_eq, den_cmp_ne, den_cmp_le', den_cmp_lt', den_cmp_eq', den_cmp_ne', den_and, den_and', den_or, den_or', den_not, den_not', den_blit, den_of, ev_var, at_0, at_1, at_2, at_3, at_4, at_5, at_6, at_7, at_skip, c_int, c_bool, c_arr, c_cnt, c_vec, ev_nil, ev_join, ev_sub3, loc_s, int_i, bool_b, rows_s, cs_nil, cs_cons, E.den_lit, E.den_var, E.den_add, E.den_sub, E.den_mul, E.den_quo, E.den_rem, E.den_max, E.den_min, E.den_len, E.den_wr, E.den_cell, h1, h2, h3, h4, ctShort, ctLine, ctAwake, ctLaw, ctF, lineSh, k_, n_]
  intro u r _ _ _ a _ _ b _ _
  refine ⟨bds_nil _, fun t ht => ⟨fun _ t ht => ht, fun _ => ?_⟩⟩
  rintro n _ _ hn m _ _ hm
  exact ⟨fun _ t ht => ht, fun h => absurd (hn.trans hm.symm) h⟩
theorem lvalues_ok : CtOK Try.prog 8 (ctLaw [lineSh, lineSh, .lf .int, .lf .int]) := by
  refine ct_ok (cx := clvalues) (Tab.cx_ok (all_cons short_ok (all_cons own_ok (all_cons (up3_ok (up_ok at_ok)) (all_cons (up3_ok (up_ok rat_ok)) (all_cons least_ok (all_cons rleast_ok (all_cons most_ok (all_cons rmost_ok (all_cons (up3_ok (up_ok above2_ok)) (all_cons (up3_ok (up_ok rabove2_ok)) (all_cons sameline_ok (all_cons (up3_ok awake_ok) all_nil))))))))))))) Try.func8 (bds := []) (T := tlvalues) (by kernel_rfl) ?_
  have h1 : clvalues.ct 16 = some ctShort := rfl
  have h2 : clvalues.ct 24 = some ctOwn := rfl
  have h3 : clvalues.ct 23 = some ctAt := rfl
  have h4 : clvalues.ct 38 = some ctAt := rfl
  have h5 : clvalues.ct 39 = some (ctPart leastV) := rfl
  have h6 : clvalues.ct 40 = some (ctPart leastV) := rfl
  have h7 : clvalues.ct 41 = some (ctPart mostV) := rfl
  have h8 : clvalues.ct 42 = some (ctPart mostV) := rfl
  have h9 : clvalues.ct 21 = some ctAbove := rfl
  have h10 : clvalues.ct 43 = some ctAbove := rfl
  have h11 : clvalues.ct 44 = some ctSameLine := rfl
  have h12 : clvalues.ct 17 = some ctAwake := rfl
  unfold tlvalues
  simp only [VC, allC, List.map_cons, List.map_nil, List.length_cons, List.length_nil, List.getElem?_cons_zero, List.getElem?_cons_succ, List.cons.injEq, C.i.injEq, C.b.injEq, and_true, true_and, forall_const, kindsOf_nil, kindsOf_lf, kindsOf_agg, kindsOf_box, boxKinds_nil, boxKinds_lf, boxKinds_agg, boxKinds_box, List.append_nil, List.cons_append, List.nil_append, den_cmp_le, den_cmp_lt, den_cmp_eq, den_cmp_ne, den_cmp_le', den_cmp_lt', den_cmp_eq', den_cmp_ne', den_and, den_and', den_or, den_or', den_not, den_not', den_blit, den_of, ev_var, at_0, at_1, at_2, at_3, at_4, at_5, at_6, at_7, at_skip, c_int, c_bool, c_arr, c_cnt, c_vec, ev_nil, ev_join, ev_sub3, loc_s, int_i, bool_b, rows_s, cs_nil, cs_cons, E.den_lit, E.den_var, E.den_add, E.den_sub, E.den_mul, E.den_quo, E.den_rem, E.den_max, E.den_min, E.den_len, E.den_wr, E.den_cell, h1, h2, h3, h4, h5, h6, h7, h8, h9, h10, h11, h12, ctShort, ctOwn, ctAt, ctPart, ctAbove, ctSameLine, ctAwake, ctLaw, ctF, lineSh, rangeSh, ofKn, k_, n_]
  intro u r _ _ _ u2 r2 _ _ _ x _ _ y _ _
  refine ⟨bds_nil _, fun t ht => ⟨fun _ t ht => ht, fun htt => ?_⟩⟩
  have hlen : r.length ≤ 26 := by
    rw [htt] at ht
    have : (r.length : Int) ≤ 26 := of_decide_eq_true ht.symm
    omega
  refine fun t2 ht2 => ⟨fun _ t ht => ht, fun htt2 => ?_⟩
  refine ⟨(by show r.length ≤ 1000; omega), ?_⟩
  rintro v6 r6 _ _ _ ⟨_, hh⟩
  obtain rfl := (by simpa using hh : v6 = _ ∧ r6 = r).2
  rintro a1 _ _ a2 _ _ ⟨e1, e2⟩ b1 _ _ b2 _ _ ⟨f1, f2⟩
  refine ⟨fun h => absurd (e2.trans f2.symm) (h (e1.trans f1.symm)), fun _ => ⟨(by show r6.length ≤ 1000; omega), ?_⟩⟩
  rintro a1 _ _ a2 _ _ ⟨e1, e2⟩
  refine ⟨(by show r6.length ≤ 1000; omega), ?_⟩
  rintro b1 _ _ b2 _ _ ⟨f1, f2⟩
  refine ⟨fun h => absurd (e2.trans f2.symm) (h (e1.trans f1.symm)), fun _ => ⟨(by show r6.length ≤ 1000; omega), ?_⟩⟩
  rintro a1 _ _ a2 _ _ ⟨e1, e2⟩
  refine ⟨(by show r6.length ≤ 1000; omega), ?_⟩
  rintro b1 _ _ b2 _ _ ⟨f1, f2⟩
  refine ⟨fun h => absurd (e2.trans f2.symm) (h (e1.trans f1.symm)), fun _ => ?_⟩
  rintro p hp q hq
  have hpq : p = q := hp.trans hq.symm
  subst hpq
  refine ⟨fun _ => ?_, fun h => ?_⟩
  · rintro s hs
    rw [beq_self_eq_true] at hs
    exact ⟨fun _ t ht => ht, fun h => by rw [hs] at h; cases h⟩
  · have h : (p == p) = false := h
    rw [beq_self_eq_true] at h; cases h
theorem lranges_ok : CtOK Try.prog 5 (ctLaw [earthSh, .lf .int]) := by
  refine ct_ok (cx := clranges) (Tab.cx_ok (all_cons small_ok (all_cons rcopy_ok (all_cons (up3_ok pore_ok) (all_cons (up3_ok rpore_ok) (all_cons (up3_ok frac_ok) (all_cons (up3_ok rfrac_ok) (all_cons (up3_ok window_ok) (all_cons (up3_ok rwindow_ok) (all_cons rsame_ok (all_cons (up3_ok awake_ok) all_nil))))))))))) Try.func5 (bds := []) (T := tlranges) (by kernel_rfl) ?_
  have h1 : clranges.ct 25 = some ctSmall := rfl
  have h2 : clranges.ct 26 = some ctCopy := rfl
  have h3 : clranges.ct 27 = some (ctRange poreV) := rfl
  have h4 : clranges.ct 28 = some (ctRange poreV) := rfl
  have h5 : clranges.ct 29 = some (ctRange fracV) := rfl
  have h6 : clranges.ct 30 = some (ctRange fracV) := rfl
  have h7 : clranges.ct 31 = some (ctRange winV) := rfl
  have h8 : clranges.ct 32 = some (ctRange winV) := rfl
  have h9 : clranges.ct 33 = some ctSame := rfl
  have h12 : clranges.ct 17 = some ctAwake := rfl
  unfold tlranges
  simp only [VC, allC, List.map_cons, List.map_nil, List.length_cons, List.length_nil, List.getElem?_cons_zero, List.getElem?_cons_succ, List.cons.injEq, C.i.injEq, C.b.injEq, and_true, true_and, forall_const, kindsOf_nil, kindsOf_lf, kindsOf_agg, kindsOf_box, boxKinds_nil, boxKinds_lf, boxKinds_agg, boxKinds_box, List.append_nil, List.cons_append, List.nil_append, den_cmp_le, den_cmp_lt, den_cmp_eq, den_cmp_ne, den_cmp_le', den_cmp_lt', den_cmp_eq', den_cmp_ne', den_and, den_and', den_or, den_or', den_not, den_not', den_blit, den_of, ev_var, at_0, at_1, at_2, at_3, at_4, at_5, at_6, at_7, at_skip, c_int, c_bool, c_arr, c_cnt, c_vec, ev_nil, ev_join, ev_sub3, loc_s, int_i, bool_b, rows_s, cs_nil, cs_cons, E.den_lit, E.den_var, E.den_add, E.den_sub, E.den_mul, E.den_quo, E.den_rem, E.den_max, E.den_min, E.den_len, E.den_wr, E.den_cell, h1, h2, h3, h4, h5, h6, h7, h8, h9, h12, ctSmall, ctCopy, ctRange, ctSame, ctAwake, ctLaw, ctF, lineSh, rangeSh, earthSh, earthKs, ofKn, k_, n_, earOf, ear8, smallB, shortE]
  intro b _ _ u1 r1 _ _ _ u2 r2 _ _ _ u3 r3 _ _ _ u4 r4 _ _ _ gl _ _ gh _ _ u7 r7 _ _ _ z _ _
  refine ⟨bds_nil _, fun t ht => ⟨fun _ t ht => ht, fun htt => ?_⟩⟩
  rw [htt] at ht
  have ht := ht.symm
  simp only [Bool.and_eq_true] at ht
  obtain ⟨⟨⟨⟨s1, s2⟩, s3⟩, s4⟩, s7⟩ := ht
  have s1 : (r1.length : Int) ≤ 26 := of_decide_eq_true s1
  have s2 : (r2.length : Int) ≤ 26 := of_decide_eq_true s2
  have s3 : (r3.length : Int) ≤ 26 := of_decide_eq_true s3
  have s4 : (r4.length : Int) ≤ 26 := of_decide_eq_true s4
  have s7 : (r7.length : Int) ≤ 26 := of_decide_eq_true s7
  refine ⟨⟨by omega, by omega, by omega, by omega, by omega⟩, ?_⟩
  rintro b' _ _ v1 q1 _ _ _ v2 q2 _ _ _ v3 q3 _ _ _ v4 q4 _ _ _ gl' _ _ gh' _ _ v7 q7 _ _ _ ⟨⟨rfl, rfl, rfl⟩, hrows⟩
  obtain rfl : q1 = r1 := hrows 1 (by omega)
  obtain rfl : q2 = r2 := hrows 2 (by omega)
  obtain rfl : q3 = r3 := hrows 3 (by omega)
  obtain rfl : q4 = r4 := hrows 4 (by omega)
  obtain rfl : q7 = r7 := hrows 7 (by omega)
  clear hrows
  generalize (⟨b', knots q1, knots q2, knots q3, knots q4, gl', gh', repsOf q7⟩ : Ear) = e
  rintro a1 _ _ a2 _ _ ⟨e1, e2⟩ b1 _ _ b2 _ _ ⟨f1, f2⟩
  refine ⟨fun _ => ?_, fun h => absurd (e2.trans f2.symm) (h (e1.trans f1.symm))⟩
  rintro a1 _ _ a2 _ _ ⟨e1, e2⟩ b1 _ _ b2 _ _ ⟨f1, f2⟩
  refine ⟨fun _ => ?_, fun h => absurd (e2.trans f2.symm) (h (e1.trans f1.symm))⟩
  rintro a1 _ _ a2 _ _ ⟨e1, e2⟩ b1 _ _ b2 _ _ ⟨f1, f2⟩
  refine ⟨fun _ => ?_, fun h => absurd (e2.trans f2.symm) (h (e1.trans f1.symm))⟩
  rintro s hs
  rw [beq_self_eq_true] at hs
  exact ⟨fun _ t ht => ht, fun h => by rw [hs] at h; cases h⟩
end Go.Proofs.Ytcglpbchejkolaa
/- Earth: contracts, more of them: truths, reports more. -/
namespace Go.Proofs.Ytcglpbchejkolaa
set_option linter.unusedVariables false

def truthSh : Sh0 := .agg [.arr 44, .arr 44]
def reportSh : Sh0 := .agg [.int, .int, .int]
def endsB (ks : List Kn) (bottom : Int) : Bool := (ks.getD 0 (0, 0)).1 == 0 && (ks.getD (ks.length - 1) (0, 0)).1 == bottom
def truthV (tp tf : List Kn) (bottom : Int) : Int := orE (lineE tp) (orE (lineE tf) (if endsB tp bottom && endsB tf bottom then 0 else 3))
def growsV (gl gh : Int) : List Kn → Bool
  | a :: b :: l => inV (b.2 - a.2) (gl * (b.1 - a.1)) (gh * (b.1 - a.1)) && growsV gl gh (b :: l)
  | _ => true
def spansV (a b : List Kn) (bottom : Int) : Bool := geP (valP a 0) (valP b 0) && geP (valP a bottom) (valP b bottom) && aboveV a b bottom
def trueV (tp tf : List Kn) (r : Rep) : Bool :=
  if r.kind = 1 ∨ r.kind = 3 then decide (r.p ≤ (rangeP (if 3 ≤ r.kind then tf else tp) r.z).1) else decide ((rangeP (if 3 ≤ r.kind then tf else tp) r.z).2 ≤ r.p)
def fitsV (e : Ear) (tp tf : List Kn) : Bool :=
  checkV e == 0 && truthV tp tf e.bottom == 0 && growsV e.gl e.gh tp && growsV e.gl e.gh tf && spansV tp e.pl e.bottom && spansV e.ph tp e.bottom && spansV tf e.fl e.bottom && spansV e.fh tf e.bottom && spansV tf tp e.bottom && e.reps.all (trueV tp tf)
def zeroE : Ear := ⟨0, [], [], [], [], 0, 0, []⟩
def Ear.more (e : Ear) (r : Rep) : Ear := { e with reps := e.reps ++ [r] }
def addV (e : Ear) (r : Rep) : Ear × Int := if checkV e = 0 then (if checkV (e.more r) = 0 then (e.more r, 0) else (zeroE, checkV (e.more r))) else (zeroE, checkV e)

def ctTruth : Ct := ctF [truthSh, .lf .int] [.lf .int] (fun _ => True) (fun cs => [.i (truthV (k_ cs 0) (k_ cs 1) (n_ cs 2))])
def ctGrows : Ct := ctF [earthSh, lineSh] [.lf .bool] (fun cs => checkV (earOf cs) = 0 ∧ lineE (k_ cs 8) = 0) (fun cs => [.b (growsV (earOf cs).gl (earOf cs).gh (k_ cs 8))])
def OverOK (a b : List Kn) (bottom : Int) : Prop := lineE a = 0 ∧ lineE b = 0 ∧ 0 ≤ bottom ∧ bottom ≤ 1048576
def ctCovers : Ct := ctF [lineSh, lineSh, .lf .int] [.lf .bool] (fun cs => OverOK (k_ cs 0) (k_ cs 1) (n_ cs 2)) (fun cs => [.b (spansV (k_ cs 0) (k_ cs 1) (n_ cs 2))])
def ctRAtLeast : Ct := ctF [lineSh, lineSh, .lf .int] [.lf .bool] (fun cs => OverOK (k_ cs 0) (k_ cs 1) (n_ cs 2)) (fun cs => [.b (geP (valP (k_ cs 0) (n_ cs 2)) (valP (k_ cs 1) (n_ cs 2)))])
def ctRest : Ct := ⟨[lineSh, .lf .int], [.lf .int, .lf .int], fun cs => lineE (k_ cs 0) = 0 ∧ 0 ≤ n_ cs 1 ∧ n_ cs 1 ≤ 1048576, fun cs rs => ∃ n d, rs = [.i n, .i d] ∧ 0 < d ∧ d ≤ 1048576 ∧ 0 ≤ n ∧ n < d ∧ ((n = (valP (k_ cs 0) (n_ cs 1)).2.1 ∧ d = (valP (k_ cs 0) (n_ cs 1)).2.2) ∨ (n = 0 ∧ (valP (k_ cs 0) (n_ cs 1)).2.1 = 0)), false⟩
def ctTrue4 : Ct := ctF [reportSh, truthSh] [.lf .bool] (fun cs => lineE (k_ cs 3) = 0 ∧ lineE (k_ cs 4) = 0) (fun cs => [.b (trueV (k_ cs 3) (k_ cs 4) ⟨n_ cs 0, n_ cs 1, n_ cs 2⟩)])
def ctTold : Ct := ctF [earthSh, truthSh] [.lf .bool] (fun cs => checkV (earOf cs) = 0 ∧ lineE (k_ cs 8) = 0 ∧ lineE (k_ cs 9) = 0) (fun cs => [.b ((earOf cs).reps.all (trueV (k_ cs 8) (k_ cs 9)))])
def ctFits : Ct := ctF [earthSh, truthSh] [.lf .bool] (fun _ => True) (fun cs => [.b (fitsV (earOf cs) (k_ cs 8) (k_ cs 9))])
def vecEarth : Sh0 := .agg [.int, .vec 44, .vec 44, .vec 44, .vec 44, .int, .int, .vec 57]
def ctAdd : Ct := ⟨[earthSh, reportSh], [vecEarth, .lf .int], fun cs => shortE cs, fun cs rs => earOf rs = (addV (earOf cs) ⟨n_ cs 8, n_ cs 9, n_ cs 10⟩).1 ∧ at_ rs 8 = .i (addV (earOf cs) ⟨n_ cs 8, n_ cs 9, n_ cs 10⟩).2, false⟩
def tab4 : Tab where
  ct := fun f => match f with
    | 48 | 49 => some ctTruth
    | 78 | 83 => some ctGrows
    | 79 | 84 => some ctCovers
    | 106 => some ctRAtLeast
    | 119 => some ctRest
    | 82 => some ctTrue4
    | 85 => some ctTold
    | 45 | 46 => some ctFits
    | 36 | 37 => some ctAdd
    | f => tab3.ct f
  inl := tab3.inl
  sel := tab3.sel
theorem up4_ok {f : Nat} (h : tab3.ok f) (he : tab4.ct f = tab3.ct f := by rfl) : tab4.ok f :=
  ⟨h.1, fun ct hc => h.2.1 ct (he ▸ hc), h.2.2.1, h.2.2.2⟩
end Go.Proofs.Ytcglpbchejkolaa
/- What is to be shown of each function, as the executor has it. Printed by trees.py. -/
namespace Go.Proofs.Ytcglpbchejkolaa
noncomputable def cctruth : Cx := tab4.only [18] (fun r => match r with
  | 3 => [.blk 2000003]
  | 10 => [.blk 2000003]
  | _ => []) [] 0 [] (fun _ => none)
def tctruth : Tree :=
  (.dfn .nil (.dfn .nil (.dfn .nil (.call 18 [(.arr 44 (.var 0)), (.int (.lit 1048576)), (.int (.lit 68719476736))] (.split (.cmp .ne (.var 6) (.lit 0)) (.ret [(.int (.var 6))]) (.dfn .nil (.call 18 [(.arr 44 (.var 1)), (.int (.lit 1048576)), (.int (.lit 68719476736))] (.split (.cmp .ne (.var 8) (.lit 0)) (.ret [(.int (.var 8))]) (.dfn .nil (.ob (.cmp .lt (.lit 0) (.len (.var 0))) (.split (.cmp .ne (.cell (.var 0) (.lit 0) 0) (.lit 0)) (.ret [(.int (.lit 3))]) (.ob (.cmp .le (.lit 0) (.sub (.len (.var 0)) (.lit 1))) (.ob (.cmp .lt (.sub (.len (.var 0)) (.lit 1)) (.len (.var 0))) (.split (.cmp .ne (.cell (.var 0) (.sub (.len (.var 0)) (.lit 1)) 0) (.var 2)) (.ret [(.int (.lit 3))]) (.dfn .nil (.ob (.cmp .lt (.lit 0) (.len (.var 1))) (.split (.cmp .ne (.cell (.var 1) (.lit 0) 0) (.lit 0)) (.ret [(.int (.lit 3))]) (.ob (.cmp .le (.lit 0) (.sub (.len (.var 1)) (.lit 1))) (.ob (.cmp .lt (.sub (.len (.var 1)) (.lit 1)) (.len (.var 1))) (.split (.cmp .ne (.cell (.var 1) (.sub (.len (.var 1)) (.lit 1)) 0) (.var 2)) (.ret [(.int (.lit 3))]) (.ret [(.int (.lit 0))])))))))))))))))))))))
noncomputable def crctruth : Cx := tab4.only [19] (fun _ => []) [] 0 [] (fun _ => none)
def trctruth : Tree :=
  (.arr [[(.arr 44 (.var 0))], [(.arr 44 (.var 1))]] (.loop [.int, .int] [(.int (.lit 0)), (.int (.lit 0))] (.split (.cmp .lt (.var 5) (.len (.var 3))) (.ob (.cmp .le (.lit 0) (.var 5)) (.ob (.cmp .lt (.var 5) (.len (.var 3))) (.call 19 [(.arr 44 (.cell (.var 3) (.var 5) 0)), (.int (.lit 1048576)), (.int (.lit 68719476736))] (.split (.cmp .ne (.var 6) (.lit 0)) (.ret [(.int (.var 6))]) (.back 0 [(.int (.var 4)), (.int (.add (.var 5) (.lit 1)))]))))) (.loop [.int, .int] [(.int (.var 4)), (.int (.lit 0))] (.split (.cmp .lt (.var 7) (.len (.var 3))) (.ob (.cmp .le (.lit 0) (.var 7)) (.ob (.cmp .lt (.var 7) (.len (.var 3))) (.ob (.cmp .lt (.lit 0) (.len (.cell (.var 3) (.var 7) 0))) (.split (.cmp .ne (.cell (.cell (.var 3) (.var 7) 0) (.lit 0) 0) (.lit 0)) (.ret [(.int (.lit 3))]) (.ob (.cmp .lt (.var 7) (.len (.var 3))) (.ob (.cmp .lt (.var 7) (.len (.var 3))) (.ob (.cmp .le (.lit 0) (.sub (.len (.cell (.var 3) (.var 7) 0)) (.lit 1))) (.ob (.cmp .lt (.sub (.len (.cell (.var 3) (.var 7) 0)) (.lit 1)) (.len (.cell (.var 3) (.var 7) 0))) (.split (.cmp .ne (.cell (.cell (.var 3) (.var 7) 0) (.sub (.len (.cell (.var 3) (.var 7) 0)) (.lit 1)) 0) (.var 2)) (.ret [(.int (.lit 3))]) (.back 1 [(.int (.var 6)), (.int (.add (.var 7) (.lit 1)))])))))))))) (.ret [(.int (.lit 0))]))))))
noncomputable def cgrows : Cx := tab4.only [60] (fun _ => []) [] 0 [] (fun _ => none)
def tgrows : Tree :=
  (.ob (.cmp .le (.lit 1) (.len (.var 8))) (.ob (.cmp .le (.len (.var 8)) (.len (.var 8))) (.loop [.bool, .int] [(.bool (.lit false)), (.int (.lit 0))] (.split (.cmp .lt (.var 10) (.len (.sub3 (.var 8) (.lit 1) (.len (.var 8)) 2))) (.ob (.cmp .le (.lit 0) (.var 10)) (.ob (.cmp .lt (.var 10) (.len (.var 8))) (.ob (.cmp .lt (.add (.var 10) (.lit 1)) (.len (.var 8))) (.ob (.and (.cmp .le (.lit (-9223372036854775808)) (.sub (.cell (.var 8) (.add (.var 10) (.lit 1)) 1) (.cell (.var 8) (.var 10) 1))) (.cmp .le (.sub (.cell (.var 8) (.add (.var 10) (.lit 1)) 1) (.cell (.var 8) (.var 10) 1)) (.lit 9223372036854775807))) (.ob (.and (.cmp .le (.lit (-9223372036854775808)) (.sub (.cell (.var 8) (.add (.var 10) (.lit 1)) 0) (.cell (.var 8) (.var 10) 0))) (.cmp .le (.sub (.cell (.var 8) (.add (.var 10) (.lit 1)) 0) (.cell (.var 8) (.var 10) 0)) (.lit 9223372036854775807))) (.ob (.and (.cmp .le (.lit (-9223372036854775808)) (.mul (.var 5) (.sub (.cell (.var 8) (.add (.var 10) (.lit 1)) 0) (.cell (.var 8) (.var 10) 0)))) (.cmp .le (.mul (.var 5) (.sub (.cell (.var 8) (.add (.var 10) (.lit 1)) 0) (.cell (.var 8) (.var 10) 0))) (.lit 9223372036854775807))) (.ob (.and (.cmp .le (.lit (-9223372036854775808)) (.sub (.cell (.var 8) (.add (.var 10) (.lit 1)) 0) (.cell (.var 8) (.var 10) 0))) (.cmp .le (.sub (.cell (.var 8) (.add (.var 10) (.lit 1)) 0) (.cell (.var 8) (.var 10) 0)) (.lit 9223372036854775807))) (.ob (.and (.cmp .le (.lit (-9223372036854775808)) (.mul (.var 6) (.sub (.cell (.var 8) (.add (.var 10) (.lit 1)) 0) (.cell (.var 8) (.var 10) 0)))) (.cmp .le (.mul (.var 6) (.sub (.cell (.var 8) (.add (.var 10) (.lit 1)) 0) (.cell (.var 8) (.var 10) 0))) (.lit 9223372036854775807))) (.ob (.and (.cmp .le (.lit (-9223372036854775808)) (.sub (.cell (.var 8) (.add (.var 10) (.lit 1)) 1) (.cell (.var 8) (.var 10) 1))) (.cmp .le (.sub (.cell (.var 8) (.add (.var 10) (.lit 1)) 1) (.cell (.var 8) (.var 10) 1)) (.lit 9223372036854775807))) (.ob (.and (.cmp .le (.lit (-9223372036854775808)) (.mul (.var 5) (.sub (.cell (.var 8) (.add (.var 10) (.lit 1)) 0) (.cell (.var 8) (.var 10) 0)))) (.cmp .le (.mul (.var 5) (.sub (.cell (.var 8) (.add (.var 10) (.lit 1)) 0) (.cell (.var 8) (.var 10) 0))) (.lit 9223372036854775807))) (.ob (.and (.cmp .le (.lit (-9223372036854775808)) (.mul (.var 6) (.sub (.cell (.var 8) (.add (.var 10) (.lit 1)) 0) (.cell (.var 8) (.var 10) 0)))) (.cmp .le (.mul (.var 6) (.sub (.cell (.var 8) (.add (.var 10) (.lit 1)) 0) (.cell (.var 8) (.var 10) 0))) (.lit 9223372036854775807))) (.split (.not (.and (.cmp .le (.mul (.var 5) (.sub (.cell (.var 8) (.add (.var 10) (.lit 1)) 0) (.cell (.var 8) (.var 10) 0))) (.sub (.cell (.var 8) (.add (.var 10) (.lit 1)) 1) (.cell (.var 8) (.var 10) 1))) (.cmp .le (.sub (.cell (.var 8) (.add (.var 10) (.lit 1)) 1) (.cell (.var 8) (.var 10) 1)) (.mul (.var 6) (.sub (.cell (.var 8) (.add (.var 10) (.lit 1)) 0) (.cell (.var 8) (.var 10) 0)))))) (.ret [(.bool (.lit false))]) (.back 0 [(.bool (.of (.var 9))), (.int (.add (.var 10) (.lit 1)))]))))))))))))) (.ret [(.bool (.lit true))])))))
noncomputable def crgrows : Cx := tab4.only [] (fun _ => []) [] 0 [] (fun _ => none)
def trgrows : Tree :=
  (.loop [.bool, .int] [(.bool (.lit false)), (.int (.lit 1))] (.split (.cmp .lt (.var 10) (.len (.var 8))) (.ob (.cmp .le (.lit 0) (.var 10)) (.ob (.cmp .lt (.var 10) (.len (.var 8))) (.ob (.cmp .le (.lit 0) (.sub (.var 10) (.lit 1))) (.ob (.cmp .lt (.sub (.var 10) (.lit 1)) (.len (.var 8))) (.ob (.and (.cmp .le (.lit (-9223372036854775808)) (.sub (.cell (.var 8) (.var 10) 1) (.cell (.var 8) (.sub (.var 10) (.lit 1)) 1))) (.cmp .le (.sub (.cell (.var 8) (.var 10) 1) (.cell (.var 8) (.sub (.var 10) (.lit 1)) 1)) (.lit 9223372036854775807))) (.ob (.cmp .lt (.var 10) (.len (.var 8))) (.ob (.cmp .le (.lit 0) (.sub (.var 10) (.lit 1))) (.ob (.cmp .lt (.sub (.var 10) (.lit 1)) (.len (.var 8))) (.ob (.and (.cmp .le (.lit (-9223372036854775808)) (.sub (.cell (.var 8) (.var 10) 0) (.cell (.var 8) (.sub (.var 10) (.lit 1)) 0))) (.cmp .le (.sub (.cell (.var 8) (.var 10) 0) (.cell (.var 8) (.sub (.var 10) (.lit 1)) 0)) (.lit 9223372036854775807))) (.ob (.and (.cmp .le (.lit (-9223372036854775808)) (.mul (.var 5) (.sub (.cell (.var 8) (.var 10) 0) (.cell (.var 8) (.sub (.var 10) (.lit 1)) 0)))) (.cmp .le (.mul (.var 5) (.sub (.cell (.var 8) (.var 10) 0) (.cell (.var 8) (.sub (.var 10) (.lit 1)) 0))) (.lit 9223372036854775807))) (.split (.cmp .lt (.sub (.cell (.var 8) (.var 10) 1) (.cell (.var 8) (.sub (.var 10) (.lit 1)) 1)) (.mul (.var 5) (.sub (.cell (.var 8) (.var 10) 0) (.cell (.var 8) (.sub (.var 10) (.lit 1)) 0)))) (.ret [(.bool (.lit false))]) (.ob (.and (.cmp .le (.lit (-9223372036854775808)) (.mul (.var 6) (.sub (.cell (.var 8) (.var 10) 0) (.cell (.var 8) (.sub (.var 10) (.lit 1)) 0)))) (.cmp .le (.mul (.var 6) (.sub (.cell (.var 8) (.var 10) 0) (.cell (.var 8) (.sub (.var 10) (.lit 1)) 0))) (.lit 9223372036854775807))) (.split (.cmp .lt (.mul (.var 6) (.sub (.cell (.var 8) (.var 10) 0) (.cell (.var 8) (.sub (.var 10) (.lit 1)) 0))) (.sub (.cell (.var 8) (.var 10) 1) (.cell (.var 8) (.sub (.var 10) (.lit 1)) 1))) (.ret [(.bool (.lit false))]) (.back 0 [(.bool (.of (.var 9))), (.int (.add (.var 10) (.lit 1)))])))))))))))))) (.ret [(.bool (.lit true))])))
noncomputable def ccovers : Cx := tab4.only [92, 64] (fun _ => []) [] 0 [] (fun _ => none)
def tcovers : Tree :=
  (.call 92 [(.arr 44 (.var 0)), (.arr 44 (.var 1)), (.int (.lit 0))] (.split (.of (.var 3)) (.call 92 [(.arr 44 (.var 0)), (.arr 44 (.var 1)), (.int (.var 2))] (.split (.of (.var 4)) (.call 64 [(.arr 44 (.var 0)), (.arr 44 (.var 1)), (.int (.var 2))] (.ret [(.bool (.of (.var 5)))])) (.ret [(.bool (.lit false))]))) (.ret [(.bool (.lit false))])))
noncomputable def cover : Cx := tab4.only [106] (fun _ => []) [] 0 [] (fun _ => none)
def tover : Tree :=
  (.arr [[(.int (.lit 0))], [(.int (.var 2))]] (.loop [(.vec 2), .int] [(.cnt 2 (.var 3)), (.int (.lit 0))] (.split (.cmp .lt (.var 5) (.len (.var 0))) (.ob (.cmp .le (.lit 0) (.var 5)) (.ob (.cmp .lt (.var 5) (.len (.var 0))) (.arr [[(.int (.cell (.var 0) (.var 5) 0))]] (.ob (.cmp .le (.mul (.add (.len (.var 4)) (.len (.var 6))) (.lit 8)) (.lit 140737488355328)) (.cat (.var 4) (.var 6) (.back 0 [(.cnt 2 (.var 7)), (.int (.add (.var 5) (.lit 1)))])))))) (.loop [(.vec 2), .int] [(.cnt 2 (.var 4)), (.int (.lit 0))] (.split (.cmp .lt (.var 7) (.len (.var 1))) (.ob (.cmp .le (.lit 0) (.var 7)) (.ob (.cmp .lt (.var 7) (.len (.var 1))) (.arr [[(.int (.cell (.var 1) (.var 7) 0))]] (.ob (.cmp .le (.mul (.add (.len (.var 6)) (.len (.var 8))) (.lit 8)) (.lit 140737488355328)) (.cat (.var 6) (.var 8) (.back 1 [(.cnt 2 (.var 9)), (.int (.add (.var 7) (.lit 1)))])))))) (.loop [.bool, .int] [(.bool (.lit false)), (.int (.lit 0))] (.split (.cmp .lt (.var 9) (.len (.var 6))) (.ob (.cmp .le (.lit 0) (.var 9)) (.ob (.cmp .lt (.var 9) (.len (.var 6))) (.split (.cmp .le (.cell (.var 6) (.var 9) 0) (.var 2)) (.ob (.cmp .lt (.var 9) (.len (.var 6))) (.call 106 [(.arr 44 (.var 0)), (.arr 44 (.var 1)), (.int (.cell (.var 6) (.var 9) 0))] (.split (.not (.of (.var 10))) (.ret [(.bool (.lit false))]) (.back 2 [(.bool (.of (.var 8))), (.int (.add (.var 9) (.lit 1)))])))) (.back 2 [(.bool (.of (.var 8))), (.int (.add (.var 9) (.lit 1)))])))) (.ret [(.bool (.lit true))]))))))))
noncomputable def cratleast : Cx := tab4.only [72, 119] (fun _ => []) [] 0 [] (fun _ => none)
def tratleast : Tree :=
  (.call 72 [(.arr 44 (.var 0)), (.int (.var 2))] (.call 72 [(.arr 44 (.var 1)), (.int (.var 2))] (.split (.cmp .ne (.var 3) (.var 5)) (.split (.cmp .le (.var 6) (.var 3)) (.ret [(.bool (.lit true))]) (.ret [(.bool (.cmp .lt (.var 5) (.var 3)))])) (.split (.cmp .eq (.var 3) (.var 4)) (.split (.cmp .eq (.var 5) (.var 6)) (.split (.cmp .le (.var 6) (.var 3)) (.ret [(.bool (.lit true))]) (.ret [(.bool (.cmp .lt (.var 5) (.var 3)))])) (.call 119 [(.arr 44 (.var 0)), (.int (.var 2))] (.call 119 [(.arr 44 (.var 1)), (.int (.var 2))] (.ob (.and (.cmp .le (.lit (-9223372036854775808)) (.mul (.var 7) (.var 10))) (.cmp .le (.mul (.var 7) (.var 10)) (.lit 9223372036854775807))) (.ob (.and (.cmp .le (.lit (-9223372036854775808)) (.mul (.var 9) (.var 8))) (.cmp .le (.mul (.var 9) (.var 8)) (.lit 9223372036854775807))) (.ret [(.bool (.cmp .le (.mul (.var 9) (.var 8)) (.mul (.var 7) (.var 10))))])))))) (.call 119 [(.arr 44 (.var 0)), (.int (.var 2))] (.call 119 [(.arr 44 (.var 1)), (.int (.var 2))] (.ob (.and (.cmp .le (.lit (-9223372036854775808)) (.mul (.var 7) (.var 10))) (.cmp .le (.mul (.var 7) (.var 10)) (.lit 9223372036854775807))) (.ob (.and (.cmp .le (.lit (-9223372036854775808)) (.mul (.var 9) (.var 8))) (.cmp .le (.mul (.var 9) (.var 8)) (.lit 9223372036854775807))) (.ret [(.bool (.cmp .le (.mul (.var 9) (.var 8)) (.mul (.var 7) (.var 10))))])))))))))
noncomputable def crest : Cx := tab4.only [101] (fun _ => []) [] 0 [] (fun _ => none)
def trest : Tree :=
  (.loop [.int, .int, .int] [(.int (.lit 0)), (.int (.lit 0)), (.int (.lit 0))] (.ob (.and (.cmp .le (.lit (-9223372036854775808)) (.add (.var 4) (.lit 1))) (.cmp .le (.add (.var 4) (.lit 1)) (.lit 9223372036854775807))) (.split (.cmp .lt (.add (.var 4) (.lit 1)) (.len (.var 0))) (.ob (.cmp .le (.lit 0) (.var 4)) (.ob (.cmp .lt (.var 4) (.len (.var 0))) (.ob (.cmp .lt (.add (.var 4) (.lit 1)) (.len (.var 0))) (.split (.cmp .le (.cell (.var 0) (.var 4) 0) (.var 1)) (.split (.cmp .lt (.var 1) (.cell (.var 0) (.add (.var 4) (.lit 1)) 0)) (.ob (.and (.cmp .le (.lit (-9223372036854775808)) (.sub (.cell (.var 0) (.add (.var 4) (.lit 1)) 0) (.cell (.var 0) (.var 4) 0))) (.cmp .le (.sub (.cell (.var 0) (.add (.var 4) (.lit 1)) 0) (.cell (.var 0) (.var 4) 0)) (.lit 9223372036854775807))) (.ob (.and (.cmp .le (.lit (-9223372036854775808)) (.sub (.cell (.var 0) (.add (.var 4) (.lit 1)) 1) (.cell (.var 0) (.var 4) 1))) (.cmp .le (.sub (.cell (.var 0) (.add (.var 4) (.lit 1)) 1) (.cell (.var 0) (.var 4) 1)) (.lit 9223372036854775807))) (.ob (.and (.cmp .le (.lit (-9223372036854775808)) (.sub (.var 1) (.cell (.var 0) (.var 4) 0))) (.cmp .le (.sub (.var 1) (.cell (.var 0) (.var 4) 0)) (.lit 9223372036854775807))) (.ob (.and (.cmp .le (.lit (-9223372036854775808)) (.mul (.sub (.cell (.var 0) (.add (.var 4) (.lit 1)) 1) (.cell (.var 0) (.var 4) 1)) (.sub (.var 1) (.cell (.var 0) (.var 4) 0)))) (.cmp .le (.mul (.sub (.cell (.var 0) (.add (.var 4) (.lit 1)) 1) (.cell (.var 0) (.var 4) 1)) (.sub (.var 1) (.cell (.var 0) (.var 4) 0))) (.lit 9223372036854775807))) (.ob (.and (.cmp .le (.lit (-9223372036854775808)) (.mul (.sub (.cell (.var 0) (.add (.var 4) (.lit 1)) 1) (.cell (.var 0) (.var 4) 1)) (.sub (.var 1) (.cell (.var 0) (.var 4) 0)))) (.cmp .le (.mul (.sub (.cell (.var 0) (.add (.var 4) (.lit 1)) 1) (.cell (.var 0) (.var 4) 1)) (.sub (.var 1) (.cell (.var 0) (.var 4) 0))) (.lit 9223372036854775807))) (.ob (.and (.cmp .le (.lit (-9223372036854775808)) (.sub (.cell (.var 0) (.add (.var 4) (.lit 1)) 0) (.cell (.var 0) (.var 4) 0))) (.cmp .le (.sub (.cell (.var 0) (.add (.var 4) (.lit 1)) 0) (.cell (.var 0) (.var 4) 0)) (.lit 9223372036854775807))) (.call 101 [(.int (.mul (.sub (.cell (.var 0) (.add (.var 4) (.lit 1)) 1) (.cell (.var 0) (.var 4) 1)) (.sub (.var 1) (.cell (.var 0) (.var 4) 0)))), (.int (.sub (.cell (.var 0) (.add (.var 4) (.lit 1)) 0) (.cell (.var 0) (.var 4) 0)))] (.ob (.and (.cmp .le (.lit (-9223372036854775808)) (.mul (.var 5) (.sub (.cell (.var 0) (.add (.var 4) (.lit 1)) 0) (.cell (.var 0) (.var 4) 0)))) (.cmp .le (.mul (.var 5) (.sub (.cell (.var 0) (.add (.var 4) (.lit 1)) 0) (.cell (.var 0) (.var 4) 0))) (.lit 9223372036854775807))) (.ob (.and (.cmp .le (.lit (-9223372036854775808)) (.sub (.mul (.sub (.cell (.var 0) (.add (.var 4) (.lit 1)) 1) (.cell (.var 0) (.var 4) 1)) (.sub (.var 1) (.cell (.var 0) (.var 4) 0))) (.mul (.var 5) (.sub (.cell (.var 0) (.add (.var 4) (.lit 1)) 0) (.cell (.var 0) (.var 4) 0))))) (.cmp .le (.sub (.mul (.sub (.cell (.var 0) (.add (.var 4) (.lit 1)) 1) (.cell (.var 0) (.var 4) 1)) (.sub (.var 1) (.cell (.var 0) (.var 4) 0))) (.mul (.var 5) (.sub (.cell (.var 0) (.add (.var 4) (.lit 1)) 0) (.cell (.var 0) (.var 4) 0)))) (.lit 9223372036854775807))) (.ob (.and (.cmp .le (.lit (-9223372036854775808)) (.sub (.mul (.sub (.cell (.var 0) (.add (.var 4) (.lit 1)) 1) (.cell (.var 0) (.var 4) 1)) (.sub (.var 1) (.cell (.var 0) (.var 4) 0))) (.mul (.var 5) (.sub (.cell (.var 0) (.add (.var 4) (.lit 1)) 0) (.cell (.var 0) (.var 4) 0))))) (.cmp .le (.sub (.mul (.sub (.cell (.var 0) (.add (.var 4) (.lit 1)) 1) (.cell (.var 0) (.var 4) 1)) (.sub (.var 1) (.cell (.var 0) (.var 4) 0))) (.mul (.var 5) (.sub (.cell (.var 0) (.add (.var 4) (.lit 1)) 0) (.cell (.var 0) (.var 4) 0)))) (.lit 9223372036854775807))) (.ob (.and (.cmp .le (.lit (-9223372036854775808)) (.sub (.cell (.var 0) (.add (.var 4) (.lit 1)) 0) (.cell (.var 0) (.var 4) 0))) (.cmp .le (.sub (.cell (.var 0) (.add (.var 4) (.lit 1)) 0) (.cell (.var 0) (.var 4) 0)) (.lit 9223372036854775807))) (.ret [(.int (.sub (.mul (.sub (.cell (.var 0) (.add (.var 4) (.lit 1)) 1) (.cell (.var 0) (.var 4) 1)) (.sub (.var 1) (.cell (.var 0) (.var 4) 0))) (.mul (.var 5) (.sub (.cell (.var 0) (.add (.var 4) (.lit 1)) 0) (.cell (.var 0) (.var 4) 0))))), (.int (.sub (.cell (.var 0) (.add (.var 4) (.lit 1)) 0) (.cell (.var 0) (.var 4) 0)))])))))))))))) (.back 0 [(.int (.var 2)), (.int (.var 3)), (.int (.add (.var 4) (.lit 1)))])) (.back 0 [(.int (.var 2)), (.int (.var 3)), (.int (.add (.var 4) (.lit 1)))]))))) (.ret [(.int (.lit 0)), (.int (.lit 1))]))))
noncomputable def ctrue4 : Cx := tab4.only [65] (fun _ => []) [] 0 [] (fun _ => none)
def ttrue4 : Tree :=
  (.dfn .nil (.split (.cmp .le (.lit 3) (.var 0)) (.call 65 [(.arr 44 (.var 4)), (.int (.var 1))] (.split (.cmp .eq (.var 0) (.lit 3)) (.ret [(.bool (.cmp .le (.var 2) (.var 6)))]) (.ret [(.bool (.cmp .le (.var 7) (.var 2)))]))) (.call 65 [(.arr 44 (.var 3)), (.int (.var 1))] (.split (.cmp .eq (.var 0) (.lit 1)) (.ret [(.bool (.cmp .le (.var 2) (.var 6)))]) (.ret [(.bool (.cmp .le (.var 7) (.var 2)))])))))
noncomputable def ctold : Cx := tab4.only [72] (fun _ => []) [] 0 [] (fun _ => none)
def ttold : Tree :=
  (.loop [.bool, .int] [(.bool (.lit false)), (.int (.lit 0))] (.split (.cmp .lt (.var 11) (.len (.var 7))) (.ob (.cmp .le (.lit 0) (.var 11)) (.ob (.cmp .lt (.var 11) (.len (.var 7))) (.call 72 [(.arr 44 (.var 8)), (.int (.cell (.var 7) (.var 11) 1))] (.call 72 [(.arr 44 (.var 9)), (.int (.cell (.var 7) (.var 11) 1))] (.split (.cmp .eq (.cell (.var 7) (.var 11) 0) (.lit 2)) (.split (.not (.cmp .le (.var 13) (.cell (.var 7) (.var 11) 2))) (.ret [(.bool (.lit false))]) (.back 0 [(.bool (.of (.var 10))), (.int (.add (.var 11) (.lit 1)))])) (.split (.cmp .eq (.cell (.var 7) (.var 11) 0) (.lit 3)) (.split (.not (.cmp .le (.cell (.var 7) (.var 11) 2) (.var 14))) (.ret [(.bool (.lit false))]) (.back 0 [(.bool (.of (.var 10))), (.int (.add (.var 11) (.lit 1)))])) (.split (.cmp .eq (.cell (.var 7) (.var 11) 0) (.lit 4)) (.split (.not (.cmp .le (.var 15) (.cell (.var 7) (.var 11) 2))) (.ret [(.bool (.lit false))]) (.back 0 [(.bool (.of (.var 10))), (.int (.add (.var 11) (.lit 1)))])) (.split (.not (.cmp .le (.cell (.var 7) (.var 11) 2) (.var 12))) (.ret [(.bool (.lit false))]) (.back 0 [(.bool (.of (.var 10))), (.int (.add (.var 11) (.lit 1)))]))))))))) (.ret [(.bool (.lit true))])))
noncomputable def flfits : List (Nat × Func) := [(80, Try.f80), (105, Try.f105), (81, Try.f81)]
theorem fxfits : ∀ p ∈ flfits, FnOK p := fns_cons ⟨Try.func80, ⟨_, Try.func80, by decide, rfl⟩⟩ (fns_cons ⟨Try.func105, ⟨_, Try.func105, by decide, rfl⟩⟩ (fns_cons ⟨Try.func81, ⟨_, Try.func81, by decide, rfl⟩⟩ (fns_nil)))
noncomputable def cfits : Cx := tab4.only [35, 48, 78, 79, 82] (fun r => match r with
  | 5 => [.blk 2000006]
  | _ => []) flfits 3 [] (fun _ => none)
def tfits : Tree :=
  (.call 35 [(.int (.var 0)), (.arr 44 (.var 1)), (.arr 44 (.var 2)), (.arr 44 (.var 3)), (.arr 44 (.var 4)), (.int (.var 5)), (.int (.var 6)), (.arr 57 (.var 7))] (.split (.cmp .ne (.var 10) (.lit 0)) (.ret [(.bool (.lit false))]) (.call 48 [(.arr 44 (.var 8)), (.arr 44 (.var 9)), (.int (.var 0))] (.split (.cmp .ne (.var 11) (.lit 0)) (.ret [(.bool (.lit false))]) (.call 78 [(.int (.var 0)), (.arr 44 (.var 1)), (.arr 44 (.var 2)), (.arr 44 (.var 3)), (.arr 44 (.var 4)), (.int (.var 5)), (.int (.var 6)), (.arr 57 (.var 7)), (.arr 44 (.var 8))] (.split (.not (.of (.var 12))) (.ret [(.bool (.lit false))]) (.call 78 [(.int (.var 0)), (.arr 44 (.var 1)), (.arr 44 (.var 2)), (.arr 44 (.var 3)), (.arr 44 (.var 4)), (.int (.var 5)), (.int (.var 6)), (.arr 57 (.var 7)), (.arr 44 (.var 9))] (.split (.not (.of (.var 13))) (.ret [(.bool (.lit false))]) (.dfn .nil (.dfn .nil (.dfn .nil (.dfn .nil (.dfn .nil (.dfn .nil (.dfn .nil (.dfn .nil (.dfn .nil (.dfn .nil (.dfn .nil (.dfn .nil (.call 79 [(.arr 44 (.var 8)), (.arr 44 (.var 1)), (.int (.var 0))] (.split (.not (.of (.var 26))) (.ret [(.bool (.lit false))]) (.dfn .nil (.dfn .nil (.call 79 [(.arr 44 (.var 2)), (.arr 44 (.var 8)), (.int (.var 0))] (.split (.not (.of (.var 29))) (.ret [(.bool (.lit false))]) (.dfn .nil (.dfn .nil (.call 79 [(.arr 44 (.var 9)), (.arr 44 (.var 3)), (.int (.var 0))] (.split (.not (.of (.var 32))) (.ret [(.bool (.lit false))]) (.dfn .nil (.dfn .nil (.call 79 [(.arr 44 (.var 4)), (.arr 44 (.var 9)), (.int (.var 0))] (.split (.not (.of (.var 35))) (.ret [(.bool (.lit false))]) (.dfn .nil (.dfn .nil (.call 79 [(.arr 44 (.var 9)), (.arr 44 (.var 8)), (.int (.var 0))] (.split (.not (.of (.var 38))) (.ret [(.bool (.lit false))]) (.arr [] (.loop [.int, .int] [(.int (.lit 0)), (.int (.lit 0))] (.split (.cmp .lt (.var 41) (.len (.var 7))) (.ob (.cmp .le (.lit 0) (.var 41)) (.ob (.cmp .lt (.var 41) (.len (.var 7))) (.call 82 [(.int (.cell (.var 7) (.var 41) 0)), (.int (.cell (.var 7) (.var 41) 1)), (.int (.cell (.var 7) (.var 41) 2)), (.arr 44 (.var 8)), (.arr 44 (.var 9))] (.split (.not (.of (.var 42))) (.ret [(.bool (.lit false))]) (.back 0 [(.int (.var 40)), (.int (.add (.var 41) (.lit 1)))]))))) (.ret [(.bool (.lit true))]))))))))))))))))))))))))))))))))))))))))))
noncomputable def crfits : Cx := tab4.only [47, 49, 83, 84, 85] (fun _ => []) [] 0 [] (fun _ => none)
def trfits : Tree :=
  (.call 47 [(.int (.var 0)), (.arr 44 (.var 1)), (.arr 44 (.var 2)), (.arr 44 (.var 3)), (.arr 44 (.var 4)), (.int (.var 5)), (.int (.var 6)), (.arr 57 (.var 7))] (.split (.cmp .ne (.var 10) (.lit 0)) (.ret [(.bool (.lit false))]) (.call 49 [(.arr 44 (.var 8)), (.arr 44 (.var 9)), (.int (.var 0))] (.split (.cmp .ne (.var 11) (.lit 0)) (.ret [(.bool (.lit false))]) (.call 83 [(.int (.var 0)), (.arr 44 (.var 1)), (.arr 44 (.var 2)), (.arr 44 (.var 3)), (.arr 44 (.var 4)), (.int (.var 5)), (.int (.var 6)), (.arr 57 (.var 7)), (.arr 44 (.var 8))] (.split (.not (.of (.var 12))) (.ret [(.bool (.lit false))]) (.call 83 [(.int (.var 0)), (.arr 44 (.var 1)), (.arr 44 (.var 2)), (.arr 44 (.var 3)), (.arr 44 (.var 4)), (.int (.var 5)), (.int (.var 6)), (.arr 57 (.var 7)), (.arr 44 (.var 9))] (.split (.not (.of (.var 13))) (.ret [(.bool (.lit false))]) (.call 84 [(.arr 44 (.var 8)), (.arr 44 (.var 1)), (.int (.var 0))] (.split (.of (.var 14)) (.call 84 [(.arr 44 (.var 2)), (.arr 44 (.var 8)), (.int (.var 0))] (.split (.of (.var 15)) (.call 84 [(.arr 44 (.var 9)), (.arr 44 (.var 3)), (.int (.var 0))] (.split (.of (.var 16)) (.call 84 [(.arr 44 (.var 4)), (.arr 44 (.var 9)), (.int (.var 0))] (.split (.of (.var 17)) (.call 84 [(.arr 44 (.var 9)), (.arr 44 (.var 8)), (.int (.var 0))] (.split (.of (.var 18)) (.call 85 [(.int (.var 0)), (.arr 44 (.var 1)), (.arr 44 (.var 2)), (.arr 44 (.var 3)), (.arr 44 (.var 4)), (.int (.var 5)), (.int (.var 6)), (.arr 57 (.var 7)), (.arr 44 (.var 8)), (.arr 44 (.var 9))] (.ret [(.bool (.of (.var 19)))])) (.ret [(.bool (.lit false))]))) (.ret [(.bool (.lit false))]))) (.ret [(.bool (.lit false))]))) (.ret [(.bool (.lit false))]))) (.ret [(.bool (.lit false))])))))))))))
noncomputable def cadd : Cx := tab4.only [35, 70] (fun _ => []) [] 0 [] (fun _ => none)
def tadd : Tree :=
  (.dfn .nil (.dfn .nil (.dfn .nil (.dfn .nil (.dfn .nil (.call 35 [(.int (.var 0)), (.arr 44 (.var 1)), (.arr 44 (.var 2)), (.arr 44 (.var 3)), (.arr 44 (.var 4)), (.int (.var 5)), (.int (.var 6)), (.arr 57 (.var 7))] (.split (.cmp .ne (.var 16) (.lit 0)) (.dfn .nil (.dfn .nil (.dfn .nil (.dfn .nil (.dfn .nil (.ret [(.int (.lit 0)), (.cnt 44 (.var 17)), (.cnt 44 (.var 18)), (.cnt 44 (.var 19)), (.cnt 44 (.var 20)), (.int (.lit 0)), (.int (.lit 0)), (.cnt 57 (.var 21)), (.int (.var 16))])))))) (.call 70 [(.int (.var 0)), (.arr 44 (.var 1)), (.arr 44 (.var 2)), (.arr 44 (.var 3)), (.arr 44 (.var 4)), (.int (.var 5)), (.int (.var 6)), (.arr 57 (.var 7))] (.dfn .nil (.dfn .nil (.dfn .nil (.dfn .nil (.dfn .nil (.arr [[(.int (.var 8)), (.int (.var 9)), (.int (.var 10))]] (.ob (.cmp .le (.mul (.add (.len (.var 24)) (.len (.var 30))) (.lit 24)) (.lit 140737488355328)) (.cat (.var 24) (.var 30) (.call 35 [(.int (.var 17)), (.arr 44 (.var 18)), (.arr 44 (.var 19)), (.arr 44 (.var 20)), (.arr 44 (.var 21)), (.int (.var 22)), (.int (.var 23)), (.arr 57 (.var 31))] (.split (.cmp .ne (.var 32) (.lit 0)) (.dfn .nil (.dfn .nil (.dfn .nil (.dfn .nil (.dfn .nil (.ret [(.int (.lit 0)), (.cnt 44 (.var 33)), (.cnt 44 (.var 34)), (.cnt 44 (.var 35)), (.cnt 44 (.var 36)), (.int (.lit 0)), (.int (.lit 0)), (.cnt 57 (.var 37)), (.int (.var 32))])))))) (.ret [(.int (.var 17)), (.cnt 44 (.var 18)), (.cnt 44 (.var 19)), (.cnt 44 (.var 20)), (.cnt 44 (.var 21)), (.int (.var 22)), (.int (.var 23)), (.cnt 57 (.var 31)), (.int (.lit 0))])))))))))))))))))))
noncomputable def cradd : Cx := tab4.only [47, 26] (fun _ => []) [] 0 [] (fun _ => none)
def tradd : Tree :=
  (.dfn .nil (.dfn .nil (.dfn .nil (.dfn .nil (.dfn .nil (.call 47 [(.int (.var 0)), (.arr 44 (.var 1)), (.arr 44 (.var 2)), (.arr 44 (.var 3)), (.arr 44 (.var 4)), (.int (.var 5)), (.int (.var 6)), (.arr 57 (.var 7))] (.split (.cmp .ne (.var 16) (.lit 0)) (.dfn .nil (.dfn .nil (.dfn .nil (.dfn .nil (.dfn .nil (.ret [(.int (.lit 0)), (.cnt 44 (.var 17)), (.cnt 44 (.var 18)), (.cnt 44 (.var 19)), (.cnt 44 (.var 20)), (.int (.lit 0)), (.int (.lit 0)), (.cnt 57 (.var 21)), (.int (.var 16))])))))) (.call 26 [(.int (.var 0)), (.arr 44 (.var 1)), (.arr 44 (.var 2)), (.arr 44 (.var 3)), (.arr 44 (.var 4)), (.int (.var 5)), (.int (.var 6)), (.arr 57 (.var 7))] (.dfn .nil (.dfn .nil (.dfn .nil (.dfn .nil (.dfn .nil (.arr [[(.int (.var 8)), (.int (.var 9)), (.int (.var 10))]] (.ob (.cmp .le (.mul (.add (.len (.var 24)) (.len (.var 30))) (.lit 24)) (.lit 140737488355328)) (.cat (.var 24) (.var 30) (.call 47 [(.int (.var 17)), (.arr 44 (.var 18)), (.arr 44 (.var 19)), (.arr 44 (.var 20)), (.arr 44 (.var 21)), (.int (.var 22)), (.int (.var 23)), (.arr 57 (.var 31))] (.split (.cmp .ne (.var 32) (.lit 0)) (.dfn .nil (.dfn .nil (.dfn .nil (.dfn .nil (.dfn .nil (.ret [(.int (.lit 0)), (.cnt 44 (.var 33)), (.cnt 44 (.var 34)), (.cnt 44 (.var 35)), (.cnt 44 (.var 36)), (.int (.lit 0)), (.int (.lit 0)), (.cnt 57 (.var 37)), (.int (.var 32))])))))) (.ret [(.int (.var 17)), (.cnt 44 (.var 18)), (.cnt 44 (.var 19)), (.cnt 44 (.var 20)), (.cnt 44 (.var 21)), (.int (.var 22)), (.int (.var 23)), (.cnt 57 (.var 31)), (.int (.lit 0))])))))))))))))))))))
noncomputable def clfits : Cx := tab4.only [25, 16, 45, 46, 17] (fun _ => []) [] 0 [] (fun _ => none)
def tlfits : Tree :=
  (.call 25 [(.int (.var 0)), (.arr 44 (.var 1)), (.arr 44 (.var 2)), (.arr 44 (.var 3)), (.arr 44 (.var 4)), (.int (.var 5)), (.int (.var 6)), (.arr 57 (.var 7))] (.split (.not (.of (.var 10))) (.call 17 [] (.ret [(.bool (.of (.var 11)))])) (.call 16 [(.arr 44 (.var 8))] (.split (.not (.of (.var 11))) (.call 17 [] (.ret [(.bool (.of (.var 12)))])) (.call 16 [(.arr 44 (.var 9))] (.split (.not (.of (.var 12))) (.call 17 [] (.ret [(.bool (.of (.var 13)))])) (.call 45 [(.int (.var 0)), (.arr 44 (.var 1)), (.arr 44 (.var 2)), (.arr 44 (.var 3)), (.arr 44 (.var 4)), (.int (.var 5)), (.int (.var 6)), (.arr 57 (.var 7)), (.arr 44 (.var 8)), (.arr 44 (.var 9))] (.call 46 [(.int (.var 0)), (.arr 44 (.var 1)), (.arr 44 (.var 2)), (.arr 44 (.var 3)), (.arr 44 (.var 4)), (.int (.var 5)), (.int (.var 6)), (.arr 57 (.var 7)), (.arr 44 (.var 8)), (.arr 44 (.var 9))] (.split (.beq (.of (.var 13)) (.of (.var 14))) (.call 17 [] (.ret [(.bool (.of (.var 15)))])) (.ret [(.bool (.lit false))]))))))))))
noncomputable def cladds : Cx := tab4.only [25, 26, 36, 37, 33, 17] (fun r => match r with
  | 7 => [.vec 32]
  | 11 => [.vec 46]
  | _ => []) [] 0 [] (fun _ => none)
def tladds : Tree :=
  (.call 25 [(.int (.var 0)), (.arr 44 (.var 1)), (.arr 44 (.var 2)), (.arr 44 (.var 3)), (.arr 44 (.var 4)), (.int (.var 5)), (.int (.var 6)), (.arr 57 (.var 7))] (.split (.not (.of (.var 11))) (.call 17 [] (.ret [(.bool (.of (.var 12)))])) (.call 26 [(.int (.var 0)), (.arr 44 (.var 1)), (.arr 44 (.var 2)), (.arr 44 (.var 3)), (.arr 44 (.var 4)), (.int (.var 5)), (.int (.var 6)), (.arr 57 (.var 7))] (.dfn .nil (.dfn .nil (.dfn .nil (.dfn .nil (.dfn .nil (.call 36 [(.int (.var 12)), (.arr 44 (.var 13)), (.arr 44 (.var 14)), (.arr 44 (.var 15)), (.arr 44 (.var 16)), (.int (.var 17)), (.int (.var 18)), (.arr 57 (.var 19)), (.int (.var 8)), (.int (.var 9)), (.int (.var 10))] (.dfn .nil (.dfn .nil (.dfn .nil (.dfn .nil (.dfn .nil (.call 37 [(.int (.var 0)), (.arr 44 (.var 1)), (.arr 44 (.var 2)), (.arr 44 (.var 3)), (.arr 44 (.var 4)), (.int (.var 5)), (.int (.var 6)), (.arr 57 (.var 7)), (.int (.var 8)), (.int (.var 9)), (.int (.var 10))] (.dfn .nil (.dfn .nil (.dfn .nil (.dfn .nil (.dfn .nil (.loop [.int, (.vec 57)] [(.int (.lit 0)), (.cnt 57 (.var 32))] (.split (.cmp .lt (.var 53) (.len (.var 54))) (.ob (.cmp .le (.lit 0) (.var 53)) (.ob (.cmp .lt (.var 53) (.len (.var 54))) (.ob (.and (.cmp .le (.lit (-9223372036854775808)) (.add (.cell (.var 54) (.var 53) 2) (.lit 1))) (.cmp .le (.add (.cell (.var 54) (.var 53) 2) (.lit 1)) (.lit 9223372036854775807))) (.ob (.cmp .lt (.var 53) (.len (.var 54))) (.ob (.and (.cmp .le (.lit (-9223372036854775808)) (.add (.cell (.var 54) (.var 53) 2) (.lit 1))) (.cmp .le (.add (.cell (.var 54) (.var 53) 2) (.lit 1)) (.lit 9223372036854775807))) (.upd (.var 54) (.var 53) 2 [(.int (.add (.cell (.var 54) (.var 53) 2) (.lit 1)))] (.back 0 [(.int (.add (.var 53) (.lit 1))), (.cnt 57 (.var 55))]))))))) (.loop [.int, (.vec 57)] [(.int (.lit 0)), (.cnt 57 (.var 46))] (.split (.cmp .lt (.var 55) (.len (.var 56))) (.ob (.cmp .le (.lit 0) (.var 55)) (.ob (.cmp .lt (.var 55) (.len (.var 56))) (.ob (.and (.cmp .le (.lit (-9223372036854775808)) (.add (.cell (.var 56) (.var 55) 2) (.lit 1))) (.cmp .le (.add (.cell (.var 56) (.var 55) 2) (.lit 1)) (.lit 9223372036854775807))) (.ob (.cmp .lt (.var 55) (.len (.var 56))) (.ob (.and (.cmp .le (.lit (-9223372036854775808)) (.add (.cell (.var 56) (.var 55) 2) (.lit 1))) (.cmp .le (.add (.cell (.var 56) (.var 55) 2) (.lit 1)) (.lit 9223372036854775807))) (.upd (.var 56) (.var 55) 2 [(.int (.add (.cell (.var 56) (.var 55) 2) (.lit 1)))] (.back 1 [(.int (.add (.var 55) (.lit 1))), (.cnt 57 (.var 57))]))))))) (.split (.cmp .eq (.var 33) (.var 47)) (.call 33 [(.int (.var 25)), (.arr 44 (.var 26)), (.arr 44 (.var 27)), (.arr 44 (.var 28)), (.arr 44 (.var 29)), (.int (.var 30)), (.int (.var 31)), (.arr 57 (.join (.var 32) (.var 54))), (.int (.var 39)), (.arr 44 (.var 40)), (.arr 44 (.var 41)), (.arr 44 (.var 42)), (.arr 44 (.var 43)), (.int (.var 44)), (.int (.var 45)), (.arr 57 (.join (.var 46) (.var 56)))] (.split (.of (.var 57)) (.call 33 [(.int (.var 12)), (.arr 44 (.var 13)), (.arr 44 (.var 14)), (.arr 44 (.var 15)), (.arr 44 (.var 16)), (.int (.var 17)), (.int (.var 18)), (.arr 57 (.var 19)), (.int (.var 0)), (.arr 44 (.var 1)), (.arr 44 (.var 2)), (.arr 44 (.var 3)), (.arr 44 (.var 4)), (.int (.var 5)), (.int (.var 6)), (.arr 57 (.var 7))] (.split (.of (.var 58)) (.call 17 [] (.ret [(.bool (.of (.var 59)))])) (.ret [(.bool (.lit false))]))) (.ret [(.bool (.lit false))]))) (.ret [(.bool (.lit false))]))))))))))))))))))))))))))
end Go.Proofs.Ytcglpbchejkolaa
/- Earth: truths: valid ones; lines over lines. -/
namespace Go.Proofs.Ytcglpbchejkolaa
open Go.RowKit
set_option linter.unusedSimpArgs false
set_option linter.unusedVariables false

theorem truth_ends {tp tf : List Kn} {b : Int} (h1 : lineE tp = 0) (h2 : lineE tf = 0) : truthV tp tf b = if endsB tp b && endsB tf b then 0 else 3 := by
  unfold truthV; rw [orE_eq h1, orE_eq h2]
theorem ends_iff {ks : List Kn} {b : Int} : endsB ks b = true ↔ (ks.getD 0 (0, 0)).1 = 0 ∧ (ks.getD (ks.length - 1) (0, 0)).1 = b := by
  unfold endsB; rw [Bool.and_eq_true, beq_iff_eq, beq_iff_eq]
theorem truth_no {tp tf : List Kn} {b : Int} (h1 : lineE tp = 0) (h2 : lineE tf = 0) (h : ¬ (endsB tp b = true ∧ endsB tf b = true)) : (3 : Int) = truthV tp tf b := by
  rw [truth_ends h1 h2, if_neg (by rw [Bool.and_eq_true]; exact h)]
theorem ctruth_ok : tab4.ok 48 := by
  refine Tab.of_ct rfl rfl ⟨_, Try.func48, by decide, rfl⟩ ?_ ctF_det
  refine ct_ok (cx := cctruth) (Tab.cx_ok (all_cons (up4_ok (up3_ok (up_ok line_ok))) all_nil)) Try.func48 (bds := []) (T := tctruth) (by kernel_rfl) ?_
  have h1 : cctruth.ct 18 = some ctLine := rfl
  unfold tctruth
  simp only [VC, allC, List.map_cons, List.map_nil, List.length_cons, List.length_nil, List.getElem?_cons_zero, List.getElem?_cons_succ, List.cons.injEq, C.i.injEq, C.b.injEq, and_true, true_and, forall_const, kindsOf_nil, kindsOf_lf, kindsOf_agg, kindsOf_box, boxKinds_nil, boxKinds_lf, boxKinds_agg, boxKinds_box, List.append_nil, List.cons_append, List.nil_append, den_cmp_le, den_cmp_lt, den_cmp_eq, den_cmp_ne, den_cmp_le', den_cmp_lt', den_cmp_eq', den_cmp_ne', den_and, den_and', den_or, den_or', den_not, den_not', den_blit, den_of, ev_var, at_0, at_1, at_2, at_3, at_4, at_5, at_6, at_7, at_skip, c_int, c_bool, c_arr, c_cnt, c_vec, ev_nil, ev_join, ev_sub3, loc_s, int_i, bool_b, rows_s, cs_nil, cs_cons, E.den_lit, E.den_var, E.den_add, E.den_sub, E.den_mul, E.den_quo, E.den_rem, E.den_max, E.den_min, E.den_len, E.den_wr, E.den_cell, ev_cell, kn1, kn2, h1, ctLine, ctTruth, ctF, lineSh, truthSh, k_, n_]
  intro u1 r1 _ _ _ u2 r2 _ _ _ b _ _
  have hk1 := knots_len r1
  have hk2 := knots_len r2
  rw [← hk1, ← hk2]
  generalize knots r1 = tp at *
  generalize knots r2 = tf at *
  rw [show (0 : Int).toNat = 0 from rfl, show ((tp.length : Int) - 1).toNat = tp.length - 1 by omega, show ((tf.length : Int) - 1).toNat = tf.length - 1 by omega]
  refine ⟨bds_nil _, ?_⟩
  rintro n1 _ _ hn1
  have hn1 : n1 = lineE tp := hn1
  refine ⟨fun h => ?_, fun z1 => ?_⟩
  · unfold truthV; rw [orE_ne (by omega), hn1]
  rintro n2 _ _ hn2
  have hn2 : n2 = lineE tf := hn2
  refine ⟨fun h => ?_, fun z2 => ?_⟩
  · unfold truthV; rw [orE_eq (by omega), orE_ne (by omega), hn2]
  have g1 : lineE tp = 0 := by omega
  have g2 : lineE tf = 0 := by omega
  have p1 : 0 < tp.length := List.length_pos_iff.2 (lineV_ok g1).1
  have p2 : 0 < tf.length := List.length_pos_iff.2 (lineV_ok g2).1
  refine ⟨by omega, fun h => truth_no g1 g2 fun hc => h (ends_iff.1 hc.1).1, fun e1 => ⟨by omega, by omega, fun h => truth_no g1 g2 fun hc => h (ends_iff.1 hc.1).2, fun e2 => ⟨by omega, fun h => truth_no g1 g2 fun hc => h (ends_iff.1 hc.2).1, fun e3 => ⟨by omega, by omega, fun h => truth_no g1 g2 fun hc => h (ends_iff.1 hc.2).2, fun e4 => ?_⟩⟩⟩⟩
  rw [truth_ends g1 g2, if_pos (by rw [Bool.and_eq_true, ends_iff, ends_iff]; exact ⟨⟨e1, e2⟩, e3, e4⟩)]
theorem rctruth_ok : tab4.ok 49 := by
  refine Tab.of_ct rfl rfl ⟨_, Try.func49, by decide, rfl⟩ ?_ ctF_det
  refine ct_ok (cx := crctruth) (Tab.cx_ok (all_cons (up4_ok (up3_ok (up_ok rline_ok))) all_nil)) Try.func49 (bds := []) (T := trctruth) (by kernel_rfl) ?_
  have h1 : crctruth.ct 19 = some ctLine := rfl
  unfold trctruth
  simp only [VC, allC, List.map_cons, List.map_nil, List.length_cons, List.length_nil, List.getElem?_cons_zero, List.getElem?_cons_succ, List.cons.injEq, C.i.injEq, C.b.injEq, and_true, true_and, forall_const, kindsOf_nil, kindsOf_lf, kindsOf_agg, kindsOf_box, boxKinds_nil, boxKinds_lf, boxKinds_agg, boxKinds_box, List.append_nil, List.cons_append, List.nil_append, den_cmp_le, den_cmp_lt, den_cmp_eq, den_cmp_ne, den_cmp_le', den_cmp_lt', den_cmp_eq', den_cmp_ne', den_and, den_and', den_or, den_or', den_not, den_not', den_blit, den_of, ev_var, at_0, at_1, at_2, at_3, at_4, at_5, at_6, at_7, at_skip, c_int, c_bool, c_arr, c_cnt, c_vec, ev_nil, ev_join, ev_sub3, loc_s, int_i, bool_b, rows_s, cs_nil, cs_cons, E.den_lit, E.den_var, E.den_add, E.den_sub, E.den_mul, E.den_quo, E.den_rem, E.den_max, E.den_min, E.den_len, E.den_wr, E.den_cell, ev_cell, h1, ctLine, ctTruth, ctF, lineSh, truthSh, k_, n_]
  intro u1 r1 _ _ _ u2 r2 _ _ _ b _ _
  have hrow : ∀ (v : Value) (i : Nat), knots ((C.s v [[C.s u1 r1], [C.s u2 r2]]).at i 0).rows = [knots r1, knots r2].getD i [] := fun v i => by
    match i with
    | 0 => rfl
    | 1 => rfl
    | i + 2 => rfl
  have hlen : ∀ (v : Value) (i : Nat), ((C.s v [[C.s u1 r1], [C.s u2 r2]]).at i 0).rows.length = ([knots r1, knots r2].getD i []).length := fun v i => by rw [← hrow v i, knots_len]
  have hcell : ∀ (v : Value) (i j : Nat), (((C.s v [[C.s u1 r1], [C.s u2 r2]]).at i 0).at j 0).int = (([knots r1, knots r2].getD i []).getD j (0, 0)).1 := fun v i j => by
    match i with
    | 0 => exact kn1 u1 r1 j
    | 1 => exact kn1 u2 r2 j
    | i + 2 => rfl
  simp only [hrow, hlen, hcell]
  generalize knots r1 = tp at *
  generalize knots r2 = tf at *
  generalize hL : [tp, tf] = L at *
  have hLl : L.length = 2 := by rw [← hL]; rfl
  have hmap : truthV tp tf b = (L.map lineE).foldr orE (if endsB tp b && endsB tf b then 0 else 3) := by rw [← hL]; rfl
  refine ⟨bds_nil _, fun v => ?_⟩
  refine ⟨fun xs => match xs with | [_, .i i] => 0 ≤ i ∧ i ≤ 2 ∧ (∀ k ∈ L.take i.toNat, lineE k = 0) ∧ truthV tp tf b = ((L.drop i.toNat).map lineE).foldr orE (if endsB tp b && endsB tf b then 0 else 3) | _ => False, fun xs => match xs with | [_, .i i] => ((2 : Int) - i).toNat | _ => 0, ⟨by omega, by omega, fun k hk => by simp at hk, hmap⟩, ?_⟩
  rintro x _ _ i _ _ ⟨i0, i1, hz, hi⟩
  refine ⟨fun hlt => ⟨i0, hlt, ?_⟩, fun hge => ?_⟩
  · have hlt : i < 2 := hlt
    rw [drop_cons (by omega) [], ← show (i + 1).toNat = i.toNat + 1 by omega] at hi
    have next : lineE (L.getD i.toNat []) = 0 → ∀ k ∈ L.take (i + 1).toNat, lineE k = 0 := fun h k hk => by
      rw [show (i + 1).toNat = i.toNat + 1 by omega, take_snoc (by omega) []] at hk
      rcases List.mem_append.1 hk with hk | hk
      · exact hz k hk
      · rw [List.mem_singleton] at hk; subst hk; exact h
    generalize L.getD i.toNat [] = k at *
    rintro n _ _ hn
    have hn : n = lineE k := hn
    rw [List.map_cons, List.foldr_cons, ← hn] at hi
    refine ⟨fun h => by rw [hi, orE_ne h], fun h => ⟨⟨by omega, by omega, next (by omega), by rw [hi, orE_eq h]⟩, (show ((2 : Int) - (i + 1)).toNat < ((2 : Int) - i).toNat by omega)⟩⟩
  · have hge : 2 ≤ i := hge
    rw [List.take_of_length_le (by omega)] at hz
    have g1 : lineE tp = 0 := hz tp (by rw [← hL]; simp)
    have g2 : lineE tf = 0 := hz tf (by rw [← hL]; simp)
    have hends : truthV tp tf b = if L.all (fun k => endsB k b) then 0 else 3 := by rw [truth_ends g1 g2, ← hL]; simp
    have no : ∀ k ∈ L, endsB k b ≠ true → (3 : Int) = truthV tp tf b := fun k hk h => by
      rw [hends, if_neg]
      rw [List.all_eq_true]
      exact fun hc => h (hc k hk)
    refine ⟨fun xs => match xs with | [_, .i i] => 0 ≤ i ∧ i ≤ 2 ∧ (∀ k ∈ L.take i.toNat, endsB k b = true) | _ => False, fun xs => match xs with | [_, .i i] => ((2 : Int) - i).toNat | _ => 0, ⟨by omega, by omega, fun k hk => by simp at hk⟩, ?_⟩
    rintro x _ _ j _ _ ⟨j0, j1, hj⟩
    refine ⟨fun hlt => ⟨j0, hlt, ?_⟩, fun hge2 => ?_⟩
    · have hlt : j < 2 := hlt
      have hm := getD_mem (l := L) (i := j.toNat) (by omega) []
      have next : endsB (L.getD j.toNat []) b = true → ∀ k ∈ L.take (j + 1).toNat, endsB k b = true := fun h k hk => by
        rw [show (j + 1).toNat = j.toNat + 1 by omega, take_snoc (by omega) []] at hk
        rcases List.mem_append.1 hk with hk | hk
        · exact hj k hk
        · rw [List.mem_singleton] at hk; subst hk; exact h
      have hpos : 0 < (L.getD j.toNat []).length := List.length_pos_iff.2 (lineV_ok (hz _ hm)).1
      generalize L.getD j.toNat [] = k at *
      rw [show (0 : Int).toNat = 0 from rfl, show ((k.length : Int) - 1).toNat = k.length - 1 by omega]
      refine ⟨by omega, fun h => no k hm fun hc => h (ends_iff.1 hc).1, fun e1 => ⟨hlt, hlt, by omega, by omega, fun h => no k hm fun hc => h (ends_iff.1 hc).2, fun e2 => ⟨⟨by omega, by omega, next (ends_iff.2 ⟨e1, e2⟩)⟩, (show ((2 : Int) - (j + 1)).toNat < ((2 : Int) - j).toNat by omega)⟩⟩⟩
    · have hge2 : 2 ≤ j := hge2
      rw [List.take_of_length_le (by omega)] at hj
      rw [hends, if_pos (List.all_eq_true.2 hj)]
/-! How lines grow -/
def growAt (gl gh : Int) (ks : List Kn) (i : Nat) : Prop := gl * ((ks.getD (i + 1) (0, 0)).1 - (ks.getD i (0, 0)).1) ≤ (ks.getD (i + 1) (0, 0)).2 - (ks.getD i (0, 0)).2 ∧ (ks.getD (i + 1) (0, 0)).2 - (ks.getD i (0, 0)).2 ≤ gh * ((ks.getD (i + 1) (0, 0)).1 - (ks.getD i (0, 0)).1)
theorem growsV_iff {gl gh : Int} : ∀ {ks : List Kn}, growsV gl gh ks = true ↔ ∀ i, i + 1 < ks.length → growAt gl gh ks i
  | [] => ⟨fun _ i hi => by simp at hi, fun _ => rfl⟩
  | [k] => ⟨fun _ i hi => by simp at hi, fun _ => rfl⟩
  | a :: b :: l => by
    rw [growsV, Bool.and_eq_true, inV_iff, growsV_iff]
    constructor
    · rintro ⟨h1, h2⟩ i hi
      match i, hi with
      | 0, _ => exact h1
      | i + 1, hi => exact h2 i (by simpa using hi)
    · intro h
      exact ⟨h 0 (by simp), fun i hi => h (i + 1) (by simpa using hi)⟩
theorem grows_no {gl gh : Int} {ks : List Kn} {i : Nat} (hi : i + 1 < ks.length) (h : ¬ growAt gl gh ks i) : false = growsV gl gh ks := by
  cases hg : growsV gl gh ks with
  | false => rfl
  | true => exact absurd (growsV_iff.1 hg i hi) h
theorem grow_bd {g d : Int} (h0 : 0 ≤ g) (h1 : g ≤ 40000) (d0 : 0 ≤ d) (d1 : d ≤ 1048576) : 0 ≤ g * d ∧ g * d ≤ 41943040000 := by
  have := mul_abs (y := g) (z := d) (V := 40000) (A := 1048576) (by omega) h1 d0 d1
  exact ⟨Int.mul_nonneg h0 d0, by omega⟩
theorem grows_ok : tab4.ok 78 := by
  refine Tab.of_ct rfl rfl ⟨_, Try.func78, by decide, rfl⟩ ?_ ctF_det
  refine ct_ok (cx := cgrows) (Tab.cx_ok (all_cons (up4_ok (up3_ok (up_ok within_ok))) all_nil)) Try.func78 (bds := []) (T := tgrows) (by kernel_rfl) ?_
  unfold tgrows
  simp only [VC, allC, List.map_cons, List.map_nil, List.length_cons, List.length_nil, List.getElem?_cons_zero, List.getElem?_cons_succ, List.cons.injEq, C.i.injEq, C.b.injEq, and_true, true_and, forall_const, kindsOf_nil, kindsOf_lf, kindsOf_agg, kindsOf_box, boxKinds_nil, boxKinds_lf, boxKinds_agg, boxKinds_box, List.append_nil, List.cons_append, List.nil_append, den_cmp_le, den_cmp_lt, den_cmp_eq, den_cmp_ne, den_cmp_le', den_cmp_lt', den_cmp_eq', den_cmp_ne', den_and, den_and', den_or, den_or', den_not, den_not', den_blit, den_of, ev_var, at_0, at_1, at_2, at_3, at_4, at_5, at_6, at_7, at_skip, c_int, c_bool, c_arr, c_cnt, c_vec, ev_nil, ev_join, ev_sub3, loc_s, int_i, bool_b, rows_s, cs_nil, cs_cons, E.den_lit, E.den_var, E.den_add, E.den_sub, E.den_mul, E.den_quo, E.den_rem, E.den_max, E.den_min, E.den_len, E.den_wr, E.den_cell, ev_cell, kn1, kn2, ctGrows, ctF, lineSh, earthSh, earthKs, k_, n_, earOf]
  intro b _ _ u1 r1 _ _ _ u2 r2 _ _ _ u3 r3 _ _ _ u4 r4 _ _ _ gl _ _ gh _ _ u7 r7 _ _ _ u8 r8 _ _ _ hp
  obtain ⟨hc, hl⟩ := hp
  have hg := (valid hc).g
  change 0 ≤ gl ∧ gl ≤ gh ∧ gh ≤ 40000 at hg
  have hk := knots_len r8
  have hsub : ((List.take ((r8.length : Int)).toNat r8).drop (1 : Int).toNat).length = r8.length - 1 := by
    rw [List.length_drop, List.length_take]; show min _ _ - 1 = _; omega
  rw [hsub, ← hk]
  obtain ⟨hlen, hbox⟩ := lineE_box hl
  obtain ⟨hne, -, hasc, -⟩ := lineV_ok hl
  generalize knots r8 = ks at *
  have hpos : 0 < ks.length := List.length_pos_iff.2 hne
  refine ⟨bds_nil _, by omega, by omega, fun xs => match xs with | [_, .i i] => 0 ≤ i ∧ i ≤ ks.length - 1 ∧ ∀ j : Nat, (j : Int) < i → growAt gl gh ks j | _ => False, fun xs => match xs with | [_, .i i] => ((ks.length : Int) - i).toNat | _ => 0, ⟨by omega, by omega, fun j hj => by omega⟩, ?_⟩
  rintro x i _ _ ⟨i0, i1, hi⟩
  refine ⟨fun hlt => ?_, fun hge => ?_⟩
  · rw [show (i + 1).toNat = i.toNat + 1 by omega]
    have ba := hbox _ (getD_mem (l := ks) (i := i.toNat) (by omega) (0, 0))
    have bb := hbox _ (getD_mem (l := ks) (i := i.toNat + 1) (by omega) (0, 0))
    have hlt2 := hasc.lt (i := i.toNat) (j := i.toNat + 1) (by omega) (by omega)
    have p1 := grow_bd (g := gl) (d := (ks.getD (i.toNat + 1) (0, 0)).1 - (ks.getD i.toNat (0, 0)).1) (by omega) (by omega) (by omega) (by omega)
    have p2 := grow_bd (g := gh) (d := (ks.getD (i.toNat + 1) (0, 0)).1 - (ks.getD i.toNat (0, 0)).1) (by omega) (by omega) (by omega) (by omega)
    have no : ¬ growAt gl gh ks i.toNat → false = growsV gl gh ks := grows_no (by omega)
    refine ⟨by omega, by omega, by omega, ⟨by omega, by omega⟩, ⟨by omega, by omega⟩, ⟨by omega, by omega⟩, ⟨by omega, by omega⟩, ⟨by omega, by omega⟩, ⟨by omega, by omega⟩, ⟨by omega, by omega⟩, ⟨by omega, by omega⟩, fun h => no fun hc => ?_, fun h => ⟨⟨by omega, by omega, fun j hj => ?_⟩, (show ((ks.length : Int) - (i + 1)).toNat < ((ks.length : Int) - i).toNat by omega)⟩⟩
    · have := h hc.1
      have := hc.2
      omega
    · by_cases e : (j : Int) = i
      · rw [show j = i.toNat by omega]; exact h
      · exact hi j (by omega)
  · symm
    rw [growsV_iff]
    exact fun j hj => hi j (by omega)
theorem rgrows_ok : tab4.ok 83 := by
  refine Tab.of_ct rfl rfl ⟨_, Try.func83, by decide, rfl⟩ ?_ ctF_det
  refine ct_ok (cx := crgrows) (Tab.cx_ok all_nil) Try.func83 (bds := []) (T := trgrows) (by kernel_rfl) ?_
  unfold trgrows
  simp only [VC, allC, List.map_cons, List.map_nil, List.length_cons, List.length_nil, List.getElem?_cons_zero, List.getElem?_cons_succ, List.cons.injEq, C.i.injEq, C.b.injEq, and_true, true_and, forall_const, kindsOf_nil, kindsOf_lf, kindsOf_agg, kindsOf_box, boxKinds_nil, boxKinds_lf, boxKinds_agg, boxKinds_box, List.append_nil, List.cons_append, List.nil_append, den_cmp_le, den_cmp_lt, den_cmp_eq, den_cmp_ne, den_cmp_le', den_cmp_lt', den_cmp_eq', den_cmp_ne', den_and, den_and', den_or, den_or', den_not, den_not', den_blit, den_of, ev_var, at_0, at_1, at_2, at_3, at_4, at_5, at_6, at_7, at_skip, c_int, c_bool, c_arr, c_cnt, c_vec, ev_nil, ev_join, ev_sub3, loc_s, int_i, bool_b, rows_s, cs_nil, cs_cons, E.den_lit, E.den_var, E.den_add, E.den_sub, E.den_mul, E.den_quo, E.den_rem, E.den_max, E.den_min, E.den_len, E.den_wr, E.den_cell, ev_cell, kn1, kn2, ctGrows, ctF, lineSh, earthSh, earthKs, k_, n_, earOf]
  intro b _ _ u1 r1 _ _ _ u2 r2 _ _ _ u3 r3 _ _ _ u4 r4 _ _ _ gl _ _ gh _ _ u7 r7 _ _ _ u8 r8 _ _ _ hp
  obtain ⟨hc, hl⟩ := hp
  have hg := (valid hc).g
  change 0 ≤ gl ∧ gl ≤ gh ∧ gh ≤ 40000 at hg
  have hk := knots_len r8
  rw [← hk]
  obtain ⟨hlen, hbox⟩ := lineE_box hl
  obtain ⟨hne, -, hasc, -⟩ := lineV_ok hl
  generalize knots r8 = ks at *
  have hpos : 0 < ks.length := List.length_pos_iff.2 hne
  refine ⟨bds_nil _, fun xs => match xs with | [_, .i i] => 1 ≤ i ∧ i ≤ ks.length ∧ ∀ j : Nat, (j : Int) + 1 < i → growAt gl gh ks j | _ => False, fun xs => match xs with | [_, .i i] => ((ks.length : Int) - i).toNat | _ => 0, ⟨by omega, by omega, fun j hj => by omega⟩, ?_⟩
  rintro x i _ _ ⟨i0, i1, hi⟩
  refine ⟨fun hlt => ?_, fun hge => ?_⟩
  · obtain ⟨m, hm⟩ : ∃ m : Nat, i = m + 1 := ⟨(i - 1).toNat, by omega⟩
    subst hm
    rw [show ((m : Int) + 1).toNat = m + 1 by omega, show ((m : Int) + 1 - 1).toNat = m by omega]
    have ba := hbox _ (getD_mem (l := ks) (i := m) (by omega) (0, 0))
    have bb := hbox _ (getD_mem (l := ks) (i := m + 1) (by omega) (0, 0))
    have hlt2 := hasc.lt (i := m) (j := m + 1) (by omega) (by omega)
    have p1 := grow_bd (g := gl) (d := (ks.getD (m + 1) (0, 0)).1 - (ks.getD m (0, 0)).1) (by omega) (by omega) (by omega) (by omega)
    have p2 := grow_bd (g := gh) (d := (ks.getD (m + 1) (0, 0)).1 - (ks.getD m (0, 0)).1) (by omega) (by omega) (by omega) (by omega)
    have no : ¬ growAt gl gh ks m → false = growsV gl gh ks := grows_no (by omega)
    refine ⟨by omega, by omega, by omega, by omega, ⟨by omega, by omega⟩, by omega, by omega, by omega, ⟨by omega, by omega⟩, ⟨by omega, by omega⟩, fun h => no fun hc => ?_, fun h => ⟨⟨by omega, by omega⟩, fun h2 => no fun hc => ?_, fun h2 => ⟨⟨by omega, by omega, fun j hj => ?_⟩, (show ((ks.length : Int) - ((m : Int) + 1 + 1)).toNat < ((ks.length : Int) - ((m : Int) + 1)).toNat by omega)⟩⟩⟩
    · have := hc.1; omega
    · have := hc.2; omega
    · by_cases e : j = m
      · rw [e]; exact ⟨h, h2⟩
      · exact hi j (by omega)
  · symm
    rw [growsV_iff]
    exact fun j hj => hi j (by omega)
/-! Lines over lines -/
theorem lineE_val {ks : List Kn} (h : lineE ks = 0) (x : Int) : 0 ≤ (valP ks x).2.1 ∧ (valP ks x).2.1 < (valP ks x).2.2 ∧ (valP ks x).2.2 ≤ 1048576 := by
  have hg := good (rightB_of h)
  have hv := hg.val x
  refine ⟨hv.1, hv.2.1, ?_⟩
  obtain ⟨m1, m2, hc⟩ := findV_spec hg.ne x
  have b1 := (lineE_box h).2 _ m1
  have b2 := (lineE_box h).2 _ m2
  unfold valP partAt
  split
  · show (1 : Int) ≤ _; omega
  · show (findV ks x).2.1 - (findV ks x).1.1 ≤ _; omega
theorem lineE_ge {a b : List Kn} (ha : lineE a = 0) (hb : lineE b = 0) (x : Int) : GeOK (valP a x) (valP b x) := by
  have va := lineE_val ha x
  have vb := lineE_val hb x
  have m1 := mul_abs (y := (valP b x).2.1) (z := (valP a x).2.2) (V := 1048576) (A := 1048576) (by omega) (by omega) (by omega) (by omega)
  have m2 := mul_abs (y := (valP a x).2.1) (z := (valP b x).2.2) (V := 1048576) (A := 1048576) (by omega) (by omega) (by omega) (by omega)
  exact ⟨by omega, by omega, by omega, by omega⟩
theorem covers_ok : tab4.ok 79 := by
  refine Tab.of_ct rfl rfl ⟨_, Try.func79, by decide, rfl⟩ ?_ ctF_det
  refine ct_ok (cx := ccovers) (Tab.cx_ok (all_cons (up4_ok (up3_ok (up_ok atleast_ok))) (all_cons (up4_ok (up3_ok (up_ok above_ok))) all_nil))) Try.func79 (bds := []) (T := tcovers) (by kernel_rfl) ?_
  have h1 : ccovers.ct 92 = some ctAtLeast := rfl
  have h2 : ccovers.ct 64 = some ctAboveI := rfl
  unfold tcovers
  simp only [VC, allC, List.map_cons, List.map_nil, List.length_cons, List.length_nil, List.getElem?_cons_zero, List.getElem?_cons_succ, List.cons.injEq, C.i.injEq, C.b.injEq, and_true, true_and, forall_const, kindsOf_nil, kindsOf_lf, kindsOf_agg, kindsOf_box, boxKinds_nil, boxKinds_lf, boxKinds_agg, boxKinds_box, List.append_nil, List.cons_append, List.nil_append, den_cmp_le, den_cmp_lt, den_cmp_eq, den_cmp_ne, den_cmp_le', den_cmp_lt', den_cmp_eq', den_cmp_ne', den_and, den_and', den_or, den_or', den_not, den_not', den_blit, den_of, ev_var, at_0, at_1, at_2, at_3, at_4, at_5, at_6, at_7, at_skip, c_int, c_bool, c_arr, c_cnt, c_vec, ev_nil, ev_join, ev_sub3, loc_s, int_i, bool_b, rows_s, cs_nil, cs_cons, E.den_lit, E.den_var, E.den_add, E.den_sub, E.den_mul, E.den_quo, E.den_rem, E.den_max, E.den_min, E.den_len, E.den_wr, E.den_cell, h1, h2, ctAtLeast, ctAboveI, ctCovers, ctF, lineSh, k_, n_]
  intro u r _ _ _ u2 r2 _ _ _ b _ _ hp
  generalize knots r = ka at *
  generalize knots r2 = kb at *
  obtain ⟨ha, hb, -, -⟩ := hp
  have ra := rightB_of ha
  have rb := rightB_of hb
  refine ⟨bds_nil _, ⟨ra, rb, lineE_ge ha hb 0⟩, ?_⟩
  unfold spansV
  rintro t rfl
  refine ⟨fun h => ⟨⟨ra, rb, lineE_ge ha hb b⟩, ?_⟩, fun h => by rw [h]; rfl⟩
  rintro t rfl
  refine ⟨fun h2 => ⟨⟨ra, rb⟩, fun t ht => by rw [h, h2, Bool.true_and, Bool.true_and]; exact ht⟩, fun h2 => by rw [h, h2]; rfl⟩
theorem split_at : ∀ {ks : List Kn}, Asc ks → ∀ x : Int, ∃ i ≤ ks.length, (∀ k < i, (ks.getD k (0, 0)).1 < x) ∧ ∀ k, i ≤ k → k < ks.length → x ≤ (ks.getD k (0, 0)).1
  | [], _, x => ⟨0, Nat.le_refl _, fun k hk => by omega, fun k _ hk => by simp at hk⟩
  | a :: l, h, x => by
    by_cases hx : a.1 < x
    · obtain ⟨i, hi, h1, h2⟩ := split_at h.tail x
      refine ⟨i + 1, by simpa using hi, fun k hk => ?_, fun k h3 h4 => ?_⟩
      · match k, hk with
        | 0, _ => exact hx
        | k + 1, hk => exact h1 k (by omega)
      · match k, h3, h4 with
        | k + 1, h3, h4 => exact h2 k (by omega) (by simpa using h4)
    · refine ⟨0, by omega, fun k hk => by omega, fun k _ hk => ?_⟩
      match k, hk with
      | 0, _ => show x ≤ a.1; omega
      | k + 1, hk =>
        have := h.head_lt _ (getD_mem (l := l) (i := k) (by simpa using hk) (0, 0))
        show x ≤ (l.getD k (0, 0)).1
        omega
theorem rest_ok : tab4.ok 119 := by
  refine Tab.of_ct rfl rfl ⟨_, Try.func119, by decide, rfl⟩ ?_ (fun h => by cases h)
  refine ct_ok (cx := crest) (Tab.cx_ok (all_cons (up4_ok (up3_ok (up_ok rfloor_ok))) all_nil)) Try.func119 (bds := []) (T := trest) (by kernel_rfl) ?_
  have h1 : crest.ct 101 = some ctFloor := rfl
  unfold trest
  simp only [VC, allC, List.map_cons, List.map_nil, List.length_cons, List.length_nil, List.getElem?_cons_zero, List.getElem?_cons_succ, List.cons.injEq, C.i.injEq, C.b.injEq, and_true, true_and, forall_const, kindsOf_nil, kindsOf_lf, kindsOf_agg, kindsOf_box, boxKinds_nil, boxKinds_lf, boxKinds_agg, boxKinds_box, List.append_nil, List.cons_append, List.nil_append, den_cmp_le, den_cmp_lt, den_cmp_eq, den_cmp_ne, den_cmp_le', den_cmp_lt', den_cmp_eq', den_cmp_ne', den_and, den_and', den_or, den_or', den_not, den_not', den_blit, den_of, ev_var, at_0, at_1, at_2, at_3, at_4, at_5, at_6, at_7, at_skip, c_int, c_bool, c_arr, c_cnt, c_vec, ev_nil, ev_join, ev_sub3, loc_s, int_i, bool_b, rows_s, cs_nil, cs_cons, E.den_lit, E.den_var, E.den_add, E.den_sub, E.den_mul, E.den_quo, E.den_rem, E.den_max, E.den_min, E.den_len, E.den_wr, E.den_cell, ev_cell, kn1, kn2, h1, ctFloor, ctRest, ctF, lineSh, k_, n_]
  intro u r _ _ _ x _ _ hp
  have hk := knots_len r
  rw [← hk]
  obtain ⟨hl, x0, x1⟩ := hp
  obtain ⟨hlen, hbox⟩ := lineE_box hl
  obtain ⟨hne, -, hasc, -⟩ := lineV_ok hl
  generalize knots r = ks at *
  have hpos : 0 < ks.length := List.length_pos_iff.2 hne
  refine ⟨bds_nil _, fun xs => match xs with | [_, _, .i i] => 0 ≤ i ∧ i ≤ ks.length ∧ ∀ j : Nat, (j : Int) < i → j + 1 < ks.length → ¬ ((ks.getD j (0, 0)).1 ≤ x ∧ x < (ks.getD (j + 1) (0, 0)).1) | _ => False, fun xs => match xs with | [_, _, .i i] => ((ks.length : Int) - i).toNat | _ => 0, ⟨by omega, by omega, fun j hj => by omega⟩, ?_⟩
  rintro _ _ _ _ _ _ i _ _ ⟨i0, i1, hi⟩
  refine ⟨⟨by omega, by omega⟩, fun hlt => ?_, fun hge => ?_⟩
  · rw [show (i + 1).toNat = i.toNat + 1 by omega]
    have next : ¬ ((ks.getD i.toNat (0, 0)).1 ≤ x ∧ x < (ks.getD (i.toNat + 1) (0, 0)).1) → ∀ j : Nat, (j : Int) < i + 1 → j + 1 < ks.length → ¬ ((ks.getD j (0, 0)).1 ≤ x ∧ x < (ks.getD (j + 1) (0, 0)).1) := fun h j hj hjl => by
      by_cases e : (j : Int) = i
      · rw [show j = i.toNat by omega]; exact h
      · exact hi j (by omega) hjl
    refine ⟨by omega, by omega, by omega, fun hle => ⟨fun hx => ?_, fun hx => ?_⟩, fun hgt => ?_⟩
    rotate_left
    · exact ⟨⟨by omega, by omega, next (by omega)⟩, (show ((ks.length : Int) - (i + 1)).toNat < ((ks.length : Int) - i).toNat by omega)⟩
    · exact ⟨⟨by omega, by omega, next (by omega)⟩, (show ((ks.length : Int) - (i + 1)).toNat < ((ks.length : Int) - i).toNat by omega)⟩
    have mA := getD_mem (l := ks) (i := i.toNat) (by omega) (0, 0)
    have mB := getD_mem (l := ks) (i := i.toNat + 1) (by omega) (0, 0)
    have ba := hbox _ mA
    have bb := hbox _ mB
    have hval : ((ks.getD i.toNat (0, 0)).1 = x ∧ valP ks x = ((ks.getD i.toNat (0, 0)).2, 0, 1)) ∨ valP ks x = segP (ks.getD i.toNat (0, 0)) (ks.getD (i.toNat + 1) (0, 0)) x := by
      by_cases e : (ks.getD i.toNat (0, 0)).1 = x
      · exact .inl ⟨e, by rw [← e]; exact valP_knot hasc mA⟩
      · right
        have hf := findV_at hne (x := x) (i := i.toNat + 1) (by omega) (fun k hk => by
          by_cases e2 : k = i.toNat
          · rw [e2]; omega
          · have := hasc.lt (i := k) (j := i.toNat) (by omega) (by omega); omega) (fun k h3 h4 => by
          by_cases e2 : k = i.toNat + 1
          · rw [e2]; omega
          · have := hasc.lt (i := i.toNat + 1) (j := k) (by omega) h4; omega)
        rw [if_neg (fun hc => by have := hc.2; omega), show i.toNat + 1 - 1 = i.toNat by omega, show min (i.toNat + 1) (ks.length - 1) = i.toNat + 1 by omega] at hf
        unfold valP partAt
        rw [hf, if_neg]
        have := hasc.lt (i := i.toNat) (j := i.toNat + 1) (by omega) (by omega)
        show ¬ (ks.getD i.toNat (0, 0) = ks.getD (i.toNat + 1) (0, 0))
        intro he; rw [he] at this; omega
    generalize ks.getD i.toNat (0, 0) = a at *
    generalize ks.getD (i.toNat + 1) (0, 0) = b at *
    have hpr := mul_abs (y := b.2 - a.2) (z := x - a.1) (V := 68719476736) (A := 1048576) (by omega) (by omega) (by omega) (by omega)
    have hsb := seg_bd (y := b.2 - a.2) (t := x - a.1) (d := b.1 - a.1) (by omega) (by omega) (by omega)
    have hde := Int.mul_ediv_add_emod ((b.2 - a.2) * (x - a.1)) (b.1 - a.1)
    have hr1 := Int.emod_nonneg ((b.2 - a.2) * (x - a.1)) (b := b.1 - a.1) (by omega)
    have hr2 := Int.emod_lt_of_pos ((b.2 - a.2) * (x - a.1)) (b := b.1 - a.1) (by omega)
    rw [Int.mul_comm (b.1 - a.1)] at hde
    refine ⟨⟨by omega, by omega⟩, ⟨by omega, by omega⟩, ⟨by omega, by omega⟩, ⟨by omega, by omega⟩, ⟨by omega, by omega⟩, ⟨by omega, by omega⟩, ⟨by omega, by omega⟩, ?_⟩
    rintro q _ _ rfl
    have hz : a.1 = x → (b.2 - a.2) * (x - a.1) = 0 := fun e => by rw [e, Int.sub_self, Int.mul_zero]
    have hseg : segP a b x = (a.2 + (b.2 - a.2) * (x - a.1) / (b.1 - a.1), (b.2 - a.2) * (x - a.1) % (b.1 - a.1), b.1 - a.1) := rfl
    generalize (b.2 - a.2) * (x - a.1) = N at *
    generalize hR : N % (b.1 - a.1) = R at *
    generalize hM : N / (b.1 - a.1) * (b.1 - a.1) = M at *
    refine ⟨⟨by omega, by omega⟩, ⟨by omega, by omega⟩, ⟨by omega, by omega⟩, ⟨by omega, by omega⟩, N - M, b.1 - a.1, ⟨rfl, rfl⟩, by omega, by omega, by omega, by omega, ?_⟩
    rcases hval with ⟨e, hv⟩ | hv
    · right
      rw [hv]
      have h0 := hz e
      rw [h0, Int.zero_emod] at hR
      exact ⟨by omega, rfl⟩
    · left
      rw [hv, hseg]
      exact ⟨by show N - M = R; omega, rfl⟩
  · refine ⟨0, 1, ⟨rfl, rfl⟩, by omega, by omega, by omega, by omega, .inr ⟨rfl, ?_⟩⟩
    obtain ⟨j, hj, h3, h4⟩ := split_at hasc x
    have hf := findV_at hne hj h3 h4
    unfold valP partAt
    by_cases e : j < ks.length ∧ (ks.getD j (0, 0)).1 = x
    · rw [if_pos e] at hf; rw [hf, if_pos rfl]
    · rw [if_neg e] at hf
      rw [hf]
      by_cases e0 : j = 0
      · subst e0; rw [if_pos (by rw [Nat.zero_sub, Nat.zero_min])]
      · by_cases e1 : j = ks.length
        · rw [if_pos (by rw [e1, show min ks.length (ks.length - 1) = ks.length - 1 by omega])]
        · exfalso
          have g1 := h3 (j - 1) (by omega)
          have g2 := h4 j (Nat.le_refl _) (by omega)
          have g3 : (ks.getD j (0, 0)).1 ≠ x := fun h => e ⟨by omega, h⟩
          refine hi (j - 1) (by omega) (by omega) ?_
          rw [show j - 1 + 1 = j by omega]
          exact ⟨by omega, by omega⟩
theorem ratleast_ok : tab4.ok 106 := by
  refine Tab.of_ct rfl rfl ⟨_, Try.func106, by decide, rfl⟩ ?_ ctF_det
  refine ct_ok (cx := cratleast) (Tab.cx_ok (all_cons (up4_ok (up3_ok (up_ok rvalue_ok))) (all_cons rest_ok all_nil))) Try.func106 (bds := []) (T := tratleast) (by kernel_rfl) ?_
  have h1 : cratleast.ct 72 = some ctValue := rfl
  have h2 : cratleast.ct 119 = some ctRest := rfl
  unfold tratleast
  simp only [VC, allC, List.map_cons, List.map_nil, List.length_cons, List.length_nil, List.getElem?_cons_zero, List.getElem?_cons_succ, List.cons.injEq, C.i.injEq, C.b.injEq, and_true, true_and, forall_const, kindsOf_nil, kindsOf_lf, kindsOf_agg, kindsOf_box, boxKinds_nil, boxKinds_lf, boxKinds_agg, boxKinds_box, List.append_nil, List.cons_append, List.nil_append, den_cmp_le, den_cmp_lt, den_cmp_eq, den_cmp_ne, den_cmp_le', den_cmp_lt', den_cmp_eq', den_cmp_ne', den_and, den_and', den_or, den_or', den_not, den_not', den_blit, den_of, ev_var, at_0, at_1, at_2, at_3, at_4, at_5, at_6, at_7, at_skip, c_int, c_bool, c_arr, c_cnt, c_vec, ev_nil, ev_join, ev_sub3, loc_s, int_i, bool_b, rows_s, cs_nil, cs_cons, E.den_lit, E.den_var, E.den_add, E.den_sub, E.den_mul, E.den_quo, E.den_rem, E.den_max, E.den_min, E.den_len, E.den_wr, E.den_cell, h1, h2, ctValue, ctRest, ctRAtLeast, ctF, lineSh, rangeSh, k_, n_, ofKn]
  intro u r _ _ _ u2 r2 _ _ _ x _ _ hp
  generalize knots r = ka at *
  generalize knots r2 = kb at *
  obtain ⟨ha, hb, x0, x1⟩ := hp
  have va := lineE_val ha x
  have vb := lineE_val hb x
  refine ⟨bds_nil _, rightB_of ha, ?_⟩
  rintro p1 _ _ p2 _ _ ⟨e1, e2⟩
  refine ⟨rightB_of hb, ?_⟩
  rintro q1 _ _ q2 _ _ ⟨f1, f2⟩
  have e1 : p1 = (valP ka x).1 := e1
  have e2 : p2 = (valP ka x).1 + min (valP ka x).2.1 1 := e2
  have f1 : q1 = (valP kb x).1 := f1
  have f2 : q2 = (valP kb x).1 + min (valP kb x).2.1 1 := f2
  generalize valP ka x = p at *
  generalize valP kb x = q at *
  have hlast : p1 = q1 → ∀ (n d m f : Int), 0 < d → d ≤ 1048576 → 0 ≤ n → n < d → 0 < f → f ≤ 1048576 → 0 ≤ m → m < f → ((n = p.2.1 ∧ d = p.2.2) ∨ (n = 0 ∧ p.2.1 = 0)) → ((m = q.2.1 ∧ f = q.2.2) ∨ (m = 0 ∧ q.2.1 = 0)) →
      ((-9223372036854775808 ≤ n * f ∧ n * f ≤ 9223372036854775807) ∧ (-9223372036854775808 ≤ m * d ∧ m * d ≤ 9223372036854775807) ∧ decide (m * d ≤ n * f) = geP p q) := fun heq n d m f d0 d1 n0 n1 f0 f1' m0 m1 hn hm => by
    have b1 := mul_abs (y := n) (z := f) (V := 1048576) (A := 1048576) (by omega) (by omega) (by omega) (by omega)
    have b2 := mul_abs (y := m) (z := d) (V := 1048576) (A := 1048576) (by omega) (by omega) (by omega) (by omega)
    refine ⟨⟨by omega, by omega⟩, ⟨by omega, by omega⟩, ?_⟩
    unfold geP
    rw [decide_eq_false (p := q.1 < p.1) (by omega), Bool.false_or, show (p.1 == q.1) = true by rw [beq_iff_eq]; omega, Bool.true_and]
    rw [decide_eq_decide]
    rcases hn with ⟨rfl, rfl⟩ | ⟨rfl, hp0⟩
    · rcases hm with ⟨rfl, rfl⟩ | ⟨rfl, hq0⟩
      · exact Iff.rfl
      · simp only [hq0, Int.zero_mul]
        have a1 : 0 ≤ p.2.1 * f := Int.mul_nonneg n0 (by omega)
        have a2 : 0 ≤ p.2.1 * q.2.2 := Int.mul_nonneg n0 (by omega)
        omega
    · simp only [hp0, Int.zero_mul]
      have key : ∀ {m d : Int}, 0 < d → 0 ≤ m → (m * d ≤ 0 ↔ m = 0) := fun {m d} hd hm => by
        constructor
        · intro h
          rcases Int.lt_or_eq_of_le hm with h1 | h1
          · have := Int.mul_pos h1 hd; omega
          · exact h1.symm
        · intro h; rw [h, Int.zero_mul]; exact Int.le_refl _
      rw [key d0 m0, key (by omega) vb.1]
      rcases hm with ⟨rfl, rfl⟩ | ⟨rfl, hq0⟩
      · exact Iff.rfl
      · exact ⟨fun _ => hq0, fun _ => rfl⟩
  refine ⟨fun hne => ⟨fun hle => ?_, fun hgt => ?_⟩, fun heq => ⟨fun h3 => ⟨fun h4 => ⟨fun h5 => ?_, fun h5 => by omega⟩, fun h4 => ?_⟩, fun h3 => ?_⟩⟩
  · unfold geP
    rw [decide_eq_true (p := q.1 < p.1) (by omega)]; rfl
  · show decide (q1 < p1) = _
    unfold geP
    rw [show (p.1 == q.1) = false by rw [beq_eq_false_iff_ne]; omega, Bool.false_and, Bool.or_false, e1, f1]
  · unfold geP
    rw [show p.2.1 = 0 by omega, show q.2.1 = 0 by omega, Int.zero_mul, Int.zero_mul, show (p.1 == q.1) = true by rw [beq_iff_eq]; omega]
    simp
  all_goals
    refine ⟨⟨ha, x0, x1⟩, ?_⟩
    rintro n _ _ d _ _ ⟨_, _, hh, d0, d1, n0, n1, hn⟩
    obtain ⟨rfl, rfl⟩ := hh
    refine ⟨⟨hb, x0, x1⟩, ?_⟩
    rintro m _ _ f _ _ ⟨_, _, hh, f0, f1', m0, m1, hm⟩
    obtain ⟨rfl, rfl⟩ := hh
    exact hlast heq n d m f d0 d1 n0 n1 f0 f1' m0 m1 hn hm
theorem over_ok : tab4.ok 84 := by
  refine Tab.of_ct rfl rfl ⟨_, Try.func84, by decide, rfl⟩ ?_ ctF_det
  refine ct_ok (cx := cover) (Tab.cx_ok (all_cons ratleast_ok all_nil)) Try.func84 (bds := []) (T := tover) (by kernel_rfl) ?_
  have h1 : cover.ct 106 = some ctRAtLeast := rfl
  unfold tover
  simp only [VC, allC, List.map_cons, List.map_nil, List.length_cons, List.length_nil, List.getElem?_cons_zero, List.getElem?_cons_succ, List.cons.injEq, C.i.injEq, C.b.injEq, and_true, true_and, forall_const, kindsOf_nil, kindsOf_lf, kindsOf_agg, kindsOf_box, boxKinds_nil, boxKinds_lf, boxKinds_agg, boxKinds_box, List.append_nil, List.cons_append, List.nil_append, den_cmp_le, den_cmp_lt, den_cmp_eq, den_cmp_ne, den_cmp_le', den_cmp_lt', den_cmp_eq', den_cmp_ne', den_and, den_and', den_or, den_or', den_not, den_not', den_blit, den_of, ev_var, at_0, at_1, at_2, at_3, at_4, at_5, at_6, at_7, at_skip, c_int, c_bool, c_arr, c_cnt, c_vec, ev_nil, ev_join, ev_sub3, loc_s, int_i, bool_b, rows_s, cs_nil, cs_cons, E.den_lit, E.den_var, E.den_add, E.den_sub, E.den_mul, E.den_quo, E.den_rem, E.den_max, E.den_min, E.den_len, E.den_wr, E.den_cell, ev_cell, h1, ctRAtLeast, ctCovers, ctF, lineSh, k_, n_]
  intro u r _ _ _ u2 r2 _ _ _ b _ _ hp
  have hk := knots_len r
  have hk2 := knots_len r2
  simp only [kn1 u r, kn1 u2 r2]
  rw [← hk, ← hk2]
  generalize knots r = ka at *
  generalize knots r2 = kb at *
  obtain ⟨ha, hb, b0, b1⟩ := hp
  obtain ⟨la, hba⟩ := lineE_box ha
  obtain ⟨lb, hbb⟩ := lineE_box hb
  refine ⟨bds_nil _, fun v3 => ?_⟩
  refine ⟨fun xs => match xs with | [.s _ rows, .i i] => 0 ≤ i ∧ i ≤ ka.length ∧ ints rows = [0, b] ++ (ka.take i.toNat).map (·.1) | _ => False, fun xs => match xs with | [_, .i i] => ((ka.length : Int) - i).toNat | _ => 0, ⟨by omega, by omega, rfl⟩, ?_⟩
  rintro v4 r4 _ _ _ i _ _ ⟨i0, i1, hi⟩
  have l4 : r4.length ≤ 26 := by rw [← ints_len, hi]; simp; omega
  refine ⟨fun hlt => ⟨i0, hlt, by omega, fun v => ⟨⟨by omega, by omega, by rw [ints_app, hi, show (i + 1).toNat = i.toNat + 1 by omega, take_snoc (by omega) (0, 0), List.map_append, List.append_assoc]; rfl⟩, (show ((ka.length : Int) - (i + 1)).toNat < ((ka.length : Int) - i).toNat by omega)⟩⟩, fun hge => ?_⟩
  rw [List.take_of_length_le (by omega)] at hi
  refine ⟨fun xs => match xs with | [.s _ rows, .i i] => 0 ≤ i ∧ i ≤ kb.length ∧ ints rows = [0, b] ++ ka.map (·.1) ++ (kb.take i.toNat).map (·.1) | _ => False, fun xs => match xs with | [_, .i i] => ((kb.length : Int) - i).toNat | _ => 0, ⟨by omega, by omega, by rw [hi]; simp⟩, ?_⟩
  rintro v6 r6 _ _ _ j _ _ ⟨j0, j1, hj⟩
  have l6 : r6.length ≤ 50 := by rw [← ints_len, hj]; simp; omega
  refine ⟨fun hlt => ⟨j0, hlt, by omega, fun v => ⟨⟨by omega, by omega, by rw [ints_app, hj, show (j + 1).toNat = j.toNat + 1 by omega, take_snoc (by omega) (0, 0), List.map_append, List.append_assoc, List.append_assoc, List.append_assoc]; rfl⟩, (show ((kb.length : Int) - (j + 1)).toNat < ((kb.length : Int) - j).toNat by omega)⟩⟩, fun hge2 => ?_⟩
  rw [List.take_of_length_le (by omega)] at hj
  have hl6 := ints_len r6
  simp only [in1]
  rw [← hl6]
  generalize hL : ints r6 = L at *
  have hiff : spansV ka kb b = true ↔ ∀ x ∈ L, x ≤ b → geP (valP ka x) (valP kb x) = true := by
    unfold spansV aboveV
    rw [Bool.and_eq_true, Bool.and_eq_true, List.all_eq_true, hj]
    constructor
    · rintro ⟨⟨g1, g2⟩, g3⟩ x hx hxb
      rw [List.append_assoc] at hx
      rcases List.mem_append.1 hx with hx | hx
      · simp only [List.mem_cons, List.not_mem_nil, or_false] at hx
        rcases hx with rfl | rfl
        · exact g1
        · exact g2
      · rw [← List.map_append] at hx
        obtain ⟨k, hk, rfl⟩ := List.mem_map.1 hx
        have := g3 k hk
        rwa [decide_eq_false (by omega), Bool.false_or] at this
    · intro h
      refine ⟨⟨h 0 (by simp) b0, h b (by simp) (Int.le_refl _)⟩, fun k hk => ?_⟩
      by_cases hkb : k.1 ≤ b
      · rw [h k.1 (by rw [List.append_assoc, ← List.map_append]; exact List.mem_append_right _ (List.mem_map.2 ⟨k, hk, rfl⟩)) hkb, Bool.or_true]
      · rw [decide_eq_true (by omega)]; rfl
  have hL0 : ∀ x ∈ L, 0 ≤ x := fun x hx => by
    rw [hj, List.append_assoc, ← List.map_append] at hx
    rcases List.mem_append.1 hx with hx | hx
    · simp only [List.mem_cons, List.not_mem_nil, or_false] at hx
      rcases hx with rfl | rfl <;> omega
    · obtain ⟨k, hk, rfl⟩ := List.mem_map.1 hx
      rcases List.mem_append.1 hk with hk | hk
      · exact (hba k hk).1
      · exact (hbb k hk).1
  refine ⟨fun xs => match xs with | [_, .i i] => 0 ≤ i ∧ i ≤ L.length ∧ ∀ x ∈ L.take i.toNat, x ≤ b → geP (valP ka x) (valP kb x) = true | _ => False, fun xs => match xs with | [_, .i i] => ((L.length : Int) - i).toNat | _ => 0, ⟨by omega, by omega, fun x hx => by simp at hx⟩, ?_⟩
  rintro t m _ _ ⟨m0, m1, hm⟩
  refine ⟨fun hlt => ⟨m0, hlt, fun hle => ⟨hlt, ?_⟩, fun hgt => ?_⟩, fun hge3 => ?_⟩
  · have hmem := getD_mem (l := L) (i := m.toNat) (by omega) 0
    have hx0 := hL0 _ hmem
    refine ⟨⟨ha, hb, hx0, by omega⟩, ?_⟩
    rintro t ht
    refine ⟨fun h => ?_, fun h => ⟨⟨by omega, by omega, fun x hx hxb => ?_⟩, (show ((L.length : Int) - (m + 1)).toNat < ((L.length : Int) - m).toNat by omega)⟩⟩
    · cases hs : spansV ka kb b with
      | false => rfl
      | true =>
        have := hiff.1 hs _ hmem hle
        rw [ht, this] at h; cases h
    · rw [show (m + 1).toNat = m.toNat + 1 by omega, take_snoc (by omega) 0] at hx
      rcases List.mem_append.1 hx with hx | hx
      · exact hm x hx hxb
      · rw [List.mem_singleton] at hx; subst hx; rw [← ht]; exact h
  · refine ⟨⟨by omega, by omega, fun x hx hxb => ?_⟩, (show ((L.length : Int) - (m + 1)).toNat < ((L.length : Int) - m).toNat by omega)⟩
    rw [show (m + 1).toNat = m.toNat + 1 by omega, take_snoc (by omega) 0] at hx
    rcases List.mem_append.1 hx with hx | hx
    · exact hm x hx hxb
    · rw [List.mem_singleton] at hx; subst hx; omega
  · rw [List.take_of_length_le (by omega)] at hm
    exact (hiff.2 hm).symm
end Go.Proofs.Ytcglpbchejkolaa
/- Earth: fits, and EarthFits by the table. -/
namespace Go.Proofs.Ytcglpbchejkolaa
open Go.RowKit
set_option linter.unusedSimpArgs false
set_option linter.unusedVariables false

theorem true1 {tp tf : List Kn} {r : Rep} (h : r.kind = 1) : trueV tp tf r = decide (r.p ≤ (rangeP tp r.z).1) := by
  unfold trueV; rw [if_pos (Or.inl h), if_neg (by omega)]
theorem true2 {tp tf : List Kn} {r : Rep} (h : r.kind ≠ 1) (h2 : r.kind < 3) : trueV tp tf r = decide ((rangeP tp r.z).2 ≤ r.p) := by
  unfold trueV; rw [if_neg (by omega), if_neg (by omega)]
theorem true3 {tp tf : List Kn} {r : Rep} (h : r.kind = 3) : trueV tp tf r = decide (r.p ≤ (rangeP tf r.z).1) := by
  unfold trueV; rw [if_pos (Or.inr h), if_pos (by omega)]
theorem true4 {tp tf : List Kn} {r : Rep} (h : 4 ≤ r.kind) : trueV tp tf r = decide ((rangeP tf r.z).2 ≤ r.p) := by
  unfold trueV; rw [if_neg (by omega), if_pos (by omega)]
theorem true4_ok : tab4.ok 82 := by
  refine Tab.of_ct rfl rfl ⟨_, Try.func82, by decide, rfl⟩ ?_ ctF_det
  refine ct_ok (cx := ctrue4) (Tab.cx_ok (all_cons (up4_ok (up3_ok (up_ok value_ok))) all_nil)) Try.func82 (bds := []) (T := ttrue4) (by kernel_rfl) ?_
  have h1 : ctrue4.ct 65 = some ctValue := rfl
  unfold ttrue4
  simp only [VC, allC, List.map_cons, List.map_nil, List.length_cons, List.length_nil, List.getElem?_cons_zero, List.getElem?_cons_succ, List.cons.injEq, C.i.injEq, C.b.injEq, and_true, true_and, forall_const, kindsOf_nil, kindsOf_lf, kindsOf_agg, kindsOf_box, boxKinds_nil, boxKinds_lf, boxKinds_agg, boxKinds_box, List.append_nil, List.cons_append, List.nil_append, den_cmp_le, den_cmp_lt, den_cmp_eq, den_cmp_ne, den_cmp_le', den_cmp_lt', den_cmp_eq', den_cmp_ne', den_and, den_and', den_or, den_or', den_not, den_not', den_blit, den_of, ev_var, at_0, at_1, at_2, at_3, at_4, at_5, at_6, at_7, at_skip, c_int, c_bool, c_arr, c_cnt, c_vec, ev_nil, ev_join, ev_sub3, loc_s, int_i, bool_b, rows_s, cs_nil, cs_cons, E.den_lit, E.den_var, E.den_add, E.den_sub, E.den_mul, E.den_quo, E.den_rem, E.den_max, E.den_min, E.den_len, E.den_wr, E.den_cell, h1, ctValue, ctTrue4, ctF, lineSh, rangeSh, reportSh, truthSh, k_, n_, ofKn]
  intro kind _ _ z _ _ p _ _ u r _ _ _ u2 r2 _ _ _ hp
  refine ⟨bds_nil _, fun h3 => ⟨rightB_of hp.2, ?_⟩, fun h3 => ⟨rightB_of hp.1, ?_⟩⟩
  · rintro lo _ _ hi _ _ ⟨e1, e2⟩
    refine ⟨fun e => ?_, fun e => ?_⟩
    · rw [true3 (r := ⟨kind, z, p⟩) e, e1]; rfl
    · rw [true4 (r := ⟨kind, z, p⟩) (show 4 ≤ kind by omega), e2]; rfl
  · rintro lo _ _ hi _ _ ⟨e1, e2⟩
    refine ⟨fun e => ?_, fun e => ?_⟩
    · rw [true1 (r := ⟨kind, z, p⟩) e, e1]; rfl
    · rw [true2 (r := ⟨kind, z, p⟩) e (show kind < 3 by omega), e2]; rfl
theorem all_no {α : Type} {l : List α} {f : α → Bool} {i : Nat} {d : α} (hi : i < l.length) (h : f (l.getD i d) = false) : false = l.all f := by
  cases ha : l.all f with
  | false => rfl
  | true => rw [List.all_eq_true.1 ha _ (getD_mem hi d)] at h; cases h
theorem all_step {α : Type} {l : List α} {f : α → Bool} {i : Int} {d : α} (i0 : 0 ≤ i) (hi : i < l.length) (h : f (l.getD i.toNat d) = true) (ha : ∀ r ∈ l.take i.toNat, f r = true) : (0 ≤ i + 1 ∧ i + 1 ≤ l.length ∧ ∀ r ∈ l.take (i + 1).toNat, f r = true) ∧ ((l.length : Int) - (i + 1)).toNat < ((l.length : Int) - i).toNat := by
  refine ⟨⟨by omega, by omega, fun r hr => ?_⟩, by omega⟩
  rw [show (i + 1).toNat = i.toNat + 1 by omega, take_snoc (by omega) d] at hr
  rcases List.mem_append.1 hr with hr | hr
  · exact ha r hr
  · rw [List.mem_singleton] at hr; subst hr; exact h
theorem all_end {α : Type} {l : List α} {f : α → Bool} {i : Int} (hi : (l.length : Int) ≤ i) (ha : ∀ r ∈ l.take i.toNat, f r = true) : true = l.all f := by
  rw [List.take_of_length_le (by omega)] at ha
  exact (List.all_eq_true.2 ha).symm
theorem told_ok : tab4.ok 85 := by
  refine Tab.of_ct rfl rfl ⟨_, Try.func85, by decide, rfl⟩ ?_ ctF_det
  refine ct_ok (cx := ctold) (Tab.cx_ok (all_cons (up4_ok (up3_ok (up_ok rvalue_ok))) all_nil)) Try.func85 (bds := []) (T := ttold) (by kernel_rfl) ?_
  have h1 : ctold.ct 72 = some ctValue := rfl
  unfold ttold
  simp only [VC, allC, List.map_cons, List.map_nil, List.length_cons, List.length_nil, List.getElem?_cons_zero, List.getElem?_cons_succ, List.cons.injEq, C.i.injEq, C.b.injEq, and_true, true_and, forall_const, kindsOf_nil, kindsOf_lf, kindsOf_agg, kindsOf_box, boxKinds_nil, boxKinds_lf, boxKinds_agg, boxKinds_box, List.append_nil, List.cons_append, List.nil_append, den_cmp_le, den_cmp_lt, den_cmp_eq, den_cmp_ne, den_cmp_le', den_cmp_lt', den_cmp_eq', den_cmp_ne', den_and, den_and', den_or, den_or', den_not, den_not', den_blit, den_of, ev_var, at_0, at_1, at_2, at_3, at_4, at_5, at_6, at_7, at_skip, c_int, c_bool, c_arr, c_cnt, c_vec, ev_nil, ev_join, ev_sub3, loc_s, int_i, bool_b, rows_s, cs_nil, cs_cons, E.den_lit, E.den_var, E.den_add, E.den_sub, E.den_mul, E.den_quo, E.den_rem, E.den_max, E.den_min, E.den_len, E.den_wr, E.den_cell, ev_cell, rp0, rp1, rp2, h1, ctValue, ctTold, ctF, lineSh, rangeSh, earthSh, earthKs, truthSh, k_, n_, earOf, ofKn]
  intro b _ _ u1 r1 _ _ _ u2 r2 _ _ _ u3 r3 _ _ _ u4 r4 _ _ _ gl _ _ gh _ _ u7 r7 _ _ _ u8 r8 _ _ _ u9 r9 _ _ _ hp
  obtain ⟨hc, hl, hl2⟩ := hp
  have hkind := (valid hc).rep
  have hlen := (valid hc).reps
  clear hc
  change ∀ r ∈ repsOf r7, _ at hkind
  change (repsOf r7).length ≤ 24 at hlen
  rw [← reps_len r7]
  generalize repsOf r7 = rs at *
  generalize knots r8 = tp at *
  generalize knots r9 = tf at *
  refine ⟨bds_nil _, fun xs => match xs with | [_, .i i] => 0 ≤ i ∧ i ≤ rs.length ∧ ∀ r ∈ rs.take i.toNat, trueV tp tf r = true | _ => False, fun xs => match xs with | [_, .i i] => ((rs.length : Int) - i).toNat | _ => 0, ⟨by omega, by omega, fun r hr => by simp at hr⟩, ?_⟩
  rintro x i _ _ ⟨i0, i1, hi⟩
  refine ⟨fun hlt => ⟨i0, hlt, rightB_of hl, ?_⟩, fun hge => all_end hge hi⟩
  rintro plo _ _ phi _ _ ⟨e1, e2⟩
  refine ⟨rightB_of hl2, ?_⟩
  rintro flo _ _ fhi _ _ ⟨e3, e4⟩
  have hk := hkind _ (getD_mem (l := rs) (i := i.toNat) (by omega) ⟨0, 0, 0⟩)
  have no := all_no (l := rs) (f := trueV tp tf) (i := i.toNat) (d := ⟨0, 0, 0⟩) (by omega)
  have yes := fun h => all_step (l := rs) (f := trueV tp tf) (d := ⟨0, 0, 0⟩) i0 hlt h hi
  have e1 : plo = (rangeP tp (rs.getD i.toNat ⟨0, 0, 0⟩).z).1 := e1
  have e2 : phi = (rangeP tp (rs.getD i.toNat ⟨0, 0, 0⟩).z).2 := e2
  have e3 : flo = (rangeP tf (rs.getD i.toNat ⟨0, 0, 0⟩).z).1 := e3
  have e4 : fhi = (rangeP tf (rs.getD i.toNat ⟨0, 0, 0⟩).z).2 := e4
  generalize rs.getD i.toNat ⟨0, 0, 0⟩ = r at *
  refine ⟨fun h => ⟨fun h2 => no ?_, fun h2 => yes ?_⟩, fun h => ⟨fun h3 => ⟨fun h2 => no ?_, fun h2 => yes ?_⟩, fun h3 => ⟨fun h4 => ⟨fun h2 => no ?_, fun h2 => yes ?_⟩, fun h4 => ⟨fun h2 => no ?_, fun h2 => yes ?_⟩⟩⟩⟩
  · rw [true2 (by omega) (by omega)]; exact decide_eq_false (by omega)
  · rw [true2 (by omega) (by omega)]; exact decide_eq_true (by omega)
  · rw [true3 h3]; exact decide_eq_false (by omega)
  · rw [true3 h3]; exact decide_eq_true (by omega)
  · rw [true4 (by omega)]; exact decide_eq_false (by omega)
  · rw [true4 (by omega)]; exact decide_eq_true (by omega)
  · rw [true1 (by omega)]; exact decide_eq_false (by omega)
  · rw [true1 (by omega)]; exact decide_eq_true (by omega)
theorem fitsV_iff {e : Ear} {tp tf : List Kn} : fitsV e tp tf = true ↔ checkV e = 0 ∧ truthV tp tf e.bottom = 0 ∧ growsV e.gl e.gh tp = true ∧ growsV e.gl e.gh tf = true ∧ spansV tp e.pl e.bottom = true ∧ spansV e.ph tp e.bottom = true ∧ spansV tf e.fl e.bottom = true ∧ spansV e.fh tf e.bottom = true ∧ spansV tf tp e.bottom = true ∧ e.reps.all (trueV tp tf) = true := by
  unfold fitsV
  simp only [Bool.and_eq_true, beq_iff_eq, and_assoc]
theorem fits_no {e : Ear} {tp tf : List Kn} (h : ¬ (checkV e = 0 ∧ truthV tp tf e.bottom = 0 ∧ growsV e.gl e.gh tp = true ∧ growsV e.gl e.gh tf = true ∧ spansV tp e.pl e.bottom = true ∧ spansV e.ph tp e.bottom = true ∧ spansV tf e.fl e.bottom = true ∧ spansV e.fh tf e.bottom = true ∧ spansV tf tp e.bottom = true ∧ e.reps.all (trueV tp tf) = true)) : false = fitsV e tp tf := by
  cases hf : fitsV e tp tf with
  | false => rfl
  | true => exact absurd (fitsV_iff.1 hf) h
theorem bno {a b : Bool} (h : a = b) (h1 : a = false) (h2 : b = true) : False := by rw [h, h2] at h1; cases h1
theorem fits_ok : tab4.ok 45 := by
  refine Tab.of_ct rfl rfl ⟨_, Try.func45, by decide, rfl⟩ ?_ ctF_det
  refine ct_ok (cx := cfits) (Tab.cx_ok (all_cons (up4_ok (up3_ok check_ok)) (all_cons ctruth_ok (all_cons grows_ok (all_cons covers_ok (all_cons true4_ok all_nil))))) fxfits) Try.func45 (bds := []) (T := tfits) (by kernel_rfl) ?_
  have h1 : cfits.ct 35 = some ctCheck := rfl
  have h2 : cfits.ct 48 = some ctTruth := rfl
  have h3 : cfits.ct 78 = some ctGrows := rfl
  have h4 : cfits.ct 79 = some ctCovers := rfl
  have h5 : cfits.ct 82 = some ctTrue4 := rfl
  unfold tfits
  simp only [VC, allC, List.map_cons, List.map_nil, List.length_cons, List.length_nil, List.getElem?_cons_zero, List.getElem?_cons_succ, List.cons.injEq, C.i.injEq, C.b.injEq, and_true, true_and, forall_const, kindsOf_nil, kindsOf_lf, kindsOf_agg, kindsOf_box, boxKinds_nil, boxKinds_lf, boxKinds_agg, boxKinds_box, List.append_nil, List.cons_append, List.nil_append, den_cmp_le, den_cmp_lt, den_cmp_eq, den_cmp_ne, den_cmp_le', den_cmp_lt', den_cmp_eq', den_cmp_ne', den_and, den_and', den_or, den_or', den_not, den_not', den_blit, den_of, ev_var, at_0, at_1, at_2, at_3, at_4, at_5, at_6, at_7, at_skip, c_int, c_bool, c_arr, c_cnt, c_vec, ev_nil, ev_join, ev_sub3, loc_s, int_i, bool_b, rows_s, cs_nil, cs_cons, E.den_lit, E.den_var, E.den_add, E.den_sub, E.den_mul, E.den_quo, E.den_rem, E.den_max, E.den_min, E.den_len, E.den_wr, E.den_cell, ev_cell, rp0, rp1, rp2, h1, h2, h3, h4, h5, ctCheck, ctTruth, ctGrows, ctCovers, ctTrue4, ctFits, ctF, lineSh, rangeSh, earthSh, earthKs, truthSh, reportSh, k_, n_, earOf, ofKn]
  intro b _ _ u1 r1 _ _ _ u2 r2 _ _ _ u3 r3 _ _ _ u4 r4 _ _ _ gl _ _ gh _ _ u7 r7 _ _ _ u8 r8 _ _ _ u9 r9 _ _ _
  rw [← reps_len r7]
  generalize knots r1 = k1 at *
  generalize knots r2 = k2 at *
  generalize knots r3 = k3 at *
  generalize knots r4 = k4 at *
  generalize repsOf r7 = rs at *
  generalize knots r8 = tp at *
  generalize knots r9 = tf at *
  refine ⟨bds_nil _, ?_⟩
  rintro n1 _ _ c1
  refine ⟨fun h => fits_no fun hh => h (c1.trans hh.1), fun z1 => ?_⟩
  have hv := valid (c1.symm.trans z1)
  have hb : 0 ≤ b ∧ b ≤ 1048576 := ⟨Int.le_trans (by decide) hv.b.1, hv.b.2⟩
  rintro n2 _ _ c2
  refine ⟨fun h => fits_no fun hh => h (c2.trans hh.2.1), fun z2 => ?_⟩
  obtain ⟨lp, lf⟩ := orE_zero (c2.symm.trans z2)
  have lf := (orE_zero lf).1
  refine ⟨⟨c1.symm.trans z1, lp⟩, ?_⟩
  rintro t3 c3
  refine ⟨fun h => fits_no fun hh => bno c3 h hh.2.2.1, fun z3 => ⟨⟨c1.symm.trans z1, lf⟩, ?_⟩⟩
  rintro t4 c4
  refine ⟨fun h => fits_no fun hh => bno c4 h hh.2.2.2.1, fun z4 => ⟨⟨lp, hv.pl, hb.1, hb.2⟩, ?_⟩⟩
  rintro t5 c5
  refine ⟨fun h => fits_no fun hh => bno c5 h hh.2.2.2.2.1, fun z5 => ⟨⟨hv.ph, lp, hb.1, hb.2⟩, ?_⟩⟩
  rintro t6 c6
  refine ⟨fun h => fits_no fun hh => bno c6 h hh.2.2.2.2.2.1, fun z6 => ⟨⟨lf, hv.fl, hb.1, hb.2⟩, ?_⟩⟩
  rintro t7 c7
  refine ⟨fun h => fits_no fun hh => bno c7 h hh.2.2.2.2.2.2.1, fun z7 => ⟨⟨hv.fh, lf, hb.1, hb.2⟩, ?_⟩⟩
  rintro t8 c8
  refine ⟨fun h => fits_no fun hh => bno c8 h hh.2.2.2.2.2.2.2.1, fun z8 => ⟨⟨lf, lp, hb.1, hb.2⟩, ?_⟩⟩
  rintro t9 c9
  refine ⟨fun h => fits_no fun hh => bno c9 h hh.2.2.2.2.2.2.2.2.1, fun z9 => ?_⟩
  refine ⟨fun xs => match xs with | [_, .i i] => 0 ≤ i ∧ i ≤ rs.length ∧ ∀ r ∈ rs.take i.toNat, trueV tp tf r = true | _ => False, fun xs => match xs with | [_, .i i] => ((rs.length : Int) - i).toNat | _ => 0, ⟨by omega, by omega, fun r hr => by simp at hr⟩, ?_⟩
  rintro x _ _ i _ _ ⟨i0, i1, hi⟩
  refine ⟨fun hlt => ⟨i0, hlt, ⟨lp, lf⟩, ?_⟩, fun hge => ?_⟩
  · rintro t ct
    refine ⟨fun h => fits_no fun hh => ?_, fun h => all_step (d := ⟨0, 0, 0⟩) i0 hlt (ct.symm.trans h) hi⟩
    have := all_no (l := rs) (f := trueV tp tf) (i := i.toNat) (d := ⟨0, 0, 0⟩) (by omega) (ct.symm.trans h)
    rw [hh.2.2.2.2.2.2.2.2.2] at this; cases this
  · exact (fitsV_iff.2 ⟨c1.symm.trans z1, c2.symm.trans z2, c3.symm.trans z3, c4.symm.trans z4, c5.symm.trans z5, c6.symm.trans z6, c7.symm.trans z7, c8.symm.trans z8, c9.symm.trans z9, (all_end hge hi).symm⟩).symm
theorem rfits_ok : tab4.ok 46 := by
  refine Tab.of_ct rfl rfl ⟨_, Try.func46, by decide, rfl⟩ ?_ ctF_det
  refine ct_ok (cx := crfits) (Tab.cx_ok (all_cons (up4_ok (up3_ok rcheck_ok)) (all_cons rctruth_ok (all_cons rgrows_ok (all_cons over_ok (all_cons told_ok all_nil)))))) Try.func46 (bds := []) (T := trfits) (by kernel_rfl) ?_
  have h1 : crfits.ct 47 = some ctCheck := rfl
  have h2 : crfits.ct 49 = some ctTruth := rfl
  have h3 : crfits.ct 83 = some ctGrows := rfl
  have h4 : crfits.ct 84 = some ctCovers := rfl
  have h5 : crfits.ct 85 = some ctTold := rfl
  unfold trfits
  simp only [VC, allC, List.map_cons, List.map_nil, List.length_cons, List.length_nil, List.getElem?_cons_zero, List.getElem?_cons_succ, List.cons.injEq, C.i.injEq, C.b.injEq, and_true, true_and, forall_const, kindsOf_nil, kindsOf_lf, kindsOf_agg, kindsOf_box, boxKinds_nil, boxKinds_lf, boxKinds_agg, boxKinds_box, List.append_nil, List.cons_append, List.nil_append, den_cmp_le, den_cmp_lt, den_cmp_eq, den_cmp_ne, den_cmp_le', den_cmp_lt', den_cmp_eq', den_cmp_ne', den_and, den_and', den_or, den_or', den_not, den_not', den_blit, den_of, ev_var, at_0, at_1, at_2, at_3, at_4, at_5, at_6, at_7, at_skip, c_int, c_bool, c_arr, c_cnt, c_vec, ev_nil, ev_join, ev_sub3, loc_s, int_i, bool_b, rows_s, cs_nil, cs_cons, E.den_lit, E.den_var, E.den_add, E.den_sub, E.den_mul, E.den_quo, E.den_rem, E.den_max, E.den_min, E.den_len, E.den_wr, E.den_cell, h1, h2, h3, h4, h5, ctCheck, ctTruth, ctGrows, ctCovers, ctTold, ctFits, ctF, lineSh, rangeSh, earthSh, earthKs, truthSh, reportSh, k_, n_, earOf, ofKn]
  intro b _ _ u1 r1 _ _ _ u2 r2 _ _ _ u3 r3 _ _ _ u4 r4 _ _ _ gl _ _ gh _ _ u7 r7 _ _ _ u8 r8 _ _ _ u9 r9 _ _ _
  generalize knots r1 = k1 at *
  generalize knots r2 = k2 at *
  generalize knots r3 = k3 at *
  generalize knots r4 = k4 at *
  generalize repsOf r7 = rs at *
  generalize knots r8 = tp at *
  generalize knots r9 = tf at *
  refine ⟨bds_nil _, ?_⟩
  rintro n1 _ _ c1
  refine ⟨fun h => fits_no fun hh => h (c1.trans hh.1), fun z1 => ?_⟩
  have hv := valid (c1.symm.trans z1)
  have hb : 0 ≤ b ∧ b ≤ 1048576 := ⟨Int.le_trans (by decide) hv.b.1, hv.b.2⟩
  rintro n2 _ _ c2
  refine ⟨fun h => fits_no fun hh => h (c2.trans hh.2.1), fun z2 => ?_⟩
  obtain ⟨lp, lf⟩ := orE_zero (c2.symm.trans z2)
  have lf := (orE_zero lf).1
  refine ⟨⟨c1.symm.trans z1, lp⟩, ?_⟩
  rintro t3 c3
  refine ⟨fun h => fits_no fun hh => bno c3 h hh.2.2.1, fun z3 => ⟨⟨c1.symm.trans z1, lf⟩, ?_⟩⟩
  rintro t4 c4
  refine ⟨fun h => fits_no fun hh => bno c4 h hh.2.2.2.1, fun z4 => ⟨⟨lp, hv.pl, hb.1, hb.2⟩, ?_⟩⟩
  rintro t5 c5
  refine ⟨fun z5 => ⟨⟨hv.ph, lp, hb.1, hb.2⟩, ?_⟩, fun h => fits_no fun hh => bno c5 h hh.2.2.2.2.1⟩
  rintro t6 c6
  refine ⟨fun z6 => ⟨⟨lf, hv.fl, hb.1, hb.2⟩, ?_⟩, fun h => fits_no fun hh => bno c6 h hh.2.2.2.2.2.1⟩
  rintro t7 c7
  refine ⟨fun z7 => ⟨⟨hv.fh, lf, hb.1, hb.2⟩, ?_⟩, fun h => fits_no fun hh => bno c7 h hh.2.2.2.2.2.2.1⟩
  rintro t8 c8
  refine ⟨fun z8 => ⟨⟨lf, lp, hb.1, hb.2⟩, ?_⟩, fun h => fits_no fun hh => bno c8 h hh.2.2.2.2.2.2.2.1⟩
  rintro t9 c9
  refine ⟨fun z9 => ⟨⟨c1.symm.trans z1, lp, lf⟩, ?_⟩, fun h => fits_no fun hh => bno c9 h hh.2.2.2.2.2.2.2.2.1⟩
  rintro t ct
  rw [ct]
  cases ha : rs.all (trueV tp tf) with
  | true => exact (fitsV_iff.2 ⟨c1.symm.trans z1, c2.symm.trans z2, c3.symm.trans z3, c4.symm.trans z4, c5.symm.trans z5, c6.symm.trans z6, c7.symm.trans z7, c8.symm.trans z8, c9.symm.trans z9, ha⟩).symm
  | false => exact fits_no fun hh => bno ha.symm rfl hh.2.2.2.2.2.2.2.2.2
theorem lfits_ok : CtOK Try.prog 10 (ctLaw [earthSh, truthSh]) := by
  refine ct_ok (cx := clfits) (Tab.cx_ok (all_cons (up4_ok small_ok) (all_cons (up4_ok short_ok) (all_cons fits_ok (all_cons rfits_ok (all_cons (up4_ok (up3_ok awake_ok)) all_nil)))))) Try.func10 (bds := []) (T := tlfits) (by kernel_rfl) ?_
  have h1 : clfits.ct 25 = some ctSmall := rfl
  have h2 : clfits.ct 16 = some ctShort := rfl
  have h3 : clfits.ct 45 = some ctFits := rfl
  have h4 : clfits.ct 46 = some ctFits := rfl
  have h5 : clfits.ct 17 = some ctAwake := rfl
  unfold tlfits
  simp only [VC, allC, List.map_cons, List.map_nil, List.length_cons, List.length_nil, List.getElem?_cons_zero, List.getElem?_cons_succ, List.cons.injEq, C.i.injEq, C.b.injEq, and_true, true_and, forall_const, kindsOf_nil, kindsOf_lf, kindsOf_agg, kindsOf_box, boxKinds_nil, boxKinds_lf, boxKinds_agg, boxKinds_box, List.append_nil, List.cons_append, List.nil_append, den_cmp_le, den_cmp_lt, den_cmp_eq, den_cmp_ne, den_cmp_le', den_cmp_lt', den_cmp_eq', den_cmp_ne', den_and, den_and', den_or, den_or', den_not, den_not', den_blit, den_of, ev_var, at_0, at_1, at_2, at_3, at_4, at_5, at_6, at_7, at_skip, c_int, c_bool, c_arr, c_cnt, c_vec, ev_nil, ev_join, ev_sub3, loc_s, int_i, bool_b, rows_s, cs_nil, cs_cons, E.den_lit, E.den_var, E.den_add, E.den_sub, E.den_mul, E.den_quo, E.den_rem, E.den_max, E.den_min, E.den_len, E.den_wr, E.den_cell, h1, h2, h3, h4, h5, ctSmall, ctShort, ctFits, ctAwake, ctLaw, ctF, lineSh, earthSh, earthKs, truthSh, k_, n_, earOf, smallB]
  intro b _ _ u1 r1 _ _ _ u2 r2 _ _ _ u3 r3 _ _ _ u4 r4 _ _ _ gl _ _ gh _ _ u7 r7 _ _ _ u8 r8 _ _ _ u9 r9 _ _ _
  refine ⟨bds_nil _, fun t _ => ⟨fun _ t ht => ht, fun _ => fun t _ => ⟨fun _ t ht => ht, fun _ => fun t _ => ⟨fun _ t ht => ht, fun _ => ?_⟩⟩⟩⟩
  rintro t ct s cs
  refine ⟨fun _ t ht => ht, fun h => ?_⟩
  exact absurd (ct.trans cs.symm) (by intro h'; subst h'; cases t <;> cases h)
end Go.Proofs.Ytcglpbchejkolaa
/- Earth: reports added, and EarthAdds by the table. -/
namespace Go.Proofs.Ytcglpbchejkolaa
open Go.RowKit
set_option linter.unusedSimpArgs false
set_option linter.unusedVariables false

theorem reps_app (a b : List (List C)) : repsOf (a ++ b) = repsOf a ++ repsOf b := by simp [repsOf]
theorem reps_one (a b c : Int) : repsOf [[.i a, .i b, .i c]] = [⟨a, b, c⟩] := rfl
theorem add_no {e : Ear} {r : Rep} (h : checkV e ≠ 0) : addV e r = (zeroE, checkV e) := by unfold addV; rw [if_neg h]
theorem add_no2 {e : Ear} {r : Rep} (h : checkV e = 0) (h2 : checkV (e.more r) ≠ 0) : addV e r = (zeroE, checkV (e.more r)) := by unfold addV; rw [if_pos h, if_neg h2]
theorem add_yes {e : Ear} {r : Rep} (h : checkV e = 0) (h2 : checkV (e.more r) = 0) : addV e r = (e.more r, 0) := by unfold addV; rw [if_pos h, if_pos h2]
theorem add_ok : tab4.ok 36 := by
  refine Tab.of_ct rfl rfl ⟨_, Try.func36, by decide, rfl⟩ ?_ (fun h => by cases h)
  refine ct_ok (cx := cadd) (Tab.cx_ok (all_cons (up4_ok (up3_ok check_ok)) (all_cons (up4_ok copy_ok) all_nil))) Try.func36 (bds := []) (T := tadd) (by kernel_rfl) ?_
  have h1 : cadd.ct 35 = some ctCheck := rfl
  have h2 : cadd.ct 70 = some ctCopy := rfl
  unfold tadd
  simp only [VC, allC, List.map_cons, List.map_nil, List.length_cons, List.length_nil, List.getElem?_cons_zero, List.getElem?_cons_succ, List.cons.injEq, C.i.injEq, C.b.injEq, and_true, true_and, forall_const, kindsOf_nil, kindsOf_lf, kindsOf_agg, kindsOf_box, boxKinds_nil, boxKinds_lf, boxKinds_agg, boxKinds_box, List.append_nil, List.cons_append, List.nil_append, den_cmp_le, den_cmp_lt, den_cmp_eq, den_cmp_ne, den_cmp_le', den_cmp_lt', den_cmp_eq', den_cmp_ne', den_and, den_and', den_or, den_or', den_not, den_not', den_blit, den_of, ev_var, at_0, at_1, at_2, at_3, at_4, at_5, at_6, at_7, at_skip, c_int, c_bool, c_arr, c_cnt, c_vec, ev_nil, ev_join, ev_sub3, loc_s, int_i, bool_b, rows_s, cs_nil, cs_cons, E.den_lit, E.den_var, E.den_add, E.den_sub, E.den_mul, E.den_quo, E.den_rem, E.den_max, E.den_min, E.den_len, E.den_wr, E.den_cell, h1, h2, ctCheck, ctCopy, ctAdd, vecEarth, ctF, lineSh, earthSh, earthKs, reportSh, k_, n_, earOf, shortE]
  intro b _ _ u1 r1 _ _ _ u2 r2 _ _ _ u3 r3 _ _ _ u4 r4 _ _ _ gl _ _ gh _ _ u7 r7 _ _ _ kind _ _ z _ _ p _ _ hp
  refine ⟨bds_nil _, ?_⟩
  rintro n1 _ _ c1
  refine ⟨fun h => ?_, fun h => ⟨hp, ?_⟩⟩
  · rw [add_no fun hh => h (c1.trans hh)]; exact ⟨rfl, c1⟩
  obtain ⟨p1, p2, p3, p4, p7⟩ := hp
  rintro b' _ _ v1 q1 _ _ _ v2 q2 _ _ _ v3 q3 _ _ _ v4 q4 _ _ _ gl' _ _ gh' _ _ v7 q7 _ _ _ ⟨⟨rfl, rfl, rfl⟩, hrows⟩
  obtain rfl : q1 = r1 := hrows 1 (by omega)
  obtain rfl : q2 = r2 := hrows 2 (by omega)
  obtain rfl : q3 = r3 := hrows 3 (by omega)
  obtain rfl : q4 = r4 := hrows 4 (by omega)
  obtain rfl : q7 = r7 := hrows 7 (by omega)
  clear hrows
  have c1 := c1.symm.trans h
  refine ⟨by omega, ?_⟩
  rintro n2 _ _ c2
  rw [reps_app, reps_one] at c2
  refine ⟨fun h2 => ?_, fun h2 => ?_⟩
  · rw [add_no2 c1 fun hh => h2 (c2.trans hh)]; exact ⟨rfl, c2⟩
  · rw [add_yes c1 (c2.symm.trans h2), reps_app, reps_one]; exact ⟨rfl, rfl⟩
theorem radd_ok : tab4.ok 37 := by
  refine Tab.of_ct rfl rfl ⟨_, Try.func37, by decide, rfl⟩ ?_ (fun h => by cases h)
  refine ct_ok (cx := cradd) (Tab.cx_ok (all_cons (up4_ok (up3_ok rcheck_ok)) (all_cons (up4_ok rcopy_ok) all_nil))) Try.func37 (bds := []) (T := tradd) (by kernel_rfl) ?_
  have h1 : cradd.ct 47 = some ctCheck := rfl
  have h2 : cradd.ct 26 = some ctCopy := rfl
  unfold tradd
  simp only [VC, allC, List.map_cons, List.map_nil, List.length_cons, List.length_nil, List.getElem?_cons_zero, List.getElem?_cons_succ, List.cons.injEq, C.i.injEq, C.b.injEq, and_true, true_and, forall_const, kindsOf_nil, kindsOf_lf, kindsOf_agg, kindsOf_box, boxKinds_nil, boxKinds_lf, boxKinds_agg, boxKinds_box, List.append_nil, List.cons_append, List.nil_append, den_cmp_le, den_cmp_lt, den_cmp_eq, den_cmp_ne, den_cmp_le', den_cmp_lt', den_cmp_eq', den_cmp_ne', den_and, den_and', den_or, den_or', den_not, den_not', den_blit, den_of, ev_var, at_0, at_1, at_2, at_3, at_4, at_5, at_6, at_7, at_skip, c_int, c_bool, c_arr, c_cnt, c_vec, ev_nil, ev_join, ev_sub3, loc_s, int_i, bool_b, rows_s, cs_nil, cs_cons, E.den_lit, E.den_var, E.den_add, E.den_sub, E.den_mul, E.den_quo, E.den_rem, E.den_max, E.den_min, E.den_len, E.den_wr, E.den_cell, h1, h2, ctCheck, ctCopy, ctAdd, vecEarth, ctF, lineSh, earthSh, earthKs, reportSh, k_, n_, earOf, shortE]
  intro b _ _ u1 r1 _ _ _ u2 r2 _ _ _ u3 r3 _ _ _ u4 r4 _ _ _ gl _ _ gh _ _ u7 r7 _ _ _ kind _ _ z _ _ p _ _ hp
  refine ⟨bds_nil _, ?_⟩
  rintro n1 _ _ c1
  refine ⟨fun h => ?_, fun h => ⟨hp, ?_⟩⟩
  · rw [add_no fun hh => h (c1.trans hh)]; exact ⟨rfl, c1⟩
  obtain ⟨p1, p2, p3, p4, p7⟩ := hp
  rintro b' _ _ v1 q1 _ _ _ v2 q2 _ _ _ v3 q3 _ _ _ v4 q4 _ _ _ gl' _ _ gh' _ _ v7 q7 _ _ _ ⟨⟨rfl, rfl, rfl⟩, hrows⟩
  obtain rfl : q1 = r1 := hrows 1 (by omega)
  obtain rfl : q2 = r2 := hrows 2 (by omega)
  obtain rfl : q3 = r3 := hrows 3 (by omega)
  obtain rfl : q4 = r4 := hrows 4 (by omega)
  obtain rfl : q7 = r7 := hrows 7 (by omega)
  clear hrows
  have c1 := c1.symm.trans h
  refine ⟨by omega, ?_⟩
  rintro n2 _ _ c2
  rw [reps_app, reps_one] at c2
  refine ⟨fun h2 => ?_, fun h2 => ?_⟩
  · rw [add_no2 c1 fun hh => h2 (c2.trans hh)]; exact ⟨rfl, c2⟩
  · rw [add_yes c1 (c2.symm.trans h2), reps_app, reps_one]; exact ⟨rfl, rfl⟩
def ofReps (l : List Rep) : List (List C) := l.map fun r => [.i r.kind, .i r.z, .i r.p]
theorem ofReps_len (l : List Rep) : (ofReps l).length = l.length := by simp [ofReps]
theorem repsOf_of (l : List Rep) : repsOf (ofReps l) = l := by
  unfold repsOf ofReps
  rw [List.map_map]
  exact (List.map_congr_left (g := id) fun r _ => rfl).trans (List.map_id _)
theorem rows_reps {d : Nat} {rows : List (List C)} (h : TyN Try.prog d 57 rows) : rows = ofReps (repsOf rows) := by
  cases d with
  | zero => exact h.elim
  | succ d =>
    obtain ⟨ks, hk, hh⟩ := h
    rw [show kinds Try.prog 57 = some [.int, .int, .int] by kernel_rfl] at hk
    cases hk
    unfold ofReps repsOf
    rw [List.map_map]
    refine (List.map_congr_left (g := id) fun r hr => ?_).trans (List.map_id _) |>.symm
    obtain ⟨hl, hc⟩ := hh r hr
    obtain ⟨c0, h0, n0, rfl⟩ := hc 0 .int rfl
    obtain ⟨c1, h1, n1, rfl⟩ := hc 1 .int rfl
    obtain ⟨c2, h2, n2, rfl⟩ := hc 2 .int rfl
    match r, hl, h0, h1, h2 with
    | [a, b, c], _, h0, h1, h2 => simp at h0 h1 h2; subst h0; subst h1; subst h2; rfl
def Rep.up (r : Rep) : Rep := ⟨r.kind, r.z, r.p + 1⟩
def bump (i : Nat) (l : List Rep) : List Rep := (l.take i).map Rep.up ++ l.drop i
theorem bump_len (i : Nat) (l : List Rep) : (bump i l).length = l.length := by
  unfold bump; rw [List.length_append, List.length_map, List.length_take, List.length_drop]; omega
theorem bump_at {i : Nat} {l : List Rep} (h : i < l.length) (d : Rep) : (bump i l).getD i d = l.getD i d := by
  unfold bump
  rw [drop_cons h d, List.getD_eq_getElem?_getD, List.getElem?_append_right (by simp; omega)]
  simp [Nat.min_eq_left (Nat.le_of_lt h)]
theorem bump_step {i : Nat} {l : List Rep} (h : i < l.length) (d : Rep) : (bump i l).set i (l.getD i d).up = bump (i + 1) l := by
  unfold bump
  rw [take_snoc h d, drop_cons h d, List.map_append, List.append_assoc, List.set_append_right _ _ (by simp; omega)]
  simp [Nat.min_eq_left (Nat.le_of_lt h)]
theorem upd_rep {l : List Rep} {i : Nat} (h : i < l.length) (n : Int) (d : Rep) : updRow (ofReps l) i 2 [.i n] = ofReps (l.set i ⟨(l.getD i d).kind, (l.getD i d).z, n⟩) := by
  have e : (ofReps l).getD i [] = [.i (l.getD i d).kind, .i (l.getD i d).z, .i (l.getD i d).p] := by
    unfold ofReps
    rw [List.getD_eq_getElem?_getD, List.getElem?_map, List.getElem?_eq_getElem h, List.getD_eq_getElem?_getD, List.getElem?_eq_getElem h]; rfl
  unfold updRow
  rw [e]
  unfold ofReps
  rw [List.map_set]; rfl
theorem add_bd {e : Ear} {r : Rep} : ∀ x ∈ (addV e r).1.reps, 0 ≤ x.p ∧ x.p ≤ 68719476736 := by
  unfold addV
  split
  · split
    · rename_i h2
      intro x hx
      have := (valid h2).rep x hx
      omega
    · intro x hx; cases hx
  · intro x hx; cases hx
theorem up_step {X : List Rep} {i : Int} (hX : ∀ x ∈ X, 0 ≤ x.p ∧ x.p ≤ 68719476736) (i0 : 0 ≤ i) (hi : i < X.length) :
    (-9223372036854775808 ≤ (X.getD i.toNat ⟨0, 0, 0⟩).p + 1 ∧ (X.getD i.toNat ⟨0, 0, 0⟩).p + 1 ≤ 9223372036854775807) ∧ updRow (ofReps (bump i.toNat X)) i.toNat 2 [.i ((X.getD i.toNat ⟨0, 0, 0⟩).p + 1)] = ofReps (bump (i + 1).toNat X) := by
  have := hX _ (getD_mem (l := X) (i := i.toNat) (by omega) ⟨0, 0, 0⟩)
  refine ⟨by omega, ?_⟩
  rw [upd_rep (by rw [bump_len]; omega) _ ⟨0, 0, 0⟩, bump_at (by omega), show (i + 1).toNat = i.toNat + 1 by omega, ← bump_step (by omega) ⟨0, 0, 0⟩]
  rfl
set_option maxRecDepth 100000 in
theorem ladds_ok : CtOK Try.prog 7 (ctLaw [earthSh, reportSh]) := by
  refine ct_ok (cx := cladds) (Tab.cx_ok (all_cons (up4_ok small_ok) (all_cons (up4_ok rcopy_ok) (all_cons add_ok (all_cons radd_ok (all_cons (up4_ok rsame_ok) (all_cons (up4_ok (up3_ok awake_ok)) all_nil))))))) Try.func7 (bds := []) (T := tladds) (by kernel_rfl) ?_
  have h1 : cladds.ct 25 = some ctSmall := rfl
  have h2 : cladds.ct 26 = some ctCopy := rfl
  have h3 : cladds.ct 36 = some ctAdd := rfl
  have h4 : cladds.ct 37 = some ctAdd := rfl
  have h5 : cladds.ct 33 = some ctSame := rfl
  have h6 : cladds.ct 17 = some ctAwake := rfl
  unfold tladds
  simp (maxSteps := 1000000) only [VC, allC, List.map_cons, List.map_nil, List.length_cons, List.length_nil, List.getElem?_cons_zero, List.getElem?_cons_succ, List.cons.injEq, C.i.injEq, C.b.injEq, and_true, true_and, forall_const, kindsOf_nil, kindsOf_lf, kindsOf_agg, kindsOf_box, boxKinds_nil, boxKinds_lf, boxKinds_agg, boxKinds_box, List.append_nil, List.cons_append, List.nil_append, den_cmp_le, den_cmp_lt, den_cmp_eq, den_cmp_ne, den_cmp_le', den_cmp_lt', den_cmp_eq', den_cmp_ne', den_and, den_and', den_or, den_or', den_not, den_not', den_blit, den_of, ev_var, at_0, at_1, at_2, at_3, at_4, at_5, at_6, at_7, at_skip, c_int, c_bool, c_arr, c_cnt, c_vec, ev_nil, ev_join, ev_sub3, loc_s, int_i, bool_b, rows_s, cs_nil, cs_cons, E.den_lit, E.den_var, E.den_add, E.den_sub, E.den_mul, E.den_quo, E.den_rem, E.den_max, E.den_min, E.den_len, E.den_wr, E.den_cell, ev_cell, rp2, h1, h2, h3, h4, h5, h6, ctSmall, ctCopy, ctAdd, ctSame, ctAwake, ctLaw, vecEarth, ctF, lineSh, earthSh, earthKs, reportSh, k_, n_, earOf, ear8, smallB, shortE]
  intro b _ _ u1 r1 _ _ _ u2 r2 _ _ _ u3 r3 _ _ _ u4 r4 _ _ _ gl _ _ gh _ _ u7 r7 _ _ _ kind _ _ z _ _ p _ _
  refine ⟨bds_nil _, fun t ht => ⟨fun _ t ht => ht, fun htt => ?_⟩⟩
  rw [htt] at ht
  have ht := ht.symm
  simp only [Bool.and_eq_true] at ht
  obtain ⟨⟨⟨⟨s1, s2⟩, s3⟩, s4⟩, s7⟩ := ht
  have s1 : (r1.length : Int) ≤ 26 := of_decide_eq_true s1
  have s2 : (r2.length : Int) ≤ 26 := of_decide_eq_true s2
  have s3 : (r3.length : Int) ≤ 26 := of_decide_eq_true s3
  have s4 : (r4.length : Int) ≤ 26 := of_decide_eq_true s4
  have s7 : (r7.length : Int) ≤ 26 := of_decide_eq_true s7
  have hs : r1.length ≤ 1000 ∧ r2.length ≤ 1000 ∧ r3.length ≤ 1000 ∧ r4.length ≤ 1000 ∧ r7.length ≤ 1000 := ⟨by omega, by omega, by omega, by omega, by omega⟩
  refine ⟨hs, ?_⟩
  rintro b' _ _ v1 q1 _ _ _ v2 q2 _ _ _ v3 q3 _ _ _ v4 q4 _ _ _ gl' _ _ gh' _ _ v7 q7 _ _ _ ⟨⟨rfl, rfl, rfl⟩, hrows⟩
  obtain rfl : q1 = r1 := hrows 1 (by omega)
  obtain rfl : q2 = r2 := hrows 2 (by omega)
  obtain rfl : q3 = r3 := hrows 3 (by omega)
  obtain rfl : q4 = r4 := hrows 4 (by omega)
  obtain rfl : q7 = r7 := hrows 7 (by omega)
  clear hrows
  refine ⟨hs, ?_⟩
  generalize (⟨b', knots q1, knots q2, knots q3, knots q4, gl', gh', repsOf q7⟩ : Ear) = e
  rintro ab _ _ av1 a1 _ _ _ av2 a2 _ _ _ av3 a3 _ _ _ av4 a4 _ _ _ agl _ _ agh _ _ av7 a7 _ aty _ ae _ _ ⟨ha, he⟩
  refine ⟨hs, ?_⟩
  rintro bb _ _ bv1 b1 _ _ _ bv2 b2 _ _ _ bv3 b3 _ _ _ bv4 b4 _ _ _ bgl _ _ bgh _ _ bv7 b7 _ bty _ be _ _ ⟨hb, hf⟩
  have hX : ∀ x ∈ (addV e ⟨kind, z, p⟩).1.reps, 0 ≤ x.p ∧ x.p ≤ 68719476736 := add_bd
  have hee : ae = be := he.trans hf.symm
  generalize (addV e ⟨kind, z, p⟩).1 = X at *
  obtain ⟨xb, x1, x2, x3, x4, xgl, xgh, xr⟩ := X
  simp only [Ear.mk.injEq] at ha hb
  have ra := rows_reps aty
  have rb := rows_reps bty
  obtain ⟨rfl, i1, i2, i3, i4, rfl, rfl, i7⟩ := ha
  obtain ⟨rfl, j1, j2, j3, j4, rfl, rfl, j7⟩ := hb
  rw [i7] at ra
  rw [j7] at rb
  subst ra rb
  have hX : ∀ x ∈ xr, 0 ≤ x.p ∧ x.p ≤ 68719476736 := hX
  refine ⟨fun xs => match xs with | [.i i, .s _ rows] => 0 ≤ i ∧ i ≤ xr.length ∧ rows = ofReps (bump i.toNat xr) | _ => False, fun xs => match xs with | [.i i, _] => ((xr.length : Int) - i).toNat | _ => 0, ⟨by omega, by omega, rfl⟩, ?_⟩
  rintro i _ _ v54 rows54 _ _ _ ⟨i0, il, rfl⟩
  rw [ofReps_len, bump_len, repsOf_of]
  refine ⟨fun hlt => ?_, fun hge => ?_⟩
  · obtain ⟨g1, g2⟩ := up_step hX i0 hlt
    rw [bump_at (by omega), g2]
    exact ⟨i0, hlt, g1, hlt, g1, fun v => ⟨⟨by omega, by omega, rfl⟩, (show ((xr.length : Int) - (i + 1)).toNat < ((xr.length : Int) - i).toNat by omega)⟩⟩
  obtain rfl : i = xr.length := by omega
  refine ⟨fun xs => match xs with | [.i i, .s _ rows] => 0 ≤ i ∧ i ≤ xr.length ∧ rows = ofReps (bump i.toNat xr) | _ => False, fun xs => match xs with | [.i i, _] => ((xr.length : Int) - i).toNat | _ => 0, ⟨by omega, by omega, rfl⟩, ?_⟩
  rintro i _ _ v56 rows56 _ _ _ ⟨i0, il, rfl⟩
  rw [ofReps_len, bump_len, repsOf_of]
  refine ⟨fun hlt => ?_, fun hge => ?_⟩
  · obtain ⟨g1, g2⟩ := up_step hX i0 hlt
    rw [bump_at (by omega), g2]
    exact ⟨i0, hlt, g1, hlt, g1, fun v => ⟨⟨by omega, by omega, rfl⟩, (show ((xr.length : Int) - (i + 1)).toNat < ((xr.length : Int) - i).toNat by omega)⟩⟩
  obtain rfl : i = xr.length := by omega
  refine ⟨fun _ => ?_, fun h => absurd hee h⟩
  rintro s hs
  have hs : s = true := hs.trans (by rw [beq_iff_eq, i1, i2, i3, i4, j1, j2, j3, j4])
  refine ⟨fun _ => ?_, fun h => by rw [hs] at h; cases h⟩
  rintro s2 hs2
  rw [beq_self_eq_true] at hs2
  exact ⟨fun _ t ht => ht, fun h => by rw [hs2] at h; cases h⟩
end Go.Proofs.Ytcglpbchejkolaa
/- Earth: contracts, more of them: earths and truths made of numbers. -/
namespace Go.Proofs.Ytcglpbchejkolaa
set_option linter.unusedVariables false

structure Gr where
  bottom : Int
  steps : List Int
  off : List Int
  marks : List Int
def grOf (cs : List C) : Gr := ⟨n_ cs 0, ints (at_ cs 1).rows, ints (at_ cs 2).rows, ints (at_ cs 3).rows⟩
def pickV (l : List Int) (i : Int) : Int := if l.length = 0 then 0 else l.getD (i % l.length).toNat 0 % 1099511627776
def stepV (g : Gr) (B i at_ : Int) : Int := if i = 4 ∨ B < at_ + (1 + pickV g.steps (i + 2) % B) then B - at_ else 1 + pickV g.steps (i + 2) % B
def gainA (g : Gr) (i : Int) : Int := 2000 + pickV g.steps (i + 3) / 7 % 20001
def gainB (g : Gr) (i : Int) : Int := gainA g i + pickV g.steps (i + 4) / 11 % (30001 - gainA g i)
def truthGo (g : Gr) (B : Int) : Nat → Int → Int → Int → Int → List (Int × Int × Int)
  | 0, _, _, _, _ => []
  | n + 1, i, a, p, f => (a, p, f) :: (if a = B then [] else truthGo g B n (i + 1) (a + stepV g B i a) (p + gainA g i * stepV g B i a) (f + gainB g i * stepV g B i a))
def bottomV (g : Gr) : Int := 1000 + g.bottom % 499001
def truthL (g : Gr) : List (Int × Int × Int) := truthGo g (bottomV g) 6 0 0 (pickV g.steps 0 % 1000000) (pickV g.steps 0 % 1000000 + pickV g.steps 1 % 20000000)
def tpV (g : Gr) : List Kn := (truthL g).map fun k => (k.1, k.2.1)
def tfV (g : Gr) : List Kn := (truthL g).map fun k => (k.1, k.2.2)
def shiftGo (off : List Int) (up : Bool) : Int → List Kn → List Kn
  | _, [] => []
  | i, k :: l => (k.1, if up = true then k.2 + pickV off i % 40000000 else max 0 (k.2 - pickV off i % 40000000)) :: shiftGo off up (i + 1) l
def endV (ks : List Kn) : Int := (ks.getD (ks.length - 1) (0, 0)).1
def repV (tp tf : List Kn) (n : Int) : Rep :=
  ⟨1 + n % 1099511627776 % 4, n % 1099511627776 / 4 % (endV tp + 1),
    if n % 1099511627776 % 4 = 0 then max 0 ((rangeP tp (n % 1099511627776 / 4 % (endV tp + 1))).1 - n % 1099511627776 / 4096 % 1000000)
    else if n % 1099511627776 % 4 = 1 then (rangeP tp (n % 1099511627776 / 4 % (endV tp + 1))).2 + n % 1099511627776 / 4096 % 1000000
    else if n % 1099511627776 % 4 = 2 then max 0 ((rangeP tf (n % 1099511627776 / 4 % (endV tp + 1))).1 - n % 1099511627776 / 4096 % 1000000)
    else (rangeP tf (n % 1099511627776 / 4 % (endV tp + 1))).2 + n % 1099511627776 / 4096 % 1000000⟩
def knownV (g : Gr) : Ear :=
  ⟨endV (tpV g), shiftGo g.off false 0 (tpV g), shiftGo g.off true 3 (tpV g), shiftGo g.off false 5 (tfV g), shiftGo g.off true 7 (tfV g), pickV g.off 1 % 2001, 30000 + pickV g.off 2 % 10001, (g.marks.take 8).map (repV (tpV g) (tfV g))⟩

def groundSh : Sh0 := .agg [.int, .arr 2, .arr 2, .arr 2]
def vecTruth : Sh0 := .agg [.vec 44, .vec 44]
def ctPick : Ct := ctF [.lf (.arr 2), .lf .int] [.lf .int] (fun cs => 0 ≤ n_ cs 1) (fun cs => [.i (pickV (ints (at_ cs 0).rows) (n_ cs 1))])
def ctTrue : Ct := ⟨[groundSh], [vecTruth], fun _ => True, fun cs rs => k_ rs 0 = tpV (grOf cs) ∧ k_ rs 1 = tfV (grOf cs), false⟩
def ctShifted : Ct := ⟨[lineSh, .lf (.arr 2), .lf .int, .lf .bool], [.agg [.vec 44]], fun cs => (k_ cs 0).length ≤ 100 ∧ (∀ k ∈ k_ cs 0, -1152921504606846976 ≤ k.2 ∧ k.2 ≤ 1152921504606846976) ∧ 0 ≤ n_ cs 2 ∧ n_ cs 2 ≤ 1000, fun cs rs => k_ rs 0 = shiftGo (ints (at_ cs 1).rows) (at_ cs 3).bool (n_ cs 2) (k_ cs 0), false⟩
def ctReport : Ct := ctF [.agg [.arr 44, .arr 44], .lf .int] [.agg [.int, .int, .int]] (fun cs => lineE (k_ cs 0) = 0 ∧ lineE (k_ cs 1) = 0) (fun cs => [.i (repV (k_ cs 0) (k_ cs 1) (n_ cs 2)).kind, .i (repV (k_ cs 0) (k_ cs 1) (n_ cs 2)).z, .i (repV (k_ cs 0) (k_ cs 1) (n_ cs 2)).p])
def ctKnown : Ct := ⟨[groundSh], [vecEarth], fun _ => True, fun cs rs => earOf rs = knownV (grOf cs), false⟩
def tab5 : Tab where
  ct := fun f => match f with
    | 61 => some ctPick
    | 34 => some ctTrue
    | 62 => some ctShifted
    | 59 => some ctReport
    | 20 => some ctKnown
    | f => tab4.ct f
  inl := tab4.inl
  sel := tab4.sel
theorem up5_ok {f : Nat} (h : tab4.ok f) (he : tab5.ct f = tab4.ct f := by rfl) : tab5.ok f :=
  ⟨h.1, fun ct hc => h.2.1 ct (he ▸ hc), h.2.2.1, h.2.2.2⟩
end Go.Proofs.Ytcglpbchejkolaa
