/- The law KickPossible: for every input the call returns true, and each argument reads afterwards as it read before. The frame is printed by frame.py. -/
import Derived.Test.YtlbgcjpkegpmlaaPoss7
import Derived.Below
import Derived.Test.YtlbgcjpkegpmlaaProg
import Derived.WalkKit
import Derived.WalkLawsBesides
import Derived.Lib.Hide
import Derived.Deep.QuietTactic
import Derived.BigQuiet
import Derived.Handy
import Derived.Deep.LoopGhost
import Derived.Deep.RegionHeld3
import Derived.Deep.OwnRows
import Derived.KernelRfl
import Derived.Test.YtlbgcjpkegpmlaaRows
import Derived.ShutString
import Derived.ChangeOld
/- KickPossible. -/
namespace Go.Proofs.Ytlbgcjpkegpmlaa
open Go.RowKit
set_option linter.unusedSimpArgs false
set_option linter.unusedVariables false

theorem bne_self (t : Bool) : ¬ (t == t) = false := by cases t <;> decide
theorem possible_ok (awake_ok : tab.ok 19) : CtOK Try.prog 5 (ctLaw [sensSh, kickSh, .lf .int, .lf (.arr 40), .lf (.arr 3), .lf .int, .agg [.int, .int, .int]]) := by
  refine ct_ok (cx := cpossible) (Tab.cx_ok (all_cons newring_ok (all_cons kickof_ok (all_cons sensorof_ok (all_cons next_ok (all_cons samples_ok (all_cons mod_ok (all_cons poss_ok (all_cons rposs_ok (all_cons awake_ok all_nil)))))))))) Try.func5 (bds := []) (T := tpossible) (by kernel_rfl) ?_
  have h1 : cpossible.ct 21 = some ctNewRing := rfl
  have h2 : cpossible.ct 26 = some ctNext := rfl
  have h3 : cpossible.ct 25 = some ctSensorOf := rfl
  have h4 : cpossible.ct 20 = some ctKickOf := rfl
  have h5 : cpossible.ct 27 = some ctSamples := rfl
  have h6 : cpossible.ct 28 = some ctMod := rfl
  have h7 : cpossible.ct 29 = some ctPoss := rfl
  have h8 : cpossible.ct 30 = some ctPoss := rfl
  have h9 : cpossible.ct 19 = some ctAwake := rfl
  unfold tpossible
  simp (config := { maxSteps := 1000000 }) only [VC, allC, List.map_cons, List.map_nil, List.length_cons, List.length_nil, List.getElem?_cons_zero, List.getElem?_cons_succ, List.cons.injEq, C.i.injEq, C.b.injEq, and_true, true_and, forall_const, kindsOf_nil, kindsOf_lf, kindsOf_agg, kindsOf_box, boxKinds_nil, boxKinds_lf, boxKinds_agg, boxKinds_box, List.append_nil, List.cons_append, List.nil_append, den_cmp_le, den_cmp_lt, den_cmp_eq, den_cmp_ne, den_cmp_le', den_cmp_lt', den_cmp_eq', den_cmp_ne', den_and, den_and', den_or, den_or', den_not, den_not', den_blit, den_of, ev_var, at_0, at_1, at_2, at_3, at_4, at_5, at_6, at_7, at_skip, c_int, c_bool, c_arr, c_cnt, c_vec, ev_nil, ev_join, ev_sub3, loc_s, int_i, bool_b, rows_s, cs_nil, cs_cons, E.den_lit, E.den_var, E.den_add, E.den_sub, E.den_mul, E.den_quo, E.den_rem, E.den_max, E.den_min, E.den_len, E.den_wr, E.den_cell, h1, h2, h3, h4, h9, ctLaw, ctAwake, ctNewRing, ctNext, ctSensorOf, ctKickOf, atPre, ctF, kickSh, sensSh, ringSh]
  intro ch _ _ pe _ _ de _ _ no _ _ st _ _ lo _ _ li _ _ ho _ _ r _ _ g _ _ begin _ _ v l d hty hsm v1 nums d1 hty1 hsm1 at_ _ _ b0 _ _ b1 _ _ b2 _ _
  refine ⟨bds_nil _, fun h => ?_, fun h => ?_⟩
  · rintro t rfl; rfl
  rintro v0 rows0 d0 _ _ at0 _ _ ⟨hc, rfl⟩
  cases hc
  refine ⟨by omega, ?_⟩
  rintro r1 _ _ g1 _ _ v0 rows0 d0 _ _ x _ _ ⟨r10, r11, g10, g11, rfl, rfl, rfl⟩
  refine ⟨by omega, ?_⟩
  rintro q0 _ _ q1 _ _ q2 _ _ q3 _ _ q4 _ _ q5 _ _ q6 _ _ q7 _ _ v0 rows0 d0 _ _ x _ _ ⟨sg, rfl, rfl, rfl⟩
  refine ⟨by omega, ?_⟩
  rintro beg _ _ v0 rows0 d0 _ _ x _ _ ⟨y0, y1, rfl, rfl, rfl⟩
  have sok : SKOk ⟨q0, q1, q2, q3, q4, q5, q6, q7, r1, g1⟩ := by
    unfold SensGood at sg
    exact ⟨show sensE q0 q1 q2 q3 q4 q5 q6 q7 = 0 from sensE_yes (by omega) (by unfold SOk; omega), show KOk r1 g1 by unfold KOk; omega⟩
  unfold tpossible_9
  simp only [VC, allC, List.map_cons, List.map_nil, List.length_cons, List.length_nil, List.getElem?_cons_zero, List.getElem?_cons_succ, List.cons.injEq, C.i.injEq, C.b.injEq, and_true, true_and, forall_const, kindsOf_nil, kindsOf_lf, kindsOf_agg, kindsOf_box, boxKinds_nil, boxKinds_lf, boxKinds_agg, boxKinds_box, List.append_nil, List.cons_append, List.nil_append, den_cmp_le, den_cmp_lt, den_cmp_eq, den_cmp_ne, den_cmp_le', den_cmp_lt', den_cmp_eq', den_cmp_ne', den_and, den_and', den_or, den_or', den_not, den_not', den_blit, den_of, ev_var, at_0, at_1, at_2, at_3, at_4, at_5, at_6, at_7, at_skip, c_int, c_bool, c_arr, c_cnt, c_vec, ev_nil, ev_join, ev_sub3, loc_s, int_i, bool_b, rows_s, cs_nil, cs_cons, E.den_lit, E.den_var, E.den_add, E.den_sub, E.den_mul, E.den_quo, E.den_rem, E.den_max, E.den_min, E.den_len, E.den_wr, E.den_cell, h5, ctSamples, kickSh, sensSh, ringSh]
  refine ⟨⟨by omega, by omega, sok, by omega, by omega, by omega, by omega⟩, ?_⟩
  rintro vs S ds hts hss v0 rows0 d0 _ _ x _ _ ⟨hS, rfl, rfl, _, _⟩
  unfold tpossible_8
  simp only [VC, allC, List.map_cons, List.map_nil, List.length_cons, List.length_nil, List.getElem?_cons_zero, List.getElem?_cons_succ, List.cons.injEq, C.i.injEq, C.b.injEq, and_true, true_and, forall_const, kindsOf_nil, kindsOf_lf, kindsOf_agg, kindsOf_box, boxKinds_nil, boxKinds_lf, boxKinds_agg, boxKinds_box, List.append_nil, List.cons_append, List.nil_append, den_cmp_le, den_cmp_lt, den_cmp_eq, den_cmp_ne, den_cmp_le', den_cmp_lt', den_cmp_eq', den_cmp_ne', den_and, den_and', den_or, den_or', den_not, den_not', den_blit, den_of, ev_var, at_0, at_1, at_2, at_3, at_4, at_5, at_6, at_7, at_skip, c_int, c_bool, c_arr, c_cnt, c_vec, ev_nil, ev_join, ev_sub3, loc_s, int_i, bool_b, rows_s, cs_nil, cs_cons, E.den_lit, E.den_var, E.den_add, E.den_sub, E.den_mul, E.den_quo, E.den_rem, E.den_max, E.den_min, E.den_len, E.den_wr, E.den_cell, h6, h7, ctMod, ctPoss, ctF, kickSh, sensSh]
  have tail : ∀ t : Bool, t = possV ⟨ch, pe, de, no, st, lo, li, ho, r, g⟩ begin l → VC cpossible (fun rs => rs = [C.b true]) tpossible_7
      [C.i ch, C.i pe, C.i de, C.i no, C.i st, C.i lo, C.i li, C.i ho, C.i r, C.i g, C.i begin, C.s v l, C.s v0 rows0, C.i at_, C.i b0, C.i b1, C.i b2, C.s v0 rows0, C.i 0, C.i r1, C.i g1, C.s v0 rows0,
       C.i (0 + 4), C.i q0, C.i q1, C.i q2, C.i q3, C.i q4, C.i q5, C.i q6, C.i q7, C.s v0 rows0, C.i (0 + 4 + 9), C.i beg, C.s v0 rows0, C.i (0 + 4 + 9 + 1), C.s vs S, C.s v0 rows0, C.i x, C.b t] [] := by
    intro t ht
    unfold tpossible_7
    simp only [VC, allC, List.map_cons, List.map_nil, List.length_cons, List.length_nil, List.getElem?_cons_zero, List.getElem?_cons_succ, List.cons.injEq, C.i.injEq, C.b.injEq, and_true, true_and, forall_const, kindsOf_nil, kindsOf_lf, kindsOf_agg, kindsOf_box, boxKinds_nil, boxKinds_lf, boxKinds_agg, boxKinds_box, List.append_nil, List.cons_append, List.nil_append, den_cmp_le, den_cmp_lt, den_cmp_eq, den_cmp_ne, den_cmp_le', den_cmp_lt', den_cmp_eq', den_cmp_ne', den_and, den_and', den_or, den_or', den_not, den_not', den_blit, den_of, ev_var, at_0, at_1, at_2, at_3, at_4, at_5, at_6, at_7, at_skip, c_int, c_bool, c_arr, c_cnt, c_vec, ev_nil, ev_join, ev_sub3, loc_s, int_i, bool_b, rows_s, cs_nil, cs_cons, E.den_lit, E.den_var, E.den_add, E.den_sub, E.den_mul, E.den_quo, E.den_rem, E.den_max, E.den_min, E.den_len, E.den_wr, E.den_cell, h8, ctPoss, ctF, kickSh, sensSh]
    rintro t2 ht2
    rw [← ht] at ht2
    subst ht2
    unfold tpossible_6
    simp only [VC, allC, List.map_cons, List.map_nil, List.length_cons, List.length_nil, List.getElem?_cons_zero, List.getElem?_cons_succ, List.cons.injEq, C.i.injEq, C.b.injEq, and_true, true_and, forall_const, kindsOf_nil, kindsOf_lf, kindsOf_agg, kindsOf_box, boxKinds_nil, boxKinds_lf, boxKinds_agg, boxKinds_box, List.append_nil, List.cons_append, List.nil_append, den_cmp_le, den_cmp_lt, den_cmp_eq, den_cmp_ne, den_cmp_le', den_cmp_lt', den_cmp_eq', den_cmp_ne', den_and, den_and', den_or, den_or', den_not, den_not', den_blit, den_of, ev_var, at_0, at_1, at_2, at_3, at_4, at_5, at_6, at_7, at_skip, c_int, c_bool, c_arr, c_cnt, c_vec, ev_nil, ev_join, ev_sub3, loc_s, int_i, bool_b, rows_s, cs_nil, cs_cons, E.den_lit, E.den_var, E.den_add, E.den_sub, E.den_mul, E.den_quo, E.den_rem, E.den_max, E.den_min, E.den_len, E.den_wr, E.den_cell, h7, ctPoss, ctF, kickSh, sensSh]
    refine ⟨fun _ => ?_, fun h => absurd h (bne_self _)⟩
    rintro t3 ht3
    unfold tpossible_5
    simp only [VC, allC, List.map_cons, List.map_nil, List.length_cons, List.length_nil, List.getElem?_cons_zero, List.getElem?_cons_succ, List.cons.injEq, C.i.injEq, C.b.injEq, and_true, true_and, forall_const, kindsOf_nil, kindsOf_lf, kindsOf_agg, kindsOf_box, boxKinds_nil, boxKinds_lf, boxKinds_agg, boxKinds_box, List.append_nil, List.cons_append, List.nil_append, den_cmp_le, den_cmp_lt, den_cmp_eq, den_cmp_ne, den_cmp_le', den_cmp_lt', den_cmp_eq', den_cmp_ne', den_and, den_and', den_or, den_or', den_not, den_not', den_blit, den_of, ev_var, at_0, at_1, at_2, at_3, at_4, at_5, at_6, at_7, at_skip, c_int, c_bool, c_arr, c_cnt, c_vec, ev_nil, ev_join, ev_sub3, loc_s, int_i, bool_b, rows_s, cs_nil, cs_cons, E.den_lit, E.den_var, E.den_add, E.den_sub, E.den_mul, E.den_quo, E.den_rem, E.den_max, E.den_min, E.den_len, E.den_wr, E.den_cell, h8, h9, ctPoss, ctAwake, ctF, kickSh, sensSh]
    rintro t4 ht4
    rw [← ht3] at ht4
    subst ht4
    exact ⟨fun _ t ht => by rw [ht], fun h => absurd h (bne_self _)⟩
  refine ⟨fun hpos => ⟨fun hm => ?_, fun _ => tail⟩, fun _ => tail⟩
  have hsl : (S.length : Int) ≤ 190 := by have := hS.1; omega
  have e3 : at_.tdiv 3 = at_ / 3 ∨ at_.tdiv 3 = -((-at_) / 3) := by
    rcases Int.le_total 0 at_ with h | h
    · exact .inl (Int.tdiv_eq_ediv_of_nonneg h)
    · have := Int.tdiv_eq_ediv_of_nonneg (a := -at_) (b := 3) (by omega)
      rw [Int.neg_tdiv] at this
      exact .inr (by omega)
  refine ⟨by omega, by omega, by omega, ?_⟩
  rintro i _ _ hi
  have hi2 : 0 ≤ i ∧ i < S.length := by
    rw [hi]
    exact ⟨Int.emod_nonneg _ (by omega), Int.emod_lt_of_pos _ (by omega)⟩
  unfold tpossible_4
  simp only [VC, allC, List.map_cons, List.map_nil, List.length_cons, List.length_nil, List.getElem?_cons_zero, List.getElem?_cons_succ, List.cons.injEq, C.i.injEq, C.b.injEq, and_true, true_and, forall_const, kindsOf_nil, kindsOf_lf, kindsOf_agg, kindsOf_box, boxKinds_nil, boxKinds_lf, boxKinds_agg, boxKinds_box, List.append_nil, List.cons_append, List.nil_append, den_cmp_le, den_cmp_lt, den_cmp_eq, den_cmp_ne, den_cmp_le', den_cmp_lt', den_cmp_eq', den_cmp_ne', den_and, den_and', den_or, den_or', den_not, den_not', den_blit, den_of, ev_var, at_0, at_1, at_2, at_3, at_4, at_5, at_6, at_7, at_skip, c_int, c_bool, c_arr, c_cnt, c_vec, ev_nil, ev_join, ev_sub3, loc_s, int_i, bool_b, rows_s, cs_nil, cs_cons, E.den_lit, E.den_var, E.den_add, E.den_sub, E.den_mul, E.den_quo, E.den_rem, E.den_max, E.den_min, E.den_len, E.den_wr, E.den_cell, h7, ctPoss, ctF, kickSh, sensSh]
  refine ⟨fun _ => True, ⟨hi2.1, hi2.2, hi2.2, hi2.2, hi2.2, ?_⟩, ?_⟩
  · refine ⟨?_, ?_, fun _ => trivial⟩ <;> simp only [updRow, List.length_set] <;> omega
  · rintro vn N dn _ _ _ t ht
    unfold tpossible_3
    simp only [VC, allC, List.map_cons, List.map_nil, List.length_cons, List.length_nil, List.getElem?_cons_zero, List.getElem?_cons_succ, List.cons.injEq, C.i.injEq, C.b.injEq, and_true, true_and, forall_const, kindsOf_nil, kindsOf_lf, kindsOf_agg, kindsOf_box, boxKinds_nil, boxKinds_lf, boxKinds_agg, boxKinds_box, List.append_nil, List.cons_append, List.nil_append, den_cmp_le, den_cmp_lt, den_cmp_eq, den_cmp_ne, den_cmp_le', den_cmp_lt', den_cmp_eq', den_cmp_ne', den_and, den_and', den_or, den_or', den_not, den_not', den_blit, den_of, ev_var, at_0, at_1, at_2, at_3, at_4, at_5, at_6, at_7, at_skip, c_int, c_bool, c_arr, c_cnt, c_vec, ev_nil, ev_join, ev_sub3, loc_s, int_i, bool_b, rows_s, cs_nil, cs_cons, E.den_lit, E.den_var, E.den_add, E.den_sub, E.den_mul, E.den_quo, E.den_rem, E.den_max, E.den_min, E.den_len, E.den_wr, E.den_cell, h8, ctPoss, ctF, kickSh, sensSh]
    rintro t2 ht2
    rw [← ht] at ht2
    subst ht2
    unfold tpossible_2
    simp only [VC, allC, List.map_cons, List.map_nil, List.length_cons, List.length_nil, List.getElem?_cons_zero, List.getElem?_cons_succ, List.cons.injEq, C.i.injEq, C.b.injEq, and_true, true_and, forall_const, kindsOf_nil, kindsOf_lf, kindsOf_agg, kindsOf_box, boxKinds_nil, boxKinds_lf, boxKinds_agg, boxKinds_box, List.append_nil, List.cons_append, List.nil_append, den_cmp_le, den_cmp_lt, den_cmp_eq, den_cmp_ne, den_cmp_le', den_cmp_lt', den_cmp_eq', den_cmp_ne', den_and, den_and', den_or, den_or', den_not, den_not', den_blit, den_of, ev_var, at_0, at_1, at_2, at_3, at_4, at_5, at_6, at_7, at_skip, c_int, c_bool, c_arr, c_cnt, c_vec, ev_nil, ev_join, ev_sub3, loc_s, int_i, bool_b, rows_s, cs_nil, cs_cons, E.den_lit, E.den_var, E.den_add, E.den_sub, E.den_mul, E.den_quo, E.den_rem, E.den_max, E.den_min, E.den_len, E.den_wr, E.den_cell, h7, ctPoss, ctF, kickSh, sensSh]
    refine ⟨fun _ => ?_, fun h => absurd h (bne_self _)⟩
    rintro t3 ht3
    unfold tpossible_1
    simp only [VC, allC, List.map_cons, List.map_nil, List.length_cons, List.length_nil, List.getElem?_cons_zero, List.getElem?_cons_succ, List.cons.injEq, C.i.injEq, C.b.injEq, and_true, true_and, forall_const, kindsOf_nil, kindsOf_lf, kindsOf_agg, kindsOf_box, boxKinds_nil, boxKinds_lf, boxKinds_agg, boxKinds_box, List.append_nil, List.cons_append, List.nil_append, den_cmp_le, den_cmp_lt, den_cmp_eq, den_cmp_ne, den_cmp_le', den_cmp_lt', den_cmp_eq', den_cmp_ne', den_and, den_and', den_or, den_or', den_not, den_not', den_blit, den_of, ev_var, at_0, at_1, at_2, at_3, at_4, at_5, at_6, at_7, at_skip, c_int, c_bool, c_arr, c_cnt, c_vec, ev_nil, ev_join, ev_sub3, loc_s, int_i, bool_b, rows_s, cs_nil, cs_cons, E.den_lit, E.den_var, E.den_add, E.den_sub, E.den_mul, E.den_quo, E.den_rem, E.den_max, E.den_min, E.den_len, E.den_wr, E.den_cell, h8, h9, ctPoss, ctAwake, ctF, kickSh, sensSh]
    rintro t4 ht4
    rw [← ht3] at ht4
    subst ht4
    exact ⟨fun _ t ht => by rw [ht], fun h => absurd h (bne_self _)⟩
end Go.Proofs.Ytlbgcjpkegpmlaa
/- A slice of integers among the arguments. -/
namespace Go.Proofs.Ytlbgcjpkegpmlaa
open Go.RowKit
theorem kinds_int : kinds Try.prog 3 = some [.int] := by kernel_rfl
theorem rep_nums {W : World} {A : Option Addr} {n c : Nat} (h : NumsAt W W.heap.size A n) : ∃ rows, LRep Try.prog W (fun _ _ => False) (.arr 3) (.slice A n c) (.s (.slice A n c) rows) := by
  obtain ⟨h1, h2⟩ := h
  by_cases hn : n = 0
  · subst hn
    refine ⟨[], fun m => ?_, rfl, .slice A 0 c, [], rfl, 1, fun _ _ => False, fun _ _ h => h.elim, [.int], kinds_int, A, c, rfl, fun h => absurd rfl h⟩
    cases m with
    | zero => trivial
    | succ m => exact ⟨by simp, fun r hr => by cases hr⟩
  · obtain ⟨d, o, rfl, hd, hx⟩ := h2 (by omega)
    let xs : Nat → Int := fun i => if h : i < n then (hx i h).choose else 0
    have hxs : ∀ i, i < n → W.cell? ⟨d, o + i, none⟩ = some (.int .i64 (xs i)) ∧ -9223372036854775808 ≤ xs i ∧ xs i ≤ 9223372036854775807 := fun i hi => by
      have := (hx i hi).choose_spec
      simp only [xs, dif_pos hi]; exact this
    let rows : List (List C) := (List.range n).map fun i => [.i (xs i)]
    have hlen : rows.length = n := by simp [rows]
    refine ⟨rows, fun m => ?_, rfl, .slice (some ⟨d, o, none⟩) n c, rows, rfl, 1, fun b _ => b < W.heap.size, fun b o h => ⟨h, fun h => h⟩, [.int], kinds_int, some ⟨d, o, none⟩, c, by rw [hlen], fun _ => ⟨d, o, rfl, fun i r hi => ?_⟩⟩
    · cases m with
      | zero => trivial
      | succ m =>
        refine ⟨by rw [hlen]; omega, fun r hr c hc => ?_⟩
        obtain ⟨i, hi, rfl⟩ := List.mem_map.1 hr
        rw [List.mem_singleton] at hc
        subst hc
        have := hxs i (List.mem_range.1 hi)
        cases m <;> exact ⟨this.2.1, this.2.2⟩
    · simp only [rows, List.getElem?_map, Option.map_eq_some_iff] at hi
      obtain ⟨k, hk, rfl⟩ := hi
      have hi' : i < n := by
        rcases Nat.lt_or_ge i n with h | h
        · exact h
        · rw [List.getElem?_eq_none (by simpa using h)] at hk; cases hk
      rw [List.getElem?_range hi'] at hk
      cases hk
      refine ⟨rfl, fun j k hj => ?_⟩
      match j, hj with
      | 0, hj =>
        cases hj
        refine ⟨hd, .int .i64 (xs i), .i (xs i), ?_, rfl, xs i, rfl, rfl⟩
        simpa using (hxs i hi').1
theorem rep_arr {W : World} {O : Nat → Nat → Prop} {ss : List Sh0} {vs : List Value} {cs : List C} {t : TypeId} {v : Value} {c : C} {old : Option Nat} (h : LRep Try.prog W O (.arr t) v c) (hr : Reps Try.prog W O old ss vs cs) :
    Reps Try.prog W O old (.lf (.arr t) :: ss) (v :: vs) (c :: cs) :=
  ⟨[_], _, rfl, ⟨_, rfl, h⟩, hr⟩
end Go.Proofs.Ytlbgcjpkegpmlaa
/- A slice of structs of integers among the arguments, opened. -/
namespace Go.Proofs.Ytlbgcjpkegpmlaa
open Go.ChangeShapes Go.WideShapes Go.RowKit Go.Deep
/-- n rows of m integers each, in blocks below b. -/
def RowsIn (w : World) (b : Nat) (A : Option Addr) (n m : Nat) : Prop :=
  n ≤ 9223372036854775807 ∧ (0 < n → ∃ d o, A = some ⟨d, o, none⟩ ∧ d < b ∧ ∀ i, i < n → ∀ j, j < m → ∃ x : Int, w.cell? ⟨d, o + (i * m + j), none⟩ = some (.int .i64 x) ∧ -9223372036854775808 ≤ x ∧ x ≤ 9223372036854775807)
section
variable {H : Type} {enc : TypeId × Value → H} {P : Program} {base : Nat} {spare : Nat → Bool} {held : Bool}
theorem open_rows {r : Reach} {b0 k : Nat} {t e : TypeId} {v : Value} {d : DataW H} {p : List MemPlace} {W : World} (hu : P.underlying t = some (.slice e)) (he : intsB P k e = true) (hc : 0 < P.cellsOf e)
    (hv : Value.okWide P W r b0 t v) (hx : DataW.Trod enc P W base spare held t v d p) :
    ∃ A n c, v = .slice A n c ∧ RowsIn W W.heap.size A n (P.cellsOf e) := by
  obtain ⟨A, n, c, rfl⟩ := okWide_slice hu hv
  refine ⟨A, n, c, rfl, ?_⟩
  obtain ⟨fuel, hf⟩ := hx
  rcases open_slice hu hf with ⟨hcs, _⟩ | ⟨a, len, cap, m, nn, D, Pl, hcs, hb, hl, hm, hmm, _, hx⟩
  · simp [Value.cells] at hcs
    obtain ⟨rfl, rfl, rfl⟩ := hcs
    exact ⟨by omega, fun h => absurd h (by omega)⟩
  · simp [Value.cells] at hcs
    obtain ⟨rfl, rfl, rfl⟩ := hcs
    have hlm : n ≤ m := by rw [hmm]; split <;> omega
    refine ⟨by unfold maxLen at hm; omega, fun hn => ?_⟩
    have each : ∀ i, i < n → ∀ j, j < P.cellsOf e → ∃ x : Int, W.cell? (a.add (i * P.cellsOf e + j)) = some (.int .i64 x) ∧ -9223372036854775808 ≤ x ∧ x ≤ 9223372036854775807 := by
      intro i hi j hj
      obtain ⟨cs', h1, h2⟩ := hx i (by omega)
      obtain ⟨_, hlen, hcell⟩ := World.cells?_some h1
      obtain ⟨_, hints⟩ := ints_of k e nn cs' _ he h2
      obtain ⟨x, hx1, hx2⟩ := hints j (by omega)
      refine ⟨x, ?_, wf_bd hx2⟩
      rw [← hx1, ← hcell j hj, add_add]
    obtain ⟨d, o, s⟩ := a
    obtain ⟨x0, h0, -⟩ := each 0 hn 0 hc
    have hs : s = none := by simpa [Addr.add] using World.cell?_spot h0
    subst hs
    refine ⟨d, o, rfl, ?_, fun i hi j hj => ?_⟩
    · have := World.block_lt_of_cell? _ _ h0
      simpa [Addr.add] using this
    · obtain ⟨x, h1, h2⟩ := each i hi j hj
      exact ⟨x, by rw [← Go.WideShapes.add_plain]; exact h1, h2⟩
end
theorem rep_rows {W : World} {A : Option Addr} {n c m : Nat} {te : TypeId} (hk : kinds Try.prog te = some (List.replicate m .int)) (h : RowsIn W W.heap.size A n m) :
    ∃ rows, LRep Try.prog W (fun _ _ => False) (.arr te) (.slice A n c) (.s (.slice A n c) rows) := by
  obtain ⟨h1, h2⟩ := h
  by_cases hn : n = 0
  · subst hn
    refine ⟨[], fun m => ?_, rfl, .slice A 0 c, [], rfl, 1, fun _ _ => False, fun _ _ h => h.elim, _, hk, A, c, rfl, fun h => absurd rfl h⟩
    cases m with
    | zero => trivial
    | succ m => exact ⟨by simp, fun r hr => by cases hr⟩
  · obtain ⟨d, o, rfl, hd, hx⟩ := h2 (by omega)
    let xs : Nat → Nat → Int := fun i j => if h : i < n ∧ j < m then (hx i h.1 j h.2).choose else 0
    have hxs : ∀ i j, i < n → j < m → W.cell? ⟨d, o + (i * m + j), none⟩ = some (.int .i64 (xs i j)) ∧ -9223372036854775808 ≤ xs i j ∧ xs i j ≤ 9223372036854775807 := fun i j hi hj => by
      have := (hx i hi j hj).choose_spec
      simp only [xs, dif_pos (And.intro hi hj)]; exact this
    let rows : List (List C) := (List.range n).map fun i => (List.range m).map fun j => .i (xs i j)
    have hlen : rows.length = n := by simp [rows]
    refine ⟨rows, fun q => ?_, rfl, .slice (some ⟨d, o, none⟩) n c, rows, rfl, 1, fun b _ => b < W.heap.size, fun b o h => ⟨h, fun h => h⟩, _, hk, some ⟨d, o, none⟩, c, by rw [hlen], fun _ => ⟨d, o, rfl, fun i r hi => ?_⟩⟩
    · cases q with
      | zero => trivial
      | succ q =>
        refine ⟨by rw [hlen]; omega, fun r hr c hc => ?_⟩
        obtain ⟨i, hi, rfl⟩ := List.mem_map.1 hr
        obtain ⟨j, hj, rfl⟩ := List.mem_map.1 hc
        have := hxs i j (List.mem_range.1 hi) (List.mem_range.1 hj)
        cases q <;> exact ⟨this.2.1, this.2.2⟩
    · simp only [rows, List.getElem?_map, Option.map_eq_some_iff] at hi
      obtain ⟨k, hk', rfl⟩ := hi
      have hi' : i < n := by
        rcases Nat.lt_or_ge i n with h | h
        · exact h
        · rw [List.getElem?_eq_none (by simpa using h)] at hk'; cases hk'
      rw [List.getElem?_range hi'] at hk'
      cases hk'
      refine ⟨by simp, fun j k hj => ?_⟩
      have hj' : j < m := by
        rcases Nat.lt_or_ge j m with h | h
        · exact h
        · rw [List.getElem?_eq_none (by simpa using h)] at hj; cases hj
      have hkk : k = .int := by
        have := List.mem_of_getElem? hj
        exact (List.mem_replicate.1 this).2
      subst hkk
      rw [List.length_replicate]
      exact ⟨hd, .int .i64 (xs i j), .i (xs i j), (hxs i j hi' hj').1, by simp [hj'], xs i j, rfl, rfl⟩
end Go.Proofs.Ytlbgcjpkegpmlaa
/- Plain definitions of what the functions of layer 6 compute. No program in sight. -/
namespace Go.Proofs.Ytlbgcjpkegpmlaa

def KickOK (r g : Int) : Prop := 0 ≤ r ∧ r ≤ 16777216 ∧ 0 ≤ g ∧ g ≤ 4096
instance (r g : Int) : Decidable (KickOK r g) := by unfold KickOK; exact inferInstance

structure Sen where
  ch : Int
  pe : Int
  de : Int
  no : Int
  st : Int
  lo : Int
  li : Int
  ho : Int

def KindOK (s : Sen) : Prop := s.ch = 1 ∨ s.ch = 2
def RangeOK (s : Sen) : Prop := 1 ≤ s.pe ∧ s.pe ≤ 60 ∧ 0 ≤ s.de ∧ s.de ≤ 600 ∧ 0 ≤ s.no ∧ s.no ≤ 15 ∧ 1 ≤ s.st ∧ s.st ≤ 1048576 ∧ 0 ≤ s.lo ∧ s.lo ≤ 5 ∧ 1 ≤ s.li ∧ s.li ≤ 1099511627776 ∧ 1 ≤ s.ho ∧ s.ho ≤ 8
def SenOK (s : Sen) : Prop := KindOK s ∧ RangeOK s
instance (s : Sen) : Decidable (KindOK s) := by unfold KindOK; exact inferInstance
instance (s : Sen) : Decidable (RangeOK s) := by unfold RangeOK; exact inferInstance
instance (s : Sen) : Decidable (SenOK s) := by unfold SenOK; exact inferInstance

def checkSensor (s : Sen) : Int := if KindOK s then (if RangeOK s then 0 else 2) else 4

/-- what flows n ticks after the beginning -/
def flowAt (r g n : Int) : Int := if n < 0 then 0 else r + n * g
/-- what has flowed in n ticks after the beginning -/
def gainAt (r g n : Int) : Int := if n < 0 then 0 else n * r + g * (n * (n - 1) / 2)
def flowF (r g n : Int) : Int := if KickOK r g ∧ n ≤ 20000 then flowAt r g n else 0
def gainF (r g n : Int) : Int := if KickOK r g ∧ n ≤ 20000 then gainAt r g n else 0
def saysAt (s : Sen) (r g n : Int) : Int := if s.ch = 2 then flowAt r g n else gainAt r g n
def valueF (s : Sen) (r g n e : Int) : Int := if SenOK s ∧ KickOK r g ∧ -s.no ≤ e ∧ e ≤ s.no ∧ n ≤ 20000 then saysAt s r g n + e * s.st else 0

theorem mul_one_le {a b : Int} (h0 : 1 ≤ a) (h1 : 1 ≤ b) : 1 ≤ a * b := by
  have := Int.mul_le_mul h0 h1 (by omega) (by omega)
  omega
theorem tri_bd (n : Int) (h0 : 0 ≤ n) (h1 : n ≤ 20000) : 0 ≤ n * (n - 1) ∧ n * (n - 1) ≤ 400000000 ∧ 0 ≤ n * (n - 1) / 2 ∧ n * (n - 1) / 2 ≤ 200000000 := by
  rcases Int.lt_or_le 0 n with h | h
  · have := mul_bd (a := n) (b := n - 1) (A := 20000) (B := 20000) h0 h1 (by omega) (by omega)
    omega
  · obtain rfl : n = 0 := by omega
    simp
theorem gain_bd {r g n : Int} (h : KickOK r g) (hn : n ≤ 20000) : 0 ≤ gainAt r g n ∧ gainAt r g n ≤ 1154744320000 := by
  obtain ⟨h1, h2, h3, h4⟩ := h
  unfold gainAt
  split
  · omega
  · obtain ⟨t1, t2, t3, t4⟩ := tri_bd n (by omega) hn
    obtain ⟨b1, b2⟩ := mul_bd (by omega : 0 ≤ n) hn h1 h2
    obtain ⟨b3, b4⟩ := mul_bd h3 h4 t3 t4
    omega
theorem flow_bd {r g n : Int} (h : KickOK r g) (hn : n ≤ 20000) : 0 ≤ flowAt r g n ∧ flowAt r g n ≤ 98697216 := by
  obtain ⟨h1, h2, h3, h4⟩ := h
  unfold flowAt
  split
  · omega
  · obtain ⟨b1, b2⟩ := mul_bd (by omega : 0 ≤ n) hn h3 h4
    omega
theorem says_bd {s : Sen} {r g n : Int} (h : KickOK r g) (hn : n ≤ 20000) : 0 ≤ saysAt s r g n ∧ saysAt s r g n ≤ 1154744320000 := by
  unfold saysAt
  split
  · have := flow_bd h hn; omega
  · exact gain_bd h hn

/-- The least number of a sample, from a on and within so many tries, that is at least the limit in spite of all noise. -/
def findA (s : Sen) (r g f : Int) : Nat → Nat → Option Nat
  | 0, _ => none
  | k + 1, a => if f + a * s.pe ≤ 10000 then (if s.li ≤ saysAt s r g (f + a * s.pe) - s.no * s.st then some a else findA s r g f k (a + 1)) else none
def firstA (s : Sen) (r g f : Int) : Option Nat := findA s r g f 10001 0
def alarmT (s : Sen) (f a : Int) : Int := f + (a + s.ho * (s.lo + 1) - 1) * s.pe + s.de
/-- The latest alarm over the phases from f on, so many of them. -/
def lateGo (s : Sen) (r g : Int) : Nat → Nat → Int × Int × Int → Option (Int × Int × Int)
  | 0, _, o => some o
  | k + 1, f, o => match firstA s r g f with
    | none => none
    | some a => if 10000 < alarmT s f a then none else lateGo s r g k (f + 1) (if o.1 < alarmT s f a then (alarmT s f a, (f : Int), (a : Int)) else o)
def lateF (s : Sen) (r g : Int) : Option (Int × Int × Int) := lateGo s r g s.pe.toNat 0 (-1, 0, 0)

end Go.Proofs.Ytlbgcjpkegpmlaa
/- Contracts of small functions: kick.within, moonpoolref06.between, CheckKick, flows and gains. -/
namespace Go.Proofs.Ytlbgcjpkegpmlaa
open Go.RowKit

/-- kick.within -/
theorem within_any (n lo hi : Int) (w : World) :
    Calls Try.prog 68 #[.int .i64 n, .int .i64 lo, .int .i64 hi] w fun e w' => e = .returned (.bool (decide (lo ≤ n ∧ n ≤ hi))) ∧ w = w' := by
  go_enter Try.func68, Try.ntmps68
  go_wp2
  all_goals go_ret
  all_goals (refine ⟨ret_bool ?_, rfl⟩; simp; omega)
/-- moonpoolref06.between -/
theorem between_any (n lo hi : Int) (w : World) :
    Calls Try.prog 69 #[.int .i64 n, .int .i64 lo, .int .i64 hi] w fun e w' => e = .returned (.bool (decide (lo ≤ n ∧ n ≤ hi))) ∧ w = w' := by
  go_enter Try.func69, Try.ntmps69
  go_wp2
  all_goals go_ret
  all_goals (refine ⟨ret_bool ?_, rfl⟩; simp; omega)
theorem within_yes (n lo hi : Int) (w : World) (h : lo ≤ n) (h' : n ≤ hi) :
    Calls Try.prog 68 #[.int .i64 n, .int .i64 lo, .int .i64 hi] w fun e w' => e = .returned (.bool true) ∧ w = w' :=
  (within_any n lo hi w).mono fun _ _ ⟨he, hw⟩ => ⟨he.trans (ret_bool (by simp [h, h'])), hw⟩
theorem within_no (n lo hi : Int) (w : World) (h : n < lo ∨ hi < n) :
    Calls Try.prog 68 #[.int .i64 n, .int .i64 lo, .int .i64 hi] w fun e w' => e = .returned (.bool false) ∧ w = w' :=
  (within_any n lo hi w).mono fun _ _ ⟨he, hw⟩ => ⟨he.trans (ret_bool (by simp; omega)), hw⟩
theorem between_yes (n lo hi : Int) (w : World) (h : lo ≤ n) (h' : n ≤ hi) :
    Calls Try.prog 69 #[.int .i64 n, .int .i64 lo, .int .i64 hi] w fun e w' => e = .returned (.bool true) ∧ w = w' :=
  (between_any n lo hi w).mono fun _ _ ⟨he, hw⟩ => ⟨he.trans (ret_bool (by simp [h, h'])), hw⟩
theorem between_no (n lo hi : Int) (w : World) (h : n < lo ∨ hi < n) :
    Calls Try.prog 69 #[.int .i64 n, .int .i64 lo, .int .i64 hi] w fun e w' => e = .returned (.bool false) ∧ w = w' :=
  (between_any n lo hi w).mono fun _ _ ⟨he, hw⟩ => ⟨he.trans (ret_bool (by simp; omega)), hw⟩



abbrev kickV (r g : Int) : Value := .agg #[.int .i64 r, .int .i64 g]
abbrev Sen.v (s : Sen) : Value := .agg #[.int .i64 s.ch, .int .i64 s.pe, .int .i64 s.de, .int .i64 s.no, .int .i64 s.st, .int .i64 s.lo, .int .i64 s.li, .int .i64 s.ho]

theorem notKick {r g : Int} (h : ¬ KickOK r g) : r < 0 ∨ (0 ≤ r ∧ 16777216 < r) ∨ (0 ≤ r ∧ r ≤ 16777216 ∧ g < 0) ∨ (0 ≤ r ∧ r ≤ 16777216 ∧ 0 ≤ g ∧ 4096 < g) := by unfold KickOK at h; omega
theorem checkKick_yes (r g : Int) (w : World) (h : KickOK r g) :
    Calls Try.prog 36 #[kickV r g] w fun e w' => e = .returned (.int .i64 0) ∧ Below w.heap.size w w' := by
  obtain ⟨h1, h2, h3, h4⟩ := h
  go_enter Try.func36, Try.ntmps36
  go_wp2
  all_goals go_returns
  all_goals (refine ⟨rfl, ?_⟩; go_grown)
theorem checkKick_no (r g : Int) (w : World) (h : ¬ KickOK r g) :
    Calls Try.prog 36 #[kickV r g] w fun e w' => e = .returned (.int .i64 2) ∧ Below w.heap.size w w' := by
  rcases notKick h with h1 | ⟨h1, h2⟩ | ⟨h1, h2, h3⟩ | ⟨h1, h2, h3, h4⟩
  all_goals
    clear h
    go_enter Try.func36, Try.ntmps36
    go_wp2
    go_returns
    refine ⟨rfl, ?_⟩
    go_grown
theorem rcheckKick_yes (r g : Int) (w : World) (h : KickOK r g) :
    Calls Try.prog 37 #[kickV r g] w fun e w' => e = .returned (.int .i64 0) ∧ Below w.heap.size w w' := by
  obtain ⟨h1, h2, h3, h4⟩ := h
  go_enter Try.func37, Try.ntmps37
  go_wp2
  all_goals go_returns
  all_goals (refine ⟨rfl, ?_⟩; go_grown)
theorem rcheckKick_no (r g : Int) (w : World) (h : ¬ KickOK r g) :
    Calls Try.prog 37 #[kickV r g] w fun e w' => e = .returned (.int .i64 2) ∧ Below w.heap.size w w' := by
  rcases notKick h with h1 | ⟨h1, h2⟩ | ⟨h1, h2, h3⟩ | ⟨h1, h2, h3, h4⟩
  all_goals
    clear h
    go_enter Try.func37, Try.ntmps37
    go_wp2_with (go_at_call 69; first | (refine (between_yes _ _ _ _ (by omega) (by omega)).mono ?_; rintro e w' ⟨rfl, rfl⟩) | (refine (between_no _ _ _ _ (by omega)).mono ?_; rintro e w' ⟨rfl, rfl⟩))
    go_returns
    refine ⟨rfl, ?_⟩
    go_grown

end Go.Proofs.Ytlbgcjpkegpmlaa
/- Contracts of CheckSensor, of the program and of the reference. -/
namespace Go.Proofs.Ytlbgcjpkegpmlaa
open Go.RowKit

theorem checkSensor_yes (s : Sen) (w : World) (h : SenOK s) :
    Calls Try.prog 40 #[s.v] w fun e w' => e = .returned (.int .i64 0) ∧ Below w.heap.size w w' := by
  obtain ⟨hk, h1, h2, h3, h4, h5, h6, h7, h8, h9, h10, h11, h12, h13, h14⟩ := h
  obtain ⟨ch, pe, de, no, st, lo, li, ho⟩ := s
  unfold KindOK at hk
  simp only at hk h1 h2 h3 h4 h5 h6 h7 h8 h9 h10 h11 h12 h13 h14
  rcases hk with rfl | rfl
  all_goals
    go_enter Try.func40, Try.ntmps40
    go_wp2_with (go_at_call 68; refine (within_yes _ _ _ _ (by omega) (by omega)).mono ?_; rintro e w' ⟨rfl, rfl⟩)
    all_goals go_returns
    all_goals (refine ⟨rfl, ?_⟩; go_grown)
theorem checkSensor_kind (s : Sen) (w : World) (h : ¬ KindOK s) :
    Calls Try.prog 40 #[s.v] w fun e w' => e = .returned (.int .i64 4) ∧ Below w.heap.size w w' := by
  obtain ⟨ch, pe, de, no, st, lo, li, ho⟩ := s
  unfold KindOK at h
  simp only at h
  have h1 : (ch != 1) = true := by rw [bne_iff_ne]; omega
  have h2 : (ch != 2) = true := by rw [bne_iff_ne]; omega
  clear h
  go_enter Try.func40, Try.ntmps40
  go_wp2
  all_goals go_returns
  all_goals (refine ⟨rfl, ?_⟩; go_grown)
theorem checkSensor_range (s : Sen) (w : World) (hk : KindOK s) (h : ¬ RangeOK s) :
    Calls Try.prog 40 #[s.v] w fun e w' => e = .returned (.int .i64 2) ∧ Below w.heap.size w w' := by
  obtain ⟨ch, pe, de, no, st, lo, li, ho⟩ := s
  have H := Lib.hid h
  clear h
  unfold KindOK at hk
  simp only at hk
  rcases hk with rfl | rfl
  all_goals
    go_enter Try.func40, Try.ntmps40
    go_wp2_with (go_at_call 68; refine (within_any _ _ _ _).mono ?_; rintro e w' ⟨rfl, rfl⟩)
    all_goals first
      | (exfalso; apply H.out; unfold RangeOK; (try simp at *); omega)
      | (go_returns; refine ⟨rfl, ?_⟩; go_grown)
theorem rcheckSensor_yes (s : Sen) (w : World) (h : SenOK s) :
    Calls Try.prog 41 #[s.v] w fun e w' => e = .returned (.int .i64 0) ∧ Below w.heap.size w w' := by
  obtain ⟨hk, h1, h2, h3, h4, h5, h6, h7, h8, h9, h10, h11, h12, h13, h14⟩ := h
  obtain ⟨ch, pe, de, no, st, lo, li, ho⟩ := s
  unfold KindOK at hk
  simp only at hk h1 h2 h3 h4 h5 h6 h7 h8 h9 h10 h11 h12 h13 h14
  rcases hk with rfl | rfl
  all_goals
    go_enter Try.func41, Try.ntmps41
    go_wp2_with (go_at_call 69; refine (between_yes _ _ _ _ (by omega) (by omega)).mono ?_; rintro e w' ⟨rfl, rfl⟩)
    all_goals go_returns
    all_goals (refine ⟨rfl, ?_⟩; go_grown)
theorem rcheckSensor_kind (s : Sen) (w : World) (h : ¬ KindOK s) :
    Calls Try.prog 41 #[s.v] w fun e w' => e = .returned (.int .i64 4) ∧ Below w.heap.size w w' := by
  obtain ⟨ch, pe, de, no, st, lo, li, ho⟩ := s
  unfold KindOK at h
  simp only at h
  have h1 : (ch != 1) = true := by rw [bne_iff_ne]; omega
  have h2 : (ch != 2) = true := by rw [bne_iff_ne]; omega
  clear h
  go_enter Try.func41, Try.ntmps41
  go_wp2
  all_goals go_returns
  all_goals (refine ⟨rfl, ?_⟩; go_grown)
theorem rcheckSensor_range (s : Sen) (w : World) (hk : KindOK s) (h : ¬ RangeOK s) :
    Calls Try.prog 41 #[s.v] w fun e w' => e = .returned (.int .i64 2) ∧ Below w.heap.size w w' := by
  obtain ⟨ch, pe, de, no, st, lo, li, ho⟩ := s
  have H := Lib.hid h
  clear h
  unfold KindOK at hk
  simp only at hk
  rcases hk with rfl | rfl
  all_goals
    go_enter Try.func41, Try.ntmps41
    go_wp2_with (go_at_call 69; refine (between_any _ _ _ _).mono ?_; rintro e w' ⟨rfl, rfl⟩)
    all_goals first
      | (exfalso; apply H.out; unfold RangeOK; (try simp at *); omega)
      | (go_returns; refine ⟨rfl, ?_⟩; go_grown)

end Go.Proofs.Ytlbgcjpkegpmlaa
/- Contracts of the flows and gains (kick.influx), of kick.Gain, kick.Flow and of the reference's Gain, Flow. -/
namespace Go.Proofs.Ytlbgcjpkegpmlaa
open Go.RowKit

theorem gain_any (r g n : Int) (w : World) (h : KickOK r g) (hn : n ≤ 20000) :
    Calls Try.prog 66 #[kickV r g, .int .i64 n] w fun e w' => e = .returned (.int .i64 (gainAt r g n)) ∧ Below w.heap.size w w' := by
  obtain ⟨h1, h2, h3, h4⟩ := h
  by_cases h0 : n < 0
  · have hv : gainAt r g n = 0 := by simp [gainAt, h0]
    rw [hv]
    clear hv
    go_enter Try.func66, Try.ntmps66
    go_wp2
    go_returns
    refine ⟨rfl, ?_⟩
    repeat' (first | with_reducible exact Below.refl _ _ | with_reducible refine bstep ?_ (by with_reducible assumption) | with_reducible refine balloc ?_ | with_reducible refine bdrew ?_ | with_reducible refine bdrewN ?_ _ | with_reducible refine bset ?_ (by go_size))
  · have hv : gainAt r g n = n * r + g * (n * (n - 1) / 2) := by simp [gainAt, h0]
    rw [hv]
    clear hv
    have hn0 : 0 ≤ n := by omega
    clear h0
    obtain ⟨t1, t2, t3, t4⟩ := tri_bd n hn0 hn
    obtain ⟨b1, b2⟩ := mul_bd hn0 hn h1 h2
    obtain ⟨b3, b4⟩ := mul_bd h3 h4 t3 t4
    go_enter Try.func66, Try.ntmps66
    go_wp2
    go_returns
    refine ⟨rfl, ?_⟩
    repeat' (first | with_reducible exact Below.refl _ _ | with_reducible refine bstep ?_ (by with_reducible assumption) | with_reducible refine balloc ?_ | with_reducible refine bdrew ?_ | with_reducible refine bdrewN ?_ _ | with_reducible refine bset ?_ (by go_size))
theorem flow_any (r g n : Int) (w : World) (h : KickOK r g) (hn : n ≤ 20000) :
    Calls Try.prog 67 #[kickV r g, .int .i64 n] w fun e w' => e = .returned (.int .i64 (flowAt r g n)) ∧ Below w.heap.size w w' := by
  obtain ⟨h1, h2, h3, h4⟩ := h
  by_cases h0 : n < 0
  · have hv : flowAt r g n = 0 := by simp [flowAt, h0]
    rw [hv]
    clear hv
    go_enter Try.func67, Try.ntmps67
    go_wp2
    go_returns
    refine ⟨rfl, ?_⟩
    repeat' (first | with_reducible exact Below.refl _ _ | with_reducible refine bstep ?_ (by with_reducible assumption) | with_reducible refine balloc ?_ | with_reducible refine bdrew ?_ | with_reducible refine bdrewN ?_ _ | with_reducible refine bset ?_ (by go_size))
  · have hv : flowAt r g n = r + n * g := by simp [flowAt, h0]
    rw [hv]
    clear hv
    have hn0 : 0 ≤ n := by omega
    clear h0
    obtain ⟨b3, b4⟩ := mul_bd hn0 hn h3 h4
    go_enter Try.func67, Try.ntmps67
    go_wp2
    go_returns
    refine ⟨rfl, ?_⟩
    repeat' (first | with_reducible exact Below.refl _ _ | with_reducible refine bstep ?_ (by with_reducible assumption) | with_reducible refine balloc ?_ | with_reducible refine bdrew ?_ | with_reducible refine bdrewN ?_ _ | with_reducible refine bset ?_ (by go_size))

theorem Gain_any (r g n : Int) (w : World) :
    Calls Try.prog 23 #[kickV r g, .int .i64 n] w fun e w' => e = .returned (.int .i64 (gainF r g n)) ∧ Below w.heap.size w w' := by
  by_cases hk : KickOK r g
  · by_cases hn : n ≤ 20000
    · have hv : gainF r g n = gainAt r g n := by simp [gainF, hk, hn]
      rw [hv]
      clear hv
      have HK := Lib.hid hk
      clear hk
      go_enter Try.func23, Try.ntmps23
      go_wp2_with (first
        | (go_at_call 36; refine (checkKick_yes _ _ _ HK.out).mono ?_; rintro e w1 ⟨rfl, hb⟩; obtain ⟨hc, hf⟩ := bcell hb)
        | (go_at_call 66; refine (gain_any _ _ _ _ HK.out hn).mono ?_; rintro e w2 ⟨rfl, hb2⟩))
      go_returns
      refine ⟨rfl, ?_⟩
      repeat' (first | with_reducible exact Below.refl _ _ | with_reducible refine bstep ?_ (by with_reducible assumption) | with_reducible refine balloc ?_ | with_reducible refine bdrew ?_ | with_reducible refine bdrewN ?_ _ | with_reducible refine bset ?_ (by go_size))
    · have hv : gainF r g n = 0 := by simp [gainF, hn]
      rw [hv]
      clear hv
      have HK := Lib.hid hk
      clear hk
      have hn' : 20000 < n := by omega
      clear hn
      go_enter Try.func23, Try.ntmps23
      go_wp2_with (first
        | (go_at_call 36; refine (checkKick_yes _ _ _ HK.out).mono ?_; rintro e w1 ⟨rfl, hb⟩; obtain ⟨hc, hf⟩ := bcell hb))
      go_returns
      refine ⟨rfl, ?_⟩
      repeat' (first | with_reducible exact Below.refl _ _ | with_reducible refine bstep ?_ (by with_reducible assumption) | with_reducible refine balloc ?_ | with_reducible refine bdrew ?_ | with_reducible refine bdrewN ?_ _ | with_reducible refine bset ?_ (by go_size))
  · have hv : gainF r g n = 0 := by simp [gainF, hk]
    rw [hv]
    clear hv
    have HK := Lib.hid hk
    clear hk
    go_enter Try.func23, Try.ntmps23
    go_wp2_with (first
      | (go_at_call 36; refine (checkKick_no _ _ _ HK.out).mono ?_; rintro e w1 ⟨rfl, hb⟩; obtain ⟨hc, hf⟩ := bcell hb))
    go_returns
    refine ⟨rfl, ?_⟩
    repeat' (first | with_reducible exact Below.refl _ _ | with_reducible refine bstep ?_ (by with_reducible assumption) | with_reducible refine balloc ?_ | with_reducible refine bdrew ?_ | with_reducible refine bdrewN ?_ _ | with_reducible refine bset ?_ (by go_size))

theorem Flow_any (r g n : Int) (w : World) :
    Calls Try.prog 24 #[kickV r g, .int .i64 n] w fun e w' => e = .returned (.int .i64 (flowF r g n)) ∧ Below w.heap.size w w' := by
  by_cases hk : KickOK r g
  · by_cases hn : n ≤ 20000
    · have hv : flowF r g n = flowAt r g n := by simp [flowF, hk, hn]
      rw [hv]
      clear hv
      have HK := Lib.hid hk
      clear hk
      go_enter Try.func24, Try.ntmps24
      go_wp2_with (first
        | (go_at_call 36; refine (checkKick_yes _ _ _ HK.out).mono ?_; rintro e w1 ⟨rfl, hb⟩; obtain ⟨hc, hf⟩ := bcell hb)
        | (go_at_call 67; refine (flow_any _ _ _ _ HK.out hn).mono ?_; rintro e w2 ⟨rfl, hb2⟩))
      go_returns
      refine ⟨rfl, ?_⟩
      repeat' (first | with_reducible exact Below.refl _ _ | with_reducible refine bstep ?_ (by with_reducible assumption) | with_reducible refine balloc ?_ | with_reducible refine bdrew ?_ | with_reducible refine bdrewN ?_ _ | with_reducible refine bset ?_ (by go_size))
    · have hv : flowF r g n = 0 := by simp [flowF, hn]
      rw [hv]
      clear hv
      have HK := Lib.hid hk
      clear hk
      have hn' : 20000 < n := by omega
      clear hn
      go_enter Try.func24, Try.ntmps24
      go_wp2_with (first
        | (go_at_call 36; refine (checkKick_yes _ _ _ HK.out).mono ?_; rintro e w1 ⟨rfl, hb⟩; obtain ⟨hc, hf⟩ := bcell hb))
      go_returns
      refine ⟨rfl, ?_⟩
      repeat' (first | with_reducible exact Below.refl _ _ | with_reducible refine bstep ?_ (by with_reducible assumption) | with_reducible refine balloc ?_ | with_reducible refine bdrew ?_ | with_reducible refine bdrewN ?_ _ | with_reducible refine bset ?_ (by go_size))
  · have hv : flowF r g n = 0 := by simp [flowF, hk]
    rw [hv]
    clear hv
    have HK := Lib.hid hk
    clear hk
    go_enter Try.func24, Try.ntmps24
    go_wp2_with (first
      | (go_at_call 36; refine (checkKick_no _ _ _ HK.out).mono ?_; rintro e w1 ⟨rfl, hb⟩; obtain ⟨hc, hf⟩ := bcell hb))
    go_returns
    refine ⟨rfl, ?_⟩
    repeat' (first | with_reducible exact Below.refl _ _ | with_reducible refine bstep ?_ (by with_reducible assumption) | with_reducible refine balloc ?_ | with_reducible refine bdrew ?_ | with_reducible refine bdrewN ?_ _ | with_reducible refine bset ?_ (by go_size))

end Go.Proofs.Ytlbgcjpkegpmlaa
/- The contract of kick.late: the search for the first sample that counts, for each phase. Printed by genD.py. -/
namespace Go.Proofs.Ytlbgcjpkegpmlaa
open Go.RowKit

def lateV (s : Sen) (r g : Int) : Value := match lateF s r g with
  | some (t, f, a) => .tuple #[.agg #[.int .i64 t, .int .i64 f, .int .i64 a], .bool true]
  | none => .tuple #[.agg #[.int .i64 0, .int .i64 0, .int .i64 0], .bool false]
theorem lateV_some {s : Sen} {r g t f a : Int} (h : lateF s r g = some (t, f, a)) : lateV s r g = .tuple #[.agg #[.int .i64 t, .int .i64 f, .int .i64 a], .bool true] := by simp [lateV, h]
theorem lateV_none {s : Sen} {r g : Int} (h : lateF s r g = none) : lateV s r g = .tuple #[.agg #[.int .i64 0, .int .i64 0, .int .i64 0], .bool false] := by simp [lateV, h]

def senCells (ch pe de no st lo li ho : Int) : Array Value := #[.int .i64 ch, .int .i64 pe, .int .i64 de, .int .i64 no, .int .i64 st, .int .i64 lo, .int .i64 li, .int .i64 ho]
def outCells (o : Int × Int × Int) : Array Value := #[.int .i64 o.1, .int .i64 o.2.1, .int .i64 o.2.2]
theorem sen_cells {w : World} {b : Nat} {ch pe de no st lo li ho : Int} (h : Blk w b 23 (senCells ch pe de no st lo li ho)) :
    w.cell? ⟨b, 1, none⟩ = some (.int .i64 pe) ∧ w.cell? ⟨b, 2, none⟩ = some (.int .i64 de) ∧ w.cell? ⟨b, 3, none⟩ = some (.int .i64 no) ∧ w.cell? ⟨b, 4, none⟩ = some (.int .i64 st) ∧ w.cell? ⟨b, 5, none⟩ = some (.int .i64 lo) ∧ w.cell? ⟨b, 6, none⟩ = some (.int .i64 li) ∧ w.cell? ⟨b, 7, none⟩ = some (.int .i64 ho) :=
  ⟨h.cell 1 rfl, h.cell 2 rfl, h.cell 3 rfl, h.cell 4 rfl, h.cell 5 rfl, h.cell 6 rfl, h.cell 7 rfl⟩
theorem out_cells {w : World} {b : Nat} {x y z : Int} (h : Blk w b 110 (outCells (x, y, z))) :
    w.cell? ⟨b, 0, none⟩ = some (.int .i64 x) ∧ w.cell? ⟨b, 1, none⟩ = some (.int .i64 y) ∧ w.cell? ⟨b, 2, none⟩ = some (.int .i64 z) ∧ w.frozen? ⟨b, 0, none⟩ = false ∧ w.frozen? ⟨b, 1, none⟩ = false ∧ w.frozen? ⟨b, 2, none⟩ = false :=
  ⟨h.cell 0 rfl, h.cell 1 rfl, h.cell 2 rfl, h.froz 0, h.froz 1, h.froz 2⟩
theorem out_put {w : World} {b : Nat} {o x : Int × Int × Int} (h : Blk w b 110 (outCells o)) :
    Blk (((w.setCell ⟨b, 0, none⟩ (.int .i64 x.1)).setCell ⟨b, 1, none⟩ (.int .i64 x.2.1)).setCell ⟨b, 2, none⟩ (.int .i64 x.2.2)) b 110 (outCells x) := by
  have := ((h.put 0 (.int .i64 x.1)).put 1 (.int .i64 x.2.1)).put 2 (.int .i64 x.2.2)
  simpa [outCells] using this

theorem out_far {w : World} {b c : Nat} {t : TypeId} {cs : Array Value} {x y z : Value} (h : Blk w b t cs) (hc : b ≠ c) :
    Blk (((w.setCell ⟨c, 0, none⟩ x).setCell ⟨c, 1, none⟩ y).setCell ⟨c, 2, none⟩ z) b t cs := ((h.far hc _).far hc _).far hc _
theorem out_below {w w1 : World} {c : Nat} {x y z : Value} (h : Below w.heap.size w w1) (hc : w.heap.size ≤ c) :
    Below w.heap.size w (((w1.setCell ⟨c, 0, none⟩ x).setCell ⟨c, 1, none⟩ y).setCell ⟨c, 2, none⟩ z) := ((h.setCell hc _).setCell hc _).setCell hc _

theorem says_pit (s : Sen) (r g : Int) (w : World) (h : s.ch = 1) :
    Calls Try.prog 77 #[s.v, kickV r g] w fun e w' => e = .returned (.func (Fn.func 66) #[kickV r g] #[]) ∧ Below w.heap.size w w' := by
  obtain ⟨ch, pe, de, no, st, lo, li, ho⟩ := s
  subst h
  go_enter Try.func77, Try.ntmps77
  go_wp2
  go_returns
  refine ⟨rfl, ?_⟩
  repeat' (first | with_reducible exact Below.refl _ _ | with_reducible refine bstep ?_ (by with_reducible assumption) | with_reducible refine balloc ?_ | with_reducible refine bdrew ?_ | with_reducible refine bdrewN ?_ _ | with_reducible refine bset ?_ (by go_size))
theorem says_flow (s : Sen) (r g : Int) (w : World) (h : s.ch = 2) :
    Calls Try.prog 77 #[s.v, kickV r g] w fun e w' => e = .returned (.func (Fn.func 67) #[kickV r g] #[]) ∧ Below w.heap.size w w' := by
  obtain ⟨ch, pe, de, no, st, lo, li, ho⟩ := s
  subst h
  go_enter Try.func77, Try.ntmps77
  go_wp2
  go_returns
  refine ⟨rfl, ?_⟩
  repeat' (first | with_reducible exact Below.refl _ _ | with_reducible refine bstep ?_ (by with_reducible assumption) | with_reducible refine balloc ?_ | with_reducible refine bdrew ?_ | with_reducible refine bdrewN ?_ _ | with_reducible refine bset ?_ (by go_size))


set_option maxHeartbeats 2000000 in
set_option maxRecDepth 100000 in
theorem late_pit (pe de no st lo li ho r g : Int) (w : World) (hs : RangeOK ⟨1, pe, de, no, st, lo, li, ho⟩) (hk : KickOK r g) :
    Calls Try.prog 79 #[.agg #[.int .i64 1, .int .i64 pe, .int .i64 de, .int .i64 no, .int .i64 st, .int .i64 lo, .int .i64 li, .int .i64 ho], kickV r g] w fun e w' => e = .returned (lateV ⟨1, pe, de, no, st, lo, li, ho⟩ r g) ∧ Below w.heap.size w w' := by
  obtain ⟨h1, h2, h3, h4, h5, h6, h7, h8, h9, h10, h11, h12, h13, h14⟩ := hs
  simp only at h1 h2 h3 h4 h5 h6 h7 h8 h9 h10 h11 h12 h13 h14
  obtain ⟨n1, n2⟩ := mul_bd h5 h6 (by omega : 0 ≤ st) h8
  obtain ⟨q1, q2⟩ := mul_bd (by omega : 0 ≤ ho) h14 (by omega : 0 ≤ lo + 1) (by omega : lo + 1 ≤ 6)
  have q0 := mul_one_le h13 (by omega : 1 ≤ lo + 1)
  have HK := Lib.hid hk
  clear hk
  go_enter Try.func79, Try.ntmps79
  go_wp2_with fail
  go_step3
  go_wp2_with (go_at_call 77; refine (says_pit ⟨1, pe, de, no, st, lo, li, ho⟩ r g _ rfl).mono ?_; rintro e w1 ⟨rfl, hb⟩)
  go_step3
  have B0 : Blk w1 w.heap.size 23 (senCells 1 pe de no st lo li ho) := ((((Blk.new w _ _).alloc _).alloc _).alloc _).below hb
  have B2 : Blk w1 (w.heap.size + 1 + 1) 110 (outCells (0, 0, 0)) := by
    have h := ((Blk.new ((w.alloc (.cells #[.int .i64 1, .int .i64 pe, .int .i64 de, .int .i64 no, .int .i64 st, .int .i64 lo, .int .i64 li, .int .i64 ho] 23)).alloc (.cells #[.int .i64 r, .int .i64 g] 31)) 110 (outCells (0, 0, 0))).alloc (.cells (outCells (-1, 0, 0)) 110)).below hb
    simpa using h
  have B3 : Blk w1 (w.heap.size + 1 + 1 + 1) 110 (outCells (-1, 0, 0)) := by
    have h := (Blk.new (((w.alloc (.cells #[.int .i64 1, .int .i64 pe, .int .i64 de, .int .i64 no, .int .i64 st, .int .i64 lo, .int .i64 li, .int .i64 ho] 23)).alloc (.cells #[.int .i64 r, .int .i64 g] 31)).alloc (.cells (outCells (0, 0, 0)) 110)) 110 (outCells (-1, 0, 0))).below hb
    simpa using h
  have hbw : Below w.heap.size w w1 := by
    repeat' (first | with_reducible exact Below.refl _ _ | with_reducible refine bstep ?_ (by with_reducible assumption) | with_reducible refine balloc ?_ | with_reducible refine bdrew ?_ | with_reducible refine bdrewN ?_ _ | with_reducible refine bset ?_ (by go_size))
  obtain ⟨c1, -⟩ := sen_cells B0
  clear hb
  go_wp2_with fail
  go_loopg [17] (pe.toNat) (fun k v17 wx => ∃ (f : Nat) (o : Int × Int × Int), k + f = pe.toNat ∧ v17 = .int .i64 f ∧ Hid (lateGo ⟨1, pe, de, no, st, lo, li, ho⟩ r g k f o = lateF ⟨1, pe, de, no, st, lo, li, ho⟩ r g) ∧
    Blk wx w.heap.size 23 (senCells 1 pe de no st lo li ho) ∧ Blk wx (w.heap.size + 1 + 1) 110 (outCells (0, 0, 0)) ∧ Blk wx (w.heap.size + 1 + 1 + 1) 110 (outCells o) ∧ Below w.heap.size w wx)
  case atStart => exact ⟨0, (-1, 0, 0), rfl, rfl, rfl, B0, B2, B3, hbw⟩
  case round =>
    clear c1 B0 B2 B3 hbw
    obtain ⟨f, ⟨oa, ob, oc⟩, hkf, rfl, HG, B0, B2, B3, hbw⟩ := hrel
    cases gk with
    | zero =>
      have hlt : ¬ ((f : Int) < pe) := by omega
      obtain ⟨k0, k1, k2, -⟩ := out_cells B3
      obtain ⟨e0, e1, e2, f0, f1, f2⟩ := out_cells B2
      have hz := B3.lt
      have HV := Lib.hid (lateV_some (show lateF ⟨1, pe, de, no, st, lo, li, ho⟩ r g = some (oa, ob, oc) from HG.out.symm))
      clear HG
      go_wp2_with fail
      refine bodyPost_ret (v := .tuple #[.agg #[.int .i64 oa, .int .i64 ob, .int .i64 oc], .bool true]) (by simp [results, Try.results79, go_sem, cell_put_same, e0, e1, e2]) rfl ?_
      refine ⟨by rw [HV.out], ?_⟩
      repeat' (first | with_reducible exact Below.refl _ _ | with_reducible refine bstep ?_ (by with_reducible assumption) | with_reducible refine balloc ?_ | with_reducible refine bdrew ?_ | with_reducible refine bdrewN ?_ _ | with_reducible refine bset ?_ (by go_size))
    | succ k =>
      have hlt : (f : Int) < pe := by omega
      go_wp2_with fail
      go_loopg [9] 10001 (fun j v9 wy => ∃ a : Nat, j + a = 10001 ∧ v9 = .int .i64 a ∧ Hid (findA ⟨1, pe, de, no, st, lo, li, ho⟩ r g f j a = firstA ⟨1, pe, de, no, st, lo, li, ho⟩ r g f) ∧
        Blk wy w.heap.size 23 (senCells 1 pe de no st lo li ho) ∧ Blk wy (w.heap.size + 1 + 1) 110 (outCells (0, 0, 0)) ∧ Blk wy (w.heap.size + 1 + 1 + 1) 110 (outCells (oa, ob, oc)) ∧ Below w.heap.size w wy)
      case atStart => exact ⟨0, rfl, rfl, rfl, B0, B2, B3, hbw⟩
      case round =>
        clear B0 B2 B3 hbw
        rename_i wo _ _ _ _ _ _ _
        obtain ⟨a, hja, rfl, HF, B0, B2, B3, hbw⟩ := hrel
        obtain ⟨s1, s2, s3, s4, s5, s6, s7⟩ := sen_cells B0
        obtain ⟨k0, k1, k2, g0, g1, g2⟩ := out_cells B3
        obtain ⟨e0, e1, e2, f0, f1, f2⟩ := out_cells B2
        have hz0 := B0.lt
        have hz := B3.lt
        obtain ⟨p1, p2⟩ := mul_bd (by omega : (0 : Int) ≤ a) (by omega : (a : Int) ≤ 10001) (by omega : 0 ≤ pe) h2
        by_cases hr : (f : Int) + a * pe ≤ 10000
        · have ha1 : (a : Int) * 1 ≤ a * pe := Int.mul_le_mul_of_nonneg_left h1 (by omega)
          have ha2 : (a : Int) ≤ 10000 := by omega
          clear ha1
          have hj : ∃ j', gk = j' + 1 := ⟨gk - 1, by omega⟩
          obtain ⟨j, rfl⟩ := hj
          have hgb := says_bd (s := ⟨1, pe, de, no, st, lo, li, ho⟩) (n := (f : Int) + a * pe) HK.out (by omega)
          have hsay : saysAt ⟨1, pe, de, no, st, lo, li, ho⟩ r g ((f : Int) + a * pe) = gainAt r g ((f : Int) + a * pe) := by simp [saysAt]
          rw [hsay] at hgb
          obtain ⟨hg1, hg2⟩ := hgb
          by_cases hv : li ≤ gainAt r g ((f : Int) + a * pe) - no * st
          · have hfa : firstA ⟨1, pe, de, no, st, lo, li, ho⟩ r g f = some a := by rw [← HF.out]; simp [findA, hr, hsay, hv]
            obtain ⟨m1, m2⟩ := mul_bd (by omega : (0 : Int) ≤ a + ho * (lo + 1) - 1) (by omega : (a : Int) + ho * (lo + 1) - 1 ≤ 10049) (by omega : 0 ≤ pe) h2
            by_cases ht : 10000 < (f : Int) + (a + ho * (lo + 1) - 1) * pe + de
            · have HV := Lib.hid (lateV_none (show lateF ⟨1, pe, de, no, st, lo, li, ho⟩ r g = none by rw [← HG.out]; simp [lateGo, hfa, alarmT, ht]))
              clear HG hfa HF
              go_wp2_with fail
              have hn2 : (f : Int) + a * pe ≤ 20000 := by omega
              have W3 : IntKind.i64.wrap (no * st) = no * st := IntWalk.i64_in _ (by omega)
              have W4 : IntKind.i64.wrap (gainAt r g ((f : Int) + a * pe) - no * st) = gainAt r g ((f : Int) + a * pe) - no * st := IntWalk.i64_in _ (by omega)
              have W1 : IntKind.i64.wrap ((a : Int) * pe) = (a : Int) * pe := IntWalk.i64_in _ (by omega)
              have W2 : IntKind.i64.wrap ((f : Int) + (a : Int) * pe) = (f : Int) + (a : Int) * pe := IntWalk.i64_in _ (by omega)
              go_region_held3 (fun w' => w'.cell? ⟨w.heap.size, 1, none⟩ = some (.int .i64 pe) ∧ w'.cell? ⟨w.heap.size, 3, none⟩ = some (.int .i64 no) ∧ w'.cell? ⟨w.heap.size, 4, none⟩ = some (.int .i64 st) ∧ w'.cell? ⟨w.heap.size, 6, none⟩ = some (.int .i64 li)) (first | exact ⟨s1, s3, s4, s6⟩ | exact ⟨(hc _ _ hz0).trans s1, (hc _ _ hz0).trans s3, (hc _ _ hz0).trans s4, (hc _ _ hz0).trans s6⟩) (first | (go_at_call 66; (with_reducible refine (gain_any r g ((f : Int) + a * pe) _ HK.out hn2).mono ?_); rintro e w2 ⟨rfl, hb⟩; obtain ⟨hc, hf⟩ := bcell hb))
              clear W1 W2 W3 W4
              have B0' := B0.drew.below hb
              have B2' := B2.drew.below hb
              have B3' := B3.drew.below hb
              have hbw' : Below w.heap.size w w2 := by
                repeat' (first | with_reducible exact Below.refl _ _ | with_reducible refine bstep ?_ (by with_reducible assumption) | with_reducible refine balloc ?_ | with_reducible refine bdrew ?_ | with_reducible refine bdrewN ?_ _ | with_reducible refine bset ?_ (by go_size))
              clear s1 s2 s3 s4 s5 s6 s7 k0 k1 k2 g0 g1 g2 e0 e1 e2 f0 f1 f2 hz0 hz B0 B2 B3 hbw hc hf hb
              obtain ⟨s1, s2, s3, s4, s5, s6, s7⟩ := sen_cells B0'
              obtain ⟨k0, k1, k2, g0, g1, g2⟩ := out_cells B3'
              obtain ⟨e0, e1, e2, f0, f1, f2⟩ := out_cells B2'
              have hz0 := B0'.lt
              have hz := B3'.lt
              go_wp2_with fail
              rw [Exit.noGoto_ret]
              refine bodyPost_ret (v := .tuple #[.agg #[.int .i64 0, .int .i64 0, .int .i64 0], .bool false]) (by simp [results, Try.results79, go_sem, cell_put_same, e0, e1, e2]) rfl ?_
              refine ⟨by rw [HV.out], ?_⟩
              repeat' (first | with_reducible exact Below.refl _ _ | with_reducible refine bstep ?_ (by with_reducible assumption) | with_reducible refine balloc ?_ | with_reducible refine bdrew ?_ | with_reducible refine bdrewN ?_ _ | with_reducible refine bset ?_ (by go_size))
            · by_cases hgt : oa < (f : Int) + (a + ho * (lo + 1) - 1) * pe + de
              · have HG2 : Hid (lateGo ⟨1, pe, de, no, st, lo, li, ho⟩ r g k (f + 1) ((f : Int) + (a + ho * (lo + 1) - 1) * pe + de, (f : Int), (a : Int)) = lateF ⟨1, pe, de, no, st, lo, li, ho⟩ r g) := by
                  show _ = _
                  rw [← HG.out]; simp [lateGo, hfa, alarmT, ht, hgt]
                clear HG hfa HF
                go_wp2_with fail
                have hn2 : (f : Int) + a * pe ≤ 20000 := by omega
                have W3 : IntKind.i64.wrap (no * st) = no * st := IntWalk.i64_in _ (by omega)
                have W4 : IntKind.i64.wrap (gainAt r g ((f : Int) + a * pe) - no * st) = gainAt r g ((f : Int) + a * pe) - no * st := IntWalk.i64_in _ (by omega)
                have W1 : IntKind.i64.wrap ((a : Int) * pe) = (a : Int) * pe := IntWalk.i64_in _ (by omega)
                have W2 : IntKind.i64.wrap ((f : Int) + (a : Int) * pe) = (f : Int) + (a : Int) * pe := IntWalk.i64_in _ (by omega)
                go_region_held3 (fun w' => w'.cell? ⟨w.heap.size, 1, none⟩ = some (.int .i64 pe) ∧ w'.cell? ⟨w.heap.size, 3, none⟩ = some (.int .i64 no) ∧ w'.cell? ⟨w.heap.size, 4, none⟩ = some (.int .i64 st) ∧ w'.cell? ⟨w.heap.size, 6, none⟩ = some (.int .i64 li)) (first | exact ⟨s1, s3, s4, s6⟩ | exact ⟨(hc _ _ hz0).trans s1, (hc _ _ hz0).trans s3, (hc _ _ hz0).trans s4, (hc _ _ hz0).trans s6⟩) (first | (go_at_call 66; (with_reducible refine (gain_any r g ((f : Int) + a * pe) _ HK.out hn2).mono ?_); rintro e w2 ⟨rfl, hb⟩; obtain ⟨hc, hf⟩ := bcell hb))
                clear W1 W2 W3 W4
                have B0' := B0.drew.below hb
                have B2' := B2.drew.below hb
                have B3' := B3.drew.below hb
                have hbw' : Below w.heap.size w w2 := by
                  repeat' (first | with_reducible exact Below.refl _ _ | with_reducible refine bstep ?_ (by with_reducible assumption) | with_reducible refine balloc ?_ | with_reducible refine bdrew ?_ | with_reducible refine bdrewN ?_ _ | with_reducible refine bset ?_ (by go_size))
                clear s1 s2 s3 s4 s5 s6 s7 k0 k1 k2 g0 g1 g2 e0 e1 e2 f0 f1 f2 hz0 hz B0 B2 B3 hbw hc hf hb
                obtain ⟨s1, s2, s3, s4, s5, s6, s7⟩ := sen_cells B0'
                obtain ⟨k0, k1, k2, g0, g1, g2⟩ := out_cells B3'
                obtain ⟨e0, e1, e2, f0, f1, f2⟩ := out_cells B2'
                have hz0 := B0'.lt
                have hz := B3'.lt
                go_wp2_with fail
                go_roundg k
                case measure => omega
                case rel => exact ⟨f + 1, ((f : Int) + (a + ho * (lo + 1) - 1) * pe + de, (f : Int), (a : Int)), by omega, by go_num, HG2, out_far B0' (by omega), out_far B2' (by omega), out_put (x := ((f : Int) + (a + ho * (lo + 1) - 1) * pe + de, (f : Int), (a : Int))) B3', out_below hbw' (by omega)⟩
              · have HG2 : Hid (lateGo ⟨1, pe, de, no, st, lo, li, ho⟩ r g k (f + 1) (oa, ob, oc) = lateF ⟨1, pe, de, no, st, lo, li, ho⟩ r g) := by
                  show _ = _
                  rw [← HG.out]; simp [lateGo, hfa, alarmT, ht, hgt]
                clear HG hfa HF
                go_wp2_with fail
                have hn2 : (f : Int) + a * pe ≤ 20000 := by omega
                have W3 : IntKind.i64.wrap (no * st) = no * st := IntWalk.i64_in _ (by omega)
                have W4 : IntKind.i64.wrap (gainAt r g ((f : Int) + a * pe) - no * st) = gainAt r g ((f : Int) + a * pe) - no * st := IntWalk.i64_in _ (by omega)
                have W1 : IntKind.i64.wrap ((a : Int) * pe) = (a : Int) * pe := IntWalk.i64_in _ (by omega)
                have W2 : IntKind.i64.wrap ((f : Int) + (a : Int) * pe) = (f : Int) + (a : Int) * pe := IntWalk.i64_in _ (by omega)
                go_region_held3 (fun w' => w'.cell? ⟨w.heap.size, 1, none⟩ = some (.int .i64 pe) ∧ w'.cell? ⟨w.heap.size, 3, none⟩ = some (.int .i64 no) ∧ w'.cell? ⟨w.heap.size, 4, none⟩ = some (.int .i64 st) ∧ w'.cell? ⟨w.heap.size, 6, none⟩ = some (.int .i64 li)) (first | exact ⟨s1, s3, s4, s6⟩ | exact ⟨(hc _ _ hz0).trans s1, (hc _ _ hz0).trans s3, (hc _ _ hz0).trans s4, (hc _ _ hz0).trans s6⟩) (first | (go_at_call 66; (with_reducible refine (gain_any r g ((f : Int) + a * pe) _ HK.out hn2).mono ?_); rintro e w2 ⟨rfl, hb⟩; obtain ⟨hc, hf⟩ := bcell hb))
                clear W1 W2 W3 W4
                have B0' := B0.drew.below hb
                have B2' := B2.drew.below hb
                have B3' := B3.drew.below hb
                have hbw' : Below w.heap.size w w2 := by
                  repeat' (first | with_reducible exact Below.refl _ _ | with_reducible refine bstep ?_ (by with_reducible assumption) | with_reducible refine balloc ?_ | with_reducible refine bdrew ?_ | with_reducible refine bdrewN ?_ _ | with_reducible refine bset ?_ (by go_size))
                clear s1 s2 s3 s4 s5 s6 s7 k0 k1 k2 g0 g1 g2 e0 e1 e2 f0 f1 f2 hz0 hz B0 B2 B3 hbw hc hf hb
                obtain ⟨s1, s2, s3, s4, s5, s6, s7⟩ := sen_cells B0'
                obtain ⟨k0, k1, k2, g0, g1, g2⟩ := out_cells B3'
                obtain ⟨e0, e1, e2, f0, f1, f2⟩ := out_cells B2'
                have hz0 := B0'.lt
                have hz := B3'.lt
                go_wp2_with fail
                go_roundg k
                case measure => omega
                case rel => exact ⟨f + 1, (oa, ob, oc), by omega, by go_num, HG2, B0', B2', B3', hbw'⟩
          · have HF2 : Hid (findA ⟨1, pe, de, no, st, lo, li, ho⟩ r g f j (a + 1) = firstA ⟨1, pe, de, no, st, lo, li, ho⟩ r g f) := by
              show _ = _
              rw [← HF.out]; simp [findA, hr, hsay, hv]
            clear HF
            go_wp2_with fail
            have hn2 : (f : Int) + a * pe ≤ 20000 := by omega
            have W3 : IntKind.i64.wrap (no * st) = no * st := IntWalk.i64_in _ (by omega)
            have W4 : IntKind.i64.wrap (gainAt r g ((f : Int) + a * pe) - no * st) = gainAt r g ((f : Int) + a * pe) - no * st := IntWalk.i64_in _ (by omega)
            have W1 : IntKind.i64.wrap ((a : Int) * pe) = (a : Int) * pe := IntWalk.i64_in _ (by omega)
            have W2 : IntKind.i64.wrap ((f : Int) + (a : Int) * pe) = (f : Int) + (a : Int) * pe := IntWalk.i64_in _ (by omega)
            go_region_held3 (fun w' => w'.cell? ⟨w.heap.size, 1, none⟩ = some (.int .i64 pe) ∧ w'.cell? ⟨w.heap.size, 3, none⟩ = some (.int .i64 no) ∧ w'.cell? ⟨w.heap.size, 4, none⟩ = some (.int .i64 st) ∧ w'.cell? ⟨w.heap.size, 6, none⟩ = some (.int .i64 li)) (first | exact ⟨s1, s3, s4, s6⟩ | exact ⟨(hc _ _ hz0).trans s1, (hc _ _ hz0).trans s3, (hc _ _ hz0).trans s4, (hc _ _ hz0).trans s6⟩) (first | (go_at_call 66; (with_reducible refine (gain_any r g ((f : Int) + a * pe) _ HK.out hn2).mono ?_); rintro e w2 ⟨rfl, hb⟩; obtain ⟨hc, hf⟩ := bcell hb))
            clear W1 W2 W3 W4
            have B0' := B0.drew.below hb
            have B2' := B2.drew.below hb
            have B3' := B3.drew.below hb
            have hbw' : Below w.heap.size w w2 := by
              repeat' (first | with_reducible exact Below.refl _ _ | with_reducible refine bstep ?_ (by with_reducible assumption) | with_reducible refine balloc ?_ | with_reducible refine bdrew ?_ | with_reducible refine bdrewN ?_ _ | with_reducible refine bset ?_ (by go_size))
            clear s1 s2 s3 s4 s5 s6 s7 k0 k1 k2 g0 g1 g2 e0 e1 e2 f0 f1 f2 hz0 hz B0 B2 B3 hbw hc hf hb
            obtain ⟨s1, s2, s3, s4, s5, s6, s7⟩ := sen_cells B0'
            obtain ⟨k0, k1, k2, g0, g1, g2⟩ := out_cells B3'
            obtain ⟨e0, e1, e2, f0, f1, f2⟩ := out_cells B2'
            have hz0 := B0'.lt
            have hz := B3'.lt
            go_wp2_with fail
            go_roundg j
            case measure => omega
            case rel => exact ⟨a + 1, by omega, by go_num, HF2, B0', B2', B3', hbw'⟩
        · have hfa : firstA ⟨1, pe, de, no, st, lo, li, ho⟩ r g f = none := by
            rw [← HF.out]
            cases gk <;> simp [findA, hr]
          have HV := Lib.hid (lateV_none (show lateF ⟨1, pe, de, no, st, lo, li, ho⟩ r g = none by rw [← HG.out]; simp [lateGo, hfa]))
          clear HG hfa HF
          go_wp2_with fail
          refine bodyPost_ret (v := .tuple #[.agg #[.int .i64 0, .int .i64 0, .int .i64 0], .bool false]) (by simp [results, Try.results79, go_sem, cell_put_same, e0, e1, e2]) rfl ?_
          refine ⟨by rw [HV.out], ?_⟩
          repeat' (first | with_reducible exact Below.refl _ _ | with_reducible refine bstep ?_ (by with_reducible assumption) | with_reducible refine balloc ?_ | with_reducible refine bdrew ?_ | with_reducible refine bdrewN ?_ _ | with_reducible refine bset ?_ (by go_size))

end Go.Proofs.Ytlbgcjpkegpmlaa
/- The contract of kick.late for the other channel, and of kick.Late. Printed by genD.py. -/
namespace Go.Proofs.Ytlbgcjpkegpmlaa
open Go.RowKit

set_option maxHeartbeats 2000000 in
set_option maxRecDepth 100000 in
theorem late_flow (pe de no st lo li ho r g : Int) (w : World) (hs : RangeOK ⟨2, pe, de, no, st, lo, li, ho⟩) (hk : KickOK r g) :
    Calls Try.prog 79 #[.agg #[.int .i64 2, .int .i64 pe, .int .i64 de, .int .i64 no, .int .i64 st, .int .i64 lo, .int .i64 li, .int .i64 ho], kickV r g] w fun e w' => e = .returned (lateV ⟨2, pe, de, no, st, lo, li, ho⟩ r g) ∧ Below w.heap.size w w' := by
  obtain ⟨h1, h2, h3, h4, h5, h6, h7, h8, h9, h10, h11, h12, h13, h14⟩ := hs
  simp only at h1 h2 h3 h4 h5 h6 h7 h8 h9 h10 h11 h12 h13 h14
  obtain ⟨n1, n2⟩ := mul_bd h5 h6 (by omega : 0 ≤ st) h8
  obtain ⟨q1, q2⟩ := mul_bd (by omega : 0 ≤ ho) h14 (by omega : 0 ≤ lo + 1) (by omega : lo + 1 ≤ 6)
  have q0 := mul_one_le h13 (by omega : 1 ≤ lo + 1)
  have HK := Lib.hid hk
  clear hk
  go_enter Try.func79, Try.ntmps79
  go_wp2_with fail
  go_step3
  go_wp2_with (go_at_call 77; refine (says_flow ⟨2, pe, de, no, st, lo, li, ho⟩ r g _ rfl).mono ?_; rintro e w1 ⟨rfl, hb⟩)
  go_step3
  have B0 : Blk w1 w.heap.size 23 (senCells 2 pe de no st lo li ho) := ((((Blk.new w _ _).alloc _).alloc _).alloc _).below hb
  have B2 : Blk w1 (w.heap.size + 1 + 1) 110 (outCells (0, 0, 0)) := by
    have h := ((Blk.new ((w.alloc (.cells #[.int .i64 2, .int .i64 pe, .int .i64 de, .int .i64 no, .int .i64 st, .int .i64 lo, .int .i64 li, .int .i64 ho] 23)).alloc (.cells #[.int .i64 r, .int .i64 g] 31)) 110 (outCells (0, 0, 0))).alloc (.cells (outCells (-1, 0, 0)) 110)).below hb
    simpa using h
  have B3 : Blk w1 (w.heap.size + 1 + 1 + 1) 110 (outCells (-1, 0, 0)) := by
    have h := (Blk.new (((w.alloc (.cells #[.int .i64 2, .int .i64 pe, .int .i64 de, .int .i64 no, .int .i64 st, .int .i64 lo, .int .i64 li, .int .i64 ho] 23)).alloc (.cells #[.int .i64 r, .int .i64 g] 31)).alloc (.cells (outCells (0, 0, 0)) 110)) 110 (outCells (-1, 0, 0))).below hb
    simpa using h
  have hbw : Below w.heap.size w w1 := by
    repeat' (first | with_reducible exact Below.refl _ _ | with_reducible refine bstep ?_ (by with_reducible assumption) | with_reducible refine balloc ?_ | with_reducible refine bdrew ?_ | with_reducible refine bdrewN ?_ _ | with_reducible refine bset ?_ (by go_size))
  obtain ⟨c1, -⟩ := sen_cells B0
  clear hb
  go_wp2_with fail
  go_loopg [17] (pe.toNat) (fun k v17 wx => ∃ (f : Nat) (o : Int × Int × Int), k + f = pe.toNat ∧ v17 = .int .i64 f ∧ Hid (lateGo ⟨2, pe, de, no, st, lo, li, ho⟩ r g k f o = lateF ⟨2, pe, de, no, st, lo, li, ho⟩ r g) ∧
    Blk wx w.heap.size 23 (senCells 2 pe de no st lo li ho) ∧ Blk wx (w.heap.size + 1 + 1) 110 (outCells (0, 0, 0)) ∧ Blk wx (w.heap.size + 1 + 1 + 1) 110 (outCells o) ∧ Below w.heap.size w wx)
  case atStart => exact ⟨0, (-1, 0, 0), rfl, rfl, rfl, B0, B2, B3, hbw⟩
  case round =>
    clear c1 B0 B2 B3 hbw
    obtain ⟨f, ⟨oa, ob, oc⟩, hkf, rfl, HG, B0, B2, B3, hbw⟩ := hrel
    cases gk with
    | zero =>
      have hlt : ¬ ((f : Int) < pe) := by omega
      obtain ⟨k0, k1, k2, -⟩ := out_cells B3
      obtain ⟨e0, e1, e2, f0, f1, f2⟩ := out_cells B2
      have hz := B3.lt
      have HV := Lib.hid (lateV_some (show lateF ⟨2, pe, de, no, st, lo, li, ho⟩ r g = some (oa, ob, oc) from HG.out.symm))
      clear HG
      go_wp2_with fail
      refine bodyPost_ret (v := .tuple #[.agg #[.int .i64 oa, .int .i64 ob, .int .i64 oc], .bool true]) (by simp [results, Try.results79, go_sem, cell_put_same, e0, e1, e2]) rfl ?_
      refine ⟨by rw [HV.out], ?_⟩
      repeat' (first | with_reducible exact Below.refl _ _ | with_reducible refine bstep ?_ (by with_reducible assumption) | with_reducible refine balloc ?_ | with_reducible refine bdrew ?_ | with_reducible refine bdrewN ?_ _ | with_reducible refine bset ?_ (by go_size))
    | succ k =>
      have hlt : (f : Int) < pe := by omega
      go_wp2_with fail
      go_loopg [9] 10001 (fun j v9 wy => ∃ a : Nat, j + a = 10001 ∧ v9 = .int .i64 a ∧ Hid (findA ⟨2, pe, de, no, st, lo, li, ho⟩ r g f j a = firstA ⟨2, pe, de, no, st, lo, li, ho⟩ r g f) ∧
        Blk wy w.heap.size 23 (senCells 2 pe de no st lo li ho) ∧ Blk wy (w.heap.size + 1 + 1) 110 (outCells (0, 0, 0)) ∧ Blk wy (w.heap.size + 1 + 1 + 1) 110 (outCells (oa, ob, oc)) ∧ Below w.heap.size w wy)
      case atStart => exact ⟨0, rfl, rfl, rfl, B0, B2, B3, hbw⟩
      case round =>
        clear B0 B2 B3 hbw
        rename_i wo _ _ _ _ _ _ _
        obtain ⟨a, hja, rfl, HF, B0, B2, B3, hbw⟩ := hrel
        obtain ⟨s1, s2, s3, s4, s5, s6, s7⟩ := sen_cells B0
        obtain ⟨k0, k1, k2, g0, g1, g2⟩ := out_cells B3
        obtain ⟨e0, e1, e2, f0, f1, f2⟩ := out_cells B2
        have hz0 := B0.lt
        have hz := B3.lt
        obtain ⟨p1, p2⟩ := mul_bd (by omega : (0 : Int) ≤ a) (by omega : (a : Int) ≤ 10001) (by omega : 0 ≤ pe) h2
        by_cases hr : (f : Int) + a * pe ≤ 10000
        · have ha1 : (a : Int) * 1 ≤ a * pe := Int.mul_le_mul_of_nonneg_left h1 (by omega)
          have ha2 : (a : Int) ≤ 10000 := by omega
          clear ha1
          have hj : ∃ j', gk = j' + 1 := ⟨gk - 1, by omega⟩
          obtain ⟨j, rfl⟩ := hj
          have hgb := says_bd (s := ⟨2, pe, de, no, st, lo, li, ho⟩) (n := (f : Int) + a * pe) HK.out (by omega)
          have hsay : saysAt ⟨2, pe, de, no, st, lo, li, ho⟩ r g ((f : Int) + a * pe) = flowAt r g ((f : Int) + a * pe) := by simp [saysAt]
          rw [hsay] at hgb
          obtain ⟨hg1, hg2⟩ := hgb
          by_cases hv : li ≤ flowAt r g ((f : Int) + a * pe) - no * st
          · have hfa : firstA ⟨2, pe, de, no, st, lo, li, ho⟩ r g f = some a := by rw [← HF.out]; simp [findA, hr, hsay, hv]
            obtain ⟨m1, m2⟩ := mul_bd (by omega : (0 : Int) ≤ a + ho * (lo + 1) - 1) (by omega : (a : Int) + ho * (lo + 1) - 1 ≤ 10049) (by omega : 0 ≤ pe) h2
            by_cases ht : 10000 < (f : Int) + (a + ho * (lo + 1) - 1) * pe + de
            · have HV := Lib.hid (lateV_none (show lateF ⟨2, pe, de, no, st, lo, li, ho⟩ r g = none by rw [← HG.out]; simp [lateGo, hfa, alarmT, ht]))
              clear HG hfa HF
              go_wp2_with fail
              have hn2 : (f : Int) + a * pe ≤ 20000 := by omega
              have W3 : IntKind.i64.wrap (no * st) = no * st := IntWalk.i64_in _ (by omega)
              have W4 : IntKind.i64.wrap (flowAt r g ((f : Int) + a * pe) - no * st) = flowAt r g ((f : Int) + a * pe) - no * st := IntWalk.i64_in _ (by omega)
              have W1 : IntKind.i64.wrap ((a : Int) * pe) = (a : Int) * pe := IntWalk.i64_in _ (by omega)
              have W2 : IntKind.i64.wrap ((f : Int) + (a : Int) * pe) = (f : Int) + (a : Int) * pe := IntWalk.i64_in _ (by omega)
              go_region_held3 (fun w' => w'.cell? ⟨w.heap.size, 1, none⟩ = some (.int .i64 pe) ∧ w'.cell? ⟨w.heap.size, 3, none⟩ = some (.int .i64 no) ∧ w'.cell? ⟨w.heap.size, 4, none⟩ = some (.int .i64 st) ∧ w'.cell? ⟨w.heap.size, 6, none⟩ = some (.int .i64 li)) (first | exact ⟨s1, s3, s4, s6⟩ | exact ⟨(hc _ _ hz0).trans s1, (hc _ _ hz0).trans s3, (hc _ _ hz0).trans s4, (hc _ _ hz0).trans s6⟩) (first | (go_at_call 67; (with_reducible refine (flow_any r g ((f : Int) + a * pe) _ HK.out hn2).mono ?_); rintro e w2 ⟨rfl, hb⟩; obtain ⟨hc, hf⟩ := bcell hb))
              clear W1 W2 W3 W4
              have B0' := B0.drew.below hb
              have B2' := B2.drew.below hb
              have B3' := B3.drew.below hb
              have hbw' : Below w.heap.size w w2 := by
                repeat' (first | with_reducible exact Below.refl _ _ | with_reducible refine bstep ?_ (by with_reducible assumption) | with_reducible refine balloc ?_ | with_reducible refine bdrew ?_ | with_reducible refine bdrewN ?_ _ | with_reducible refine bset ?_ (by go_size))
              clear s1 s2 s3 s4 s5 s6 s7 k0 k1 k2 g0 g1 g2 e0 e1 e2 f0 f1 f2 hz0 hz B0 B2 B3 hbw hc hf hb
              obtain ⟨s1, s2, s3, s4, s5, s6, s7⟩ := sen_cells B0'
              obtain ⟨k0, k1, k2, g0, g1, g2⟩ := out_cells B3'
              obtain ⟨e0, e1, e2, f0, f1, f2⟩ := out_cells B2'
              have hz0 := B0'.lt
              have hz := B3'.lt
              go_wp2_with fail
              rw [Exit.noGoto_ret]
              refine bodyPost_ret (v := .tuple #[.agg #[.int .i64 0, .int .i64 0, .int .i64 0], .bool false]) (by simp [results, Try.results79, go_sem, cell_put_same, e0, e1, e2]) rfl ?_
              refine ⟨by rw [HV.out], ?_⟩
              repeat' (first | with_reducible exact Below.refl _ _ | with_reducible refine bstep ?_ (by with_reducible assumption) | with_reducible refine balloc ?_ | with_reducible refine bdrew ?_ | with_reducible refine bdrewN ?_ _ | with_reducible refine bset ?_ (by go_size))
            · by_cases hgt : oa < (f : Int) + (a + ho * (lo + 1) - 1) * pe + de
              · have HG2 : Hid (lateGo ⟨2, pe, de, no, st, lo, li, ho⟩ r g k (f + 1) ((f : Int) + (a + ho * (lo + 1) - 1) * pe + de, (f : Int), (a : Int)) = lateF ⟨2, pe, de, no, st, lo, li, ho⟩ r g) := by
                  show _ = _
                  rw [← HG.out]; simp [lateGo, hfa, alarmT, ht, hgt]
                clear HG hfa HF
                go_wp2_with fail
                have hn2 : (f : Int) + a * pe ≤ 20000 := by omega
                have W3 : IntKind.i64.wrap (no * st) = no * st := IntWalk.i64_in _ (by omega)
                have W4 : IntKind.i64.wrap (flowAt r g ((f : Int) + a * pe) - no * st) = flowAt r g ((f : Int) + a * pe) - no * st := IntWalk.i64_in _ (by omega)
                have W1 : IntKind.i64.wrap ((a : Int) * pe) = (a : Int) * pe := IntWalk.i64_in _ (by omega)
                have W2 : IntKind.i64.wrap ((f : Int) + (a : Int) * pe) = (f : Int) + (a : Int) * pe := IntWalk.i64_in _ (by omega)
                go_region_held3 (fun w' => w'.cell? ⟨w.heap.size, 1, none⟩ = some (.int .i64 pe) ∧ w'.cell? ⟨w.heap.size, 3, none⟩ = some (.int .i64 no) ∧ w'.cell? ⟨w.heap.size, 4, none⟩ = some (.int .i64 st) ∧ w'.cell? ⟨w.heap.size, 6, none⟩ = some (.int .i64 li)) (first | exact ⟨s1, s3, s4, s6⟩ | exact ⟨(hc _ _ hz0).trans s1, (hc _ _ hz0).trans s3, (hc _ _ hz0).trans s4, (hc _ _ hz0).trans s6⟩) (first | (go_at_call 67; (with_reducible refine (flow_any r g ((f : Int) + a * pe) _ HK.out hn2).mono ?_); rintro e w2 ⟨rfl, hb⟩; obtain ⟨hc, hf⟩ := bcell hb))
                clear W1 W2 W3 W4
                have B0' := B0.drew.below hb
                have B2' := B2.drew.below hb
                have B3' := B3.drew.below hb
                have hbw' : Below w.heap.size w w2 := by
                  repeat' (first | with_reducible exact Below.refl _ _ | with_reducible refine bstep ?_ (by with_reducible assumption) | with_reducible refine balloc ?_ | with_reducible refine bdrew ?_ | with_reducible refine bdrewN ?_ _ | with_reducible refine bset ?_ (by go_size))
                clear s1 s2 s3 s4 s5 s6 s7 k0 k1 k2 g0 g1 g2 e0 e1 e2 f0 f1 f2 hz0 hz B0 B2 B3 hbw hc hf hb
                obtain ⟨s1, s2, s3, s4, s5, s6, s7⟩ := sen_cells B0'
                obtain ⟨k0, k1, k2, g0, g1, g2⟩ := out_cells B3'
                obtain ⟨e0, e1, e2, f0, f1, f2⟩ := out_cells B2'
                have hz0 := B0'.lt
                have hz := B3'.lt
                go_wp2_with fail
                go_roundg k
                case measure => omega
                case rel => exact ⟨f + 1, ((f : Int) + (a + ho * (lo + 1) - 1) * pe + de, (f : Int), (a : Int)), by omega, by go_num, HG2, out_far B0' (by omega), out_far B2' (by omega), out_put (x := ((f : Int) + (a + ho * (lo + 1) - 1) * pe + de, (f : Int), (a : Int))) B3', out_below hbw' (by omega)⟩
              · have HG2 : Hid (lateGo ⟨2, pe, de, no, st, lo, li, ho⟩ r g k (f + 1) (oa, ob, oc) = lateF ⟨2, pe, de, no, st, lo, li, ho⟩ r g) := by
                  show _ = _
                  rw [← HG.out]; simp [lateGo, hfa, alarmT, ht, hgt]
                clear HG hfa HF
                go_wp2_with fail
                have hn2 : (f : Int) + a * pe ≤ 20000 := by omega
                have W3 : IntKind.i64.wrap (no * st) = no * st := IntWalk.i64_in _ (by omega)
                have W4 : IntKind.i64.wrap (flowAt r g ((f : Int) + a * pe) - no * st) = flowAt r g ((f : Int) + a * pe) - no * st := IntWalk.i64_in _ (by omega)
                have W1 : IntKind.i64.wrap ((a : Int) * pe) = (a : Int) * pe := IntWalk.i64_in _ (by omega)
                have W2 : IntKind.i64.wrap ((f : Int) + (a : Int) * pe) = (f : Int) + (a : Int) * pe := IntWalk.i64_in _ (by omega)
                go_region_held3 (fun w' => w'.cell? ⟨w.heap.size, 1, none⟩ = some (.int .i64 pe) ∧ w'.cell? ⟨w.heap.size, 3, none⟩ = some (.int .i64 no) ∧ w'.cell? ⟨w.heap.size, 4, none⟩ = some (.int .i64 st) ∧ w'.cell? ⟨w.heap.size, 6, none⟩ = some (.int .i64 li)) (first | exact ⟨s1, s3, s4, s6⟩ | exact ⟨(hc _ _ hz0).trans s1, (hc _ _ hz0).trans s3, (hc _ _ hz0).trans s4, (hc _ _ hz0).trans s6⟩) (first | (go_at_call 67; (with_reducible refine (flow_any r g ((f : Int) + a * pe) _ HK.out hn2).mono ?_); rintro e w2 ⟨rfl, hb⟩; obtain ⟨hc, hf⟩ := bcell hb))
                clear W1 W2 W3 W4
                have B0' := B0.drew.below hb
                have B2' := B2.drew.below hb
                have B3' := B3.drew.below hb
                have hbw' : Below w.heap.size w w2 := by
                  repeat' (first | with_reducible exact Below.refl _ _ | with_reducible refine bstep ?_ (by with_reducible assumption) | with_reducible refine balloc ?_ | with_reducible refine bdrew ?_ | with_reducible refine bdrewN ?_ _ | with_reducible refine bset ?_ (by go_size))
                clear s1 s2 s3 s4 s5 s6 s7 k0 k1 k2 g0 g1 g2 e0 e1 e2 f0 f1 f2 hz0 hz B0 B2 B3 hbw hc hf hb
                obtain ⟨s1, s2, s3, s4, s5, s6, s7⟩ := sen_cells B0'
                obtain ⟨k0, k1, k2, g0, g1, g2⟩ := out_cells B3'
                obtain ⟨e0, e1, e2, f0, f1, f2⟩ := out_cells B2'
                have hz0 := B0'.lt
                have hz := B3'.lt
                go_wp2_with fail
                go_roundg k
                case measure => omega
                case rel => exact ⟨f + 1, (oa, ob, oc), by omega, by go_num, HG2, B0', B2', B3', hbw'⟩
          · have HF2 : Hid (findA ⟨2, pe, de, no, st, lo, li, ho⟩ r g f j (a + 1) = firstA ⟨2, pe, de, no, st, lo, li, ho⟩ r g f) := by
              show _ = _
              rw [← HF.out]; simp [findA, hr, hsay, hv]
            clear HF
            go_wp2_with fail
            have hn2 : (f : Int) + a * pe ≤ 20000 := by omega
            have W3 : IntKind.i64.wrap (no * st) = no * st := IntWalk.i64_in _ (by omega)
            have W4 : IntKind.i64.wrap (flowAt r g ((f : Int) + a * pe) - no * st) = flowAt r g ((f : Int) + a * pe) - no * st := IntWalk.i64_in _ (by omega)
            have W1 : IntKind.i64.wrap ((a : Int) * pe) = (a : Int) * pe := IntWalk.i64_in _ (by omega)
            have W2 : IntKind.i64.wrap ((f : Int) + (a : Int) * pe) = (f : Int) + (a : Int) * pe := IntWalk.i64_in _ (by omega)
            go_region_held3 (fun w' => w'.cell? ⟨w.heap.size, 1, none⟩ = some (.int .i64 pe) ∧ w'.cell? ⟨w.heap.size, 3, none⟩ = some (.int .i64 no) ∧ w'.cell? ⟨w.heap.size, 4, none⟩ = some (.int .i64 st) ∧ w'.cell? ⟨w.heap.size, 6, none⟩ = some (.int .i64 li)) (first | exact ⟨s1, s3, s4, s6⟩ | exact ⟨(hc _ _ hz0).trans s1, (hc _ _ hz0).trans s3, (hc _ _ hz0).trans s4, (hc _ _ hz0).trans s6⟩) (first | (go_at_call 67; (with_reducible refine (flow_any r g ((f : Int) + a * pe) _ HK.out hn2).mono ?_); rintro e w2 ⟨rfl, hb⟩; obtain ⟨hc, hf⟩ := bcell hb))
            clear W1 W2 W3 W4
            have B0' := B0.drew.below hb
            have B2' := B2.drew.below hb
            have B3' := B3.drew.below hb
            have hbw' : Below w.heap.size w w2 := by
              repeat' (first | with_reducible exact Below.refl _ _ | with_reducible refine bstep ?_ (by with_reducible assumption) | with_reducible refine balloc ?_ | with_reducible refine bdrew ?_ | with_reducible refine bdrewN ?_ _ | with_reducible refine bset ?_ (by go_size))
            clear s1 s2 s3 s4 s5 s6 s7 k0 k1 k2 g0 g1 g2 e0 e1 e2 f0 f1 f2 hz0 hz B0 B2 B3 hbw hc hf hb
            obtain ⟨s1, s2, s3, s4, s5, s6, s7⟩ := sen_cells B0'
            obtain ⟨k0, k1, k2, g0, g1, g2⟩ := out_cells B3'
            obtain ⟨e0, e1, e2, f0, f1, f2⟩ := out_cells B2'
            have hz0 := B0'.lt
            have hz := B3'.lt
            go_wp2_with fail
            go_roundg j
            case measure => omega
            case rel => exact ⟨a + 1, by omega, by go_num, HF2, B0', B2', B3', hbw'⟩
        · have hfa : firstA ⟨2, pe, de, no, st, lo, li, ho⟩ r g f = none := by
            rw [← HF.out]
            cases gk <;> simp [findA, hr]
          have HV := Lib.hid (lateV_none (show lateF ⟨2, pe, de, no, st, lo, li, ho⟩ r g = none by rw [← HG.out]; simp [lateGo, hfa]))
          clear HG hfa HF
          go_wp2_with fail
          refine bodyPost_ret (v := .tuple #[.agg #[.int .i64 0, .int .i64 0, .int .i64 0], .bool false]) (by simp [results, Try.results79, go_sem, cell_put_same, e0, e1, e2]) rfl ?_
          refine ⟨by rw [HV.out], ?_⟩
          repeat' (first | with_reducible exact Below.refl _ _ | with_reducible refine bstep ?_ (by with_reducible assumption) | with_reducible refine balloc ?_ | with_reducible refine bdrew ?_ | with_reducible refine bdrewN ?_ _ | with_reducible refine bset ?_ (by go_size))

theorem late_any (s : Sen) (r g : Int) (w : World) (hs : SenOK s) (hk : KickOK r g) :
    Calls Try.prog 79 #[s.v, kickV r g] w fun e w' => e = .returned (lateV s r g) ∧ Below w.heap.size w w' := by
  obtain ⟨ch, pe, de, no, st, lo, li, ho⟩ := s
  obtain ⟨hkind, hr⟩ := hs
  rcases hkind with rfl | rfl
  · exact late_pit _ _ _ _ _ _ _ _ _ w hr hk
  · exact late_flow _ _ _ _ _ _ _ _ _ w hr hk

end Go.Proofs.Ytlbgcjpkegpmlaa
/- The contract of kick.Late. -/
namespace Go.Proofs.Ytlbgcjpkegpmlaa
open Go.RowKit

/-- What Late returns, of the program and of the reference. -/
def lateR (s : Sen) (r g : Int) : Int × Bool := if SenOK s ∧ KickOK r g then (match lateF s r g with | some (t, _, _) => (t, true) | none => (0, false)) else (0, false)
def lateRV (s : Sen) (r g : Int) : Value := .tuple #[.int .i64 (lateR s r g).1, .bool (lateR s r g).2]

theorem notSen {s : Sen} (h : ¬ SenOK s) : (¬ KindOK s) ∨ (KindOK s ∧ ¬ RangeOK s) := by
  unfold SenOK at h
  by_cases hk : KindOK s
  · exact .inr ⟨hk, fun hr => h ⟨hk, hr⟩⟩
  · exact .inl hk

theorem Late_any (s : Sen) (r g : Int) (w : World) :
    Calls Try.prog 49 #[s.v, kickV r g] w fun e w' => e = .returned (lateRV s r g) ∧ Below w.heap.size w w' := by
  by_cases hs : SenOK s
  · have HS := Lib.hid hs
    clear hs
    by_cases hk : KickOK r g
    · have HK := Lib.hid hk
      clear hk
      rcases hl : lateF s r g with _ | ⟨t, f, a⟩
      · have hv : lateRV s r g = .tuple #[.int .i64 0, .bool false] := by simp [lateRV, lateR, hl]
        have hV := Lib.hid (lateV_none hl)
        rw [hv]
        clear hv hl
        go_enter Try.func49, Try.ntmps49
        go_wp2_with (first
          | (go_at_call 40; refine (checkSensor_yes s _ HS.out).mono ?_; rintro e w1 ⟨rfl, hb⟩; obtain ⟨hc, hf⟩ := bcell hb; have hz0 : w.heap.size < w1.heap.size := (by have := hb.size; simp at this; omega); have hz1 : w.heap.size + 1 < w1.heap.size := (by have := hb.size; simp at this; omega))
          | (go_at_call 36; refine (checkKick_yes _ _ _ HK.out).mono ?_; rintro e w2 ⟨rfl, hb2⟩; obtain ⟨hc2, hf2⟩ := bcell hb2)
          | (go_at_call 79; refine (late_any s r g _ HS.out HK.out).mono ?_; rw [hV.out]; rintro e w3 ⟨rfl, hb3⟩))
        go_ret2
        refine ⟨rfl, ?_⟩
        repeat' (first | with_reducible exact Below.refl _ _ | with_reducible refine bstep ?_ (by with_reducible assumption) | with_reducible refine balloc ?_ | with_reducible refine bdrew ?_ | with_reducible refine bdrewN ?_ _ | with_reducible refine bset ?_ (by go_size))
      · have hv : lateRV s r g = .tuple #[.int .i64 t, .bool true] := by simp [lateRV, lateR, hl, HS.out, HK.out]
        have hV := Lib.hid (lateV_some hl)
        rw [hv]
        clear hv hl
        go_enter Try.func49, Try.ntmps49
        go_wp2_with (first
          | (go_at_call 40; refine (checkSensor_yes s _ HS.out).mono ?_; rintro e w1 ⟨rfl, hb⟩; obtain ⟨hc, hf⟩ := bcell hb; have hz0 : w.heap.size < w1.heap.size := (by have := hb.size; simp at this; omega); have hz1 : w.heap.size + 1 < w1.heap.size := (by have := hb.size; simp at this; omega))
          | (go_at_call 36; refine (checkKick_yes _ _ _ HK.out).mono ?_; rintro e w2 ⟨rfl, hb2⟩; obtain ⟨hc2, hf2⟩ := bcell hb2)
          | (go_at_call 79; refine (late_any s r g _ HS.out HK.out).mono ?_; rw [hV.out]; rintro e w3 ⟨rfl, hb3⟩))
        go_ret2
        refine ⟨rfl, ?_⟩
        repeat' (first | with_reducible exact Below.refl _ _ | with_reducible refine bstep ?_ (by with_reducible assumption) | with_reducible refine balloc ?_ | with_reducible refine bdrew ?_ | with_reducible refine bdrewN ?_ _ | with_reducible refine bset ?_ (by go_size))
    · have hv : lateRV s r g = .tuple #[.int .i64 0, .bool false] := by simp [lateRV, lateR, hk]
      rw [hv]
      clear hv
      have HK := Lib.hid hk
      clear hk
      go_enter Try.func49, Try.ntmps49
      go_wp2_with (first
        | (go_at_call 40; refine (checkSensor_yes s _ HS.out).mono ?_; rintro e w1 ⟨rfl, hb⟩; obtain ⟨hc, hf⟩ := bcell hb; have hz0 : w.heap.size < w1.heap.size := (by have := hb.size; simp at this; omega); have hz1 : w.heap.size + 1 < w1.heap.size := (by have := hb.size; simp at this; omega))
        | (go_at_call 36; refine (checkKick_no _ _ _ HK.out).mono ?_; rintro e w2 ⟨rfl, hb2⟩; obtain ⟨hc2, hf2⟩ := bcell hb2))
      go_ret2
      refine ⟨rfl, ?_⟩
      repeat' (first | with_reducible exact Below.refl _ _ | with_reducible refine bstep ?_ (by with_reducible assumption) | with_reducible refine balloc ?_ | with_reducible refine bdrew ?_ | with_reducible refine bdrewN ?_ _ | with_reducible refine bset ?_ (by go_size))
  · have hv : lateRV s r g = .tuple #[.int .i64 0, .bool false] := by simp [lateRV, lateR, hs]
    rw [hv]
    clear hv
    rcases notSen hs with hq | ⟨hq, hq2⟩
    · have HQ := Lib.hid hq
      clear hq hs
      go_enter Try.func49, Try.ntmps49
      go_wp2_with (go_at_call 40; refine (checkSensor_kind s _ HQ.out).mono ?_; rintro e w1 ⟨rfl, hb⟩; obtain ⟨hc, hf⟩ := bcell hb)
      go_ret2
      refine ⟨rfl, ?_⟩
      repeat' (first | with_reducible exact Below.refl _ _ | with_reducible refine bstep ?_ (by with_reducible assumption) | with_reducible refine balloc ?_ | with_reducible refine bdrew ?_ | with_reducible refine bdrewN ?_ _ | with_reducible refine bset ?_ (by go_size))
    · have HQ := Lib.hid hq
      have HQ2 := Lib.hid hq2
      clear hq hq2 hs
      go_enter Try.func49, Try.ntmps49
      go_wp2_with (go_at_call 40; refine (checkSensor_range s _ HQ.out HQ2.out).mono ?_; rintro e w1 ⟨rfl, hb⟩; obtain ⟨hc, hf⟩ := bcell hb)
      go_ret2
      refine ⟨rfl, ?_⟩
      repeat' (first | with_reducible exact Below.refl _ _ | with_reducible refine bstep ?_ (by with_reducible assumption) | with_reducible refine balloc ?_ | with_reducible refine bdrew ?_ | with_reducible refine bdrewN ?_ _ | with_reducible refine bset ?_ (by go_size))
end Go.Proofs.Ytlbgcjpkegpmlaa
/- What False computes: plain definitions, and that no number grows too great. -/
namespace Go.Proofs.Ytlbgcjpkegpmlaa

def sumTo (F : Nat → Int) : Nat → Int
  | 0 => 0
  | m + 1 => sumTo F m + F m
/-- How many of the errors x, x + 1, .. (so many) are high. -/
def highGo (st li : Int) : Nat → Int → Int → Int
  | 0, _, hi => hi
  | k + 1, x, hi => highGo st li k (x + 1) (if li ≤ x * st then hi + 1 else hi)
def highF (s : Sen) : Int := highGo s.st s.li (2 * s.no + 1).toNat (-s.no) 0
def stepRow (n h : Int) (ho : Nat) (R : Nat → Int) : Nat → Int := fun j => if j = 0 then sumTo (fun k => R k * (n - h)) ho else if j < ho then R (j - 1) * h else 0
def falseGo (n h : Int) (ho : Nat) : Nat → (Nat → Int) → Int → Int → Int × Int
  | 0, _, al, all => (al, all)
  | d + 1, R, al, all => falseGo n h ho d (stepRow n h ho R) (al * n + R (ho - 1) * h) (all * n)
def row0 : Nat → Int := fun j => if j = 0 then 1 else 0
def falseP (s : Sen) (draws : Nat) : Int × Int := falseGo (2 * s.no + 1) (highF s) s.ho.toNat draws row0 0 1
def falseF (s : Sen) (draws : Int) : Int × Int × Int :=
  if SenOK s then (if 1 ≤ draws ∧ draws ≤ 12 then ((falseP s draws.toNat).1, (falseP s draws.toNat).2, 0) else (0, 0, 2)) else (0, 0, checkSensor s)

theorem highGo_bd (st li : Int) (k : Nat) : ∀ x hi : Int, hi ≤ highGo st li k x hi ∧ highGo st li k x hi ≤ hi + k := by
  induction k with
  | zero => intro x hi; simp [highGo]
  | succ k ih =>
    intro x hi
    unfold highGo
    have h1 := ih (x + 1) (if li ≤ x * st then hi + 1 else hi)
    revert h1
    split <;> intro h1 <;> omega
theorem high_bd {s : Sen} (h : RangeOK s) : 0 ≤ highF s ∧ highF s ≤ 2 * s.no + 1 := by
  obtain ⟨h1, h2, h3, h4, h5, h6, -⟩ := h
  have := highGo_bd s.st s.li (2 * s.no + 1).toNat (-s.no) 0
  unfold highF
  omega

theorem sumTo_mul (F : Nat → Int) (c : Int) (m : Nat) : sumTo (fun k => F k * c) m = sumTo F m * c := by
  induction m with
  | zero => simp [sumTo]
  | succ m ih => simp [sumTo, ih, Int.add_mul]
theorem sumTo_nonneg {F : Nat → Int} (h : ∀ k, 0 ≤ F k) (m : Nat) : 0 ≤ sumTo F m := by
  induction m with
  | zero => simp [sumTo]
  | succ m ih => have := h m; simp [sumTo]; omega
theorem sumTo_mono {F : Nat → Int} (h : ∀ k, 0 ≤ F k) {m m' : Nat} (hm : m ≤ m') : sumTo F m ≤ sumTo F m' := by
  induction m' with
  | zero => obtain rfl : m = 0 := by omega
            exact Int.le_refl _
  | succ k ih =>
    by_cases e : m = k + 1
    · rw [e]; exact Int.le_refl _
    · have := ih (by omega)
      have h2 := h k
      simp [sumTo]; omega
theorem le_sumTo {F : Nat → Int} (h : ∀ k, 0 ≤ F k) {j m : Nat} (hj : j < m) : F j ≤ sumTo F m := by
  have h1 := sumTo_mono h (show j + 1 ≤ m from hj)
  have h2 := sumTo_nonneg h j
  simp [sumTo] at h1
  omega
theorem sumTo_congr {F G : Nat → Int} {m : Nat} (h : ∀ k, k < m → F k = G k) : sumTo F m = sumTo G m := by
  induction m with
  | zero => rfl
  | succ m ih => simp [sumTo, ih fun k hk => h k (by omega), h m (by omega)]
/-- the sum of a row that was moved by one -/
theorem sumTo_shift (R : Nat → Int) (a : Int) (h : Int) (m : Nat) : sumTo (fun j => if j = 0 then a else if j < m + 1 then R (j - 1) * h else 0) (m + 1) = a + sumTo R m * h := by
  have key : ∀ k, k ≤ m → sumTo (fun j => if j = 0 then a else if j < m + 1 then R (j - 1) * h else 0) (k + 1) = a + sumTo R k * h := by
    intro k
    induction k with
    | zero => intro _; simp [sumTo]
    | succ k ih =>
      intro hk
      rw [sumTo, ih (by omega)]
      simp [sumTo, Int.add_mul, show k < m from by omega]
      omega
  exact key m (Nat.le_refl _)

/-- What holds of the rows, of the alarms and of all, before each draw. -/
structure Rows9 (n h : Int) (ho i : Nat) (R : Nat → Int) (al all : Int) : Prop where
  pos : ∀ k, 0 ≤ R k
  al0 : 0 ≤ al
  one : 1 ≤ all
  sum : sumTo R ho + al = all
  pow : all ≤ n ^ i
theorem Rows9.start (n h : Int) (ho : Nat) (hh : 1 ≤ ho) : Rows9 n h ho 0 row0 0 1 := by
  refine ⟨fun k => by unfold row0; split <;> omega, by omega, by omega, ?_, by simp⟩
  have : ∀ m, sumTo row0 (m + 1) = 1 := by
    intro m
    induction m with
    | zero => simp [sumTo, row0]
    | succ m ih => rw [sumTo, ih]; simp [row0]
  obtain ⟨m, rfl⟩ : ∃ m, ho = m + 1 := ⟨ho - 1, by omega⟩
  rw [this]
  rfl
theorem Rows9.step {n h : Int} {ho i : Nat} {R : Nat → Int} {al all : Int} (hr : Rows9 n h ho i R al all) (hh : 1 ≤ ho) (h0 : 0 ≤ h) (h1 : h ≤ n) (hn : 1 ≤ n) :
    Rows9 n h ho (i + 1) (stepRow n h ho R) (al * n + R (ho - 1) * h) (all * n) := by
  obtain ⟨m, rfl⟩ : ∃ m, ho = m + 1 := ⟨ho - 1, by omega⟩
  refine ⟨fun k => ?_, ?_, ?_, ?_, ?_⟩
  · unfold stepRow
    split
    · rw [sumTo_mul]; exact Int.mul_nonneg (sumTo_nonneg hr.pos _) (by omega)
    · split
      · exact Int.mul_nonneg (hr.pos _) h0
      · omega
  · have h2 := Int.mul_nonneg hr.al0 (show 0 ≤ n from by omega)
    have h3 := Int.mul_nonneg (hr.pos (m + 1 - 1)) h0
    omega
  · exact mul_one_le hr.one hn
  · have hs : stepRow n h (m + 1) R = fun j => if j = 0 then sumTo (fun k => R k * (n - h)) (m + 1) else if j < m + 1 then R (j - 1) * h else 0 := rfl
    rw [hs, sumTo_shift, sumTo_mul]
    have e := hr.sum
    rw [← e]
    simp only [sumTo, Nat.add_sub_cancel, Int.add_mul, Int.mul_sub]
    omega
  · rw [Int.pow_succ]
    exact Int.mul_le_mul_of_nonneg_right hr.pow (by omega)
theorem pow_mono {a b : Int} (h : 0 ≤ a) (hab : a ≤ b) (i : Nat) : a ^ i ≤ b ^ i ∧ 0 ≤ a ^ i := by
  induction i with
  | zero => simp
  | succ i ih =>
    rw [Int.pow_succ, Int.pow_succ]
    exact ⟨Int.mul_le_mul ih.1 hab h (Int.le_trans ih.2 ih.1), Int.mul_nonneg ih.2 h⟩
theorem pow31 (i : Nat) (h : i ≤ 11) : (31 : Int) ^ i ≤ 25408476896404831 := by
  have : i = 0 ∨ i = 1 ∨ i = 2 ∨ i = 3 ∨ i = 4 ∨ i = 5 ∨ i = 6 ∨ i = 7 ∨ i = 8 ∨ i = 9 ∨ i = 10 ∨ i = 11 := by omega
  rcases this with rfl | rfl | rfl | rfl | rfl | rfl | rfl | rfl | rfl | rfl | rfl | rfl <;> decide
theorem Rows9.small {n h : Int} {ho i : Nat} {R : Nat → Int} {al all : Int} (hr : Rows9 n h ho i R al all) (hn : 0 ≤ n) (h31 : n ≤ 31) (hi : i ≤ 11) :
    all ≤ 25408476896404831 ∧ al ≤ 25408476896404831 ∧ sumTo R ho ≤ 25408476896404831 ∧ ∀ k, k < ho → R k ≤ 25408476896404831 := by
  have h1 := pow31 i hi
  have h2 := (pow_mono hn h31 i).1
  have h3 := hr.pow
  have h4 := hr.sum
  have h5 := hr.al0
  have h6 := sumTo_nonneg hr.pos ho
  refine ⟨by omega, by omega, by omega, fun k hk => ?_⟩
  have := le_sumTo hr.pos hk
  omega
/-- A row in the making: so many of the old one's cells are through. -/
def partRow (n h : Int) (R : Nat → Int) (m : Nat) : Nat → Int := fun j => if j = 0 then sumTo (fun k => R k * (n - h)) m else if j < m + 1 then R (j - 1) * h else 0
theorem partRow_zero (n h : Int) (R : Nat → Int) (j : Nat) : partRow n h R 0 j = 0 := by
  unfold partRow
  split
  · rfl
  · split
    · omega
    · rfl
theorem partRow_succ (n h : Int) (R : Nat → Int) (m j : Nat) :
    (if j = m + 1 then R m * h else if j = 0 then sumTo (fun k => R k * (n - h)) m + R m * (n - h) else partRow n h R m j) = partRow n h R (m + 1) j := by
  unfold partRow
  by_cases h0 : j = 0
  · subst h0; simp [sumTo]
  · by_cases h1 : j = m + 1
    · subst h1; simp
    · by_cases h2 : j < m + 1
      · simp [h0, h1, h2, show j < m + 1 + 1 from by omega]
      · simp [h0, h1, h2, show ¬ j < m + 1 + 1 from by omega]
theorem partRow_full (n h : Int) (R : Nat → Int) (ho j : Nat) (hj : j < ho) : partRow n h R ho j = stepRow n h ho R j := by
  unfold partRow stepRow
  by_cases h0 : j = 0
  · simp [h0]
  · simp [h0, hj, show j < ho + 1 from by omega]
theorem partRow_step (n h : Int) (R : Nat → Int) (ho j : Nat) (hh : 1 ≤ ho) : (if j = ho then 0 else partRow n h R ho j) = stepRow n h ho R j := by
  unfold partRow stepRow
  by_cases h0 : j = 0
  · subst h0; simp [show ¬ 0 = ho from by omega]
  · by_cases h1 : j = ho
    · subst h1; simp [h0]
    · by_cases h2 : j < ho
      · simp [h0, h1, h2, show j < ho + 1 from by omega]
      · simp [h0, h1, h2, show ¬ j < ho + 1 from by omega]
end Go.Proofs.Ytlbgcjpkegpmlaa
/- A block of n integers, told by a function. -/
namespace Go.Proofs.Ytlbgcjpkegpmlaa
open Go.RowKit

def fcells (n : Nat) (F : Nat → Int) : Array Value := ((List.range n).map fun j => Value.int .i64 (F j)).toArray
/-- Block b holds just the n integers F 0, F 1, .. -/
def FB (w : World) (b : Nat) (t : TypeId) (n : Nat) (F : Nat → Int) : Prop := Blk w b t (fcells n F)
section
variable {w w' : World} {b n : Nat} {t : TypeId} {F G : Nat → Int}
theorem FB.lt (h : FB w b t n F) : b < w.heap.size := Blk.lt h
theorem FB.cell (h : FB w b t n F) (i : Nat) (hi : i < n) : w.cell? ⟨b, i, none⟩ = some (.int .i64 (F i)) := Blk.cell h i (by simp [fcells, hi])
theorem FB.froz (h : FB w b t n F) (i : Nat) : w.frozen? ⟨b, i, none⟩ = false := Blk.froz h i
theorem fcells_congr (h : ∀ j, j < n → F j = G j) : fcells n F = fcells n G := by
  unfold fcells
  rw [List.map_congr_left (fun j hj => by rw [h j (by simpa using hj)])]
theorem FB.congr (h : FB w b t n F) (hg : ∀ j, j < n → F j = G j) : FB w b t n G := by
  unfold FB at h ⊢
  rwa [← fcells_congr hg]
theorem fcells_set (i : Nat) (x : Int) : (fcells n F).setIfInBounds i (.int .i64 x) = fcells n fun j => if j = i then x else F j := by
  apply Array.ext_getElem?
  intro j
  simp only [fcells, List.setIfInBounds_toArray, List.getElem?_toArray, List.getElem?_set, List.length_map, List.length_range, List.getElem?_map]
  by_cases hj : j < n
  · by_cases e : i = j
    · subst e; simp [hj]
    · have e' : ¬ j = i := fun h => e h.symm
      simp [hj, e, e']
  · by_cases e : i = j
    · subst e; simp [hj]
    · simp [hj, e]
theorem FB.put (h : FB w b t n F) (i : Nat) (x : Int) : FB (w.setCell ⟨b, i, none⟩ (.int .i64 x)) b t n fun j => if j = i then x else F j := by
  have := Blk.put h i (.int .i64 x)
  rw [fcells_set] at this
  exact this
theorem FB.far (h : FB w b t n F) {p : Addr} (hp : b ≠ p.block) (u : Value) : FB (w.setCell p u) b t n F := Blk.far h hp u
theorem FB.alloc (h : FB w b t n F) (o : Obj) : FB (w.alloc o) b t n F := Blk.alloc h o
theorem FB.below (h : FB w b t n F) (hb : Below w.heap.size w w') : FB w' b t n F := Blk.below h hb
end
theorem fcells9 (F : Nat → Int) : fcells 9 F = #[.int .i64 (F 0), .int .i64 (F 1), .int .i64 (F 2), .int .i64 (F 3), .int .i64 (F 4), .int .i64 (F 5), .int .i64 (F 6), .int .i64 (F 7), .int .i64 (F 8)] := by
  simp [fcells, List.range, List.range.loop]
theorem FB.new9 (w : World) (t : TypeId) (F : Nat → Int) : FB (w.alloc (.cells #[.int .i64 (F 0), .int .i64 (F 1), .int .i64 (F 2), .int .i64 (F 3), .int .i64 (F 4), .int .i64 (F 5), .int .i64 (F 6), .int .i64 (F 7), .int .i64 (F 8)] t)) w.heap.size t 9 F := by
  rw [← fcells9]; exact Blk.new w t _
theorem FB.cells9 {w : World} {b : Nat} {t : TypeId} {F : Nat → Int} (h : FB w b t 9 F) :
    w.cell? ⟨b, 0, none⟩ = some (.int .i64 (F 0)) ∧ w.cell? ⟨b, 1, none⟩ = some (.int .i64 (F 1)) ∧ w.cell? ⟨b, 2, none⟩ = some (.int .i64 (F 2)) ∧ w.cell? ⟨b, 3, none⟩ = some (.int .i64 (F 3)) ∧ w.cell? ⟨b, 4, none⟩ = some (.int .i64 (F 4)) ∧
    w.cell? ⟨b, 5, none⟩ = some (.int .i64 (F 5)) ∧ w.cell? ⟨b, 6, none⟩ = some (.int .i64 (F 6)) ∧ w.cell? ⟨b, 7, none⟩ = some (.int .i64 (F 7)) ∧ w.cell? ⟨b, 8, none⟩ = some (.int .i64 (F 8)) :=
  ⟨h.cell 0 (by omega), h.cell 1 (by omega), h.cell 2 (by omega), h.cell 3 (by omega), h.cell 4 (by omega), h.cell 5 (by omega), h.cell 6 (by omega), h.cell 7 (by omega), h.cell 8 (by omega)⟩
theorem FB.put9 {w : World} {b : Nat} {t : TypeId} {F G : Nat → Int} (h : FB w b t 9 F) :
    FB (((((((((w.setCell ⟨b, 0, none⟩ (.int .i64 (G 0))).setCell ⟨b, 1, none⟩ (.int .i64 (G 1))).setCell ⟨b, 2, none⟩ (.int .i64 (G 2))).setCell ⟨b, 3, none⟩ (.int .i64 (G 3))).setCell ⟨b, 4, none⟩ (.int .i64 (G 4))).setCell ⟨b, 5, none⟩ (.int .i64 (G 5))).setCell ⟨b, 6, none⟩ (.int .i64 (G 6))).setCell ⟨b, 7, none⟩ (.int .i64 (G 7))).setCell ⟨b, 8, none⟩ (.int .i64 (G 8))) b t 9 G :=
  (((((((((h.put 0 (G 0)).put 1 (G 1)).put 2 (G 2)).put 3 (G 3)).put 4 (G 4)).put 5 (G 5)).put 6 (G 6)).put 7 (G 7)).put 8 (G 8)).congr fun j hj => by
    have : j = 0 ∨ j = 1 ∨ j = 2 ∨ j = 3 ∨ j = 4 ∨ j = 5 ∨ j = 6 ∨ j = 7 ∨ j = 8 := by omega
    rcases this with rfl | rfl | rfl | rfl | rfl | rfl | rfl | rfl | rfl <;> simp
theorem Blk.far9 {w : World} {b c : Nat} {t : TypeId} {cs : Array Value} {x0 x1 x2 x3 x4 x5 x6 x7 x8 : Value} (h : Blk w b t cs) (hc : b ≠ c) :
    Blk (((((((((w.setCell ⟨c, 0, none⟩ x0).setCell ⟨c, 1, none⟩ x1).setCell ⟨c, 2, none⟩ x2).setCell ⟨c, 3, none⟩ x3).setCell ⟨c, 4, none⟩ x4).setCell ⟨c, 5, none⟩ x5).setCell ⟨c, 6, none⟩ x6).setCell ⟨c, 7, none⟩ x7).setCell ⟨c, 8, none⟩ x8) b t cs :=
  ((((((((h.far hc _).far hc _).far hc _).far hc _).far hc _).far hc _).far hc _).far hc _).far hc _
theorem below9 {w w1 : World} {c : Nat} {x0 x1 x2 x3 x4 x5 x6 x7 x8 : Value} (h : Below w.heap.size w w1) (hc : w.heap.size ≤ c) :
    Below w.heap.size w (((((((((w1.setCell ⟨c, 0, none⟩ x0).setCell ⟨c, 1, none⟩ x1).setCell ⟨c, 2, none⟩ x2).setCell ⟨c, 3, none⟩ x3).setCell ⟨c, 4, none⟩ x4).setCell ⟨c, 5, none⟩ x5).setCell ⟨c, 6, none⟩ x6).setCell ⟨c, 7, none⟩ x7).setCell ⟨c, 8, none⟩ x8) :=
  ((((((((h.setCell hc _).setCell hc _).setCell hc _).setCell hc _).setCell hc _).setCell hc _).setCell hc _).setCell hc _).setCell hc _
theorem fcells_made (n : Nat) : madeCells #[.int .i64 0] n = fcells n fun _ => 0 := by
  apply Array.ext_getElem?
  intro i
  by_cases h : i < n
  · simp [madeCells, fcells, h, Nat.mod_one]
  · simp [madeCells, fcells, h]
/-- make of n integers, of whatever type: the block that is made, and that nothing else has turned. -/
theorem make_ints {P : Program} {t e : TypeId} {bytes : Nat} (ht : P.underlying t = some (.slice e)) (hi : (P.info? e).map (fun i => (i.zero, i.size, i.bytes)) = some (some (.int .i64 0), 1, bytes)) (kl kc : IntKind) (n : Nat) (hb : bytes * n ≤ 281474976710656) (hn : n ≤ 9223372036854775807) (w : World) :
    ∃ w', (Instr.makeSlice t (.int kl (n : Int)) (.int kc (n : Int))).run P w = .ok (.slice (some ⟨w.heap.size, 0, none⟩) n n) w' ∧ FB w' w.heap.size e n (fun _ => 0) ∧ Below w.heap.size w w' ∧ w'.heap.size = w.heap.size + 1 :=
  ⟨_, run_make_row' t e (.int .i64 0) bytes ht hi rfl kl kc n hb hn w, by rw [fcells_made]; exact Blk.new w e _, balloc (Below.refl _ _), by simp⟩
end Go.Proofs.Ytlbgcjpkegpmlaa
/- The contract of kick.False. -/
namespace Go.Proofs.Ytlbgcjpkegpmlaa
open Go.RowKit


theorem arr96 : Try.prog.arrayLen 96 = 9 := by kernel_rfl
theorem elem96 (w : World) : (sizeOf (Try.prog.elem 96)).run Try.prog w = .ok 1 w := by kernel_rfl
theorem und96 : Try.prog.underlying 96 = some (.array (Try.prog.arrayLen 96) (Try.prog.elem 96)) := by kernel_rfl
theorem slice96 (q : Nat) (hq : q ≤ 9) (b : Nat) (w : World) : (Instr.sliceAt 96 (.pointer (some ⟨b, 0, none⟩)) none (some (.int .i64 (q : Int))) none).run Try.prog w = .ok (.slice (some ⟨b, 0, none⟩) q 9) w := by
  rw [run_sliceAt_array_h w 96 ⟨b, 0, none⟩ und96 .i64 q (by omega) (by rw [arr96]; omega), elem96, arr96]
  simp [slicedAt, Result.andThen, Addr.add]

set_option maxHeartbeats 2000000 in
set_option maxRecDepth 100000 in
theorem False_ok (ch pe de no st lo li d : Int) (q : Nat) (w : World) (hk : KindOK ⟨ch, pe, de, no, st, lo, li, q⟩) (hs : RangeOK ⟨ch, pe, de, no, st, lo, li, q⟩) (hd1 : 1 ≤ d) (hd2 : d ≤ 12) :
    Calls Try.prog 17 #[.agg #[.int .i64 ch, .int .i64 pe, .int .i64 de, .int .i64 no, .int .i64 st, .int .i64 lo, .int .i64 li, .int .i64 q], .int .i64 d] w fun e w' =>
      e = .returned (.tuple #[.int .i64 (falseP ⟨ch, pe, de, no, st, lo, li, q⟩ d.toNat).1, .int .i64 (falseP ⟨ch, pe, de, no, st, lo, li, q⟩ d.toNat).2, .int .i64 0]) ∧ Below w.heap.size w w' := by
  have HS := Lib.hid (show SenOK ⟨ch, pe, de, no, st, lo, li, q⟩ from ⟨hk, hs⟩)
  have hhi := high_bd hs
  obtain ⟨h1, h2, h3, h4, h5, h6, h7, h8, h9, h10, h11, h12, h13, h14⟩ := hs
  simp only at h1 h2 h3 h4 h5 h6 h7 h8 h9 h10 h11 h12 h13 h14 hhi
  obtain ⟨hh0, hh1⟩ := hhi
  clear hk
  go_enter Try.func17, Try.ntmps17
  go_wp2_with fail
  refine (checkSensor_yes ⟨ch, pe, de, no, st, lo, li, q⟩ _ HS.out).mono ?_
  rintro e w1 ⟨rfl, hb⟩
  have B0 : Blk w1 w.heap.size 23 (senCells ch pe de no st lo li q) := (Blk.new w _ _).below hb
  have hbw : Below w.heap.size w w1 := by
    repeat' (first | with_reducible exact Below.refl _ _ | with_reducible refine bstep ?_ (by with_reducible assumption) | with_reducible refine balloc ?_ | with_reducible refine bdrew ?_ | with_reducible refine bdrewN ?_ _ | with_reducible refine bset ?_ (by go_size))
  obtain ⟨s1, s2, s3, s4, s5, s6, s7⟩ := sen_cells B0
  clear hb
  have hd3 : ¬ (d < 1) := by omega
  have hd4 : ¬ (12 < d) := by omega
  go_wp2_with fail
  -- the high errors
  have HF : Hid (highGo st li (2 * no + 1).toNat (-no) 0 = highF ⟨ch, pe, de, no, st, lo, li, q⟩) := rfl
  go_loopg [9, 10] ((2 * no + 1).toNat) (fun k v9 v10 wx => ∃ x hi : Int, (k : Int) + x = no + 1 ∧ -no ≤ x ∧ 0 ≤ hi ∧ hi + k ≤ 31 ∧ v9 = .int .i64 hi ∧ v10 = .int .i64 x ∧ Hid (highGo st li k x hi = highF ⟨ch, pe, de, no, st, lo, li, q⟩) ∧ w1 = wx)
  case atStart => exact ⟨-no, 0, by omega, by omega, by omega, by omega, rfl, rfl, HF, rfl⟩
  case round =>
    obtain ⟨x, h, hkx, hx1, hhi1, hhi2, rfl, rfl, HG, rfl⟩ := hrel
    clear HF
    cases gk with
    | succ k =>
      have hx : x ≤ no := by omega
      have hxs : -15728640 ≤ x * st ∧ x * st ≤ 31457280 := by
        have e := mul_bd (by omega : 0 ≤ x + 15) (by omega : x + 15 ≤ 30) (by omega : 0 ≤ st) h8
        have e2 := mul_bd (by omega : (0 : Int) ≤ 15) (by omega : (15 : Int) ≤ 15) (by omega : 0 ≤ st) h8
        rw [Int.add_mul] at e
        omega
      obtain ⟨hxs1, hxs2⟩ := hxs
      by_cases hv : li ≤ x * st
      · have HG2 : Hid (highGo st li k (x + 1) (h + 1) = highF ⟨ch, pe, de, no, st, lo, li, q⟩) := by
          show _ = _
          rw [← HG.out]; simp [highGo, hv]
        clear HG
        go_wp2_with fail
        go_roundg k
        case measure => omega
        case rel => exact ⟨x + 1, h + 1, by omega, by omega, by omega, by omega, by go_num, by go_num, HG2, rfl⟩
      · have HG2 : Hid (highGo st li k (x + 1) h = highF ⟨ch, pe, de, no, st, lo, li, q⟩) := by
          show _ = _
          rw [← HG.out]; simp [highGo, hv]
        clear HG
        go_wp2_with fail
        go_roundg k
        case measure => omega
        case rel => exact ⟨x + 1, h, by omega, by omega, by omega, by omega, rfl, by go_num, HG2, rfl⟩
    | zero =>
      have hx : no < x := by omega
      have hh : h = highF ⟨ch, pe, de, no, st, lo, li, q⟩ := HG.out
      rw [← hh] at hh0 hh1
      have HH := Lib.hid hh.symm
      clear hh HG
      have hw1 := B0.lt
      have HG : Hid (falseGo (2 * no + 1) h q d.toNat row0 0 1 = falseP ⟨ch, pe, de, no, st, lo, li, q⟩ d.toNat) := by
        show _ = _
        unfold falseP
        rw [HH.out, Int.toNat_natCast]
      go_wp2_with fail
      -- the rows
      go_loopg [4, 5, 50] (d.toNat) (fun k v4 v5 v50 wx => ∃ (j : Nat) (R : Nat → Int) (al all : Int), k + j = d.toNat ∧ v50 = .int .i64 j ∧ v4 = .int .i64 al ∧ v5 = .int .i64 all ∧ Hid (falseGo (2 * no + 1) h q k R al all = falseP ⟨ch, pe, de, no, st, lo, li, q⟩ d.toNat) ∧ Rows9 (2 * no + 1) h q j R al all ∧
        Blk wx w.heap.size 23 (senCells ch pe de no st lo li q) ∧ FB wx w1.heap.size 96 9 R ∧ Below w.heap.size w wx)
      case atStart =>
        exact ⟨0, row0, 0, 1, rfl, rfl, rfl, rfl, HG, Rows9.start _ _ _ (by omega), B0.alloc _, FB.new9 w1 96 row0, balloc hbw⟩
      case round =>
        clear HG s1 s2 s3 s4 s5 s6 s7
        obtain ⟨j, R, al, all, hkj, rfl, rfl, rfl, HG, HR, B1, F1, hbx⟩ := hrel
        obtain ⟨s1, s2, s3, s4, s5, s6, s7⟩ := sen_cells B1
        have hz0 := B1.lt
        have hz1 := F1.lt
        cases gk with
        | zero =>
          have hjd : ¬ ((j : Int) < d) := by omega
          have HV : Hid ((al, all) = falseP ⟨ch, pe, de, no, st, lo, li, q⟩ d.toNat) := HG.out
          clear HG
          go_wp2_with fail
          go_ret3
          rw [← HV.out]
          exact ⟨rfl, hbx⟩
        | succ k =>
          have hjd : (j : Int) < d := by omega
          have HG2 : Hid (falseGo (2 * no + 1) h q k (stepRow (2 * no + 1) h q R) (al * (2 * no + 1) + R (q - 1) * h) (all * (2 * no + 1)) = falseP ⟨ch, pe, de, no, st, lo, li, q⟩ d.toNat) := HG.out
          clear HG
          have HR2 := HR.step (by omega) hh0 (by omega) (by omega)
          obtain ⟨b1, b2, b3, b4⟩ := HR.small (by omega) (by omega) (by omega)
          obtain ⟨d1, d2⟩ := mul_bd HR.al0 b2 (by omega : 0 ≤ 2 * no + 1) (by omega : 2 * no + 1 ≤ 31)
          obtain ⟨d3, d4⟩ := mul_bd (by have := HR.one; omega : 0 ≤ all) b1 (by omega : 0 ≤ 2 * no + 1) (by omega : 2 * no + 1 ≤ 31)
          obtain ⟨c0, c1, c2, c3, c4, c5, c6, c7, c8⟩ := F1.cells9
          have g0 := F1.froz 0
          have g1 := F1.froz 1
          have g2 := F1.froz 2
          have g3 := F1.froz 3
          have g4 := F1.froz 4
          have g5 := F1.froz 5
          have g6 := F1.froz 6
          have g7 := F1.froz 7
          have g8 := F1.froz 8
          have HB4 := Lib.hid b4
          clear b4
          have hsl := slice96 q (by omega) wr.heap.size
          have hnew : ∀ W' : World, W'.heap.size = wr.heap.size → FB (W'.alloc (.cells #[.int .i64 (R 0), .int .i64 (R 1), .int .i64 (R 2), .int .i64 (R 3), .int .i64 (R 4), .int .i64 (R 5), .int .i64 (R 6), .int .i64 (R 7), .int .i64 (R 8)] 96)) wr.heap.size 96 9 R := fun W' e => by rw [← e]; exact FB.new9 W' 96 R
          have HN := Lib.hid hnew
          clear hnew
          obtain ⟨wo, rfl⟩ : ∃ wo : World, wo = wr := ⟨_, rfl⟩
          go_wp2_with fail
          go_loopg [58] q (fun z v58 wy => ∃ m : Nat, z + m = q ∧ v58 = .int .i64 m ∧ Blk wy w.heap.size 23 (senCells ch pe de no st lo li q) ∧ FB wy wo.heap.size 96 9 R ∧ FB wy w1.heap.size 96 9 (partRow (2 * no + 1) h R m) ∧ Below w.heap.size w wy)
          case atStart =>
            refine ⟨0, rfl, rfl, (B1.far9 (by omega)).alloc _, HN.out _ (by simp), ((F1.put9 (G := fun _ => 0)).alloc _).congr (fun j _ => (partRow_zero _ _ _ j).symm), balloc (below9 hbx (by omega))⟩
          case round =>
            clear HN hsl c0 c1 c2 c3 c4 c5 c6 c7 c8 g0 g1 g2 g3 g4 g5 g6 g7 g8 s1 s2 s3 s4 s5 s6 s7
            obtain ⟨m, hzm, rfl, B2, F2, F3, hby⟩ := hrel
            obtain ⟨s1, s2, s3, s4, s5, s6, s7⟩ := sen_cells B2
            have hz2 := B2.lt
            have hz3 := F3.lt
            have hz4 := F2.lt
            cases gk with
            | zero =>
              obtain rfl : m = q := by omega
              have hlt : ¬ ((m : Int) < (m : Int)) := by omega
              have e0 : partRow (2 * no + 1) h R m m = R (m - 1) * h := by simp [partRow, show ¬ m = 0 from by omega]
              obtain ⟨p1, p2⟩ := mul_bd (HR.pos (m - 1)) (HB4.out (m - 1) (by omega)) hh0 (by omega : h ≤ 31)
              have cm := F3.cell m (by omega)
              rw [e0] at cm
              have gm := F3.froz m
              clear e0
              have HE := Lib.hid HR2
              clear HR2
              go_wp2_with fail
              go_roundg k
              case measure => omega
              case rel =>
                exact ⟨j + 1, stepRow (2 * no + 1) h m R, al * (2 * no + 1) + R (m - 1) * h, all * (2 * no + 1), by omega, by go_num, rfl, rfl, HG2, HE.out, B2.far (by simp; omega) _, (F3.put m 0).congr (fun j _ => partRow_step _ _ _ _ _ (by omega)), bset hby (by simp; omega)⟩
            | succ z =>
              have hlt : (m : Int) < (q : Int) := by omega
              have e0 : partRow (2 * no + 1) h R m 0 = sumTo (fun k => R k * (2 * no + 1 - h)) m := by simp [partRow]
              have e1 : partRow (2 * no + 1) h R m (m + 1) = 0 := by simp [partRow]
              have cm := F2.cell m (by omega)
              have c0 := F3.cell 0 (by omega)
              have c1 := F3.cell (m + 1) (by omega)
              rw [e0] at c0
              rw [e1] at c1
              have g0 := F3.froz 0
              have g1 := F3.froz (m + 1)
              clear e0 e1
              obtain ⟨p1, p2⟩ := mul_bd (HR.pos m) (HB4.out m (by omega)) hh0 (by omega : h ≤ 31)
              obtain ⟨p3, p4⟩ := mul_bd (HR.pos m) (HB4.out m (by omega)) (by omega : 0 ≤ 2 * no + 1 - h) (by omega : 2 * no + 1 - h ≤ 31)
              have p5 : 0 ≤ sumTo (fun k => R k * (2 * no + 1 - h)) m := sumTo_nonneg (fun k => Int.mul_nonneg (HR.pos k) (by omega)) m
              have p6 : sumTo (fun k => R k * (2 * no + 1 - h)) m ≤ 25408476896404831 * 31 := by
                rw [sumTo_mul]
                exact (mul_bd (sumTo_nonneg HR.pos m) (Int.le_trans (sumTo_mono HR.pos (by omega : m ≤ q)) b3) (by omega) (by omega)).2
              generalize hS : sumTo (fun k => R k * (2 * no + 1 - h)) m = S at c0 p5 p6
              have HS2 := Lib.hid hS
              clear hS
              go_wp2_with fail
              go_roundg z
              case measure => omega
              case rel =>
                exact ⟨m + 1, by omega, by go_num, (B2.far (by simp; omega) _).far (by simp; omega) _, (F2.far (by simp; omega) _).far (by simp; omega) _, ((F3.put 0 (S + R m * (2 * no + 1 - h))).put (m + 1) (R m * h)).congr (fun j _ => by rw [← HS2.out]; exact partRow_succ _ _ _ _ _), bset (bset hby (by simp; omega)) (by simp; omega)⟩
end Go.Proofs.Ytlbgcjpkegpmlaa
/- The contract of awake: the chapter's examples hold. -/
namespace Go.Proofs.Ytlbgcjpkegpmlaa
open Go.RowKit

theorem shown_any (w : World) : Calls Try.prog 63 #[] w fun e w' => e = .returned (kickV 1000 100) ∧ Below w.heap.size w w' := by
  go_enter Try.func63, Try.ntmps63
  go_wp2
  go_returns
  refine ⟨rfl, ?_⟩
  repeat' (first | with_reducible exact Below.refl _ _ | with_reducible refine bstep ?_ (by with_reducible assumption) | with_reducible refine balloc ?_ | with_reducible refine bdrew ?_ | with_reducible refine bdrewN ?_ _ | with_reducible refine bset ?_ (by go_size))
theorem pit_any (w : World) : Calls Try.prog 64 #[] w fun e w' => e = .returned (Sen.v ⟨1, 10, 5, 2, 1000, 1, 20000, 2⟩) ∧ Below w.heap.size w w' := by
  go_enter Try.func64, Try.ntmps64
  go_wp2
  go_returns
  refine ⟨rfl, ?_⟩
  repeat' (first | with_reducible exact Below.refl _ _ | with_reducible refine bstep ?_ (by with_reducible assumption) | with_reducible refine balloc ?_ | with_reducible refine bdrew ?_ | with_reducible refine bdrewN ?_ _ | with_reducible refine bset ?_ (by go_size))
theorem flow_any' (w : World) : Calls Try.prog 65 #[] w fun e w' => e = .returned (Sen.v ⟨2, 1, 0, 0, 1, 0, 3000, 1⟩) ∧ Below w.heap.size w w' := by
  go_enter Try.func65, Try.ntmps65
  go_wp2
  go_returns
  refine ⟨rfl, ?_⟩
  repeat' (first | with_reducible exact Below.refl _ _ | with_reducible refine bstep ?_ (by with_reducible assumption) | with_reducible refine balloc ?_ | with_reducible refine bdrew ?_ | with_reducible refine bdrewN ?_ _ | with_reducible refine bset ?_ (by go_size))

theorem late_ex : lateRV ⟨1, 10, 5, 2, 1000, 1, 20000, 2⟩ 1000 100 = .tuple #[.int .i64 58, .bool true] := by
  have h : lateF ⟨1, 10, 5, 2, 1000, 1, 20000, 2⟩ 1000 100 = some (58, 3, 2) := by decide +kernel
  have hs : SenOK ⟨1, 10, 5, 2, 1000, 1, 20000, 2⟩ := by decide
  have hk : KickOK 1000 100 := by decide
  simp [lateRV, lateR, h, hs, hk]
theorem false_ex : falseP ⟨1, 1, 0, 2, 1000, 0, 1000, 2⟩ 3 = (32, 125) := by decide +kernel
theorem gain_ex : gainF 1000 100 3 = 3300 := by decide +kernel

theorem awake_any (w : World) : Calls Try.prog 19 #[] w fun e w' => e = .returned (.bool true) ∧ Below w.heap.size w w' := by
  go_enter Try.func19, Try.ntmps19
  go_wp2_with fail
  refine (pit_any _).mono ?_
  rintro e w1 ⟨rfl, hb1⟩
  go_wp2_with fail
  refine (shown_any _).mono ?_
  rintro e w2 ⟨rfl, hb2⟩
  go_wp2_with fail
  refine (Late_any ⟨1, 10, 5, 2, 1000, 1, 20000, 2⟩ 1000 100 _).mono ?_
  rw [late_ex]
  rintro e w3 ⟨rfl, hb3⟩
  go_wp2_with fail
  refine (False_ok 1 1 0 2 1000 0 1000 3 2 _ (by decide) (by decide) (by omega) (by omega)).mono ?_
  rw [show (3 : Int).toNat = 3 from rfl, show ((2 : Nat) : Int) = 2 from rfl, false_ex]
  rintro e w4 ⟨rfl, hb4⟩
  go_wp2_with fail
  refine (shown_any _).mono ?_
  rintro e w5 ⟨rfl, hb5⟩
  go_wp2_with fail
  refine (Gain_any 1000 100 3 _).mono ?_
  rw [gain_ex]
  rintro e w6 ⟨rfl, hb6⟩
  go_wp2_with fail
  go_ret
  refine ⟨rfl, ?_⟩
  repeat' (first | with_reducible exact Below.refl _ _ | with_reducible refine bstep ?_ (by with_reducible assumption) | with_reducible refine balloc ?_ | with_reducible refine bdrew ?_ | with_reducible refine bdrewN ?_ _ | with_reducible refine bset ?_ (by go_size))
end Go.Proofs.Ytlbgcjpkegpmlaa
/- The chapter's examples, for the table. -/
namespace Go.Proofs.Ytlbgcjpkegpmlaa
open Go.RowKit
theorem awake_ok : tab.ok 19 := by
  refine Tab.of_ct rfl rfl ⟨_, Try.func19, by decide, rfl⟩ ?_ ctF_det
  intro Base w vs cs hB hr _
  match vs, hr with
  | [], hr =>
    refine (awake_any w).mono ?_
    rintro e w' ⟨rfl, hb⟩
    have hv : vecB (kindsOf ctAwake.res) [C.b true] = [] := rfl
    refine ⟨_, [.b true], [], rfl, ⟨[.bool true], rfl, ?_, by rw [hv]; exact List.nodup_nil, fun b hb => (by rw [hv] at hb; cases hb)⟩, rfl, rfl, Keeps.of_below hb fun i hi => hi.1⟩
    exact ⟨[.b true], [], rfl, ⟨.b true, rfl, fun n => (by cases n <;> trivial), true, rfl, rfl⟩, rfl⟩
end Go.Proofs.Ytlbgcjpkegpmlaa
/- The call of KickPossible. -/
namespace Go.Proofs.Ytlbgcjpkegpmlaa
open Go.RowKit
theorem kinds_sample : kinds Try.prog 40 = some (List.replicate 3 .int) := by kernel_rfl
theorem walk_KickPossible (s0 s1 s2 s3 s4 s5 s6 s7 r g b : Int) (A : Option Addr) (n k : Nat) (B : Option Addr) (m k' : Nat) (at_ y0 y1 y2 : Int) (W : World) (hs : ∀ n ∈ [s0, s1, s2, s3, s4, s5, s6, s7], -9223372036854775808 ≤ n ∧ n ≤ 9223372036854775807)
    (hk : ∀ n ∈ [r, g], -9223372036854775808 ≤ n ∧ n ≤ 9223372036854775807) (hb : -9223372036854775808 ≤ b ∧ b ≤ 9223372036854775807) (hl : RowsIn W W.heap.size A n 3) (hN : NumsAt W W.heap.size B m) (ha : -9223372036854775808 ≤ at_ ∧ at_ ≤ 9223372036854775807) (hy : ∀ n ∈ [y0, y1, y2], -9223372036854775808 ≤ n ∧ n ≤ 9223372036854775807) :
    Calls Try.prog 5 #[.agg #[.int .i64 s0, .int .i64 s1, .int .i64 s2, .int .i64 s3, .int .i64 s4, .int .i64 s5, .int .i64 s6, .int .i64 s7], .agg #[.int .i64 r, .int .i64 g], .int .i64 b, .slice A n k, .slice B m k', .int .i64 at_, .agg #[.int .i64 y0, .int .i64 y1, .int .i64 y2]] W
      fun e w' => e = .returned (.bool true) ∧ Below W.heap.size W w' := by
  obtain ⟨rows, hr⟩ := rep_rows (c := k) kinds_sample hl
  obtain ⟨rows2, hr2⟩ := rep_nums (c := k') hN
  exact law_walk (possible_ok awake_ok) rfl (rep_agg [s0, s1, s2, s3, s4, s5, s6, s7] hs (rep_agg [r, g] hk (rep_lf hb (rep_arr hr (rep_arr hr2 (rep_lf ha (rep_agg [y0, y1, y2] hy rfl)))))))
end Go.Proofs.Ytlbgcjpkegpmlaa
namespace Go.Proofs.Ytlbgcjpkegpmlaa.lawKickPossible
open Go.ChangeShapes Go.WideShapes Go.ChangeAt Go.RowKit
set_option linter.unusedVariables false

set_option maxRecDepth 100000 in
theorem lifted (os : Os) (started : os.Started) (H : Type) (enc : TypeId × Value → H) :
    ReturnsInHanded {} Try.checked os 5 .any (Rows.kickPossibleSpec.pre6 enc Try.prog Try.f5 Rows.kickPossibleRow.domain false) (Rows.kickPossibleSpec.post enc Try.prog Try.f5 false true false false) := by
  refine returnsInHanded_of_change (C := Try.checked) own started (by kernel_rfl) Try.func5
    (ChangeSpec.witness6 (enc := enc) (C := Try.checked) false ⟨#[], #[.agg #[.int .i64 0, .int .i64 0, .int .i64 0, .int .i64 0, .int .i64 0, .int .i64 0, .int .i64 0, .int .i64 0], .agg #[.int .i64 0, .int .i64 0], .int .i64 0, .slice none 0 0, .slice none 0 0, .int .i64 0, .agg #[.int .i64 0, .int .i64 0, .int .i64 0]], []⟩ 8 (by kernel_rfl) (by kernel_rfl) (by kernel_rfl) (by kernel_rfl)) ?_
  intro W base args ds gs before hval0 hW hcnd _
  have hval : ∀ (j : Nat) t v, Try.f5.params[j]? = some t → args[j]? = some v → Value.okWide Try.prog W .any base t v := hval0
  have hW' := hW
  obtain ⟨p, q, hA0, hV, rfl, hfz, hnd⟩ := hW
  have hA : DataW.TrodAll enc Try.prog W 0 (fun _ => true) true Try.f5.params.toList args.toList ds p := hA0
  rw [Try.params5] at hA hval
  obtain ⟨v0, vs0, d0, ds0, p0, q0, hargs, rfl, rfl, h0, r0⟩ := trodAll_cons hA
  obtain ⟨v1, vs1, d1, ds1, p1, q1, rfl, rfl, rfl, h1, r1⟩ := trodAll_cons r0
  obtain ⟨v2, vs2, d2, ds2, p2, q2, rfl, rfl, rfl, h2, r2⟩ := trodAll_cons r1
  obtain ⟨v3, vs3, d3, ds3, p3, q3, rfl, rfl, rfl, h3, r3⟩ := trodAll_cons r2
  obtain ⟨v4, vs4, d4, ds4, p4, q4, rfl, rfl, rfl, h4, r4⟩ := trodAll_cons r3
  obtain ⟨v5, vs5, d5, ds5, p5, q5, rfl, rfl, rfl, h5, r5⟩ := trodAll_cons r4
  obtain ⟨v6, vs6, d6, ds6, p6, q6, rfl, rfl, rfl, h6, r6⟩ := trodAll_cons r5
  obtain ⟨rfl, rfl, rfl⟩ := trodAll_nil r6
  obtain rfl : args = #[v0, v1, v2, v3, v4, v5, v6] := by cases args; simp_all
  obtain ⟨rfl, rfl⟩ := trodVars_none hV
  have k0 := h0
  have lt0 : ∀ x ∈ p0, x.block < W.heap.size := by obtain ⟨m, hm⟩ := k0; exact DataW.trod_lt m _ _ _ hm
  obtain ⟨ns0, e0, l0, b0⟩ := open_struct (k := 4) Try.underlying23 (by kernel_rfl) (hval 0 23 v0 rfl rfl) h0
  rw [show Try.prog.cellsOf 23 = 8 from by kernel_rfl] at l0
  obtain ⟨s0_0, s0_1, s0_2, s0_3, s0_4, s0_5, s0_6, s0_7, rfl⟩ := list_len8 l0
  simp only [List.map_cons, List.map_nil] at e0
  subst e0
  have k1 := h1
  have lt1 : ∀ x ∈ p1, x.block < W.heap.size := by obtain ⟨m, hm⟩ := k1; exact DataW.trod_lt m _ _ _ hm
  obtain ⟨ns1, e1, l1, b1⟩ := open_struct (k := 4) Try.underlying31 (by kernel_rfl) (hval 1 31 v1 rfl rfl) h1
  rw [show Try.prog.cellsOf 31 = 2 from by kernel_rfl] at l1
  obtain ⟨s1_0, s1_1, rfl⟩ := list_len2 l1
  simp only [List.map_cons, List.map_nil] at e1
  subst e1
  have k2 := h2
  have lt2 : ∀ x ∈ p2, x.block < W.heap.size := by obtain ⟨m, hm⟩ := k2; exact DataW.trod_lt m _ _ _ hm
  obtain ⟨a2, e2, -, -, wf2⟩ := open_int Try.underlying2 (hval 2 2 v2 rfl rfl) h2
  subst e2
  have b2 := wf_bd wf2
  have k3 := h3
  have lt3 : ∀ x ∈ p3, x.block < W.heap.size := by obtain ⟨m, hm⟩ := k3; exact DataW.trod_lt m _ _ _ hm
  obtain ⟨A3, n3, c3, e3, b3⟩ := open_rows (W := W) (k := 4) Try.underlying38 (by kernel_rfl) (by rw [show Try.prog.cellsOf 40 = 3 from by kernel_rfl]; omega) (hval 3 38 v3 rfl rfl) h3
  rw [show Try.prog.cellsOf 40 = 3 from by kernel_rfl] at b3
  subst e3
  have k4 := h4
  have lt4 : ∀ x ∈ p4, x.block < W.heap.size := by obtain ⟨m, hm⟩ := k4; exact DataW.trod_lt m _ _ _ hm
  obtain ⟨A4, n4, c4, e4, b4⟩ := open_nums (W := W) Try.underlying29 Try.underlying3 (by kernel_rfl) (hval 4 29 v4 rfl rfl) h4
  subst e4
  have k5 := h5
  have lt5 : ∀ x ∈ p5, x.block < W.heap.size := by obtain ⟨m, hm⟩ := k5; exact DataW.trod_lt m _ _ _ hm
  obtain ⟨a5, e5, -, -, wf5⟩ := open_int Try.underlying3 (hval 5 3 v5 rfl rfl) h5
  subst e5
  have b5 := wf_bd wf5
  have k6 := h6
  have lt6 : ∀ x ∈ p6, x.block < W.heap.size := by obtain ⟨m, hm⟩ := k6; exact DataW.trod_lt m _ _ _ hm
  obtain ⟨ns6, e6, l6, b6⟩ := open_struct (k := 4) Try.underlying40 (by kernel_rfl) (hval 6 40 v6 rfl rfl) h6
  rw [show Try.prog.cellsOf 40 = 3 from by kernel_rfl] at l6
  obtain ⟨s6_0, s6_1, s6_2, rfl⟩ := list_len3 l6
  simp only [List.map_cons, List.map_nil] at e6
  subst e6
  clear hA0 hval0
  refine (walk_KickPossible s0_0 s0_1 s0_2 s0_3 s0_4 s0_5 s0_6 s0_7 s1_0 s1_1 a2 A3 n3 c3 A4 n4 c4 a5 s6_0 s6_1 s6_2 W b0 b1 b2 b3 b4 b5 b6).mono fun e W' ⟨he, bel⟩ => ?_
  subst he
  exact ⟨_, rfl, _, _, _, [], _, [], hW', trodAll_mk1 (shut_bool Try.underlying4 _), (trodAll_cons_mk (Below.trod laidOut (by kernel_rfl) (of_decide_eq_true (by kernel_rfl)) k0 bel lt0) (trodAll_cons_mk (Below.trod laidOut (by kernel_rfl) (of_decide_eq_true (by kernel_rfl)) k1 bel lt1) (trodAll_cons_mk (Below.trod laidOut (by kernel_rfl) (of_decide_eq_true (by kernel_rfl)) k2 bel lt2) (trodAll_cons_mk (Below.trod laidOut (by kernel_rfl) (of_decide_eq_true (by kernel_rfl)) k3 bel lt3) (trodAll_cons_mk (Below.trod laidOut (by kernel_rfl) (of_decide_eq_true (by kernel_rfl)) k4 bel lt4) (trodAll_cons_mk (Below.trod laidOut (by kernel_rfl) (of_decide_eq_true (by kernel_rfl)) k5 bel lt5) (trodAll_cons_mk (Below.trod laidOut (by kernel_rfl) (of_decide_eq_true (by kernel_rfl)) k6 bel lt6) trodAll_mk0))))))), rfl, bel.frame _, fun h => by cases h⟩

theorem over : Rows.kickPossibleRow.holds Try.pinned (OpenSpec.ofChange Rows.kickPossibleSpec) :=
  OpenClaim.holds_of_wide 5 Try.f5 rfl rfl rfl rfl rfl rfl rfl ⟨rfl, rfl, rfl, rfl, rfl⟩ rfl rfl rfl rfl rfl (by kernel_rfl) Try.func5 (by kernel_rfl)
    (of_decide_eq_true (by kernel_rfl)) (by unfold Func.isWrapper; first | (rw [if_pos (by decide +kernel)]; kernel_rfl) | (rw [if_neg (by decide +kernel)]; exact ⟨rfl, rfl⟩))
    (fun os started H enc _ => lifted os started H enc)

theorem proved : Rows.KickPossibleSaid := over
#print axioms proved
end Go.Proofs.Ytlbgcjpkegpmlaa.lawKickPossible
