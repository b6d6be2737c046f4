/- Late, earliest, Latest, Caught. -/
import Derived.Test.YtlbgcjpkegpmlaaXK
namespace Go.Proofs.Ytlbgcjpkegpmlaa
open Go.RowKit
set_option linter.unusedSimpArgs false
set_option linter.unusedVariables false

theorem latC_some {o p q : Int} {t : Bool} {v : Option (Int × Int × Int)} (h : [C.i o, .i p, .i q, .b t] = latC v) : (t = true → v = some (o, p, q)) ∧ (t = false → v = none ∧ o = 0) := by
  cases v with
  | none => cases h; exact ⟨fun h => (by cases h), fun _ => ⟨rfl, rfl⟩⟩
  | some v => obtain ⟨a, b, c⟩ := v; cases h; exact ⟨fun _ => rfl, fun h => (by cases h)⟩
theorem late_ok : tab.ok 49 := by
  refine Tab.of_ct rfl rfl ⟨_, Try.func49, by decide, rfl⟩ ?_ ctF_det
  refine ct_ok (cx := clate) (Tab.cx_ok (all_cons sens_ok (all_cons kick_ok (all_cons latek_ok all_nil)))) Try.func49 (bds := []) (T := tlate) (by kernel_rfl) ?_
  have h1 : clate.ct 40 = some ctSens := rfl
  have h2 : clate.ct 36 = some ctKick := rfl
  have h3 : clate.ct 79 = some ctLatek := rfl
  unfold tlate
  simp only [VC, allC, List.map_cons, List.map_nil, List.length_cons, List.length_nil, List.getElem?_cons_zero, List.getElem?_cons_succ, List.cons.injEq, C.i.injEq, C.b.injEq, and_true, true_and, forall_const, kindsOf_nil, kindsOf_lf, kindsOf_agg, kindsOf_box, boxKinds_nil, boxKinds_lf, boxKinds_agg, boxKinds_box, List.append_nil, List.cons_append, List.nil_append, den_cmp_le, den_cmp_lt, den_cmp_eq, den_cmp_ne, den_cmp_le', den_cmp_lt', den_cmp_eq', den_cmp_ne', den_and, den_and', den_or, den_or', den_not, den_not', den_blit, den_of, ev_var, at_0, at_1, at_2, at_3, at_4, at_5, at_6, at_7, at_skip, c_int, c_bool, c_arr, c_cnt, c_vec, ev_nil, ev_join, ev_sub3, loc_s, int_i, bool_b, rows_s, cs_nil, cs_cons, E.den_lit, E.den_var, E.den_add, E.den_sub, E.den_mul, E.den_quo, E.den_rem, E.den_max, E.den_min, E.den_len, E.den_wr, E.den_cell, h1, h2, h3, ctLate, ctSens, ctKick, ctLatek, ctWorst, ctF, kickSh, sensSh, skOf_mk]; intro ch _ _ pe _ _ de _ _ no _ _ st _ _ lo _ _ li _ _ ho _ _ r _ _ g _ _; generalize hX : SK.mk ch pe de no st lo li ho r g = X; have hok : SKOk X ↔ sensE ch pe de no st lo li ho = 0 ∧ KOk r g := by { rw [← hX]; exact Iff.rfl }; have no : ¬ SKOk X → latE X = [.i 0, .b false] := fun h => if_neg h; have yes : SKOk X → latE X = (match atO (latV X) with | some o => [.i o, .b true] | none => [.i 0, .b false]) := fun h => if_pos h; refine ⟨bds_nil _, ?_⟩; rintro e _ _ rfl; refine ⟨fun h => (by rw [no fun h' => h (hok.1 h').1]), fun hs => ?_⟩; rintro e _ _ rfl; refine ⟨fun h => (by rw [no fun h' => h (kickE_iff.2 (hok.1 h').2)]), fun hk => ?_⟩; have ok := hok.2 ⟨hs, kickE_iff.1 hk⟩; refine ⟨ok, ?_⟩; rintro o _ _ p _ _ q _ _ t h; obtain ⟨t1, t2⟩ := latC_some h; rw [yes ok]; cases t; (obtain ⟨t3, t4⟩ := t2 rfl; rw [t3, t4]; rfl); (rw [t1 rfl]; rfl)
theorem drop_getD {rows : List (List C)} {k : Nat} (h : k < rows.length) : rows.drop k = rows.getD k [] :: rows.drop (k + 1) := by
  rw [List.drop_eq_getElem_cons h, List.getD_eq_getElem?_getD, List.getElem?_eq_getElem h]
  rfl
theorem min_ok : tab.ok 91 := by
  refine Tab.of_ct rfl rfl ⟨_, Try.func91, by decide, rfl⟩ ?_ ctF_det
  refine ct_ok (cx := cmin) (Tab.cx_ok all_nil) Try.func91 (bds := []) (T := tmin) (by kernel_rfl) ?_
  unfold tmin
  simp only [VC, allC, List.map_cons, List.map_nil, List.length_cons, List.length_nil, List.getElem?_cons_zero, List.getElem?_cons_succ, List.cons.injEq, C.i.injEq, C.b.injEq, and_true, true_and, forall_const, kindsOf_nil, kindsOf_lf, kindsOf_agg, kindsOf_box, boxKinds_nil, boxKinds_lf, boxKinds_agg, boxKinds_box, List.append_nil, List.cons_append, List.nil_append, den_cmp_le, den_cmp_lt, den_cmp_eq, den_cmp_ne, den_cmp_le', den_cmp_lt', den_cmp_eq', den_cmp_ne', den_and, den_and', den_or, den_or', den_not, den_not', den_blit, den_of, ev_var, at_0, at_1, at_2, at_3, at_4, at_5, at_6, at_7, at_skip, c_int, c_bool, c_arr, c_cnt, c_vec, ev_nil, ev_join, ev_sub3, loc_s, int_i, bool_b, rows_s, cs_nil, cs_cons, E.den_lit, E.den_var, E.den_add, E.den_sub, E.den_mul, E.den_quo, E.den_rem, E.den_max, E.den_min, E.den_len, E.den_wr, E.den_cell, ctMin, ctF]
  intro v rows d _ _ hne
  have hpos : 0 < rows.length := List.length_pos_iff.2 hne
  refine ⟨bds_nil _, fun h => by omega, fun h => ⟨by omega, fun xs => match xs with | [.i m, .i i] => 1 ≤ i ∧ i ≤ rows.length ∧ minR rows = minL m (rows.drop i.toNat) | _ => False, fun xs => match xs with | [_, .i i] => ((rows.length : Int) - i).toNat | _ => 0, ⟨by omega, by omega, rfl⟩, ?_⟩⟩
  rintro m _ _ i _ _ ⟨i1, i2, hI⟩
  refine ⟨fun hlt => ⟨by omega, hlt, ⟨by omega, by omega, ?_⟩, show ((rows.length : Int) - (i + 1)).toNat < ((rows.length : Int) - i).toNat by omega⟩, fun hge => ?_⟩
  · rw [hI, drop_getD (by omega), minL, show (i + 1).toNat = i.toNat + 1 by omega]
    rfl
  · rw [hI, show i.toNat = rows.length by omega, List.drop_length]
    rfl
theorem atsL_snoc {r g : Int} {row : List C} : ∀ {l : List (List C)}, atsL r g (l ++ [row]) = atsL r g l ++ (match atO (latV (skR r g row)) with | some o => [[.i o]] | none => [])
  | [] => by
    show atsL r g [row] = [] ++ _
    rw [List.nil_append, atsL]
    cases atO (latV (skR r g row)) <;> rfl
  | x :: l => by
    show atsL r g (x :: (l ++ [row])) = _
    rw [atsL, atsL]
    rw [atsL_snoc (l := l)]
    cases atO (latV (skR r g x)) <;> rfl
theorem atsL_len {r g : Int} : ∀ {l : List (List C)}, (atsL r g l).length ≤ l.length
  | [] => Nat.le_refl _
  | x :: l => by
    rw [atsL]
    have := atsL_len (r := r) (g := g) (l := l)
    cases atO (latV (skR r g x)) <;> simp only [List.length_cons] <;> omega
theorem firstE_all {k : Nat} : ∀ {rows : List (List C)}, firstE rows = 0 → k < rows.length → sensRow (rows.getD k []) = 0 := by
  induction k with
  | zero =>
    intro rows h hl
    cases rows with
    | nil => cases hl
    | cons x l =>
      rw [firstE] at h
      split at h
      · rename_i h0; exact h0
      · exact h
  | succ k ih =>
    intro rows h hl
    cases rows with
    | nil => cases hl
    | cons x l =>
      rw [firstE] at h
      split at h
      · simpa using ih h (by simpa using hl)
      · rename_i h0; exact absurd h h0
theorem take_getD {rows : List (List C)} {k : Nat} (h : k < rows.length) : rows.take (k + 1) = rows.take k ++ [rows.getD k []] := by
  rw [List.take_add_one, List.getD_eq_getElem?_getD, List.getElem?_eq_getElem h]
  rfl
theorem earl_ok : tab.ok 80 := by
  refine Tab.of_ct rfl rfl ⟨_, Try.func80, by decide, rfl⟩ ?_ ctF_det
  refine ct_ok (cx := cearl) (Tab.cx_ok (all_cons latek_ok (all_cons min_ok all_nil))) Try.func80 (bds := []) (T := tearl) (by kernel_rfl) ?_
  have h1 : cearl.ct 79 = some ctLatek := rfl
  have h2 : cearl.ct 91 = some ctMin := rfl
  unfold tearl
  simp only [VC, allC, List.map_cons, List.map_nil, List.length_cons, List.length_nil, List.getElem?_cons_zero, List.getElem?_cons_succ, List.cons.injEq, C.i.injEq, C.b.injEq, and_true, true_and, forall_const, kindsOf_nil, kindsOf_lf, kindsOf_agg, kindsOf_box, boxKinds_nil, boxKinds_lf, boxKinds_agg, boxKinds_box, List.append_nil, List.cons_append, List.nil_append, den_cmp_le, den_cmp_lt, den_cmp_eq, den_cmp_ne, den_cmp_le', den_cmp_lt', den_cmp_eq', den_cmp_ne', den_and, den_and', den_or, den_or', den_not, den_not', den_blit, den_of, ev_var, at_0, at_1, at_2, at_3, at_4, at_5, at_6, at_7, at_skip, c_int, c_bool, c_arr, c_cnt, c_vec, ev_nil, ev_join, ev_sub3, loc_s, int_i, bool_b, rows_s, cs_nil, cs_cons, E.den_lit, E.den_var, E.den_add, E.den_sub, E.den_mul, E.den_quo, E.den_rem, E.den_max, E.den_min, E.den_len, E.den_wr, E.den_cell, h1, h2, ctEarl, ctLatek, ctMin, ctF, kickSh, sensSh, skOf_mk]
  intro v rows d _ _ r _ _ g _ _ hp
  obtain ⟨hl, hs, hk⟩ := hp
  refine ⟨bds_nil _, fun xs => match xs with | [.s _ all, .i i] => 0 ≤ i ∧ i ≤ rows.length ∧ all = atsL r g (rows.take i.toNat) | _ => False, fun xs => match xs with | [_, .i i] => ((rows.length : Int) - i).toNat | _ => 0, ⟨by omega, by omega, rfl⟩, ?_⟩
  rintro u all _ _ _ i _ _ ⟨i0, i1, hI⟩
  refine ⟨fun hlt => ⟨i0, hlt, ⟨?_, hk⟩, ?_⟩, fun hge => ?_⟩
  · have hz : i.toNat < rows.length := by omega
    exact firstE_all hs hz
  · have ht := take_getD (rows := rows) (k := i.toNat) (by omega)
    have hsn := atsL_snoc (r := r) (g := g) (row := rows.getD i.toNat []) (l := rows.take i.toNat)
    have hln := atsL_len (r := r) (g := g) (l := rows.take i.toNat)
    rw [← ht, show i.toNat + 1 = (i + 1).toNat by omega] at hsn
    rw [List.length_take] at hln
    rintro o _ _ p _ _ q _ _ t h
    obtain ⟨t1, t2⟩ := latC_some (v := latV (skR r g (rows.getD i.toNat []))) h
    refine ⟨fun ht => ⟨?_, fun _ => ⟨⟨by omega, by omega, ?_⟩, show ((rows.length : Int) - (i + 1)).toNat < ((rows.length : Int) - i).toNat by omega⟩⟩, fun ht => ⟨⟨by omega, by omega, ?_⟩, show ((rows.length : Int) - (i + 1)).toNat < ((rows.length : Int) - i).toNat by omega⟩⟩
    · rw [hI]; omega
    · rw [hsn, t1 ht, ← hI]; rfl
    · rw [hsn, (t2 ht).1, ← hI]; exact (List.append_nil _).symm
  · rw [show i.toNat = rows.length by omega, List.take_length] at hI
    rw [hI]
    refine ⟨fun h => ?_, fun h => ⟨fun h' => h (by rw [h']; rfl), ?_⟩⟩
    · unfold earlC
      rw [if_pos (List.eq_nil_of_length_eq_zero (by omega))]
    · rintro m _ _ rfl
      unfold earlC
      rw [if_neg (fun h' => h (by rw [h']; rfl))]
theorem sensorsE_zero {rows : List (List C)} (h : sensorsE rows = 0) : rows.length ≠ 0 ∧ rows.length ≤ 4 ∧ firstE rows = 0 := by
  unfold sensorsE at h
  split at h
  · cases h
  · split at h
    · cases h
    · rename_i h1 h2; exact ⟨h1, by omega, h⟩
theorem kicksE_zero {a b c d : Int} (h : kicksE a b c d = 0) : KOk a c ∧ a ≤ b ∧ c ≤ d ∧ KOk b d := by
  unfold kicksE at h
  split at h
  · rename_i h1; exact ⟨h1.2.2.1, h1.1, h1.2.1, h1.2.2.2⟩
  · cases h
theorem latest_ok : tab.ok 50 := by
  refine Tab.of_ct rfl rfl ⟨_, Try.func50, by decide, rfl⟩ ?_ ctF_det
  refine ct_ok (cx := clatest) (Tab.cx_ok (all_cons sensors_ok (all_cons kicks_ok (all_cons least_ok (all_cons earl_ok all_nil))))) Try.func50 (bds := []) (T := tlatest) (by kernel_rfl) ?_
  have h1 : clatest.ct 42 = some ctSensors := rfl
  have h2 : clatest.ct 38 = some ctKicks := rfl
  have h3 : clatest.ct 75 = some ctLeast := rfl
  have h4 : clatest.ct 80 = some ctEarl := rfl
  unfold tlatest
  simp only [VC, allC, List.map_cons, List.map_nil, List.length_cons, List.length_nil, List.getElem?_cons_zero, List.getElem?_cons_succ, List.cons.injEq, C.i.injEq, C.b.injEq, and_true, true_and, forall_const, kindsOf_nil, kindsOf_lf, kindsOf_agg, kindsOf_box, boxKinds_nil, boxKinds_lf, boxKinds_agg, boxKinds_box, List.append_nil, List.cons_append, List.nil_append, den_cmp_le, den_cmp_lt, den_cmp_eq, den_cmp_ne, den_cmp_le', den_cmp_lt', den_cmp_eq', den_cmp_ne', den_and, den_and', den_or, den_or', den_not, den_not', den_blit, den_of, ev_var, at_0, at_1, at_2, at_3, at_4, at_5, at_6, at_7, at_skip, c_int, c_bool, c_arr, c_cnt, c_vec, ev_nil, ev_join, ev_sub3, loc_s, int_i, bool_b, rows_s, cs_nil, cs_cons, E.den_lit, E.den_var, E.den_add, E.den_sub, E.den_mul, E.den_quo, E.den_rem, E.den_max, E.den_min, E.den_len, E.den_wr, E.den_cell, h1, h2, h3, h4, ctLatest, ctSensors, ctKicks, ctLeast, ctEarl, ctF, kickSh, kicksSh]; intro v rows d _ hsm a _ _ b _ _ c _ _ e _ _; refine ⟨bds_nil _, ?_⟩; rintro x _ _ rfl; refine ⟨fun h => (by unfold latestC; rw [if_neg h]), fun hs => ?_⟩; rintro x _ _ rfl; refine ⟨fun h => (by unfold latestC; rw [if_pos hs, if_neg h]), fun hk => ?_⟩; rintro x _ _ y _ _ ⟨rfl, rfl⟩; obtain ⟨s1, s2, s3⟩ := sensorsE_zero hs; refine ⟨⟨by omega, s3, (kicksE_zero hk).1⟩, ?_⟩; rintro m _ _ f _ _ h; rw [h]; unfold latestC; rw [if_pos hs, if_pos hk]
theorem caught_ok : tab.ok 51 := by
  refine Tab.of_ct rfl rfl ⟨_, Try.func51, by decide, rfl⟩ ?_ ctF_det
  refine ct_ok (cx := ccaught) (Tab.cx_ok (all_cons sensors_ok (all_cons kick_ok (all_cons gain_ok (all_cons earl_ok all_nil))))) Try.func51 (bds := []) (T := tcaught) (by kernel_rfl) ?_
  have h1 : ccaught.ct 42 = some ctSensors := rfl
  have h2 : ccaught.ct 36 = some ctKick := rfl
  have h3 : ccaught.ct 23 = some ctGain := rfl
  have h4 : ccaught.ct 80 = some ctEarl := rfl
  unfold tcaught
  simp only [VC, allC, List.map_cons, List.map_nil, List.length_cons, List.length_nil, List.getElem?_cons_zero, List.getElem?_cons_succ, List.cons.injEq, C.i.injEq, C.b.injEq, and_true, true_and, forall_const, kindsOf_nil, kindsOf_lf, kindsOf_agg, kindsOf_box, boxKinds_nil, boxKinds_lf, boxKinds_agg, boxKinds_box, List.append_nil, List.cons_append, List.nil_append, den_cmp_le, den_cmp_lt, den_cmp_eq, den_cmp_ne, den_cmp_le', den_cmp_lt', den_cmp_eq', den_cmp_ne', den_and, den_and', den_or, den_or', den_not, den_not', den_blit, den_of, ev_var, at_0, at_1, at_2, at_3, at_4, at_5, at_6, at_7, at_skip, c_int, c_bool, c_arr, c_cnt, c_vec, ev_nil, ev_join, ev_sub3, loc_s, int_i, bool_b, rows_s, cs_nil, cs_cons, E.den_lit, E.den_var, E.den_add, E.den_sub, E.den_mul, E.den_quo, E.den_rem, E.den_max, E.den_min, E.den_len, E.den_wr, E.den_cell, h1, h2, h3, h4, ctCaught, ctSensors, ctKick, ctGain, ctEarl, ctF, kickSh]; intro v rows d _ hsm r _ _ g _ _; refine ⟨bds_nil _, ?_⟩; rintro x _ _ rfl; refine ⟨fun h => (by unfold caughtC; rw [if_neg h]), fun hs => ?_⟩; rintro x _ _ rfl; refine ⟨fun h => (by unfold caughtC; rw [if_pos hs, if_neg h]), fun hk => ?_⟩; obtain ⟨s1, s2, s3⟩ := sensorsE_zero hs; refine ⟨⟨by omega, s3, kickE_iff.1 hk⟩, ?_⟩; rintro m _ _ f _ _ h; unfold earlC at h; unfold caughtC; rw [if_pos hs, if_pos hk]; by_cases hn : atsL r g rows = []; (rw [if_pos hn] at h ⊢; cases h; exact ⟨fun _ => rfl, fun h => absurd h (by decide)⟩); (rw [if_neg hn] at h ⊢; cases h; exact ⟨fun h => absurd rfl h, fun _ n _ _ hn => (by rw [hn])⟩)
end Go.Proofs.Ytlbgcjpkegpmlaa
