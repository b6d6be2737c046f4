/- What the functions of chapter 6's first statements compute: proved. -/
import Derived.Test.YtlbgcjpkegpmlaaXT
import Derived.Test.YtlbgcjpkegpmlaaPm
namespace Go.Proofs.Ytlbgcjpkegpmlaa
open Go.RowKit
set_option linter.unusedSimpArgs false
set_option linter.unusedVariables false

theorem floor_ok : tab.ok 72 := by
  refine Tab.of_ct rfl rfl ⟨_, Try.func72, by decide, rfl⟩ ?_ ctF_det
  refine ct_ok (cx := cfloor) (Tab.cx_ok all_nil) Try.func72 (bds := []) (T := tfloor) (by kernel_rfl) ?_
  unfold tfloor
  simp only [VC, allC, List.map_cons, List.map_nil, List.length_cons, List.length_nil, List.getElem?_cons_zero, List.getElem?_cons_succ, List.cons.injEq, C.i.injEq, C.b.injEq, and_true, true_and, forall_const, kindsOf_nil, kindsOf_lf, kindsOf_agg, kindsOf_box, boxKinds_nil, boxKinds_lf, boxKinds_agg, boxKinds_box, List.append_nil, List.cons_append, List.nil_append, den_cmp_le, den_cmp_lt, den_cmp_eq, den_cmp_ne, den_cmp_le', den_cmp_lt', den_cmp_eq', den_cmp_ne', den_and, den_and', den_or, den_or', den_not, den_not', den_blit, den_of, ev_var, at_0, at_1, at_2, at_3, at_4, at_5, at_6, at_7, at_skip, c_int, c_bool, c_arr, c_cnt, c_vec, ev_nil, ev_join, ev_sub3, loc_s, int_i, bool_b, rows_s, cs_nil, cs_cons, E.den_lit, E.den_var, E.den_add, E.den_sub, E.den_mul, E.den_quo, E.den_rem, E.den_max, E.den_min, E.den_len, E.den_wr, E.den_cell, ctFloor, ctF]; intro a h1 h2 b h3 h4 hb; obtain ⟨f1, f2⟩ := tdiv_floor (a := a) hb; obtain ⟨g1, g2⟩ := ediv_bd (a := a) hb; have f3 : a.tmod b < 0 ∨ 0 ≤ a.tmod b := (by omega); have f4 : 0 ≤ a → 0 ≤ a.tmod b := fun h => Int.tmod_nonneg b h
  refine ⟨bds_nil _, ?_⟩
  omega
theorem rfloor_ok : tab.ok 74 := by
  refine Tab.of_ct rfl rfl ⟨_, Try.func74, by decide, rfl⟩ ?_ ctF_det
  refine ct_ok (cx := crfloor) (Tab.cx_ok all_nil) Try.func74 (bds := []) (T := trfloor) (by kernel_rfl) ?_
  unfold trfloor
  simp only [VC, allC, List.map_cons, List.map_nil, List.length_cons, List.length_nil, List.getElem?_cons_zero, List.getElem?_cons_succ, List.cons.injEq, C.i.injEq, C.b.injEq, and_true, true_and, forall_const, kindsOf_nil, kindsOf_lf, kindsOf_agg, kindsOf_box, boxKinds_nil, boxKinds_lf, boxKinds_agg, boxKinds_box, List.append_nil, List.cons_append, List.nil_append, den_cmp_le, den_cmp_lt, den_cmp_eq, den_cmp_ne, den_cmp_le', den_cmp_lt', den_cmp_eq', den_cmp_ne', den_and, den_and', den_or, den_or', den_not, den_not', den_blit, den_of, ev_var, at_0, at_1, at_2, at_3, at_4, at_5, at_6, at_7, at_skip, c_int, c_bool, c_arr, c_cnt, c_vec, ev_nil, ev_join, ev_sub3, loc_s, int_i, bool_b, rows_s, cs_nil, cs_cons, E.den_lit, E.den_var, E.den_add, E.den_sub, E.den_mul, E.den_quo, E.den_rem, E.den_max, E.den_min, E.den_len, E.den_wr, E.den_cell, ctFloor, ctF]; intro a h1 h2 b h3 h4 hb; obtain ⟨f1, f2⟩ := tdiv_floor (a := a) hb; obtain ⟨g1, g2⟩ := ediv_bd (a := a) hb; have f3 : a.tmod b < 0 ∨ 0 ≤ a.tmod b := (by omega); have f4 : 0 ≤ a → 0 ≤ a.tmod b := fun h => Int.tmod_nonneg b h
  refine ⟨bds_nil _, ?_⟩
  omega
theorem within_ct : CtOK Try.prog 68 ctWithin := by
  refine ct_ok (cx := cwithin) (Tab.cx_ok all_nil) Try.func68 (bds := []) (T := twithin) (by kernel_rfl) ?_
  unfold twithin
  simp only [VC, allC, List.map_cons, List.map_nil, List.length_cons, List.length_nil, List.getElem?_cons_zero, List.getElem?_cons_succ, List.cons.injEq, C.i.injEq, C.b.injEq, and_true, true_and, forall_const, kindsOf_nil, kindsOf_lf, kindsOf_agg, kindsOf_box, boxKinds_nil, boxKinds_lf, boxKinds_agg, boxKinds_box, List.append_nil, List.cons_append, List.nil_append, den_cmp_le, den_cmp_lt, den_cmp_eq, den_cmp_ne, den_cmp_le', den_cmp_lt', den_cmp_eq', den_cmp_ne', den_and, den_and', den_or, den_or', den_not, den_not', den_blit, den_of, ev_var, at_0, at_1, at_2, at_3, at_4, at_5, at_6, at_7, at_skip, c_int, c_bool, c_arr, c_cnt, c_vec, ev_nil, ev_join, ev_sub3, loc_s, int_i, bool_b, rows_s, cs_nil, cs_cons, E.den_lit, E.den_var, E.den_add, E.den_sub, E.den_mul, E.den_quo, E.den_rem, E.den_max, E.den_min, E.den_len, E.den_wr, E.den_cell, ctWithin, ctF]; intro n h1 h2 a h3 h4 b h5 h6; refine ⟨bds_nil _, fun h => (by simp [B.den, Cmp.den, E.den_var, at_zero, at_succ, int_i, h] <;> rfl), fun h => (by have h' := Int.not_le.2 h; simp [B.den, h'])⟩
theorem between_ct : CtOK Try.prog 69 ctWithin := by
  refine ct_ok (cx := cbetween) (Tab.cx_ok all_nil) Try.func69 (bds := []) (T := tbetween) (by kernel_rfl) ?_
  unfold tbetween
  simp only [VC, allC, List.map_cons, List.map_nil, List.length_cons, List.length_nil, List.getElem?_cons_zero, List.getElem?_cons_succ, List.cons.injEq, C.i.injEq, C.b.injEq, and_true, true_and, forall_const, kindsOf_nil, kindsOf_lf, kindsOf_agg, kindsOf_box, boxKinds_nil, boxKinds_lf, boxKinds_agg, boxKinds_box, List.append_nil, List.cons_append, List.nil_append, den_cmp_le, den_cmp_lt, den_cmp_eq, den_cmp_ne, den_cmp_le', den_cmp_lt', den_cmp_eq', den_cmp_ne', den_and, den_and', den_or, den_or', den_not, den_not', den_blit, den_of, ev_var, at_0, at_1, at_2, at_3, at_4, at_5, at_6, at_7, at_skip, c_int, c_bool, c_arr, c_cnt, c_vec, ev_nil, ev_join, ev_sub3, loc_s, int_i, bool_b, rows_s, cs_nil, cs_cons, E.den_lit, E.den_var, E.den_add, E.den_sub, E.den_mul, E.den_quo, E.den_rem, E.den_max, E.den_min, E.den_len, E.den_wr, E.den_cell, ctWithin, ctF]; intro n h1 h2 a h3 h4 b h5 h6; refine ⟨bds_nil _, fun h => (by simp [B.den, Cmp.den, E.den_var, at_zero, at_succ, int_i, h] <;> rfl), fun h => (by have h' := Int.not_le.2 h; simp [B.den, h'])⟩
theorem fair_ct : CtOK Try.prog 71 ctFair := by
  refine ct_ok (cx := cfair) (Tab.cx_ok all_nil) Try.func71 (bds := []) (T := tfair) (by kernel_rfl) ?_
  unfold tfair
  simp only [VC, allC, List.map_cons, List.map_nil, List.length_cons, List.length_nil, List.getElem?_cons_zero, List.getElem?_cons_succ, List.cons.injEq, C.i.injEq, C.b.injEq, and_true, true_and, forall_const, kindsOf_nil, kindsOf_lf, kindsOf_agg, kindsOf_box, boxKinds_nil, boxKinds_lf, boxKinds_agg, boxKinds_box, List.append_nil, List.cons_append, List.nil_append, den_cmp_le, den_cmp_lt, den_cmp_eq, den_cmp_ne, den_cmp_le', den_cmp_lt', den_cmp_eq', den_cmp_ne', den_and, den_and', den_or, den_or', den_not, den_not', den_blit, den_of, ev_var, at_0, at_1, at_2, at_3, at_4, at_5, at_6, at_7, at_skip, c_int, c_bool, c_arr, c_cnt, c_vec, ev_nil, ev_join, ev_sub3, loc_s, int_i, bool_b, rows_s, cs_nil, cs_cons, E.den_lit, E.den_var, E.den_add, E.den_sub, E.den_mul, E.den_quo, E.den_rem, E.den_max, E.den_min, E.den_len, E.den_wr, E.den_cell, ctFair, ctF]
  intro lo h1 h2 hi h3 h4 a h5 h6 b h7 h8
  refine ⟨bds_nil _, fun h => ⟨fun h' => ?_, fun h' => ?_⟩, fun h => ?_⟩
  · simp [B.den, Cmp.den, E.den_var, at_zero, at_succ, int_i, h, h'] <;> rfl
  · have h2 := Int.not_le.2 h'; simp [B.den, h2]
  · have h2 := Int.not_le.2 h; simp [B.den, h2]
theorem withinI_ok {f : Nat} (hf : CtOK Try.prog f ctWithin) : InlOK Try.prog f withinI := by
  refine Inl.of_ct hf fun bd ρ l obs s h hn ho => ?_
  unfold withinI at h
  split at h
  · cases h
    refine ⟨rfl, rfl, ho, trivial, rfl, rfl, ?_⟩
    simp [cs_, cellsOf, S0.cellsM, S0.cells, Lf.c, B.den, B.den_mkCmp hn, Cmp.den]
  · cases h
theorem fairI_ok {f : Nat} (hf : CtOK Try.prog f ctFair) : InlOK Try.prog f fairI := by
  refine Inl.of_ct hf fun bd ρ l obs s h hn ho => ?_
  unfold fairI at h
  split at h
  · cases h
    refine ⟨rfl, rfl, ho, trivial, rfl, rfl, ?_⟩
    simp [cs_, cellsOf, S0.cellsM, S0.cells, Lf.c, B.den, B.den_mkCmp hn, Cmp.den]
  · cases h
theorem within_ok : tab.ok 68 := Tab.of_inl rfl rfl ⟨_, Try.func68, by decide, rfl⟩ (withinI_ok within_ct)
theorem between_ok : tab.ok 69 := Tab.of_inl rfl rfl ⟨_, Try.func69, by decide, rfl⟩ (withinI_ok between_ct)
theorem fair_ok : tab.ok 71 := Tab.of_inl rfl rfl ⟨_, Try.func71, by decide, rfl⟩ (fairI_ok fair_ct)
theorem shut_ok : tab.ok 73 := by
  refine Tab.of_ct rfl rfl ⟨_, Try.func73, by decide, rfl⟩ ?_ ctF_det
  refine ct_ok (cx := cshut) (Tab.cx_ok (all_cons ?_ all_nil)) Try.func73 (bds := []) (T := tshut) (by kernel_rfl) ?_
  · exact between_ok
  · unfold tshut
    simp only [VC, allC, List.map_cons, List.map_nil, List.length_cons, List.length_nil, List.getElem?_cons_zero, List.getElem?_cons_succ, List.cons.injEq, C.i.injEq, C.b.injEq, and_true, true_and, forall_const, kindsOf_nil, kindsOf_lf, kindsOf_agg, kindsOf_box, boxKinds_nil, boxKinds_lf, boxKinds_agg, boxKinds_box, List.append_nil, List.cons_append, List.nil_append, den_cmp_le, den_cmp_lt, den_cmp_eq, den_cmp_ne, den_cmp_le', den_cmp_lt', den_cmp_eq', den_cmp_ne', den_and, den_and', den_or, den_or', den_not, den_not', den_blit, den_of, ev_var, at_0, at_1, at_2, at_3, at_4, at_5, at_6, at_7, at_skip, c_int, c_bool, c_arr, c_cnt, c_vec, ev_nil, ev_join, ev_sub3, loc_s, int_i, bool_b, rows_s, cs_nil, cs_cons, E.den_lit, E.den_var, E.den_add, E.den_sub, E.den_mul, E.den_quo, E.den_rem, E.den_max, E.den_min, E.den_len, E.den_wr, E.den_cell, ctShut, ctF, shutSh]
    intro pl _ _ ph _ _ cl _ _ ch _ _ gl _ _ gh _ _ we _ _ de _ _ ar _ _
    refine ⟨bds_nil _, fun v => ⟨fun xs => match xs with | [.i r, .i k] => r = 0 ∧ 0 ≤ k ∧ k ≤ 2 ∧ (0 < k → 0 ≤ pl ∧ pl ≤ ph ∧ ph ≤ 68719476736) ∧ (1 < k → 0 ≤ cl ∧ cl ≤ ch ∧ ch ≤ 68719476736) | _ => False,
      fun xs => match xs with | [_, .i k] => (2 - k).toNat | _ => 0, ⟨rfl, by omega, by omega, by omega, by omega⟩, ?_⟩⟩
    rintro r _ _ k _ _ ⟨rfl, k0, k2, p1, p2⟩
    have no : ¬ ShutOK pl ph cl ch gl gh we de ar → 2 = shutE pl ph cl ch gl gh we de ar := fun h => by simp [shutE, h]
    unfold ShutOK at no
    refine ⟨fun hk => ?_, fun hk => ?_⟩
    · rcases (by omega : k = 0 ∨ k = 1) with rfl | rfl <;> simp [cell_at, int_i] <;> exact ⟨fun h => no (by omega), fun h1 => ⟨fun h => no (by omega), fun h2 => ⟨fun h => no (by omega), by omega⟩⟩⟩
    · have hp1 := p1 (by omega)
      have hp2 := p2 (by omega)
      refine ⟨fun h => no (by omega), fun h1 => ⟨fun h => no (by omega), fun h2 => ⟨fun h => no (by omega), fun h3 => ⟨fun h => no (by omega), fun h4 => ⟨fun h => no (by omega), fun h5 => ⟨fun h => no (by omega), fun h6 => ?_⟩⟩⟩⟩⟩⟩
      have yes : ShutOK pl ph cl ch gl gh we de ar := by unfold ShutOK; omega
      refine ⟨fun h => ?_, fun h => ?_⟩
      · simp [shutE, yes, h]
      · simp [shutE, yes]; omega
end Go.Proofs.Ytlbgcjpkegpmlaa
