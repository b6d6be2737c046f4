/- The law KickKnown: for every input the call returns true, and each argument reads afterwards as it read before. The frame is printed by frame.py. -/
import Derived.Test.YtlbgcjpkegpmlaaKnown8
import Derived.Test.YtlbgcjpkegpmlaaRows
import Derived.ShutString
import Derived.ChangeOld
/- Alarms of one sensor; the samples of one sensor: both texts. -/
namespace Go.Proofs.Ytlbgcjpkegpmlaa
open Go.RowKit
set_option linter.unusedSimpArgs false
set_option linter.unusedVariables false

theorem alarm_drop {li ho de n : Int} {rows : List (List C)} {k : Nat} (h : k < rows.length) : alarmL li ho de n (rows.drop k) = if (if cell_ (rows.getD k []) 2 < li then 0 else n + 1) = ho then some (cell_ (rows.getD k []) 1 + de) else alarmL li ho de (if cell_ (rows.getD k []) 2 < li then 0 else n + 1) (rows.drop (k + 1)) := by
  rw [drop_getD h, alarmL]
theorem inR_at {rows : List (List C)} (h : ∀ r ∈ rows, inR r = true) {k : Nat} (hk : k < rows.length) : 0 ≤ cell_ (rows.getD k []) 1 ∧ cell_ (rows.getD k []) 1 ≤ 1099511627176 ∧ -1125899906842624 ≤ cell_ (rows.getD k []) 2 ∧ cell_ (rows.getD k []) 2 ≤ 1125899906842624 := by
  have := h (rows.getD k []) (by simp [List.getD_eq_getElem?_getD, hk])
  simpa [inR] using this
theorem alarms_ok : tab3.ok 83 := by
  refine Tab.of_ct rfl rfl ⟨_, Try.func83, by decide, rfl⟩ ?_ ctF_det
  refine ct_ok (cx := calarms) (Tab.cx_ok all_nil) Try.func83 (bds := []) (T := talarms) (by kernel_rfl) ?_
  unfold talarms
  simp only [VC, allC, List.map_cons, List.map_nil, List.length_cons, List.length_nil, List.getElem?_cons_zero, List.getElem?_cons_succ, List.cons.injEq, C.i.injEq, C.b.injEq, and_true, true_and, forall_const, kindsOf_nil, kindsOf_lf, kindsOf_agg, kindsOf_box, boxKinds_nil, boxKinds_lf, boxKinds_agg, boxKinds_box, List.append_nil, List.cons_append, List.nil_append, den_cmp_le, den_cmp_lt, den_cmp_eq, den_cmp_ne, den_cmp_le', den_cmp_lt', den_cmp_eq', den_cmp_ne', den_and, den_and', den_or, den_or', den_not, den_not', den_blit, den_of, ev_var, at_0, at_1, at_2, at_3, at_4, at_5, at_6, at_7, at_skip, c_int, c_bool, c_arr, c_cnt, c_vec, ev_nil, ev_join, ev_sub3, loc_s, int_i, bool_b, rows_s, cs_nil, cs_cons, E.den_lit, E.den_var, E.den_add, E.den_sub, E.den_mul, E.den_quo, E.den_rem, E.den_max, E.den_min, E.den_len, E.den_wr, E.den_cell, ctAlarms, ctF, sensSh]; intro ch _ _ pe _ _ de _ _ no _ _ st _ _ lo _ _ li _ _ ho _ _ v rows d _ hsm hp; obtain ⟨hho, de0, de1, hlen, hin⟩ := hp; have e1 : ∀ k o, ((C.s v rows).at k o).int = cell_ (rows.getD k []) o := fun _ _ => rfl; simp only [e1]; refine ⟨bds_nil _, fun xs => match xs with | [_, _, .i n, .i i] => 0 ≤ i ∧ i ≤ rows.length ∧ 0 ≤ n ∧ n ≤ i ∧ alarmL li ho de 0 rows = alarmL li ho de n (rows.drop i.toNat) | _ => False, fun xs => match xs with | [_, _, _, .i i] => ((rows.length : Int) - i).toNat | _ => 0, ⟨by omega, by omega, by omega, by omega, rfl⟩, ?_⟩; rintro _ _ _ _ n _ _ i _ _ ⟨i0, i1, n0, n1, hI⟩
  refine ⟨fun hlt => ?_, fun hge => ?_⟩
  · have hz : i.toNat < rows.length := by omega
    have hr := inR_at hin hz
    rw [alarm_drop hz] at hI
    have hmu : ((rows.length : Int) - (i + 1)).toNat < ((rows.length : Int) - i).toNat := by omega
    generalize hrow : rows.getD i.toNat [] = row at *
    refine ⟨i0, hlt, by omega, fun hlow => ?_, fun hhigh => ?_⟩
    · simp only [if_pos hlow, if_neg (show ¬ (0 : Int) = ho by omega)] at hI
      refine ⟨fun h => absurd h (by omega), fun _ => ⟨⟨by omega, by omega, by omega, by omega, ?_⟩, hmu⟩⟩
      rw [hI, show (i + 1).toNat = i.toNat + 1 by omega]
    · simp only [if_neg (show ¬ cell_ row 2 < li by omega)] at hI
      refine ⟨fun h => ⟨by omega, by omega, ?_⟩, fun h => ⟨by omega, ⟨by omega, by omega, by omega, by omega, ?_⟩, hmu⟩⟩
      · rw [hI, if_pos h]; rfl
      · rw [hI, if_neg h, show (i + 1).toNat = i.toNat + 1 by omega]
  · rw [hI, List.drop_eq_nil_of_le (by omega)]; rfl
theorem ralarm_ok : tab3.ok 85 := by
  refine Tab.of_ct rfl rfl ⟨_, Try.func85, by decide, rfl⟩ ?_ ctF_det
  refine ct_ok (cx := cralarm) (Tab.cx_ok all_nil) Try.func85 (bds := []) (T := tralarm) (by kernel_rfl) ?_
  unfold tralarm
  simp only [VC, allC, List.map_cons, List.map_nil, List.length_cons, List.length_nil, List.getElem?_cons_zero, List.getElem?_cons_succ, List.cons.injEq, C.i.injEq, C.b.injEq, and_true, true_and, forall_const, kindsOf_nil, kindsOf_lf, kindsOf_agg, kindsOf_box, boxKinds_nil, boxKinds_lf, boxKinds_agg, boxKinds_box, List.append_nil, List.cons_append, List.nil_append, den_cmp_le, den_cmp_lt, den_cmp_eq, den_cmp_ne, den_cmp_le', den_cmp_lt', den_cmp_eq', den_cmp_ne', den_and, den_and', den_or, den_or', den_not, den_not', den_blit, den_of, ev_var, at_0, at_1, at_2, at_3, at_4, at_5, at_6, at_7, at_skip, c_int, c_bool, c_arr, c_cnt, c_vec, ev_nil, ev_join, ev_sub3, loc_s, int_i, bool_b, rows_s, cs_nil, cs_cons, E.den_lit, E.den_var, E.den_add, E.den_sub, E.den_mul, E.den_quo, E.den_rem, E.den_max, E.den_min, E.den_len, E.den_wr, E.den_cell, ctAlarms, ctF, sensSh]; intro ch _ _ pe _ _ de _ _ no _ _ st _ _ lo _ _ li _ _ ho _ _ v rows d _ hsm hp; obtain ⟨hho, de0, de1, hlen, hin⟩ := hp; have e1 : ∀ k o, ((C.s v rows).at k o).int = cell_ (rows.getD k []) o := fun _ _ => rfl; simp only [e1]; refine ⟨bds_nil _, fun xs => match xs with | [_, _, .i n, .i i] => 0 ≤ i ∧ i ≤ rows.length ∧ 0 ≤ n ∧ n ≤ i ∧ alarmL li ho de 0 rows = alarmL li ho de n (rows.drop i.toNat) | _ => False, fun xs => match xs with | [_, _, _, .i i] => ((rows.length : Int) - i).toNat | _ => 0, ⟨by omega, by omega, by omega, by omega, rfl⟩, ?_⟩; rintro _ _ _ _ n _ _ i _ _ ⟨i0, i1, n0, n1, hI⟩
  refine ⟨fun hlt => ?_, fun hge => ?_⟩
  · have hz : i.toNat < rows.length := by omega
    have hr := inR_at hin hz
    rw [alarm_drop hz] at hI
    have hmu : ((rows.length : Int) - (i + 1)).toNat < ((rows.length : Int) - i).toNat := by omega
    generalize hrow : rows.getD i.toNat [] = row at *
    refine ⟨i0, hlt, fun hlow => ?_, fun hhigh => ?_⟩
    · simp only [if_pos hlow, if_neg (show ¬ (0 : Int) = ho by omega)] at hI
      refine ⟨⟨by omega, by omega, by omega, by omega, ?_⟩, hmu⟩
      rw [hI, show (i + 1).toNat = i.toNat + 1 by omega]
    · simp only [if_neg (show ¬ cell_ row 2 < li by omega)] at hI
      refine ⟨by omega, fun h => ⟨hlt, by omega, by omega, ?_⟩, fun h => ⟨by omega, ⟨by omega, by omega, by omega, by omega, ?_⟩, hmu⟩⟩
      · rw [hI, if_pos h]; rfl
      · rw [hI, if_neg h, show (i + 1).toNat = i.toNat + 1 by omega]
  · rw [hI, List.drop_eq_nil_of_le (by omega)]; rfl
theorem fltS_take {rows : List (List C)} {i : Nat} {k : Int} (h : i < rows.length) : fltS (rows.take (i + 1)) k = fltS (rows.take i) k ++ (if cell_ (rows.getD i []) 0 = k then [rows.getD i []] else []) := by
  rw [List.take_succ_eq_append_getElem h, show rows[i] = rows.getD i [] from by simp [List.getD_eq_getElem?_getD, h]]
  unfold fltS
  rw [List.filter_append]
  congr 1
  generalize rows.getD i [] = r
  by_cases h : cell_ r 0 = k
  · simp [h]
  · simp [h]
theorem row3 {d : Nat} {rows : List (List C)} (h : TyN Try.prog d 40 rows) {k : Nat} (hk : k < rows.length) : rows.getD k [] = [.i (cell_ (rows.getD k []) 0), .i (cell_ (rows.getD k []) 1), .i (cell_ (rows.getD k []) 2)] := by
  obtain ⟨a, b, c, e⟩ := row_ints h (show rows.getD k [] ∈ rows by simp [List.getD_eq_getElem?_getD, hk])
  rw [e]; rfl
theorem fltS_len {rows : List (List C)} {k : Int} : (fltS rows k).length ≤ rows.length := List.length_filter_le _ _
theorem of_ok : tab3.ok 86 := by
  refine Tab.of_ct rfl rfl ⟨_, Try.func86, by decide, rfl⟩ ?_ (fun h => by cases h)
  refine ct_ok (cx := cof) (Tab.cx_ok all_nil) Try.func86 (bds := []) (T := tof) (by kernel_rfl) ?_
  unfold tof
  simp only [VC, allC, List.map_cons, List.map_nil, List.length_cons, List.length_nil, List.getElem?_cons_zero, List.getElem?_cons_succ, List.cons.injEq, C.i.injEq, C.b.injEq, and_true, true_and, forall_const, kindsOf_nil, kindsOf_lf, kindsOf_agg, kindsOf_box, boxKinds_nil, boxKinds_lf, boxKinds_agg, boxKinds_box, List.append_nil, List.cons_append, List.nil_append, den_cmp_le, den_cmp_lt, den_cmp_eq, den_cmp_ne, den_cmp_le', den_cmp_lt', den_cmp_eq', den_cmp_ne', den_and, den_and', den_or, den_or', den_not, den_not', den_blit, den_of, ev_var, at_0, at_1, at_2, at_3, at_4, at_5, at_6, at_7, at_skip, c_int, c_bool, c_arr, c_cnt, c_vec, ev_nil, ev_join, ev_sub3, loc_s, int_i, bool_b, rows_s, cs_nil, cs_cons, E.den_lit, E.den_var, E.den_add, E.den_sub, E.den_mul, E.den_quo, E.den_rem, E.den_max, E.den_min, E.den_len, E.den_wr, E.den_cell, ctOf, ctF]
  intro v rows d hty hsm k _ _ hlen
  have e1 : ∀ k o, ((C.s v rows).at k o).int = cell_ (rows.getD k []) o := fun _ _ => rfl
  simp only [e1]
  refine ⟨bds_nil _, fun xs => match xs with | [.s _ out, .i i] => 0 ≤ i ∧ i ≤ rows.length ∧ out = fltS (rows.take i.toNat) k | _ => False, fun xs => match xs with | [_, .i i] => ((rows.length : Int) - i).toNat | _ => 0, ⟨by omega, by omega, rfl⟩, ?_⟩
  rintro v1 out d1 _ _ i _ _ ⟨i0, i1, hI⟩
  refine ⟨fun hlt => ⟨i0, hlt, ?_⟩, fun hge => ?_⟩
  · have hz : i.toNat < rows.length := by omega
    have hft := fltS_take (k := k) hz
    have hr3 := row3 hty hz
    have hmu : ((rows.length : Int) - (i + 1)).toNat < ((rows.length : Int) - i).toNat := by omega
    have e2 : (i + 1).toNat = i.toNat + 1 := by omega
    have hl : out.length ≤ 200 := by
      have := @fltS_len (rows.take i.toNat) k
      have := List.length_take_le i.toNat rows
      rw [hI]; omega
    generalize hrow : rows.getD i.toNat [] = row at *
    refine ⟨fun h => ⟨hlt, ⟨by omega, fun v3 => ⟨⟨by omega, by omega, ?_⟩, hmu⟩⟩⟩, fun h => ⟨⟨by omega, by omega, ?_⟩, hmu⟩⟩
    · rw [e2, hft, if_pos h, hI, ← hr3]
    · rw [e2, hft, if_neg h, List.append_nil, hI]
  · rw [hI, List.take_of_length_le (by omega)]
end Go.Proofs.Ytlbgcjpkegpmlaa
/- The document's check of samples. -/
namespace Go.Proofs.Ytlbgcjpkegpmlaa
open Go.RowKit
set_option linter.unusedSimpArgs false
set_option linter.unusedVariables false

theorem checkV_8 {n : Int} {rows : List (List C)} (h : 200 < (rows.length : Int)) : checkV n rows = 8 := by unfold checkV; rw [if_pos (by omega)]
theorem checkV_7 {n : Int} {rows : List (List C)} (h : (rows.length : Int) ≤ 200) (h1 : rows.all (inB n) = false) : checkV n rows = 7 := by unfold checkV; rw [if_neg (by omega), if_pos h1]
theorem checkV_2 {n : Int} {rows : List (List C)} (h : (rows.length : Int) ≤ 200) (h1 : rows.all (inB n) = true) (h2 : rows.all inR = false) : checkV n rows = 2 := by unfold checkV; rw [if_neg (by omega), if_neg (by simp [h1]), if_pos h2]
theorem checkV_11 {n : Int} {rows : List (List C)} (h : (rows.length : Int) ≤ 200) (h1 : rows.all (inB n) = true) (h2 : rows.all inR = true) (h3 : rows.all (fun r => ordL (fltS rows (cell_ r 0))) = false) : checkV n rows = 11 := by unfold checkV; rw [if_neg (by omega), if_neg (by simp [h1]), if_neg (by simp [h2]), if_pos h3]
theorem checkV_0 {n : Int} {rows : List (List C)} (h : (rows.length : Int) ≤ 200) (h1 : rows.all (inB n) = true) (h2 : rows.all inR = true) (h3 : rows.all (fun r => ordL (fltS rows (cell_ r 0))) = true) : checkV n rows = 0 := by unfold checkV; rw [if_neg (by omega), if_neg (by simp [h1]), if_neg (by simp [h2]), if_neg (by simp [h3])]
theorem checkV_ok {n : Int} {rows : List (List C)} (h : checkV n rows = 0) : rows.length ≤ 200 ∧ rows.all (inB n) = true ∧ rows.all inR = true ∧ rows.all (fun r => ordL (fltS rows (cell_ r 0))) = true := by
  unfold checkV at h
  split at h
  · omega
  split at h
  · omega
  split at h
  · omega
  split at h
  · omega
  rename_i a b c d
  exact ⟨by omega, by simpa using b, by simpa using c, by simpa using d⟩
theorem fltS_none {rows : List (List C)} {k : Int} (h : ∀ r ∈ rows, cell_ r 0 ≠ k) : fltS rows k = [] := by
  unfold fltS
  rw [List.filter_eq_nil_iff]
  intro r hr
  simpa using h r hr
theorem ord_all {n : Int} {rows : List (List C)} (h : rows.all (inB n) = true) : rows.all (fun r => ordL (fltS rows (cell_ r 0))) = true ↔ ∀ k, 0 ≤ k → k < n → ordL (fltS rows k) = true := by
  rw [List.all_eq_true]
  constructor
  · intro hh k h0 h1
    by_cases he : ∃ r ∈ rows, cell_ r 0 = k
    · obtain ⟨r, hr, rfl⟩ := he
      exact hh r hr
    · rw [fltS_none fun r hr e => he ⟨r, hr, e⟩]; rfl
  · intro hh r hr
    have := List.all_eq_true.1 h r hr
    simp only [inB, decide_eq_true_eq] at this
    exact hh _ this.1 this.2
theorem all_drop {f : List C → Bool} {rows : List (List C)} {k : Nat} (h : k < rows.length) : (rows.drop k).all f = (f (rows.getD k []) && (rows.drop (k + 1)).all f) := by
  rw [drop_getD h, List.all_cons]
theorem ord_drop {t : Int} {rows : List (List C)} {k : Nat} (h : k < rows.length) : ordFrom t (rows.drop k) = (decide (t < cell_ (rows.getD k []) 1) && ordFrom (cell_ (rows.getD k []) 1) (rows.drop (k + 1))) := by
  rw [drop_getD h, ordFrom]
/-- Where the ordered part ends. -/
def OrdI (out : List (List C)) (i : Int) : Prop := 1 ≤ i ∧ (out.length = 0 → i = 1) ∧ (0 < out.length → i ≤ out.length ∧ ordL out = ordFrom (cell_ (out.getD (i - 1).toNat []) 1) (out.drop i.toNat))
theorem OrdI.one (out : List (List C)) : OrdI out 1 := ⟨by omega, fun _ => rfl, fun h => ⟨by omega, by
  cases out with
  | nil => simp at h
  | cons r l => rfl⟩⟩
theorem OrdI.bad {out : List (List C)} {i : Int} (h : OrdI out i) (hlt : i < out.length) (hle : cell_ (out.getD i.toNat []) 1 ≤ cell_ (out.getD (i - 1).toNat []) 1) : ordL out = false := by
  obtain ⟨h1, -, h2⟩ := h
  obtain ⟨-, h2⟩ := h2 (by omega)
  rw [h2, ord_drop (by omega), decide_eq_false (by omega)]
  rfl
theorem OrdI.next {out : List (List C)} {i : Int} (h : OrdI out i) (hlt : i < out.length) (hle : cell_ (out.getD (i - 1).toNat []) 1 < cell_ (out.getD i.toNat []) 1) : OrdI out (i + 1) := by
  obtain ⟨h1, -, h2⟩ := h
  obtain ⟨-, h2⟩ := h2 (by omega)
  rw [ord_drop (by omega), decide_eq_true hle, Bool.true_and] at h2
  exact ⟨by omega, fun h => by omega, fun _ => ⟨by omega, by rw [h2, show (i + 1 - 1).toNat = i.toNat by omega, show (i + 1).toNat = i.toNat + 1 by omega]⟩⟩
theorem OrdI.end_ {out : List (List C)} {i : Int} (h : OrdI out i) (hge : (out.length : Int) ≤ i) : ordL out = true := by
  obtain ⟨h1, h0, h2⟩ := h
  by_cases hz : out.length = 0
  · rw [List.length_eq_zero_iff.1 hz]; rfl
  · obtain ⟨-, h2⟩ := h2 (by omega)
    rw [h2, List.drop_eq_nil_of_le (by omega)]; rfl
theorem rchk_ok : tab3.ok 84 := by
  refine Tab.of_ct rfl rfl ⟨_, Try.func84, by decide, rfl⟩ ?_ ctF_det
  refine ct_ok (cx := crchk) (Tab.cx_ok (all_cons (up3_ok (up_ok between_ok)) (all_cons of_ok all_nil))) Try.func84 (bds := []) (T := trchk) (by kernel_rfl) ?_
  have h1 : crchk.ct 86 = some ctOf := rfl
  unfold trchk
  simp only [VC, allC, List.map_cons, List.map_nil, List.length_cons, List.length_nil, List.getElem?_cons_zero, List.getElem?_cons_succ, List.cons.injEq, C.i.injEq, C.b.injEq, and_true, true_and, forall_const, kindsOf_nil, kindsOf_lf, kindsOf_agg, kindsOf_box, boxKinds_nil, boxKinds_lf, boxKinds_agg, boxKinds_box, List.append_nil, List.cons_append, List.nil_append, den_cmp_le, den_cmp_lt, den_cmp_eq, den_cmp_ne, den_cmp_le', den_cmp_lt', den_cmp_eq', den_cmp_ne', den_and, den_and', den_or, den_or', den_not, den_not', den_blit, den_of, ev_var, at_0, at_1, at_2, at_3, at_4, at_5, at_6, at_7, at_skip, c_int, c_bool, c_arr, c_cnt, c_vec, ev_nil, ev_join, ev_sub3, loc_s, int_i, bool_b, rows_s, cs_nil, cs_cons, E.den_lit, E.den_var, E.den_add, E.den_sub, E.den_mul, E.den_quo, E.den_rem, E.den_max, E.den_min, E.den_len, E.den_wr, E.den_cell, h1, ctRCheck, ctOf, ctF]
  intro v sens d _ hsm v' rows d' hty hsm'
  have e1 : ∀ k o, ((C.s v' rows).at k o).int = cell_ (rows.getD k []) o := fun _ _ => rfl
  have e2 : ∀ v k o (l : List (List C)), ((C.s v l).at k o).int = cell_ (l.getD k []) o := fun _ _ _ _ => rfl
  simp only [e2]
  refine ⟨bds_nil _, fun h => by rw [checkV_8 h], fun hl => ?_⟩
  refine ⟨fun xs => match xs with | [_, .i i] => 0 ≤ i ∧ i ≤ rows.length ∧ rows.all (inB sens.length) = (rows.drop i.toNat).all (inB sens.length) | _ => False, fun xs => match xs with | [_, .i i] => ((rows.length : Int) - i).toNat | _ => 0, ⟨by omega, by omega, rfl⟩, ?_⟩
  rintro z _ _ i _ _ ⟨i0, i1, hI⟩
  refine ⟨fun hlt => ⟨i0, hlt, ?_⟩, fun hge => ?_⟩
  · have hz : i.toNat < rows.length := by omega
    rw [all_drop hz] at hI
    have hmu : ((rows.length : Int) - (i + 1)).toNat < ((rows.length : Int) - i).toNat := by omega
    generalize hrow : rows.getD i.toNat [] = row at *
    have bad : ¬ (0 ≤ cell_ row 0 ∧ cell_ row 0 < (sens.length : Int)) → 7 = checkV sens.length rows := fun h => by rw [checkV_7 hl (by rw [hI, inB, decide_eq_false h]; rfl)]
    refine ⟨fun h => by rw [bad (by omega)], fun h0 => ⟨hlt, fun h => by rw [bad (by omega)], fun h2 => ⟨⟨by omega, by omega, ?_⟩, hmu⟩⟩⟩
    rw [hI, inB, decide_eq_true (by omega), Bool.true_and, show (i + 1).toNat = i.toNat + 1 by omega]
  rw [List.drop_eq_nil_of_le (by omega)] at hI
  refine ⟨fun xs => match xs with | [_, .i i] => 0 ≤ i ∧ i ≤ rows.length ∧ rows.all inR = (rows.drop i.toNat).all inR | _ => False, fun xs => match xs with | [_, .i i] => ((rows.length : Int) - i).toNat | _ => 0, ⟨by omega, by omega, rfl⟩, ?_⟩
  rintro z' _ _ j _ _ ⟨j0, j1, hJ⟩
  refine ⟨fun hlt => ⟨j0, hlt, ?_⟩, fun hge => ?_⟩
  · have hz : j.toNat < rows.length := by omega
    rw [all_drop hz] at hJ
    have hmu : ((rows.length : Int) - (j + 1)).toNat < ((rows.length : Int) - j).toNat := by omega
    generalize hrow : rows.getD j.toNat [] = row at *
    have bad : ¬ (0 ≤ cell_ row 1 ∧ cell_ row 1 ≤ 1099511627176 ∧ -1125899906842624 ≤ cell_ row 2 ∧ cell_ row 2 ≤ 1125899906842624) → 2 = checkV sens.length rows := fun h => by rw [checkV_2 hl hI (by rw [hJ, inR, decide_eq_false h]; rfl)]
    refine ⟨fun h => by rw [bad (by omega)], fun h0 => ⟨hlt, fun h => by rw [bad (by omega)], fun h2 => ⟨⟨by omega, by omega, ?_⟩, hmu⟩⟩⟩
    rw [hJ, inR, decide_eq_true (by omega), Bool.true_and, show (j + 1).toNat = j.toNat + 1 by omega]
  rw [List.drop_eq_nil_of_le (by omega)] at hJ
  have hord := ord_all hI
  refine ⟨fun xs => match xs with | [_, .i k] => 0 ≤ k ∧ k ≤ sens.length ∧ ∀ x, 0 ≤ x → x < k → ordL (fltS rows x) = true | _ => False, fun xs => match xs with | [_, .i k] => ((sens.length : Int) - k).toNat | _ => 0, ⟨by omega, by omega, fun x hx hx' => by omega⟩, ?_⟩
  rintro z2 _ _ k _ _ ⟨k0, k1, hK⟩
  refine ⟨fun hlt => ⟨by omega, ?_⟩, fun hge => ?_⟩
  · rintro vo out do_ _ hso rfl
    refine ⟨fun xs => match xs with | [_, .i i] => i ≤ 201 ∧ OrdI (fltS rows k) i | _ => False, fun xs => match xs with | [_, .i i] => (((fltS rows k).length : Int) - i).toNat | _ => 0, ⟨by omega, OrdI.one _⟩, ?_⟩
    have hfl := @fltS_len rows k
    rintro z3 _ _ m _ _ ⟨m0, hM⟩
    refine ⟨fun hml => ?_, fun hml => ?_⟩
    · have m1 := hM.1
      refine ⟨by omega, hml, by omega, by omega, fun hle => ?_, fun hgt => ⟨⟨by omega, hM.next hml hgt⟩, ?_⟩⟩
      · rw [checkV_11 hl hI hJ]
        cases hA : rows.all (fun r => ordL (fltS rows (cell_ r 0))) with
        | false => rfl
        | true => have := hord.1 hA k k0 hlt; rw [hM.bad hml hle] at this; cases this
      · show (((fltS rows k).length : Int) - (m + 1)).toNat < (((fltS rows k).length : Int) - m).toNat
        omega
    · refine ⟨⟨by omega, by omega, fun x hx hx' => ?_⟩, show ((sens.length : Int) - (k + 1)).toNat < ((sens.length : Int) - k).toNat by omega⟩
      rcases Int.lt_or_eq_of_le (show x ≤ k by omega) with h | rfl
      · exact hK x hx h
      · exact hM.end_ hml
  · rw [checkV_0 hl hI hJ (hord.2 fun x hx hx' => hK x hx (by omega))]
end Go.Proofs.Ytlbgcjpkegpmlaa
/- The first alarm: the document's. -/
namespace Go.Proofs.Ytlbgcjpkegpmlaa
open Go.RowKit
set_option linter.unusedSimpArgs false
set_option linter.unusedVariables false

def alarmAt (sens rows : List (List C)) (k : Int) : Option Int := alarmOf (sens.getD k.toNat []) (fltS rows k)
/-- The first alarm among some sensors. -/
def Best (sens rows : List (List C)) (P : Int → Prop) (o : Option (Int × Int)) : Prop := match o with
  | none => ∀ k, P k → alarmAt sens rows k = none
  | some (s, t) => P s ∧ alarmAt sens rows s = some t ∧ ∀ k u, P k → alarmAt sens rows k = some u → t < u ∨ (t = u ∧ s ≤ k)
theorem Best.uniq {sens rows : List (List C)} {P : Int → Prop} {a b : Option (Int × Int)} (ha : Best sens rows P a) (hb : Best sens rows P b) : a = b := by
  cases a with
  | none => cases b with
    | none => rfl
    | some y => have := ha _ hb.1; rw [hb.2.1] at this; cases this
  | some x => cases b with
    | none => have := hb _ ha.1; rw [ha.2.1] at this; cases this
    | some y =>
      obtain ⟨s, t⟩ := x
      obtain ⟨s', t'⟩ := y
      obtain ⟨h1, h2, h3⟩ := ha
      obtain ⟨g1, g2, g3⟩ := hb
      have := h3 _ _ g1 g2
      have := g3 _ _ h1 h2
      rw [show s = s' by omega, show t = t' by omega]
theorem Best.congr {sens rows : List (List C)} {P P' : Int → Prop} {o : Option (Int × Int)} (h : Best sens rows P o) (hP : ∀ k, P k ↔ P' k) : Best sens rows P' o := by
  rw [show P' = P from funext fun k => propext (hP k).symm]; exact h
/-- More sensors, none of which alarms. -/
theorem Best.more {sens rows : List (List C)} {P P' : Int → Prop} {o : Option (Int × Int)} (h : Best sens rows P o) (h1 : ∀ k, P k → P' k) (h2 : ∀ k, P' k → P k ∨ alarmAt sens rows k = none) : Best sens rows P' o := by
  cases o with
  | none => exact fun k hk => (h2 k hk).elim (h k) id
  | some x => exact ⟨h1 _ h.1, h.2.1, fun k u hk hu => (h2 k hk).elim (fun hp => h.2.2 k u hp hu) fun hn => by rw [hn] at hu; cases hu⟩
/-- One sensor more. -/
def better (o : Option (Int × Int)) (k : Int) (a : Option Int) : Option (Int × Int) := match a, o with
  | none, o => o
  | some t, none => some (k, t)
  | some t, some (s, u) => if t < u ∨ (t = u ∧ k < s) then some (k, t) else some (s, u)
theorem Best.add {sens rows : List (List C)} {P : Int → Prop} {o : Option (Int × Int)} (h : Best sens rows P o) (k : Int) : Best sens rows (fun j => j = k ∨ P j) (better o k (alarmAt sens rows k)) := by
  cases ha : alarmAt sens rows k with
  | none => exact h.more (fun j hj => .inr hj) fun j hj => hj.elim (fun e => .inr (by rw [e, ha])) .inl
  | some t =>
    cases o with
    | none =>
      refine ⟨.inl rfl, ha, fun j u hj hu => ?_⟩
      rcases hj with rfl | hj
      · rw [ha] at hu; cases hu; exact .inr ⟨rfl, Int.le_refl _⟩
      · rw [h j hj] at hu; cases hu
    | some x =>
      obtain ⟨s, u⟩ := x
      obtain ⟨h1, h2, h3⟩ := h
      simp only [better]
      split
      · rename_i hc
        refine ⟨.inl rfl, ha, fun j u' hj hu => ?_⟩
        rcases hj with rfl | hj
        · rw [ha] at hu; cases hu; exact .inr ⟨rfl, Int.le_refl _⟩
        · have := h3 j u' hj hu; omega
      · rename_i hc
        refine ⟨.inr h1, h2, fun j u' hj hu => ?_⟩
        rcases hj with rfl | hj
        · rw [ha] at hu; cases hu; omega
        · exact h3 j u' hj hu
theorem watchL_step {sens rows : List (List C)} {k : Nat} : watchL sens rows (k + 1) = match alarmAt sens rows k, watchL sens rows k with
    | some t, some (s, u) => if t < u then some ((k : Int), t) else some (s, u)
    | some t, none => some ((k : Int), t)
    | none, o => o := rfl
theorem watchL_best {sens rows : List (List C)} : ∀ n : Nat, Best sens rows (fun k => 0 ≤ k ∧ k < n) (watchL sens rows n)
  | 0 => fun k hk => by omega
  | k + 1 => by
    have ih := @watchL_best sens rows k
    have e : watchL sens rows (k + 1) = better (watchL sens rows k) k (alarmAt sens rows k) := by
      rw [watchL_step]
      cases alarmAt sens rows k with
      | none => rfl
      | some t =>
        cases hw : watchL sens rows k with
        | none => rfl
        | some x =>
          obtain ⟨s, u⟩ := x
          rw [hw] at ih
          have := ih.1
          simp only [better]
          by_cases ht : t < u
          · rw [if_pos ht, if_pos (.inl ht)]
          · rw [if_neg ht, if_neg (by omega)]
    rw [e]
    exact (ih.add k).congr fun j => by omega
theorem firstE_mem : ∀ {l : List (List C)}, firstE l = 0 → ∀ r ∈ l, sensRow r = 0
  | [], _, r, h => by cases h
  | x :: l, h, r, hr => by
    rw [firstE] at h
    split at h
    · rename_i hx
      rcases List.mem_cons.1 hr with rfl | hr
      · exact hx
      · exact firstE_mem h r hr
    · rename_i hx; exact absurd h hx
theorem sens_at {sens : List (List C)} (h : sensorsE sens = 0) {k : Nat} (hk : k < sens.length) : 0 ≤ cell_ (sens.getD k []) 2 ∧ cell_ (sens.getD k []) 2 ≤ 600 ∧ 1 ≤ cell_ (sens.getD k []) 7 := by
  unfold sensorsE at h
  split at h
  · omega
  split at h
  · omega
  have hr : sensRow (sens.getD k []) = 0 := firstE_mem h _ (by simp [List.getD_eq_getElem?_getD, hk])
  unfold sensRow at hr
  obtain ⟨-, hso⟩ := sensE_iff.1 hr
  unfold SOk at hso
  exact ⟨hso.2.2.1, hso.2.2.2.1, by unfold cell_; omega⟩
theorem fltS_in {rows : List (List C)} {k : Int} (h : rows.all inR = true) : ∀ r ∈ fltS rows k, inR r = true := fun r hr => List.all_eq_true.1 h r (List.mem_filter.1 hr).1
theorem rwatch_ok : tab3.ok 55 := by
  refine Tab.of_ct rfl rfl ⟨_, Try.func55, by decide, rfl⟩ ?_ ctF_det
  refine ct_ok (cx := crwatch) (Tab.cx_ok (all_cons (up3_ok (up_ok rsensors_ok)) (all_cons rchk_ok (all_cons ralarm_ok (all_cons of_ok all_nil))))) Try.func55 (bds := []) (T := trwatch) (by kernel_rfl) ?_
  have h1 : crwatch.ct 86 = some ctOf := rfl
  have h2 : crwatch.ct 43 = some ctSensors := rfl
  have h3 : crwatch.ct 84 = some ctRCheck := rfl
  have h4 : crwatch.ct 85 = some ctAlarms := rfl
  unfold trwatch
  simp only [VC, allC, List.map_cons, List.map_nil, List.length_cons, List.length_nil, List.getElem?_cons_zero, List.getElem?_cons_succ, List.cons.injEq, C.i.injEq, C.b.injEq, and_true, true_and, forall_const, kindsOf_nil, kindsOf_lf, kindsOf_agg, kindsOf_box, boxKinds_nil, boxKinds_lf, boxKinds_agg, boxKinds_box, List.append_nil, List.cons_append, List.nil_append, den_cmp_le, den_cmp_lt, den_cmp_eq, den_cmp_ne, den_cmp_le', den_cmp_lt', den_cmp_eq', den_cmp_ne', den_and, den_and', den_or, den_or', den_not, den_not', den_blit, den_of, ev_var, at_0, at_1, at_2, at_3, at_4, at_5, at_6, at_7, at_skip, c_int, c_bool, c_arr, c_cnt, c_vec, ev_nil, ev_join, ev_sub3, loc_s, int_i, bool_b, rows_s, cs_nil, cs_cons, E.den_lit, E.den_var, E.den_add, E.den_sub, E.den_mul, E.den_quo, E.den_rem, E.den_max, E.den_min, E.den_len, E.den_wr, E.den_cell, h1, h2, h3, h4, ctWatch, ctSensors, ctRCheck, ctOf, ctAlarms, ctF, sensSh]
  intro v sens d _ hsm v' rows d' hty hsm'
  have e2 : ∀ v k o (l : List (List C)), ((C.s v l).at k o).int = cell_ (l.getD k []) o := fun _ _ _ _ => rfl
  simp only [e2]
  refine ⟨bds_nil _, ?_⟩
  rintro e _ _ rfl
  refine ⟨fun h => by unfold watchV; rw [if_neg h], fun hs => ?_⟩
  rintro e _ _ rfl
  refine ⟨fun h => by unfold watchV; rw [if_pos hs, if_neg h], fun hc => ?_⟩
  obtain ⟨hlen, hin, hir, -⟩ := checkV_ok hc
  have hW : watchV sens rows = watchC (watchL sens rows sens.length) := by unfold watchV; rw [if_pos hs, if_pos hc]
  refine ⟨fun xs => match xs with | [.b f, .i k, .i s, .i t] => 0 ≤ k ∧ k ≤ sens.length ∧ watchC (watchL sens rows k.toNat) = [.i s, .i t, .b f, .i 0] | _ => False, fun xs => match xs with | [_, .i k, _, _] => ((sens.length : Int) - k).toNat | _ => 0, ⟨by omega, by omega, rfl⟩, ?_⟩
  rintro f k _ _ s _ _ t _ _ ⟨k0, k1, hI⟩
  refine ⟨fun hlt => ?_, fun hge => ?_⟩
  · have hz : k.toNat < sens.length := by omega
    have hsa := sens_at hs hz
    have hmu : ((sens.length : Int) - (k + 1)).toNat < ((sens.length : Int) - k).toNat := by omega
    have e3 : (k + 1).toNat = k.toNat + 1 := by omega
    have hst := @watchL_step sens rows k.toNat
    rw [← e3] at hst
    rw [show ((k.toNat : Nat) : Int) = k by omega] at hst
    refine ⟨k0, hlt, by omega, ?_⟩
    rintro vo out do_ _ hso rfl
    have hfl := @fltS_len rows k
    refine ⟨⟨by omega, by omega, by omega, by omega, fltS_in hir⟩, ?_⟩
    rintro u _ _ is hal
    have hal' : [C.i u, C.b is] = alarmC (alarmAt sens rows k) := hal
    cases ha : alarmAt sens rows k with
    | none =>
      rw [ha] at hal' hst
      cases hal'
      refine ⟨fun h => (by cases h), fun _ => ⟨⟨by omega, by omega, ?_⟩, hmu⟩⟩
      rw [hst]; exact hI
    | some u' =>
      rw [ha] at hal' hst
      cases hal'
      cases hw : watchL sens rows k.toNat with
      | none =>
        rw [hw] at hst hI
        cases hI
        refine ⟨fun _ => ⟨fun _ => ⟨⟨by omega, by omega, ?_⟩, hmu⟩, fun h => (by cases h)⟩, fun h => (by cases h)⟩
        rw [hst]; rfl
      | some x =>
        obtain ⟨s', t'⟩ := x
        rw [hw] at hst hI
        cases hI
        refine ⟨fun _ => ⟨fun h => (by cases h), fun _ => ⟨fun hl => ⟨⟨by omega, by omega, ?_⟩, hmu⟩, fun hl => ⟨⟨by omega, by omega, ?_⟩, hmu⟩⟩⟩, fun h => (by cases h)⟩
        · rw [hst]; simp only []; rw [if_pos hl]; rfl
        · rw [hst]; simp only []; rw [if_neg (by omega)]; rfl
  · rw [show k.toNat = sens.length by omega] at hI
    rw [hW, hI]
end Go.Proofs.Ytlbgcjpkegpmlaa
/- kick.check: its states. -/
namespace Go.Proofs.Ytlbgcjpkegpmlaa
open Go.RowKit
set_option linter.unusedSimpArgs false
set_option linter.unusedVariables false

def endK (cx : Cx) (fn : Func) (ct : Ct) : Ex → St → Option Tree := fun x st => match x with
  | .ext _ => none
  | _ => endOf cx fn ct st
def chkSt1 : St := { sl := [(1, some (.one (.lf (.arr 40 (.var 1)))))], mem := [], nt := 41, nb := 0, nx := 2, lvl := 1, bds := [] }
def chkStI : St := { sl := [(6, some (.one (.lf (.arr 40 (.var 2))))), (18, some (.one (.lf (.clo 3))))], mem := [], nt := 41, nb := 0, nx := 4, lvl := 0, bds := [] }
def chkStE : St := { sl := [(18, some (.one (.lf (.clo 3))))], mem := [], nt := 41, nb := 0, nx := 4, lvl := 1, bds := [] }
def chkStZ : St := { sl := [], mem := [], nt := 41, nb := 0, nx := 2, lvl := 0, bds := [] }
theorem creps_rows {w : World} {O : Nat → Nat → Prop} {l : List (List C)} (h : ∀ r ∈ l, r = [.i (cell_ r 0), .i (cell_ r 1), .i (cell_ r 2)] ∧ ∀ j, -9223372036854775808 ≤ cell_ r j ∧ cell_ r j ≤ 9223372036854775807) : CReps Try.prog w O (rowsK l.length [.int, .int, .int]) (cellsV l) l.flatten := by
  have := CReps.rows (P := Try.prog) (w := w) (O := O) (ks := [.int, .int, .int]) (rs := l.map fun r => ((samOf r).toList, r)) (fun r hr => by
    obtain ⟨x, hx, rfl⟩ := List.mem_map.1 hr
    obtain ⟨h1, h2⟩ := h x hx
    have c : ∀ j, CRep Try.prog w O .int (.int .i64 (cell_ x j)) (.i (cell_ x j)) := fun j => ⟨fun n => by cases n <;> exact h2 j, _, rfl, rfl⟩
    show CReps _ _ _ _ (samOf x).toList x
    rw [h1]
    exact ⟨c 0, c 1, c 2, trivial⟩)
  rw [List.length_map, List.flatMap_map, List.flatMap_map] at this
  simpa [cellsV, List.flatMap_id'] using this
end Go.Proofs.Ytlbgcjpkegpmlaa
/- What is to be shown of each function, as the executor has it. Printed by trees.py. -/
namespace Go.Proofs.Ytlbgcjpkegpmlaa
noncomputable def flchk1 : List (Nat × Func) := [(92, Try.f92), (96, Try.f96), (93, Try.f93), (94, Try.f94)]
theorem fxchk1 : ∀ p ∈ flchk1, FnOK p := fns_cons ⟨Try.func92, ⟨_, Try.func92, by decide, rfl⟩⟩ (fns_cons ⟨Try.func96, ⟨_, Try.func96, by decide, rfl⟩⟩ (fns_cons ⟨Try.func93, ⟨_, Try.func93, by decide, rfl⟩⟩ (fns_cons ⟨Try.func94, ⟨_, Try.func94, by decide, rfl⟩⟩ (fns_nil))))
noncomputable def cchk1 : Cx := tab3.only [68] (fun _ => []) flchk1 4 [] (fun _ => none)
def tchk1 : Tree :=
  (.split (.cmp .lt (.lit 200) (.len (.var 1))) (.ret [(.int (.lit 8))]) (.arr [] (.loop [.int, .int] [(.int (.lit 0)), (.int (.lit 0))] (.split (.cmp .lt (.var 4) (.len (.var 1))) (.ob (.cmp .le (.lit 0) (.var 4)) (.ob (.cmp .lt (.var 4) (.len (.var 1))) (.split (.cmp .lt (.cell (.var 1) (.var 4) 0) (.lit 0)) (.ret [(.int (.lit 7))]) (.split (.cmp .le (.var 0) (.cell (.var 1) (.var 4) 0)) (.ret [(.int (.lit 7))]) (.back 1 [(.int (.var 3)), (.int (.add (.var 4) (.lit 1)))]))))) (.loop [.int, .int] [(.int (.lit 0)), (.int (.lit 0))] (.split (.cmp .lt (.var 6) (.len (.var 1))) (.ob (.cmp .le (.lit 0) (.var 6)) (.ob (.cmp .lt (.var 6) (.len (.var 1))) (.split (.not (.and (.cmp .le (.lit 0) (.cell (.var 1) (.var 6) 1)) (.cmp .le (.cell (.var 1) (.var 6) 1) (.lit 1099511627176)))) (.ret [(.int (.lit 2))]) (.split (.not (.and (.cmp .le (.lit (-1125899906842624)) (.cell (.var 1) (.var 6) 2)) (.cmp .le (.cell (.var 1) (.var 6) 2) (.lit 1125899906842624)))) (.ret [(.int (.lit 2))]) (.back 2 [(.int (.var 5)), (.int (.add (.var 6) (.lit 1)))]))))) (.back 0 [])))))))
noncomputable def cchk2 : Cx := tab3.only [] (fun _ => []) [] 0 [] (fun _ => none)
def tchk2 : Tree :=
  (.loop [.int] [(.int (.lit 1))] (.split (.cmp .lt (.var 4) (.len (.var 2))) (.ob (.cmp .le (.lit 0) (.var 4)) (.ob (.cmp .lt (.var 4) (.len (.var 2))) (.ob (.cmp .le (.lit 0) (.sub (.var 4) (.lit 1))) (.ob (.cmp .lt (.sub (.var 4) (.lit 1)) (.len (.var 2))) (.split (.cmp .le (.cell (.var 2) (.var 4) 1) (.cell (.var 2) (.sub (.var 4) (.lit 1)) 1)) (.ret [(.int (.lit 11))]) (.back 1 [(.int (.add (.var 4) (.lit 1)))])))))) (.back 0 [])))
end Go.Proofs.Ytlbgcjpkegpmlaa
/- A loop over a map, by hand. -/
namespace Go.Proofs.Ytlbgcjpkegpmlaa
open Go.RowKit
set_option linter.unusedSimpArgs false
set_option linter.unusedVariables false

/-- What a round's body hands on. -/
def roundQ (J : Act → World → Prop) (Q : Exit → Act → World → Prop) : Exit → Act → World → Prop
  | .normal, a, w => J a w
  | .ret, a, w => Q .ret a w
  | _, _, _ => False
theorem range_loop {P : Program} {b0 b1 idN tI tN cN nt bm r : Nat} {o1 o2 : Oper} {body : Code} {G : Prs} {J : List Int → Act → World → Prop} {Q : Exit → Act → World → Prop}
    (h1 : o1.op = .next (.tmp tI) false) (h1d : o1.dst = some tN) (h1g : o1.guard = none) (h2 : o2.op = .extract (.tmp tN) 0) (h2d : o2.dst = some cN) (h2g : o2.guard = none) (hN : tN < nt) (hC : cN < nt) (hNC : tN ≠ cN) (hbr : bm ≠ r)
    (hJ : ∀ seen a w, J seen a w → IterAt w r bm G seen ∧ a.eval (.tmp tI) = .pointer (some ⟨r, 0, none⟩) ∧ a.tmps.size = nt)
    (hstep : ∀ seen a w g w' v, J seen a w → g ∈ G → g.1 ∉ seen → IterAt w' r bm G (g.1 :: seen) → w'.heap.size = w.heap.size → (∀ i, i ≠ r → w'.heap[i]? = w.heap[i]?) → w'.os = w.os → w'.tape = w.tape → w'.output = w.output →
      (∀ u, u.heap[bm]? = w'.heap[bm]? → u.heap[r]? = w'.heap[r]? → (Instr.entry (.pointer (some ⟨r, 0, none⟩))).run P u = .ok (.tuple #[.int .i64 g.1, g.2]) u) → body.wp P (roundQ (J (g.1 :: seen)) Q) ((a.put (some tN) v).put (some cN) (.bool true)) w')
    (hend : ∀ seen a w v, J seen a w → (∀ g ∈ G, g.1 ∈ seen) → Q .normal ((a.put (some tN) v).put (some cN) (.bool false)) w) {a : Act} {w : World} (h0 : J [] a w) :
    (Code.block b0 (Code.loop (Code.seq (Code.region idN #[o1, o2] false) (Code.seq (Code.cond (.tmp cN) .skip (.exit b0)) (Code.block b1 body))))).wp P Q a w := by
  refine wp_block (wp_loop_ghost (fun n a w => ∃ seen, n = left G seen ∧ J seen a w) (left G []) ⟨[], rfl, h0⟩ ?_)
  rintro n a w ⟨seen, rfl, hj⟩
  obtain ⟨hit, hp, hsz⟩ := hJ seen a w hj
  rcases hit.next (P := P) o1.type hbr with ⟨hall, hrun⟩ | ⟨g, hg, hns, w', hrun, hit', hs', hb', ho', ht', hu', hent⟩
  · refine wp_seq (wp_region_list (list_val h1g (v := .tuple #[.bool false]) (w' := w) (by simp [execOp, h1, hp, hrun]) (list_val h2g (v := .bool false) (w' := w) (by rw [h1d]; simp [execOp, h2, eval_same (show tN < a.tmps.size by omega), Instr.extract]) ?_)))
    show Code.wp _ _ _ _ _
    rw [h1d, h2d]
    refine wp_seq (wp_cond (t := false) (eval_same (by rw [put_size]; omega)) ?_)
    refine wp_exit ?_
    show (if b0 = b0 then Q .normal _ _ else _)
    rw [if_pos rfl]
    exact hend seen a w _ hj hall
  · refine wp_seq (wp_region_list (list_val h1g (v := .tuple #[.bool true, .int .i64 g.1, g.2]) (w' := w') (by simp [execOp, h1, hp, hrun]) (list_val h2g (v := .bool true) (w' := w') (by rw [h1d]; simp [execOp, h2, eval_same (show tN < a.tmps.size by omega), Instr.extract]) ?_)))
    show Code.wp _ _ _ _ _
    rw [h1d, h2d]
    refine wp_seq (wp_cond (t := true) (eval_same (by rw [put_size]; omega)) ?_)
    refine wp_skip ?_
    show Code.wp _ _ _ _ _
    refine wp_block (wp_mono (hstep seen a w g w' (.tuple #[.bool true, .int .i64 g.1, g.2]) hj hg hns hit' hs' hb' ho' ht' hu' hent) ?_)
    intro e a2 w2 hq
    cases e with
    | normal => exact ⟨left G (g.1 :: seen), left_lt hg hns, g.1 :: seen, rfl, hq⟩
    | ret => exact hq
    | exit i => exact hq.elim
    | goto l => exact hq.elim
    | panic c => exact hq.elim
    | outgrown => exact hq.elim
end Go.Proofs.Ytlbgcjpkegpmlaa
/- kick.check. -/
namespace Go.Proofs.Ytlbgcjpkegpmlaa
open Go.RowKit
set_option linter.unusedSimpArgs false
set_option linter.unusedVariables false

theorem Groups.arr {B : Nat} {w : World} {b d : Nat} {v : Value} {rows : List (List C)} {G : Prs} (h : Groups B w b rows G) (hty : TyN Try.prog d 40 rows) (hsm : ∀ n, (C.s v rows).small n) {g : Int × Value} (hg : g ∈ G) {O : Nat → Nat → Prop} (hO : ∀ x, B ≤ x → ∀ o, ¬ O x o) :
    ArrOK Try.prog w O 40 (.s g.2 (fltS rows g.1)) ∧ ∀ n, (C.s g.2 (fltS rows g.1)).small n := by
  obtain ⟨h1, x, hx, hBx, -, -⟩ := h.rows g hg
  have hr : ∀ r ∈ fltS rows g.1, r = [.i (cell_ r 0), .i (cell_ r 1), .i (cell_ r 2)] ∧ ∀ j, -9223372036854775808 ≤ cell_ r j ∧ cell_ r j ≤ 9223372036854775807 := fun r hr => by
    have hm : r ∈ rows := (List.mem_filter.1 hr).1
    obtain ⟨i, hi, hir⟩ := List.getElem_of_mem hm
    have e : rows.getD i [] = r := by simp [List.getD_eq_getElem?_getD, hi, hir]
    have := row3 hty hi
    rw [e] at this
    refine ⟨this, fun j => ?_⟩
    have h2 := C.int_le (C.small_at hsm i j)
    have e2 : ((C.s v rows).at i j).int = cell_ (rows.getD i []) j := rfl
    rw [e2, e] at h2
    exact h2
  have hv : VecOK Try.prog w O 40 g.2 (.s g.2 (fltS rows g.1)) := by
    refine ⟨[.int, .int, .int], cellsV (fltS rows g.1), kinds_sam, ⟨_, rfl⟩, fun r hr' => by rw [(hr r hr').1]; rfl, creps_rows hr, h1.1, h1.2.imp id fun ⟨g', cap, cur, e, _, rest⟩ => ⟨g', cap, cur, e, Nat.zero_le _, rest⟩⟩
  refine ⟨hv.arr (fun _ _ h => h) fun b hb o => hO b (by rw [hx] at hb; cases hb; exact hBx) o, C.small_rows (.inl hsm) (List.length_filter_le _ _) (fun r hr => (List.mem_filter.1 hr).1) _⟩
theorem chk_split : bodyOf Try.f81 = pre (heads 4 (bodyOf Try.f81)) (nav [1, 1, 1, 1] (bodyOf Try.f81)) := by kernel_rfl
theorem chk_tree1 : execL cchk1 (heads 4 (bodyOf Try.f81)) { startOf Try.f81 ctCheckS [] [] with lvl := (startOf Try.f81 ctCheckS [] []).lvl + 1 } (joinK (startOf Try.f81 ctCheckS [] []) chkSt1 [] [] (endK cchk1 Try.f81 ctCheckS)) = some tchk1 := by kernel_rfl
theorem chk_tree2 : exec cchk1 (nav [1, 1, 1, 1, 0, 1, 0, 0, 1, 1, 0, 1] (bodyOf Try.f81)) { chkStI with lvl := chkStI.lvl + 1 } (joinK chkStI chkStE [] [] (endK cchk1 Try.f81 ctCheckS)) = some tchk2 := by kernel_rfl
theorem chk_cx : CxOK cchk1 := Tab.cx_ok (all_cons (up3_ok (up_ok within_ok)) all_nil) fxchk1
/-- What the first part says. -/
theorem chk_vc1 {R : List C → Prop} {n : Int} {v : Value} {rows : List (List C)} (hR : ∀ e, e = checkV n rows → R [.i e]) :
    VC cchk1 R tchk1 [.i n, .s v rows] [fun _ => rows.length ≤ 200 ∧ rows.all (inB n) = true ∧ rows.all inR = true] := by
  unfold tchk1
  simp only [VC, allC, List.map_cons, List.map_nil, List.length_cons, List.length_nil, List.getElem?_cons_zero, List.getElem?_cons_succ, List.cons.injEq, C.i.injEq, C.b.injEq, and_true, true_and, forall_const, kindsOf_nil, kindsOf_lf, kindsOf_agg, kindsOf_box, boxKinds_nil, boxKinds_lf, boxKinds_agg, boxKinds_box, List.append_nil, List.cons_append, List.nil_append, den_cmp_le, den_cmp_lt, den_cmp_eq, den_cmp_ne, den_cmp_le', den_cmp_lt', den_cmp_eq', den_cmp_ne', den_and, den_and', den_or, den_or', den_not, den_not', den_blit, den_of, ev_var, at_0, at_1, at_2, at_3, at_4, at_5, at_6, at_7, at_skip, c_int, c_bool, c_arr, c_cnt, c_vec, ev_nil, ev_join, ev_sub3, loc_s, int_i, bool_b, rows_s, cs_nil, cs_cons, E.den_lit, E.den_var, E.den_add, E.den_sub, E.den_mul, E.den_quo, E.den_rem, E.den_max, E.den_min, E.den_len, E.den_wr, E.den_cell]
  have e2 : ∀ v k o (l : List (List C)), ((C.s v l).at k o).int = cell_ (l.getD k []) o := fun _ _ _ _ => rfl
  simp only [e2]
  refine ⟨fun h => hR _ (checkV_8 h).symm, fun hl => ?_⟩
  refine ⟨fun xs => match xs with | [_, .i i] => 0 ≤ i ∧ i ≤ rows.length ∧ rows.all (inB n) = (rows.drop i.toNat).all (inB n) | _ => False, fun xs => match xs with | [_, .i i] => ((rows.length : Int) - i).toNat | _ => 0, ⟨by omega, by omega, rfl⟩, ?_⟩
  rintro z _ _ i _ _ ⟨i0, i1, hI⟩
  refine ⟨fun hlt => ⟨i0, hlt, ?_⟩, fun hge => ?_⟩
  · have hz : i.toNat < rows.length := by omega
    rw [all_drop hz] at hI
    have hmu : ((rows.length : Int) - (i + 1)).toNat < ((rows.length : Int) - i).toNat := by omega
    generalize hrow : rows.getD i.toNat [] = row at *
    have bad : ¬ (0 ≤ cell_ row 0 ∧ cell_ row 0 < n) → R [.i 7] := fun h => hR _ (by rw [checkV_7 hl (by rw [hI, inB, decide_eq_false h]; rfl)])
    refine ⟨fun h => bad (by omega), fun h0 => ⟨fun h => bad (by omega), fun h2 => ⟨⟨by omega, by omega, ?_⟩, hmu⟩⟩⟩
    rw [hI, inB, decide_eq_true (by omega), Bool.true_and, show (i + 1).toNat = i.toNat + 1 by omega]
  rw [List.drop_eq_nil_of_le (by omega)] at hI
  refine ⟨fun xs => match xs with | [_, .i i] => 0 ≤ i ∧ i ≤ rows.length ∧ rows.all inR = (rows.drop i.toNat).all inR | _ => False, fun xs => match xs with | [_, .i i] => ((rows.length : Int) - i).toNat | _ => 0, ⟨by omega, by omega, rfl⟩, ?_⟩
  rintro z' _ _ j _ _ ⟨j0, j1, hJ⟩
  refine ⟨fun hlt => ⟨j0, hlt, ?_⟩, fun hge => ?_⟩
  · have hz : j.toNat < rows.length := by omega
    rw [all_drop hz] at hJ
    have hmu : ((rows.length : Int) - (j + 1)).toNat < ((rows.length : Int) - j).toNat := by omega
    generalize hrow : rows.getD j.toNat [] = row at *
    have bad : ¬ (0 ≤ cell_ row 1 ∧ cell_ row 1 ≤ 1099511627176 ∧ -1125899906842624 ≤ cell_ row 2 ∧ cell_ row 2 ≤ 1125899906842624) → R [.i 2] := fun h => hR _ (by rw [checkV_2 hl hI (by rw [hJ, inR, decide_eq_false h]; rfl)])
    refine ⟨fun h => bad (by omega), fun h0 => ⟨fun h => bad (by omega), fun h2 => ⟨⟨by omega, by omega, ?_⟩, hmu⟩⟩⟩
    rw [hJ, inR, decide_eq_true (by omega), Bool.true_and, show (j + 1).toNat = j.toNat + 1 by omega]
  rw [List.drop_eq_nil_of_le (by omega)] at hJ
  exact ⟨by omega, hI, hJ⟩
/-- What a round says. -/
theorem chk_vc2 {R : List C → Prop} {n : Int} {v gv : Value} {rows out : List (List C)} {p : C} (hl : out.length ≤ 200) (hR : ordL out = false → R [.i 11]) :
    VC cchk1 R tchk2 [.i n, .s v rows, .s gv out, p] [fun _ => ordL out = true] := by
  unfold tchk2
  simp only [VC, allC, List.map_cons, List.map_nil, List.length_cons, List.length_nil, List.getElem?_cons_zero, List.getElem?_cons_succ, List.cons.injEq, C.i.injEq, C.b.injEq, and_true, true_and, forall_const, kindsOf_nil, kindsOf_lf, kindsOf_agg, kindsOf_box, boxKinds_nil, boxKinds_lf, boxKinds_agg, boxKinds_box, List.append_nil, List.cons_append, List.nil_append, den_cmp_le, den_cmp_lt, den_cmp_eq, den_cmp_ne, den_cmp_le', den_cmp_lt', den_cmp_eq', den_cmp_ne', den_and, den_and', den_or, den_or', den_not, den_not', den_blit, den_of, ev_var, at_0, at_1, at_2, at_3, at_4, at_5, at_6, at_7, at_skip, c_int, c_bool, c_arr, c_cnt, c_vec, ev_nil, ev_join, ev_sub3, loc_s, int_i, bool_b, rows_s, cs_nil, cs_cons, E.den_lit, E.den_var, E.den_add, E.den_sub, E.den_mul, E.den_quo, E.den_rem, E.den_max, E.den_min, E.den_len, E.den_wr, E.den_cell]
  have e2 : ∀ v k o (l : List (List C)), ((C.s v l).at k o).int = cell_ (l.getD k []) o := fun _ _ _ _ => rfl
  simp only [e2]
  refine ⟨fun xs => match xs with | [.i i] => i ≤ 201 ∧ OrdI out i | _ => False, fun xs => match xs with | [.i i] => ((out.length : Int) - i).toNat | _ => 0, ⟨by omega, OrdI.one _⟩, ?_⟩
  rintro m _ _ ⟨m0, hM⟩
  refine ⟨fun hml => ?_, fun hml => hM.end_ hml⟩
  have m1 := hM.1
  refine ⟨by omega, hml, by omega, by omega, fun hle => hR (hM.bad hml hle), fun hgt => ⟨⟨by omega, hM.next hml hgt⟩, ?_⟩⟩
  show ((out.length : Int) - (m + 1)).toNat < ((out.length : Int) - m).toNat
  omega
end Go.Proofs.Ytlbgcjpkegpmlaa
/- kick.check: its contract. -/
namespace Go.Proofs.Ytlbgcjpkegpmlaa
open Go.RowKit
set_option linter.unusedSimpArgs false
set_option linter.unusedVariables false

theorem below_trans {a b c : World} (h : Below a.heap.size a b) (k : Below b.heap.size b c) : Below a.heap.size a c :=
  ⟨k.os.trans h.os, k.tape.trans h.tape, k.output.trans h.output, Nat.le_trans h.size k.size, fun i hi => (k.block i (Nat.lt_of_lt_of_le hi h.size)).trans (h.block i hi)⟩
structure ChkIn (wg : World) (bm : Nat) (rows : List (List C)) (G : Prs) (seen : List Int) (a : Act) (w : World) : Prop where
  it : IterAt w wg.heap.size bm G seen
  s18 : a.eval (.tmp 18) = .pointer (some ⟨wg.heap.size, 0, none⟩)
  size : a.tmps.size = 41
  defers : a.defers = []
  below : Below wg.heap.size wg w
  lt : wg.heap.size < w.heap.size
  ord : ∀ g ∈ G, g.1 ∈ seen → ordL (fltS rows g.1) = true
/-- One round behind the iterator's step. -/
theorem chk_round {F : Nat → Prop} {w0 wp wg : World} {Γ : Env} {n : Int} {v : Value} {rows : List (List C)} {d bm : Nat} {G : Prs} {Q : Exit → Act → World → Prop} {R : List C → Prop}
    (hρ : Γ.ρ = [.i n, .s v rows]) (hnb : Γ.nb = 0) (hsm : ∀ k, (C.s v rows).small k) (hsn : ∀ k, (C.i n).small k) (hty : TyN Try.prog d 40 rows) (hF : ∀ i, F i → i < w0.heap.size) (hb : ∀ b o, Γ.base b o → b < wp.heap.size)
    (hk0 : Keeps F w0 wp) (hpg : Below wp.heap.size wp wg) (hG : Groups wp.heap.size wg bm rows G) (hl : rows.length ≤ 200) (hR : ∀ k, ordL (fltS rows k) = false → (∃ g ∈ G, g.1 = k) → R [.i 11])
    (hk : KOK cchk1 R F w0 (endK cchk1 Try.f81 ctCheckS) Γ [] Q) {seen : List Int} {a : Act} {w w' : World} {g : Int × Value} {u : Value} (hin : ChkIn wg bm rows G seen a w) (hg : g ∈ G) (hit : IterAt w' wg.heap.size bm G (g.1 :: seen)) (hs : w'.heap.size = w.heap.size) (hbl : ∀ i, i ≠ wg.heap.size → w'.heap[i]? = w.heap[i]?) (ho : w'.os = w.os) (ht : w'.tape = w.tape) (hu : w'.output = w.output)
    (hent : ∀ u, u.heap[bm]? = w'.heap[bm]? → u.heap[wg.heap.size]? = w'.heap[wg.heap.size]? → (Instr.entry (.pointer (some ⟨wg.heap.size, 0, none⟩))).run Try.prog u = .ok (.tuple #[.int .i64 g.1, g.2]) u) :
    (nav [1, 1, 1, 1, 0, 1, 0, 0, 1, 1, 0] (bodyOf Try.f81)).wp Try.prog (roundQ (ChkIn wg bm rows G (g.1 :: seen)) Q) ((a.put (some 19) u).put (some 20) (.bool true)) w' := by
  have hbg : Below wg.heap.size wg w' := ⟨ho.trans hin.below.os, ht.trans hin.below.tape, hu.trans hin.below.output, by have := hin.below.size; omega, fun i hi => (hbl i (by omega)).trans (hin.below.block i hi)⟩
  have hbp : Below wp.heap.size wp w' := below_trans hpg hbg
  generalize hb1 : Value.bool true = b1
  have h18 : ((a.put (some 19) u).put (some 20) b1).eval (.tmp 18) = .pointer (some ⟨wg.heap.size, 0, none⟩) := by rw [eval_other (by decide), eval_other (by decide)]; exact hin.s18
  have hsz : ((a.put (some 19) u).put (some 20) b1).tmps.size = 41 := by rw [put_size, put_size]; exact hin.size
  have hdf : ((a.put (some 19) u).put (some 20) b1).defers = [] := by rw [put_defers, put_defers]; exact hin.defers
  generalize (a.put (some 19) u).put (some 20) b1 = a2 at *
  show (Code.seq (Code.region 9 _ _) (nav [1, 1, 1, 1, 0, 1, 0, 0, 1, 1, 0, 1] (bodyOf Try.f81))).wp _ _ _ _
  refine wp_seq (wp_region_list (list_val rfl (v := .tuple #[.int .i64 g.1, g.2]) (w' := w') (by simp [execOp, h18, hent w' rfl rfl]) (list_val rfl (v := g.2) (w' := w') (by simp [execOp, eval_same (show 21 < a2.tmps.size by omega), Instr.extract]) (list_val rfl (v := g.2) (w' := w') (by simp [execOp, eval_same, put_size, hsz]) ?_))))
  show Code.wp _ _ _ _ _
  have h6 : (((a2.put (some 21) (.tuple #[.int .i64 g.1, g.2])).put (some 22) g.2).put (some 6) g.2).eval (.tmp 6) = g.2 := eval_same (by rw [put_size, put_size]; omega)
  have h18' : (((a2.put (some 21) (.tuple #[.int .i64 g.1, g.2])).put (some 22) g.2).put (some 6) g.2).eval (.tmp 18) = .pointer (some ⟨wg.heap.size, 0, none⟩) := by rw [eval_other (by decide), eval_other (by decide), eval_other (by decide)]; exact h18
  have hsz' : (((a2.put (some 21) (.tuple #[.int .i64 g.1, g.2])).put (some 22) g.2).put (some 6) g.2).tmps.size = 41 := by rw [put_size, put_size, put_size]; exact hsz
  have hdf' : (((a2.put (some 21) (.tuple #[.int .i64 g.1, g.2])).put (some 22) g.2).put (some 6) g.2).defers = [] := by rw [put_defers, put_defers, put_defers]; exact hdf
  generalize ((a2.put (some 21) (.tuple #[.int .i64 g.1, g.2])).put (some 22) g.2).put (some 6) g.2 = a3 at *
  obtain ⟨hga, hgs⟩ := (hG.keep hbg).arr hty hsm hg (O := Γ.base) fun x hx o hxo => by have := hb x o hxo; omega
  have hsat : Sat Try.prog (fun i => i < w'.heap.size) w' { Γ with ρ := [.i n, .s v rows, .s g.2 (fltS rows g.1), .s (.pointer (some ⟨wg.heap.size, 0, none⟩)) []] } chkStI a3 w' := by
    refine Sat.bare rfl rfl (fun b mb h => by cases h) (fun i j x y h => by cases h) (fun t sv ht => ?_) hsz' (Keeps.refl _ _) (fun _ h => h) (fun b o h => by have := hb b o h; have := hbp.size; omega) hdf' rfl hnb rfl ?_
    · simp only [chkStI, look] at ht
      split at ht
      · rename_i e; subst e; cases ht; exact ⟨h6, fun l hl => by
          simp only [S0.cells, List.mem_cons, List.not_mem_nil, or_false] at hl; subst hl
          exact hga.keep (Nat.le_refl _) fun b o _ hno => ⟨rfl, fun h => h.elim hno fun ⟨j, mb, h, _⟩ => by cases h⟩⟩
      split at ht
      · rename_i e; subst e; cases ht; exact ⟨h18', fun l hl => by simp only [S0.cells, List.mem_cons, List.not_mem_nil, or_false] at hl; subst hl; rfl⟩
      cases ht
    · have := Smalls.nil.app (cs := [.i n, .s v rows, .s g.2 (fltS rows g.1), .s (.pointer (some ⟨wg.heap.size, 0, none⟩)) []]) (fun c hc => by
        simp only [List.mem_cons, List.not_mem_nil, or_false] at hc
        rcases hc with rfl | rfl | rfl | rfl
        · exact hsn
        · exact hsm
        · exact hgs
        · intro n; cases n <;> simp [C.small])
      simpa using this
  have hlen := @fltS_len rows g.1
  have hext : Ext Γ { Γ with ρ := [.i n, .s v rows, .s g.2 (fltS rows g.1), .s (.pointer (some ⟨wg.heap.size, 0, none⟩)) []] } := ⟨⟨[.s g.2 (fltS rows g.1), .s (.pointer (some ⟨wg.heap.size, 0, none⟩)) []], by rw [hρ]; rfl⟩, fun _ _ => rfl, Nat.le_refl _, rfl, rfl⟩
  refine seg_sound (R := R) chk_cx (Ls := []) (I := fun _ => ordL (fltS rows g.1) = true) chk_tree2 (by kernel_rfl) rfl (chk_vc2 (by omega) fun h => hR _ h ⟨g, hg, rfl⟩) hsat ?_ ?_
  · intro xs Γx a' w2 hxs hI hρ' he hs'
    have hbw : Below w'.heap.size w' w2 := hs'.keeps.below
    have hm := (hG.keep hbg).map.lt
    have h18'' : a'.eval (.tmp 18) = .pointer (some ⟨wg.heap.size, 0, none⟩) := by
      have hx : xs = [] := by cases xs with | nil => rfl | cons x xs => exact hxs.elim
      subst hx
      have := (hs'.slots 18 _ (rfl : look chkStE.sl 18 = some (.one (.lf (.clo 3))))).1
      unfold slotV at this
      rw [if_pos (by decide)] at this
      refine Eq.trans this ?_
      simp only [SV.den, S0.den, Lf.den, hρ']
      rfl
    have hlt := hin.lt
    refine ⟨hit.kept (hbw.block _ hm) (hbw.block _ (by omega)), h18'', hs'.size, hs'.defers, ⟨hbw.os.trans hbg.os, hbw.tape.trans hbg.tape, hbw.output.trans hbg.output, Nat.le_trans hbg.size hbw.size, fun i hi => (hbw.block i (by have := hbg.size; omega)).trans (hbg.block i hi)⟩, by have := hbw.size; omega, fun g' hg' hs => ?_⟩
    rcases List.mem_cons.1 hs with h | h
    · rw [h]; exact hI
    · exact hin.ord g' hg' h
  · intro x st' T' Γ' Ls' hx hk' he hlen' hv' a' w2 hs'
    have hbw : Below w'.heap.size w' w2 := hs'.keeps.below
    have hkF : Keeps F w0 w2 := (hk0.trans (Keeps.of_below hbp fun i hi => by have := hF i hi; have := hk0.size; omega)).trans (Keeps.of_below hbw fun i hi => by have := hF i hi; have := hk0.size; have := hbp.size; omega)
    have := hk x st' T' Γ' Ls' hk' (hext.trans he) (List.nil_prefix) hlen' hv' a' w2 (hs'.back (base' := Γ'.base) (fun i hi => by have := hF i hi; have := hk0.size; have := hbp.size; omega) hkF hF fun _ _ h => h)
    cases x with
    | nrm => exact absurd rfl hx
    | ret => exact this
    | ext i => cases hk'
end Go.Proofs.Ytlbgcjpkegpmlaa
/- kick.check: its contract. -/
namespace Go.Proofs.Ytlbgcjpkegpmlaa
open Go.RowKit
set_option linter.unusedSimpArgs false
set_option linter.unusedVariables false

theorem callable_bySensor : Callable Try.prog 82 := ⟨_, Try.func82, by decide, rfl⟩
/-- From the samples' map on. -/
theorem chk_rest {F : Nat → Prop} {w0 wp : World} {Γ : Env} {n : Int} {v : Value} {rows : List (List C)} {d : Nat} {Q : Exit → Act → World → Prop} {R : List C → Prop}
    (hρ : Γ.ρ = [.i n, .s v rows]) (hnb : Γ.nb = 0) (hsm : ∀ k, (C.s v rows).small k) (hsn : ∀ k, (C.i n).small k) (hty : TyN Try.prog d 40 rows) (hF : ∀ i, F i → i < w0.heap.size) (hb : ∀ b o, Γ.base b o → b < wp.heap.size)
    (hk0 : Keeps F w0 wp) (hl : rows.length ≤ 200) (hA : ArrOK Try.prog wp Γ.base 40 (.s v rows)) (hRb : rows.all (fun r => ordL (fltS rows (cell_ r 0))) = false → R [.i 11]) (hR0 : rows.all (fun r => ordL (fltS rows (cell_ r 0))) = true → R [.i 0])
    (hk : KOK cchk1 R F w0 (endK cchk1 Try.f81 ctCheckS) Γ [] Q) {a : Act} (hsz : a.tmps.size = 41) (hdf : a.defers = []) (h1 : a.eval (.tmp 1) = v) :
    (nav [1, 1, 1, 1] (bodyOf Try.f81)).wp Try.prog Q a wp := by
  have hloc : v = (C.s v rows).loc := by
    obtain ⟨v', rows', e, d', S, hS, hN⟩ := hA
    cases e
    rfl
  show (Code.seq (Code.seq (Code.region 7 _ _) (Code.block 0 (Code.loop (Code.seq (Code.region 8 _ _) (Code.seq (Code.cond (.tmp 20) .skip (.exit 0)) (Code.block 1 (nav [1, 1, 1, 1, 0, 1, 0, 0, 1, 1, 0] (bodyOf Try.f81)))))))) (Code.seq (Code.region 15 _ _) Code.ret)).wp _ _ _ _
  refine wp_seq (wp_seq (wp_region_list (list_val rfl (v := v) (w' := wp) (by simp [execOp, h1]) (list_call rfl (f := 82) (args := #[v]) (by
    simp [execOp, resolve, invoke, eval_same, put_size, hsz, eval_const]
    exact run_callFunc' callable_bySensor _ _) ?_))))
  refine Calls.mono (bySensor_ok (Base := Γ.base) hb ⟨hsm, hloc, hA⟩ (by omega)) fun e wg he => ?_
  obtain ⟨bm, G, rfl, hpg, hbm, hG⟩ := he
  refine ⟨_, rfl, ?_⟩
  obtain ⟨o, hrg, hit⟩ := IterAt.start (P := Try.prog) (t := 115) Try.underlying115 hG.map
  refine list_val rfl (v := .pointer (some ⟨wg.heap.size, 0, none⟩)) (w' := wg.alloc o) (by simp [execOp, eval_same, put_size, hsz, hrg]) ?_
  show Code.wp _ _ _ _ _
  have hord : ∀ seen : List Int, (∀ g ∈ G, g.1 ∈ seen) → (∀ g ∈ G, g.1 ∈ seen → ordL (fltS rows g.1) = true) → rows.all (fun r => ordL (fltS rows (cell_ r 0))) = true := fun seen ha ho => by
    rw [List.all_eq_true]
    intro r hr
    obtain ⟨g, hg, e⟩ := hG.all r hr
    rw [← e]
    exact ho g hg (ha g hg)
  have hRk : ∀ k, ordL (fltS rows k) = false → (∃ g ∈ G, g.1 = k) → R [.i 11] := fun k hk ⟨g, hg, e⟩ => hRb (by
    obtain ⟨r, hr, e'⟩ := hG.has g hg
    cases ha : rows.all (fun r => ordL (fltS rows (cell_ r 0))) with
    | false => rfl
    | true =>
      have : ordL (fltS rows (cell_ r 0)) = true := List.all_eq_true.1 ha r hr
      rw [← e', e, hk] at this
      cases this)
  refine range_loop (nt := 41) (tI := 18) (tN := 19) (cN := 20) (bm := bm) (r := wg.heap.size) (G := G) (J := ChkIn wg bm rows G) rfl rfl rfl rfl rfl rfl (by decide) (by decide) (by decide) (by have := hG.map.lt; omega) (fun seen a w h => ⟨h.it, h.s18, h.size⟩) ?_ ?_ ?_
  · intro seen a2 w2 g w3 u hin hg hns hit' hs hbl ho ht hu hent
    exact wp_mono (chk_round (Q := Q) hρ hnb hsm hsn hty hF hb hk0 hpg hG hl hRk hk hin hg hit' hs hbl ho ht hu hent) fun e a w h => by cases e <;> exact h
  · intro seen a2 w2 u hin hall
    show (Code.seq (Code.region 15 _ _) Code.ret).wp _ _ _ _
    refine wp_seq (wp_region_list (list_val rfl (v := .int .i64 0) (w' := w2) (by simp [execOp, eval_const]) ?_))
    show Code.wp _ _ _ _ _
    refine wp_ret ?_
    have hsz2 : (((a2.put (some 19) u).put (some 20) (.bool false)).put (some 4) (.int .i64 0)).tmps.size = 41 := by rw [put_size, put_size, put_size]; exact hin.size
    have hdf2 : (((a2.put (some 19) u).put (some 20) (.bool false)).put (some 4) (.int .i64 0)).defers = [] := by rw [put_defers, put_defers, put_defers]; exact hin.defers
    have h4 : (((a2.put (some 19) u).put (some 20) (.bool false)).put (some 4) (.int .i64 0)).eval (.tmp 4) = .int .i64 0 := eval_same (by rw [put_size, put_size, hin.size]; omega)
    generalize ((a2.put (some 19) u).put (some 20) (.bool false)).put (some 4) (.int .i64 0) = a4 at *
    have hbp : Below wp.heap.size wp w2 := below_trans hpg hin.below
    refine hk .ret { chkStZ with sl := [(4, some (.one (.lf (.int (.lit 0)))))] } (.ret [.int (.lit 0)]) Γ [] (by kernel_rfl) (Ext.refl _) (List.prefix_refl _) rfl (hR0 (hord seen hall hin.ord)) a4 w2 (Sat.bare rfl rfl (fun b mb h => by cases h) (fun i j x y h => by cases h) (fun t sv ht => ?_) hsz2 (hk0.trans (Keeps.of_below hbp fun i hi => by have := hF i hi; have := hk0.size; omega)) hF (fun b o h => by have := hb b o h; have := hbp.size; omega) hdf2 (by rw [hρ]; rfl) hnb rfl ?_)
    · simp only [look] at ht
      split at ht
      · rename_i e; subst e; cases ht; exact ⟨h4, fun l hl => by simp only [S0.cells, List.mem_cons, List.not_mem_nil, or_false] at hl; subst hl; trivial⟩
      cases ht
    · rw [hρ]
      have := Smalls.nil.app (cs := [.i n, .s v rows]) (fun c hc => by
        simp only [List.mem_cons, List.not_mem_nil, or_false] at hc
        rcases hc with rfl | rfl
        · exact hsn
        · exact hsm)
      simpa using this
  · have hsz1 : ((a.put (some 16) v).put (some 17) (.map (some bm))).tmps.size = 41 := by rw [put_size, put_size]; exact hsz
    refine ⟨hit, eval_same (Nat.lt_of_lt_of_eq (by decide : 18 < 41) hsz1.symm), by rw [put_size]; exact hsz1, by simp only [put_defers]; exact hdf, below_alloc _ _, ?_, fun g _ h => by cases h⟩
    obtain ⟨es, clock, since, sn, c0, h1, h2, h3, h4, h5⟩ := hit
    exact (Array.getElem?_eq_some_iff.1 h4).1
theorem check_ok : tab3.ok 81 := by
  refine Tab.of_ct rfl rfl ⟨_, Try.func81, by decide, rfl⟩ ?_ ctF_det
  refine ct_ok_open (cx := cchk1) (bds := []) chk_cx Try.func81 (c := bodyOf Try.f81) rfl ⟨by decide, by decide, by decide⟩ fun cs hcs _ => ⟨bds_nil _, fun F w0 Γ a w Q hρ hs hk => ?_⟩
  obtain ⟨n, v, rows, d, rfl, hty⟩ : ∃ n v rows d, cs = [.i n, .s v rows] ∧ TyN Try.prog d 40 rows := by
    match cs, hcs with
    | [c1, c2], ⟨⟨_, n, e1⟩, ⟨_, v, rows, d, e2, hty⟩, _⟩ => exact ⟨n, v, rows, d, by rw [e1, e2], hty⟩
  have hsmall := fun c hc => CTy.small hcs (c := c) hc
  rw [chk_split]
  refine pre_seg (R := ctCheckS.post [.i n, .s v rows]) chk_cx (Ls := []) chk_tree1 (by kernel_rfl) rfl (I := fun _ => rows.length ≤ 200 ∧ rows.all (inB n) = true ∧ rows.all inR = true) (by rw [hρ]; exact chk_vc1 fun e he => by rw [he]; exact rfl) hs ?_ ?_
  · intro xs Γx a' wp hxs hI hρ' he hs'
    obtain ⟨hl, hi, hr⟩ := hI
    have hx : xs = [] := by cases xs with | nil => rfl | cons x xs => exact hxs.elim
    subst hx
    rw [List.append_nil, hρ] at hρ'
    have hsl := hs'.slots 1 _ (rfl : look chkSt1.sl 1 = some (.one (.lf (.arr 40 (.var 1)))))
    have h1 : a'.eval (.tmp 1) = v := by
      have := hsl.1
      unfold slotV at this
      rw [if_pos (by decide)] at this
      refine Eq.trans this ?_
      simp only [SV.den, S0.den, Lf.den, ev_var, hρ']
      rfl
    have hA : ArrOK Try.prog wp Γx.base 40 (.s v rows) := by
      have := hsl.2 (.arr 40 (.var 1)) (by simp [S0.cells])
      have h2 : ArrOK Try.prog wp (Own Γx chkSt1) 40 ((E.var 1).ev Γx.ρ) := this
      rw [show (E.var 1).ev Γx.ρ = .s v rows by rw [ev_var, hρ']; rfl] at h2
      exact h2.keep (Nat.le_refl _) fun b o _ hno => ⟨rfl, fun h => hno (.inl h)⟩
    refine chk_rest (Γ := Γx) (R := ctCheckS.post [.i n, .s v rows]) hρ' hs'.nb (hsmall _ (by simp)) (hsmall _ (by simp)) hty hs'.fold (fun b o h => hs'.base b o h) hs'.keeps hl hA (fun h => ?_) (fun h => ?_) (hk.mono he (List.prefix_refl _)) hs'.size hs'.defers h1
    · rw [← checkV_11 (by omega) hi hr h]; exact rfl
    · rw [← checkV_0 (by omega) hi hr h]; exact rfl
  · intro x st' T' Γ' Ls' hx hk' he hlen' hv' a' w' hs'
    exact hk x st' T' Γ' Ls' hk' he (List.nil_prefix) hlen' hv' a' w' hs'
end Go.Proofs.Ytlbgcjpkegpmlaa
/- kick.Watch: its states; the sensors' alarms by kick. -/
namespace Go.Proofs.Ytlbgcjpkegpmlaa
open Go.RowKit
set_option linter.unusedSimpArgs false
set_option linter.unusedVariables false

def watSt1 : St := { sl := [(0, some (.one (.lf (.arr 23 (.var 0))))), (1, some (.one (.lf (.arr 40 (.var 1))))), (4, some (.one (.lf (.ptr 0 0)))), (9, some (.one (.lf (.ptr 1 0)))), (10, some (.one (.lf (.bool (.lit false)))))], mem := [(1, some (81, [.int (.lit 0), .int (.lit 0)])), (0, some (81, [.int (.lit 0), .int (.lit 0)]))], nt := 74, nb := 2, nx := 2, lvl := 1, bds := [] }
def watStI : St := { sl := [(0, some (.one (.lf (.arr 23 (.var 0))))), (4, some (.one (.lf (.ptr 0 0)))), (9, some (.one (.lf (.ptr 1 0)))), (10, some (.one (.lf (.bool (.of (.var 2)))))), (11, some (.one (.lf (.int (.var 5))))), (12, some (.one (.lf (.arr 40 (.var 6))))), (31, some (.one (.lf (.clo 7))))], mem := [(1, some (81, [.int (.var 3), .int (.var 4)])), (0, some (81, [.int (.lit 0), .int (.lit 0)]))], nt := 74, nb := 2, nx := 8, lvl := 0, bds := [] }
def watStE : St := { sl := [(0, some (.one (.lf (.arr 23 (.var 0))))), (4, some (.one (.lf (.ptr 0 0)))), (9, some (.one (.lf (.ptr 1 0)))), (10, some (.one (.lf (.bool (.of (.var 8)))))), (31, some (.one (.lf (.clo 7))))], mem := [(1, some (81, [.int (.var 9), .int (.var 10)])), (0, some (81, [.int (.lit 0), .int (.lit 0)]))], nt := 74, nb := 2, nx := 11, lvl := 1, bds := [] }
def watStF : St := { sl := [(4, some (.one (.lf (.ptr 0 0)))), (9, some (.one (.lf (.ptr 1 0)))), (10, some (.one (.lf (.bool (.of (.var 2))))))], mem := [(1, some (81, [.int (.var 3), .int (.var 4)])), (0, some (81, [.int (.lit 0), .int (.lit 0)]))], nt := 74, nb := 2, nx := 5, lvl := 0, bds := [] }
end Go.Proofs.Ytlbgcjpkegpmlaa
/- What is to be shown of each function, as the executor has it. Printed by trees.py. -/
namespace Go.Proofs.Ytlbgcjpkegpmlaa
noncomputable def cwat1 : Cx := tab3.only [42, 81, 83] (fun _ => []) [] 0 [] (fun _ => none)
def twat1 : Tree :=
  (.call 42 [(.arr 23 (.var 0))] (.split (.cmp .ne (.var 2) (.lit 0)) (.ret [(.int (.lit 0)), (.int (.lit 0)), (.bool (.lit false)), (.int (.var 2))]) (.call 81 [(.int (.len (.var 0))), (.arr 40 (.var 1))] (.split (.cmp .ne (.var 3) (.lit 0)) (.ret [(.int (.lit 0)), (.int (.lit 0)), (.bool (.lit false)), (.int (.var 3))]) (.back 0 [])))))
noncomputable def cwat2 : Cx := tab3.only [42, 81, 83] (fun _ => []) [] 0 [] (fun _ => none)
def twat2 : Tree :=
  (.ob (.cmp .le (.lit 0) (.var 5)) (.ob (.cmp .lt (.var 5) (.len (.var 0))) (.call 83 [(.int (.cell (.var 0) (.var 5) 0)), (.int (.cell (.var 0) (.var 5) 1)), (.int (.cell (.var 0) (.var 5) 2)), (.int (.cell (.var 0) (.var 5) 3)), (.int (.cell (.var 0) (.var 5) 4)), (.int (.cell (.var 0) (.var 5) 5)), (.int (.cell (.var 0) (.var 5) 6)), (.int (.cell (.var 0) (.var 5) 7)), (.arr 40 (.var 6))] (.split (.of (.var 9)) (.split (.not (.of (.var 2))) (.back 0 [(.bool (.lit true)), (.int (.var 5)), (.int (.var 8))]) (.split (.cmp .lt (.var 8) (.var 4)) (.back 0 [(.bool (.lit true)), (.int (.var 5)), (.int (.var 8))]) (.split (.cmp .eq (.var 8) (.var 4)) (.split (.cmp .lt (.var 5) (.var 3)) (.back 0 [(.bool (.lit true)), (.int (.var 5)), (.int (.var 8))]) (.back 0 [(.bool (.of (.var 2))), (.int (.var 3)), (.int (.var 4))])) (.back 0 [(.bool (.of (.var 2))), (.int (.var 3)), (.int (.var 4))])))) (.back 0 [(.bool (.of (.var 2))), (.int (.var 3)), (.int (.var 4))])))))
noncomputable def cwat3 : Cx := tab3.only [42, 81, 83] (fun _ => []) [] 0 [] (fun _ => none)
def twat3 : Tree :=
  (.ret [(.int (.var 3)), (.int (.var 4)), (.bool (.of (.var 2))), (.int (.lit 0))])
end Go.Proofs.Ytlbgcjpkegpmlaa
/- kick.alarms in the table; kick.Watch's parts. -/
namespace Go.Proofs.Ytlbgcjpkegpmlaa
open Go.RowKit
set_option linter.unusedSimpArgs false
set_option linter.unusedVariables false

theorem wat_split : bodyOf Try.f54 = pre (heads 5 (bodyOf Try.f54)) (nav [1, 1, 1, 1, 1] (bodyOf Try.f54)) := by kernel_rfl
theorem wat_tree1 : execL cwat1 (heads 5 (bodyOf Try.f54)) { startOf Try.f54 ctWatch [] [] with lvl := (startOf Try.f54 ctWatch [] []).lvl + 1 } (joinK (startOf Try.f54 ctWatch [] []) watSt1 [] [] (endK cwat1 Try.f54 ctWatch)) = some twat1 := by kernel_rfl
theorem wat_tree2 : exec cwat1 (nav [1, 1, 1, 1, 1, 0, 1, 0, 0, 1, 1, 0, 1] (bodyOf Try.f54)) { watStI with lvl := watStI.lvl + 1 } (joinK watStI watStE [.slot 10, .blk 1] [.bool, .int, .int] fun _ _ => none) = some twat2 := by kernel_rfl
theorem wat_tree3 : exec cwat1 (nav [1, 1, 1, 1, 1, 1] (bodyOf Try.f54)) watStF (endK cwat1 Try.f54 ctWatch) = some twat3 := by kernel_rfl
theorem wat_cx : CxOK cwat1 := Tab.cx_ok (all_cons (up3_ok (up_ok sensors_ok)) (all_cons check_ok (all_cons alarms_ok all_nil)))
theorem wat_vc1 {R : List C → Prop} {sv v : Value} {sens rows : List (List C)} (hR : ∀ e, sensorsE sens ≠ 0 ∨ checkV sens.length rows ≠ 0 → [C.i 0, .i 0, .b false, .i e] = watchV sens rows → R [.i 0, .i 0, .b false, .i e]) :
    VC cwat1 R twat1 [.s sv sens, .s v rows] [fun _ => sensorsE sens = 0 ∧ checkV sens.length rows = 0] := by
  have h1 : cwat1.ct 42 = some ctSensors := rfl
  have h2 : cwat1.ct 81 = some ctCheckS := rfl
  unfold twat1
  simp only [VC, allC, List.map_cons, List.map_nil, List.length_cons, List.length_nil, List.getElem?_cons_zero, List.getElem?_cons_succ, List.cons.injEq, C.i.injEq, C.b.injEq, and_true, true_and, forall_const, kindsOf_nil, kindsOf_lf, kindsOf_agg, kindsOf_box, boxKinds_nil, boxKinds_lf, boxKinds_agg, boxKinds_box, List.append_nil, List.cons_append, List.nil_append, den_cmp_le, den_cmp_lt, den_cmp_eq, den_cmp_ne, den_cmp_le', den_cmp_lt', den_cmp_eq', den_cmp_ne', den_and, den_and', den_or, den_or', den_not, den_not', den_blit, den_of, ev_var, at_0, at_1, at_2, at_3, at_4, at_5, at_6, at_7, at_skip, c_int, c_bool, c_arr, c_cnt, c_vec, ev_nil, ev_join, ev_sub3, loc_s, int_i, bool_b, rows_s, cs_nil, cs_cons, E.den_lit, E.den_var, E.den_add, E.den_sub, E.den_mul, E.den_quo, E.den_rem, E.den_max, E.den_min, E.den_len, E.den_wr, E.den_cell, h1, h2, ctSensors, ctCheckS, ctF]
  rintro e _ _ rfl
  refine ⟨fun h => hR _ (.inl h) (by unfold watchV; rw [if_neg h]), fun hs => ?_⟩
  rintro e _ _ rfl
  exact ⟨fun h => hR _ (.inr h) (by unfold watchV; rw [if_pos hs, if_neg h]), fun hc => ⟨hs, hc⟩⟩
def WatI (o : Option (Int × Int)) (xs : List C) : Prop := match xs with
  | [.b f, .i s, .i t] => watchC o = [.i s, .i t, .b f, .i 0]
  | _ => False
theorem wat_vc2 {R : List C → Prop} {sv v gv : Value} {sens rows : List (List C)} {f : Bool} {s t k : Int} {p : C} {o : Option (Int × Int)} (hs : sensorsE sens = 0) (hl : rows.length ≤ 200) (hir : rows.all inR = true) (k0 : 0 ≤ k) (k1 : k < sens.length) (ho : WatI o [.b f, .i s, .i t]) :
    VC cwat1 R twat2 [.s sv sens, .s v rows, .b f, .i s, .i t, .i k, .s gv (fltS rows k), p] [WatI (better o k (alarmAt sens rows k))] := by
  have h1 : cwat1.ct 83 = some ctAlarms := rfl
  unfold twat2
  simp only [VC, allC, List.map_cons, List.map_nil, List.length_cons, List.length_nil, List.getElem?_cons_zero, List.getElem?_cons_succ, List.cons.injEq, C.i.injEq, C.b.injEq, and_true, true_and, forall_const, kindsOf_nil, kindsOf_lf, kindsOf_agg, kindsOf_box, boxKinds_nil, boxKinds_lf, boxKinds_agg, boxKinds_box, List.append_nil, List.cons_append, List.nil_append, den_cmp_le, den_cmp_lt, den_cmp_eq, den_cmp_ne, den_cmp_le', den_cmp_lt', den_cmp_eq', den_cmp_ne', den_and, den_and', den_or, den_or', den_not, den_not', den_blit, den_of, ev_var, at_0, at_1, at_2, at_3, at_4, at_5, at_6, at_7, at_skip, c_int, c_bool, c_arr, c_cnt, c_vec, ev_nil, ev_join, ev_sub3, loc_s, int_i, bool_b, rows_s, cs_nil, cs_cons, E.den_lit, E.den_var, E.den_add, E.den_sub, E.den_mul, E.den_quo, E.den_rem, E.den_max, E.den_min, E.den_len, E.den_wr, E.den_cell, h1, ctAlarms, ctF, sensSh]
  have e2 : ∀ v k o (l : List (List C)), ((C.s v l).at k o).int = cell_ (l.getD k []) o := fun _ _ _ _ => rfl
  simp only [e2]
  have hz : k.toNat < sens.length := by omega
  have hsa := sens_at hs hz
  have hfl := @fltS_len rows k
  refine ⟨k0, k1, ⟨by omega, by omega, by omega, by omega, fltS_in hir⟩, ?_⟩
  rintro u _ _ is hal
  have hal' : [C.i u, C.b is] = alarmC (alarmAt sens rows k) := hal
  cases ha : alarmAt sens rows k with
  | none =>
    rw [ha] at hal'
    cases hal'
    exact ⟨fun h => (by cases h), fun _ => ho⟩
  | some u' =>
    rw [ha] at hal'
    cases hal'
    cases o with
    | none =>
      have ho' : watchC none = [.i s, .i t, .b f, .i 0] := ho
      cases ho'
      exact ⟨fun _ => ⟨fun _ => rfl, fun h => (by cases h)⟩, fun h => (by cases h)⟩
    | some x =>
      obtain ⟨s', t'⟩ := x
      have ho' : watchC (some (s', t')) = [.i s, .i t, .b f, .i 0] := ho
      cases ho'
      have yes : (u < t ∨ (u = t ∧ k < s)) → WatI (better (some (s, t)) k (some u)) [.b true, .i k, .i u] := fun h => by simp only [better]; rw [if_pos h]; exact rfl
      have no : ¬ (u < t ∨ (u = t ∧ k < s)) → WatI (better (some (s, t)) k (some u)) [.b true, .i s, .i t] := fun h => by simp only [better]; rw [if_neg h]; exact rfl
      exact ⟨fun _ => ⟨fun h => (by cases h), fun _ => ⟨fun hl => yes (.inl hl), fun hl => ⟨fun he => ⟨fun hks => yes (.inr ⟨he, hks⟩), fun hks => no (by omega)⟩, fun he => no (by omega)⟩⟩⟩, fun h => (by cases h)⟩
end Go.Proofs.Ytlbgcjpkegpmlaa
/- kick.Watch: a round. -/
namespace Go.Proofs.Ytlbgcjpkegpmlaa
open Go.RowKit
set_option linter.unusedSimpArgs false
set_option linter.unusedVariables false

abbrev I64 (n : Int) : Prop := -9223372036854775808 ≤ n ∧ n ≤ 9223372036854775807
structure WatIn (wg : World) (bm b4 b9 : Nat) (sv : Value) (sens rows : List (List C)) (G : Prs) (seen : List Int) (a : Act) (w : World) : Prop where
  it : IterAt w wg.heap.size bm G seen
  s31 : a.eval (.tmp 31) = .pointer (some ⟨wg.heap.size, 0, none⟩)
  s0 : a.eval (.tmp 0) = sv
  s4 : a.eval (.tmp 4) = .pointer (some ⟨b4, 0, none⟩)
  s9 : a.eval (.tmp 9) = .pointer (some ⟨b9, 0, none⟩)
  size : a.tmps.size = 74
  defers : a.defers = []
  os : w.os = wg.os
  tape : w.tape = wg.tape
  output : w.output = wg.output
  lt : wg.heap.size < w.heap.size
  blk : ∀ i, i < wg.heap.size → i ≠ b4 → i ≠ b9 → w.heap[i]? = wg.heap[i]?
  blk4 : Blk w b4 81 #[.int .i64 0, .int .i64 0]
  sub : ∀ k ∈ seen, ∃ g ∈ G, g.1 = k
  best : ∃ o f s t, a.eval (.tmp 10) = .bool f ∧ Blk w b9 81 #[.int .i64 s, .int .i64 t] ∧ WatI o [.b f, .i s, .i t] ∧ Best sens rows (fun k => k ∈ seen) o ∧ I64 s ∧ I64 t
/-- What is kept of what was there: all but the two alarms. -/
structure WatKeep (wg w : World) (b4 b9 : Nat) : Prop where
  os : w.os = wg.os
  tape : w.tape = wg.tape
  output : w.output = wg.output
  size : wg.heap.size ≤ w.heap.size
  blk : ∀ i, i < wg.heap.size → i ≠ b4 → i ≠ b9 → w.heap[i]? = wg.heap[i]?
theorem WatKeep.arr {wg w : World} {b4 b9 : Nat} (h : WatKeep wg w b4 b9) {O O' : Nat → Nat → Prop} {t : TypeId} {c : C} (ha : ArrOK Try.prog wg O t c) (h4 : ∀ o, O b4 o) (h9 : ∀ o, O b9 o) (hO : ∀ b o, b < wg.heap.size → O' b o → O b o) : ArrOK Try.prog w O' t c :=
  ha.keep h.size fun b o hb hno => ⟨World.cell?_of_block (h.blk b hb (fun e => hno (e ▸ h4 o)) fun e => hno (e ▸ h9 o)), fun h' => hno (hO b o hb h')⟩
theorem WatKeep.keeps {wg w : World} {b4 b9 : Nat} (h : WatKeep wg w b4 b9) {F : Nat → Prop} (hF : ∀ i, F i → i < wg.heap.size) (h4 : ¬ F b4) (h9 : ¬ F b9) : Keeps F wg w :=
  ⟨h.os, h.tape, h.output, h.size, fun i hi => h.blk i (hF i hi) (fun e => h4 (e ▸ hi)) fun e => h9 (e ▸ hi)⟩
theorem Groups.keepW {B : Nat} {wg w : World} {b b4 b9 : Nat} {l : List (List C)} {G : Prs} (h : Groups B wg b l G) (hk : WatKeep wg w b4 b9) (hb : B ≤ b) (h4 : b4 < B) (h9 : b9 < B) : Groups B w b l G := by
  refine ⟨h.map.kept (hk.blk b h.map.lt (by omega) (by omega)), h.keys, h.len, fun g hg => ?_, h.apart, h.all, h.has⟩
  obtain ⟨h1, x, h2, h3, h4', h5⟩ := h.rows g hg
  refine ⟨⟨h1.1, h1.2.imp id fun ⟨g', cap, cur, e, hB, hc, rest⟩ => ⟨g', cap, cur, e, hB, ?_, rest⟩⟩, x, h2, h3, Nat.lt_of_lt_of_le h4' hk.size, h5⟩
  rw [hk.blk g' (Array.getElem?_eq_some_iff.1 hc).1 (by omega) (by omega)]
  exact hc
theorem wat_round {wp wg : World} {Γ : Env} {sv v : Value} {sens rows : List (List C)} {d bm b4 b9 : Nat} {G : Prs} {Q : Exit → Act → World → Prop} 
    (hnb : Γ.nb = 2) (hb4 : Γ.blk 0 = b4) (hb9 : Γ.blk 1 = b9) (h49 : b4 ≠ b9) (l4 : b4 < wp.heap.size) (l9 : b9 < wp.heap.size) (hsv : ∀ k, (C.s sv sens).small k) (hsm : ∀ k, (C.s v rows).small k) (hty : TyN Try.prog d 40 rows) (hb : ∀ b o, Γ.base b o → b < wp.heap.size)
    (hpg : Below wp.heap.size wp wg) (hbm : wp.heap.size ≤ bm) (hG : Groups wp.heap.size wg bm rows G) (hS : ArrOK Try.prog wg (fun b o => Γ.base b o ∨ b = b4 ∨ b = b9) 23 (.s sv sens))
    (hs0 : sensorsE sens = 0) (hl : rows.length ≤ 200) (hib : rows.all (inB sens.length) = true) (hir : rows.all inR = true)
    {seen : List Int} {a : Act} {w w' : World} {g : Int × Value} {u : Value} (hin : WatIn wg bm b4 b9 sv sens rows G seen a w) (hg : g ∈ G) (hit : IterAt w' wg.heap.size bm G (g.1 :: seen)) (hs : w'.heap.size = w.heap.size) (hbl : ∀ i, i ≠ wg.heap.size → w'.heap[i]? = w.heap[i]?) (ho : w'.os = w.os) (ht : w'.tape = w.tape) (hu : w'.output = w.output)
    (hent : ∀ u, u.heap[bm]? = w'.heap[bm]? → u.heap[wg.heap.size]? = w'.heap[wg.heap.size]? → (Instr.entry (.pointer (some ⟨wg.heap.size, 0, none⟩))).run Try.prog u = .ok (.tuple #[.int .i64 g.1, g.2]) u) :
    (nav [1, 1, 1, 1, 1, 0, 1, 0, 0, 1, 1, 0] (bodyOf Try.f54)).wp Try.prog (roundQ (WatIn wg bm b4 b9 sv sens rows G (g.1 :: seen)) Q) ((a.put (some 32) u).put (some 33) (.bool true)) w' := by
  have hpgs := hpg.size
  have hkw : WatKeep wg w' b4 b9 := ⟨ho.trans hin.os, ht.trans hin.tape, hu.trans hin.output, by have := hin.lt; omega, fun i hi h4 h9 => (hbl i (by omega)).trans (hin.blk i hi h4 h9)⟩
  obtain ⟨o, f, s, t, e10, hB9, hW, hBest, hbs, hbt⟩ := hin.best
  have hB9' : Blk w' b9 81 #[.int .i64 s, .int .i64 t] := (hbl b9 (by omega)).trans hB9
  have hB4' : Blk w' b4 81 #[.int .i64 0, .int .i64 0] := (hbl b4 (by omega)).trans hin.blk4
  generalize hb1 : Value.bool true = b1
  have q : ∀ x, x ≠ 32 → x ≠ 33 → ((a.put (some 32) u).put (some 33) b1).eval (.tmp x) = a.eval (.tmp x) := fun x h1 h2 => by rw [eval_other h2, eval_other h1]
  have h31 := (q 31 (by decide) (by decide)).trans hin.s31
  have h0 := (q 0 (by decide) (by decide)).trans hin.s0
  have h4 := (q 4 (by decide) (by decide)).trans hin.s4
  have h9 := (q 9 (by decide) (by decide)).trans hin.s9
  have h10 := (q 10 (by decide) (by decide)).trans e10
  have hsz : ((a.put (some 32) u).put (some 33) b1).tmps.size = 74 := by rw [put_size, put_size]; exact hin.size
  have hdf : ((a.put (some 32) u).put (some 33) b1).defers = [] := by rw [put_defers, put_defers]; exact hin.defers
  clear q
  generalize (a.put (some 32) u).put (some 33) b1 = a2 at *
  show (Code.seq (Code.region 11 _ _) (nav [1, 1, 1, 1, 1, 0, 1, 0, 0, 1, 1, 0, 1] (bodyOf Try.f54))).wp _ _ _ _
  refine wp_seq (wp_region_list (list_val rfl (v := .tuple #[.int .i64 g.1, g.2]) (w' := w') (by simp [execOp, h31, hent w' rfl rfl]) (list_val rfl (v := .int .i64 g.1) (w' := w') (by simp [execOp, eval_same (show 34 < a2.tmps.size by omega), Instr.extract]) (list_val rfl (v := g.2) (w' := w') (by
    have e : ((a2.put (some 34) (.tuple #[.int .i64 g.1, g.2])).put (some 35) (.int .i64 g.1)).eval (.tmp 34) = .tuple #[.int .i64 g.1, g.2] := by rw [eval_other (by decide)]; exact eval_same (by omega)
    simp [execOp, e, Instr.extract]) (list_val rfl (v := .int .i64 g.1) (w' := w') (by
    have e : (((a2.put (some 34) (.tuple #[.int .i64 g.1, g.2])).put (some 35) (.int .i64 g.1)).put (some 36) g.2).eval (.tmp 35) = .int .i64 g.1 := by rw [eval_other (by decide)]; exact eval_same (by rw [put_size]; omega)
    simp [execOp, e]) (list_val rfl (v := g.2) (w' := w') (by
    have e : ((((a2.put (some 34) (.tuple #[.int .i64 g.1, g.2])).put (some 35) (.int .i64 g.1)).put (some 36) g.2).put (some 11) (.int .i64 g.1)).eval (.tmp 36) = g.2 := by rw [eval_other (by decide)]; exact eval_same (by rw [put_size, put_size]; omega)
    simp [execOp, e]) ?_))))))
  show Code.wp _ _ _ _ _
  have q : ∀ x, x ≠ 34 → x ≠ 35 → x ≠ 36 → x ≠ 11 → x ≠ 12 → (((((a2.put (some 34) (.tuple #[.int .i64 g.1, g.2])).put (some 35) (.int .i64 g.1)).put (some 36) g.2).put (some 11) (.int .i64 g.1)).put (some 12) g.2).eval (.tmp x) = a2.eval (.tmp x) := fun x h1 h2 h3 h4 h5 => by rw [eval_other h5, eval_other h4, eval_other h3, eval_other h2, eval_other h1]
  have g31 := (q 31 (by decide) (by decide) (by decide) (by decide) (by decide)).trans h31
  have g0 := (q 0 (by decide) (by decide) (by decide) (by decide) (by decide)).trans h0
  have g4 := (q 4 (by decide) (by decide) (by decide) (by decide) (by decide)).trans h4
  have g9 := (q 9 (by decide) (by decide) (by decide) (by decide) (by decide)).trans h9
  have g10 := (q 10 (by decide) (by decide) (by decide) (by decide) (by decide)).trans h10
  have g12 : (((((a2.put (some 34) (.tuple #[.int .i64 g.1, g.2])).put (some 35) (.int .i64 g.1)).put (some 36) g.2).put (some 11) (.int .i64 g.1)).put (some 12) g.2).eval (.tmp 12) = g.2 := eval_same (by simp only [put_size]; omega)
  have g11 : (((((a2.put (some 34) (.tuple #[.int .i64 g.1, g.2])).put (some 35) (.int .i64 g.1)).put (some 36) g.2).put (some 11) (.int .i64 g.1)).put (some 12) g.2).eval (.tmp 11) = .int .i64 g.1 := by rw [eval_other (by decide)]; exact eval_same (by simp only [put_size]; omega)
  have hsz' : (((((a2.put (some 34) (.tuple #[.int .i64 g.1, g.2])).put (some 35) (.int .i64 g.1)).put (some 36) g.2).put (some 11) (.int .i64 g.1)).put (some 12) g.2).tmps.size = 74 := by simp only [put_size]; exact hsz
  have hdf' : (((((a2.put (some 34) (.tuple #[.int .i64 g.1, g.2])).put (some 35) (.int .i64 g.1)).put (some 36) g.2).put (some 11) (.int .i64 g.1)).put (some 12) g.2).defers = [] := by simp only [put_defers]; exact hdf
  clear q
  generalize ((((a2.put (some 34) (.tuple #[.int .i64 g.1, g.2])).put (some 35) (.int .i64 g.1)).put (some 36) g.2).put (some 11) (.int .i64 g.1)).put (some 12) g.2 = a3 at *
  have hGk := hG.keepW hkw hbm l4 l9
  obtain ⟨hga, hgs⟩ := hGk.arr hty hsm hg (O := fun b o => Γ.base b o ∨ b = b4 ∨ b = b9) fun x hx o hxo => by
    rcases hxo with h | h | h
    · have := hb x o h; omega
    · omega
    · omega
  have hSk := hkw.arr (O' := fun b o => Γ.base b o ∨ b = b4 ∨ b = b9) hS (fun _ => .inr (.inl rfl)) (fun _ => .inr (.inr rfl)) fun _ _ _ h => h
  have hk : I64 g.1 := hG.keys g hg
  have hkr : 0 ≤ g.1 ∧ g.1 < sens.length := by
    obtain ⟨r, hr, e⟩ := hG.has g hg
    have := List.all_eq_true.1 hib r hr
    rw [e]
    simpa [inB] using this
  have hmem : ∀ b mb, look watStI.mem b = some mb → (b = 1 ∧ mb = (81, [.int (.var 3), .int (.var 4)])) ∨ (b = 0 ∧ mb = (81, [.int (.lit 0), .int (.lit 0)])) := fun b mb h => by
    simp only [watStI, look] at h
    split at h
    · rename_i e; subst e; cases h; exact .inl ⟨rfl, rfl⟩
    split at h
    · rename_i e; subst e; cases h; exact .inr ⟨rfl, rfl⟩
    cases h
  have hw'lt := hin.lt
  have hsat : Sat Try.prog (fun i => i < w'.heap.size ∧ i ≠ b4 ∧ i ≠ b9) w' { Γ with ρ := [.s sv sens, .s v rows, .b f, .i s, .i t, .i g.1, .s g.2 (fltS rows g.1), .s (.pointer (some ⟨wg.heap.size, 0, none⟩)) []] } watStI a3 w' := by
    refine Sat.bare rfl rfl (fun b mb h => ?_) (fun i j x y h1 h2 e => ?_) (fun t sv ht => ?_) hsz' (Keeps.refl _ _) (fun _ h => h.1) (fun b o h => by have := hb b o h; omega) hdf' rfl hnb rfl ?_
    · rcases hmem b mb h with ⟨rfl, rfl⟩ | ⟨rfl, rfl⟩
      · refine ⟨?_, fun l hl O => ?_, fun h => h.2.2 hb9, by decide⟩
        · show Blk w' (Γ.blk 1) _ _
          rw [hb9]; exact hB9'
        · simp only [List.mem_cons, List.not_mem_nil, or_false] at hl
          rcases hl with rfl | rfl <;> trivial
      · refine ⟨?_, fun l hl O => ?_, fun h => h.2.1 hb4, by decide⟩
        · show Blk w' (Γ.blk 0) _ _
          rw [hb4]; exact hB4'
        · simp only [List.mem_cons, List.not_mem_nil, or_false] at hl
          rcases hl with rfl | rfl <;> trivial
    · have e' : Γ.blk i = Γ.blk j := e
      rcases hmem i x h1 with ⟨rfl, -⟩ | ⟨rfl, -⟩ <;> rcases hmem j y h2 with ⟨rfl, -⟩ | ⟨rfl, -⟩
      · rfl
      · exact absurd (hb4.symm.trans (e'.symm.trans hb9)) h49
      · exact absurd (hb4.symm.trans (e'.trans hb9)) h49
      · rfl
    · have hO : ∀ b o, (Γ.base b o ∨ ∃ j mb, look watStI.mem j = some mb ∧ Γ.blk j = b) → (Γ.base b o ∨ b = b4 ∨ b = b9) := fun b o h => by
        rcases h with h | ⟨j, mb, h, e⟩
        · exact .inl h
        · rcases hmem j mb h with ⟨rfl, -⟩ | ⟨rfl, -⟩
          · exact .inr (.inr (e.symm.trans hb9))
          · exact .inr (.inl (e.symm.trans hb4))
      simp only [watStI, look] at ht
      split at ht
      · rename_i e; subst e; cases ht; exact ⟨g0, fun l hl => by
          simp only [S0.cells, List.mem_cons, List.not_mem_nil, or_false] at hl; subst hl
          exact hSk.keep (Nat.le_refl _) fun b o _ hno => ⟨rfl, fun h => hno (hO b o h)⟩⟩
      split at ht
      · rename_i e; subst e; cases ht; exact ⟨by show a3.eval (.tmp 4) = .pointer (some ⟨Γ.blk 0, 0, none⟩); rw [hb4]; exact g4, fun l hl => by simp only [S0.cells, List.mem_cons, List.not_mem_nil, or_false] at hl; subst hl; trivial⟩
      split at ht
      · rename_i e; subst e; cases ht; exact ⟨by show a3.eval (.tmp 9) = .pointer (some ⟨Γ.blk 1, 0, none⟩); rw [hb9]; exact g9, fun l hl => by simp only [S0.cells, List.mem_cons, List.not_mem_nil, or_false] at hl; subst hl; trivial⟩
      split at ht
      · rename_i e; subst e; cases ht; exact ⟨g10, fun l hl => by simp only [S0.cells, List.mem_cons, List.not_mem_nil, or_false] at hl; subst hl; trivial⟩
      split at ht
      · rename_i e; subst e; cases ht; exact ⟨g11, fun l hl => by simp only [S0.cells, List.mem_cons, List.not_mem_nil, or_false] at hl; subst hl; trivial⟩
      split at ht
      · rename_i e; subst e; cases ht; exact ⟨g12, fun l hl => by
          simp only [S0.cells, List.mem_cons, List.not_mem_nil, or_false] at hl; subst hl
          exact hga.keep (Nat.le_refl _) fun b o _ hno => ⟨rfl, fun h => hno (hO b o h)⟩⟩
      split at ht
      · rename_i e; subst e; cases ht; exact ⟨g31, fun l hl => by simp only [S0.cells, List.mem_cons, List.not_mem_nil, or_false] at hl; subst hl; rfl⟩
      cases ht
    · have := Smalls.nil.app (cs := [.s sv sens, .s v rows, .b f, .i s, .i t, .i g.1, .s g.2 (fltS rows g.1), .s (.pointer (some ⟨wg.heap.size, 0, none⟩)) []]) (fun c hc => by
        simp only [List.mem_cons, List.not_mem_nil, or_false] at hc
        rcases hc with rfl | rfl | rfl | rfl | rfl | rfl | rfl | rfl
        · exact hsv
        · exact hsm
        · intro n; cases n <;> simp [C.small]
        · intro n; cases n <;> exact hbs
        · intro n; cases n <;> exact hbt
        · intro n; cases n <;> exact hk
        · exact hgs
        · intro n; cases n <;> simp [C.small])
      simpa using this
  refine seg_sound (R := fun _ => True) wat_cx (Ls := []) (I := WatI (better o g.1 (alarmAt sens rows g.1))) wat_tree2 (by kernel_rfl) rfl (wat_vc2 hs0 hl hir hkr.1 hkr.2 hW) hsat ?_ ?_
  · intro xs Γx a' w2 hxs hI hρ' he hs'
    obtain ⟨f', s', t', rfl, is', it'⟩ : ∃ f' s' t', xs = [.b f', .i s', .i t'] ∧ I64 s' ∧ I64 t' := by
      match xs, hxs with
      | [c1, c2, c3], ⟨⟨_, f', e1⟩, ⟨h2, s', e2⟩, ⟨h3, t', e3⟩, _⟩ => 
        subst e1 e2 e3
        exact ⟨f', s', t', rfl, h2 0, h3 0⟩
    have hkp := hs'.keeps
    have ev : ∀ t sv, t < 1000 → look watStE.sl t = some sv → a'.eval (.tmp t) = sv.den Γx := fun t sv ht hl => by
      have := (hs'.slots t sv hl).1
      unfold slotV at this
      rwa [if_pos ht] at this
    have eb : ∀ j, j < 2 → Γx.blk j = Γ.blk j := fun j hj => he.blk j (by show j < Γ.nb; omega)
    have m1 := (hs'.mem 1 _ (rfl : look watStE.mem 1 = some (81, [.int (.var 9), .int (.var 10)]))).1
    have m0 := (hs'.mem 0 _ (rfl : look watStE.mem 0 = some (81, [.int (.lit 0), .int (.lit 0)]))).1
    rw [eb 1 (by omega), hb9] at m1
    rw [eb 0 (by omega), hb4] at m0
    have hm := hGk.map.lt
    have hbmg := hG.map.lt
    have hks := hkp.size
    refine ⟨hit.kept (hkp.block _ ⟨hm, by omega, by omega⟩) (hkp.block _ ⟨by omega, by omega, by omega⟩), ?_, ?_, ?_, ?_, hs'.size, hs'.defers, hkp.os.trans hkw.os, hkp.tape.trans hkw.tape, hkp.output.trans hkw.output, by omega, fun i hi h4 h9 => (hkp.block i ⟨by omega, h4, h9⟩).trans (hkw.blk i hi h4 h9), m0, fun k hk => ?_, better o g.1 (alarmAt sens rows g.1), f', s', t', ?_, ?_, hI, (hBest.add g.1).congr fun j => by simp, is', it'⟩
    · refine (ev 31 _ (by decide) rfl).trans ?_
      simp only [SV.den, S0.den, Lf.den, hρ']; rfl
    · refine (ev 0 _ (by decide) rfl).trans ?_
      simp only [SV.den, S0.den, Lf.den, ev_var, hρ']
      obtain ⟨v1, r1, e, -⟩ := hS
      cases e; rfl
    · refine (ev 4 _ (by decide) rfl).trans ?_
      simp only [SV.den, S0.den, Lf.den, eb 0 (by omega), hb4]
    · refine (ev 9 _ (by decide) rfl).trans ?_
      simp only [SV.den, S0.den, Lf.den, eb 1 (by omega), hb9]
    · rcases List.mem_cons.1 hk with rfl | hk
      · exact ⟨g, hg, rfl⟩
      · exact hin.sub k hk
    · refine (ev 10 _ (by decide) rfl).trans ?_
      simp only [SV.den, S0.den, Lf.den, hρ']; rfl
    · have : dens Γx [.int (.var 9), .int (.var 10)] = #[.int .i64 s', .int .i64 t'] := by
        unfold dens
        simp only [List.map_cons, List.map_nil, Lf.den, E.den_var, hρ']
        rfl
      rw [this] at m1
      exact m1
  · intro x st' T' Γ' Ls' hx hk' he hlen' hv' a' w2 hs'
    cases hk'
end Go.Proofs.Ytlbgcjpkegpmlaa
/- kick.Watch: its contract. -/
namespace Go.Proofs.Ytlbgcjpkegpmlaa
open Go.RowKit
set_option linter.unusedSimpArgs false
set_option linter.unusedVariables false

theorem alarmAt_none {sens rows : List (List C)} {k : Int} (h : ∀ r ∈ rows, cell_ r 0 ≠ k) : alarmAt sens rows k = none := by
  unfold alarmAt
  rw [fltS_none h]; rfl
theorem wat_rest {F : Nat → Prop} {w0 wp : World} {Γ : Env} {sv v : Value} {sens rows : List (List C)} {d b4 b9 : Nat} {Q : Exit → Act → World → Prop} {R : List C → Prop}
    (hρ : Γ.ρ = [.s sv sens, .s v rows]) (hnb : Γ.nb = 2) (hb4 : Γ.blk 0 = b4) (hb9 : Γ.blk 1 = b9) (h49 : b4 ≠ b9) (l4 : b4 < wp.heap.size) (l9 : b9 < wp.heap.size) (f4 : ¬ F b4) (f9 : ¬ F b9) (hsv : ∀ k, (C.s sv sens).small k) (hsm : ∀ k, (C.s v rows).small k) (hty : TyN Try.prog d 40 rows) (hF : ∀ i, F i → i < w0.heap.size) (hb : ∀ b o, Γ.base b o → b < wp.heap.size)
    (hk0 : Keeps F w0 wp) (hS : ArrOK Try.prog wp (fun b o => Γ.base b o ∨ b = b4 ∨ b = b9) 23 (.s sv sens)) (hA : ArrOK Try.prog wp (fun b o => Γ.base b o ∨ b = b4 ∨ b = b9) 40 (.s v rows)) (hB4 : Blk wp b4 81 #[.int .i64 0, .int .i64 0]) (hB9 : Blk wp b9 81 #[.int .i64 0, .int .i64 0])
    (hs0 : sensorsE sens = 0) (hc0 : checkV sens.length rows = 0) (hR : ∀ s t f, watchC (watchL sens rows sens.length) = [.i s, .i t, .b f, .i 0] → R [.i s, .i t, .b f, .i 0])
    (hk : KOK cwat1 R F w0 (endK cwat1 Try.f54 ctWatch) Γ [] Q) {a : Act} (hsz : a.tmps.size = 74) (hdf : a.defers = []) (h0 : a.eval (.tmp 0) = sv) (h1 : a.eval (.tmp 1) = v) (h4 : a.eval (.tmp 4) = .pointer (some ⟨b4, 0, none⟩)) (h9 : a.eval (.tmp 9) = .pointer (some ⟨b9, 0, none⟩)) (h10 : a.eval (.tmp 10) = .bool false) :
    (nav [1, 1, 1, 1, 1] (bodyOf Try.f54)).wp Try.prog Q a wp := by
  obtain ⟨hl, hib, hir, -⟩ := checkV_ok hc0
  have hloc : v = (C.s v rows).loc := by
    obtain ⟨v', rows', e, d', S, hS, hN⟩ := hA
    cases e
    rfl
  show (Code.seq (Code.seq (Code.region 9 _ _) (Code.block 0 (Code.loop (Code.seq (Code.region 10 _ _) (Code.seq (Code.cond (.tmp 33) .skip (.exit 0)) (Code.block 1 (nav [1, 1, 1, 1, 1, 0, 1, 0, 0, 1, 1, 0] (bodyOf Try.f54)))))))) (nav [1, 1, 1, 1, 1, 1] (bodyOf Try.f54))).wp _ _ _ _
  refine wp_seq (wp_seq (wp_region_list (list_val rfl (v := v) (w' := wp) (by simp [execOp, h1]) (list_call rfl (f := 82) (args := #[v]) (by
    simp [execOp, resolve, invoke, eval_same, put_size, hsz, eval_const]
    exact run_callFunc' callable_bySensor _ _) ?_))))
  refine Calls.mono (bySensor_ok (Base := fun b o => Γ.base b o ∨ b = b4 ∨ b = b9) (fun b o h => by rcases h with h | h | h <;> first | exact hb b o h | omega) ⟨hsm, hloc, hA⟩ (by omega)) fun e wg he => ?_
  obtain ⟨bm, G, rfl, hpg, hbm, hG⟩ := he
  refine ⟨_, rfl, ?_⟩
  obtain ⟨o, hrg, hit⟩ := IterAt.start (P := Try.prog) (t := 115) Try.underlying115 hG.map
  refine list_val rfl (v := .pointer (some ⟨wg.heap.size, 0, none⟩)) (w' := wg.alloc o) (by simp [execOp, eval_same, put_size, hsz, hrg]) ?_
  show Code.wp _ _ _ _ _
  have hpgs := hpg.size
  have hSg : ArrOK Try.prog wg (fun b o => Γ.base b o ∨ b = b4 ∨ b = b9) 23 (.s sv sens) := hS.keep hpg.size fun b o hb' hno => ⟨World.cell?_of_block (hpg.block b hb'), hno⟩
  have hltr : wg.heap.size < (wg.alloc o).heap.size := by
    obtain ⟨es, clock, since, sn, c0, h1, h2, h3, h4, h5⟩ := hit
    exact (Array.getElem?_eq_some_iff.1 h4).1
  have hal : Below wg.heap.size wg (wg.alloc o) := below_alloc _ _
  refine range_loop (nt := 74) (tI := 31) (tN := 32) (cN := 33) (bm := bm) (r := wg.heap.size) (G := G) (J := WatIn wg bm b4 b9 sv sens rows G) rfl rfl rfl rfl rfl rfl (by decide) (by decide) (by decide) (by have := hG.map.lt; omega) (fun seen a w h => ⟨h.it, h.s31, h.size⟩) ?_ ?_ ?_
  · intro seen a2 w2 g w3 u hin hg hns hit' hs hbl ho ht hu hent
    exact wp_mono (wat_round (Q := Q) hnb hb4 hb9 h49 l4 l9 hsv hsm hty hb hpg hbm hG hSg hs0 hl hib hir hin hg hit' hs hbl ho ht hu hent) fun e a w h => by cases e <;> exact h
  · intro seen a2 w2 u hin hall
    show (nav [1, 1, 1, 1, 1, 1] (bodyOf Try.f54)).wp _ _ _ _
    obtain ⟨o2, f, s, t, e10, hBs, hW, hBest, hbs, hbt⟩ := hin.best
    have hbest : o2 = watchL sens rows sens.length := by
      refine Best.uniq (P := fun k => 0 ≤ k ∧ k < (sens.length : Int)) (hBest.more (fun k hk => ?_) fun k hk => ?_) (watchL_best sens.length)
      · obtain ⟨g, hg, rfl⟩ := hin.sub k hk
        obtain ⟨r, hr, e⟩ := hG.has g hg
        have := List.all_eq_true.1 hib r hr
        rw [e]
        simpa [inB] using this
      · by_cases he : ∃ r ∈ rows, cell_ r 0 = k
        · obtain ⟨r, hr, e⟩ := he
          obtain ⟨g, hg, e'⟩ := hG.all r hr
          have := hall g hg
          rw [e', e] at this
          exact .inl this
        · exact .inr (alarmAt_none fun r hr e => he ⟨r, hr, e⟩)
    subst hbest
    have q : ∀ x, x ≠ 32 → x ≠ 33 → ((a2.put (some 32) u).put (some 33) (.bool false)).eval (.tmp x) = a2.eval (.tmp x) := fun x h1 h2 => by rw [eval_other h2, eval_other h1]
    have g4 := (q 4 (by decide) (by decide)).trans hin.s4
    have g9 := (q 9 (by decide) (by decide)).trans hin.s9
    have g10 := (q 10 (by decide) (by decide)).trans e10
    have hsz2 : ((a2.put (some 32) u).put (some 33) (.bool false)).tmps.size = 74 := by rw [put_size, put_size]; exact hin.size
    have hdf2 : ((a2.put (some 32) u).put (some 33) (.bool false)).defers = [] := by rw [put_defers, put_defers]; exact hin.defers
    clear q
    generalize (a2.put (some 32) u).put (some 33) (.bool false) = a4 at *
    have hlt := hin.lt
    have hkw : WatKeep wg w2 b4 b9 := ⟨hin.os, hin.tape, hin.output, by omega, hin.blk⟩
    have hmem : ∀ b mb, look watStF.mem b = some mb → (b = 1 ∧ mb = (81, [.int (.var 3), .int (.var 4)])) ∨ (b = 0 ∧ mb = (81, [.int (.lit 0), .int (.lit 0)])) := fun b mb h => by
      simp only [watStF, look] at h
      split at h
      · rename_i e; subst e; cases h; exact .inl ⟨rfl, rfl⟩
      split at h
      · rename_i e; subst e; cases h; exact .inr ⟨rfl, rfl⟩
      cases h
    have hkF : Keeps F w0 w2 := (hk0.trans (Keeps.of_below hpg fun i hi => by have := hF i hi; have := hk0.size; omega)).trans (hkw.keeps (fun i hi => by have := hF i hi; have := hk0.size; omega) f4 f9)
    have hsat : Sat Try.prog F w0 { Γ with ρ := [.s sv sens, .s v rows, .b f, .i s, .i t] } watStF a4 w2 := by
      refine Sat.bare rfl rfl (fun b mb h => ?_) (fun i j x y h1 h2 e => ?_) (fun t sv ht => ?_) hsz2 hkF hF (fun b o h => by have := hb b o h; omega) hdf2 rfl hnb rfl ?_
      · rcases hmem b mb h with ⟨rfl, rfl⟩ | ⟨rfl, rfl⟩
        · refine ⟨?_, fun l hl O => ?_, ?_, by decide⟩
          · show Blk w2 (Γ.blk 1) _ _
            rw [hb9]; exact hBs
          · simp only [List.mem_cons, List.not_mem_nil, or_false] at hl
            rcases hl with rfl | rfl <;> trivial
          · show ¬ F (Γ.blk 1)
            rw [hb9]; exact f9
        · refine ⟨?_, fun l hl O => ?_, ?_, by decide⟩
          · show Blk w2 (Γ.blk 0) _ _
            rw [hb4]; exact hin.blk4
          · simp only [List.mem_cons, List.not_mem_nil, or_false] at hl
            rcases hl with rfl | rfl <;> trivial
          · show ¬ F (Γ.blk 0)
            rw [hb4]; exact f4
      · have e' : Γ.blk i = Γ.blk j := e
        rcases hmem i x h1 with ⟨rfl, -⟩ | ⟨rfl, -⟩ <;> rcases hmem j y h2 with ⟨rfl, -⟩ | ⟨rfl, -⟩
        · rfl
        · exact absurd (hb4.symm.trans (e'.symm.trans hb9)) h49
        · exact absurd (hb4.symm.trans (e'.trans hb9)) h49
        · rfl
      · simp only [watStF, look] at ht
        split at ht
        · rename_i e; subst e; cases ht; exact ⟨by show a4.eval (.tmp 4) = .pointer (some ⟨Γ.blk 0, 0, none⟩); rw [hb4]; exact g4, fun l hl => by simp only [S0.cells, List.mem_cons, List.not_mem_nil, or_false] at hl; subst hl; trivial⟩
        split at ht
        · rename_i e; subst e; cases ht; exact ⟨by show a4.eval (.tmp 9) = .pointer (some ⟨Γ.blk 1, 0, none⟩); rw [hb9]; exact g9, fun l hl => by simp only [S0.cells, List.mem_cons, List.not_mem_nil, or_false] at hl; subst hl; trivial⟩
        split at ht
        · rename_i e; subst e; cases ht; exact ⟨g10, fun l hl => by simp only [S0.cells, List.mem_cons, List.not_mem_nil, or_false] at hl; subst hl; trivial⟩
        cases ht
      · have := Smalls.nil.app (cs := [.s sv sens, .s v rows, .b f, .i s, .i t]) (fun c hc => by
          simp only [List.mem_cons, List.not_mem_nil, or_false] at hc
          rcases hc with rfl | rfl | rfl | rfl | rfl
          · exact hsv
          · exact hsm
          · intro n; cases n <;> simp [C.small]
          · intro n; cases n <;> exact hbs
          · intro n; cases n <;> exact hbt)
        simpa using this
    have hext : Ext Γ { Γ with ρ := [.s sv sens, .s v rows, .b f, .i s, .i t] } := ⟨⟨[.b f, .i s, .i t], by rw [hρ]; rfl⟩, fun _ _ => rfl, Nat.le_refl _, rfl, rfl⟩
    exact exec_sound (R := R) (F := F) (w0 := w0) wat_cx _ _ _ _ wat_tree3 _ [] _ (hk.mono hext (List.prefix_refl _)) rfl (hR s t f hW) _ _ hsat
  · have hsz1 : ((a.put (some 29) v).put (some 30) (.map (some bm))).tmps.size = 74 := by rw [put_size, put_size]; exact hsz
    have q : ∀ x, x ≠ 29 → x ≠ 30 → x ≠ 31 → (((a.put (some 29) v).put (some 30) (.map (some bm))).put (some 31) (.pointer (some ⟨wg.heap.size, 0, none⟩))).eval (.tmp x) = a.eval (.tmp x) := fun x h1 h2 h3 => by rw [eval_other h3, eval_other h2, eval_other h1]
    have ha : ∀ i, i < wp.heap.size → (wg.alloc o).heap[i]? = wp.heap[i]? := fun i hi => (hal.block i (by omega)).trans (hpg.block i hi)
    exact ⟨hit, eval_same (Nat.lt_of_lt_of_eq (by decide : 31 < 74) hsz1.symm), (q 0 (by decide) (by decide) (by decide)).trans h0, (q 4 (by decide) (by decide) (by decide)).trans h4, (q 9 (by decide) (by decide) (by decide)).trans h9, by rw [put_size]; exact hsz1, by simp only [put_defers]; exact hdf, rfl, rfl, rfl, hltr, fun i hi _ _ => hal.block i hi, (ha b4 l4).trans hB4, fun k hk => by (cases hk),
      none, false, 0, 0, (q 10 (by decide) (by decide) (by decide)).trans h10, (ha b9 l9).trans hB9, rfl, fun k hk => by (cases hk), by decide, by decide⟩
theorem watch_ok : tab3.ok 54 := by
  refine Tab.of_ct rfl rfl ⟨_, Try.func54, by decide, rfl⟩ ?_ ctF_det
  refine ct_ok_open (cx := cwat1) (bds := []) wat_cx Try.func54 (c := bodyOf Try.f54) rfl ⟨by decide, by decide, by decide⟩ fun cs hcs _ => ⟨bds_nil _, fun F w0 Γ a w Q hρ hs hk => ?_⟩
  obtain ⟨sv, sens, v, rows, d, rfl, hty⟩ : ∃ sv sens v rows d, cs = [.s sv sens, .s v rows] ∧ TyN Try.prog d 40 rows := by
    match cs, hcs with
    | [c1, c2], ⟨⟨_, sv, sens, d', e1, _⟩, ⟨_, v, rows, d, e2, hty⟩, _⟩ => exact ⟨sv, sens, v, rows, d, by rw [e1, e2], hty⟩
  have hsmall := fun c hc => CTy.small hcs (c := c) hc
  rw [wat_split]
  refine pre_seg (R := ctWatch.post [.s sv sens, .s v rows]) wat_cx (Ls := []) wat_tree1 (by kernel_rfl) rfl (I := fun _ => sensorsE sens = 0 ∧ checkV sens.length rows = 0) (by rw [hρ]; exact wat_vc1 fun e _ he => he) hs ?_ ?_
  · intro xs Γx a' wp hxs hI hρ' he hs'
    obtain ⟨hs0, hc0⟩ := hI
    have hx : xs = [] := by cases xs with | nil => rfl | cons x xs => exact hxs.elim
    subst hx
    rw [List.append_nil, hρ] at hρ'
    have ev : ∀ t sv, t < 1000 → look watSt1.sl t = some sv → a'.eval (.tmp t) = sv.den Γx := fun t sv ht hl => by
      have := (hs'.slots t sv hl).1
      unfold slotV at this
      rwa [if_pos ht] at this
    have hO : ∀ b o, (Γx.base b o ∨ b = Γx.blk 0 ∨ b = Γx.blk 1) → Own Γx watSt1 b o := fun b o h => by
      rcases h with h | h | h
      · exact .inl h
      · exact .inr (.inl ⟨0, _, rfl, h.symm⟩)
      · exact .inr (.inl ⟨1, _, rfl, h.symm⟩)
    have hS : ArrOK Try.prog wp (fun b o => Γx.base b o ∨ b = Γx.blk 0 ∨ b = Γx.blk 1) 23 (.s sv sens) := by
      have h2 : ArrOK Try.prog wp (Own Γx watSt1) 23 ((E.var 0).ev Γx.ρ) := (hs'.slots 0 _ (rfl : look watSt1.sl 0 = some (.one (.lf (.arr 23 (.var 0)))))).2 (.arr 23 (.var 0)) (by simp [S0.cells])
      rw [show (E.var 0).ev Γx.ρ = .s sv sens by rw [ev_var, hρ']; rfl] at h2
      exact h2.keep (Nat.le_refl _) fun b o _ hno => ⟨rfl, fun h => hno (hO b o h)⟩
    have hA : ArrOK Try.prog wp (fun b o => Γx.base b o ∨ b = Γx.blk 0 ∨ b = Γx.blk 1) 40 (.s v rows) := by
      have h2 : ArrOK Try.prog wp (Own Γx watSt1) 40 ((E.var 1).ev Γx.ρ) := (hs'.slots 1 _ (rfl : look watSt1.sl 1 = some (.one (.lf (.arr 40 (.var 1)))))).2 (.arr 40 (.var 1)) (by simp [S0.cells])
      rw [show (E.var 1).ev Γx.ρ = .s v rows by rw [ev_var, hρ']; rfl] at h2
      exact h2.keep (Nat.le_refl _) fun b o _ hno => ⟨rfl, fun h => hno (hO b o h)⟩
    obtain ⟨m1, -, m1F, -⟩ := hs'.mem 1 _ (rfl : look watSt1.mem 1 = some (81, [.int (.lit 0), .int (.lit 0)]))
    obtain ⟨m0, -, m0F, -⟩ := hs'.mem 0 _ (rfl : look watSt1.mem 0 = some (81, [.int (.lit 0), .int (.lit 0)]))
    have h49 : Γx.blk 0 ≠ Γx.blk 1 := fun e => by
      have := (hs'.inj true 0 true 1 _ (Hold.mem (Γ := Γx) (st := watSt1) (j := 0) rfl) (e ▸ Hold.mem (Γ := Γx) (st := watSt1) (j := 1) rfl)).2
      cases this
    refine wat_rest (Γ := Γx) (R := ctWatch.post [.s sv sens, .s v rows]) hρ' hs'.nb rfl rfl h49 m0.lt m1.lt m0F m1F (hsmall _ (by simp)) (hsmall _ (by simp)) hty hs'.fold (fun b o h => hs'.base b o h) hs'.keeps hS hA m0 m1 hs0 hc0 (fun s t f h => ?_) (hk.mono he (List.prefix_refl _)) hs'.size hs'.defers ?_ ?_ (ev 4 _ (by decide) rfl) (ev 9 _ (by decide) rfl) (ev 10 _ (by decide) rfl)
    · show [C.i s, .i t, .b f, .i 0] = watchV sens rows
      unfold watchV
      rw [if_pos hs0, if_pos hc0, h]
    · refine (ev 0 _ (by decide) rfl).trans ?_
      simp only [SV.den, S0.den, Lf.den, ev_var, hρ']
      obtain ⟨v1, r1, e, -⟩ := hS
      cases e; rfl
    · refine (ev 1 _ (by decide) rfl).trans ?_
      simp only [SV.den, S0.den, Lf.den, ev_var, hρ']
      obtain ⟨v1, r1, e, -⟩ := hA
      cases e; rfl
  · intro x st' T' Γ' Ls' hx hk' he hlen' hv' a' w' hs'
    exact hk x st' T' Γ' Ls' hk' he (List.nil_prefix) hlen' hv' a' w' hs'
end Go.Proofs.Ytlbgcjpkegpmlaa
/- kick.False and the examples, for the table; steps where all is known. -/
namespace Go.Proofs.Ytlbgcjpkegpmlaa
open Go.RowKit
set_option linter.unusedSimpArgs false
set_option linter.unusedVariables false

theorem falseGo_bd {n h : Int} {ho : Nat} (hh : 1 ≤ ho) (h0 : 0 ≤ h) (h1 : h ≤ n) (hn : 1 ≤ n) : ∀ {d i : Nat} {R : Nat → Int} {al all : Int}, Rows9 n h ho i R al all → 0 ≤ (falseGo n h ho d R al all).1 ∧ (falseGo n h ho d R al all).1 ≤ (falseGo n h ho d R al all).2 ∧ (falseGo n h ho d R al all).2 ≤ n ^ (i + d)
  | 0, i, R, al, all, hr => by
    have := sumTo_nonneg hr.pos ho
    have := hr.sum
    exact ⟨hr.al0, by show al ≤ all; omega, hr.pow⟩
  | d + 1, i, R, al, all, hr => by
    rw [falseGo, show i + (d + 1) = i + 1 + d by omega]
    exact falseGo_bd hh h0 h1 hn (hr.step hh h0 h1 hn)
theorem falseP_bd {s : Sen} (hs : SenOK s) {d : Nat} (hd : d ≤ 12) : 0 ≤ (falseP s d).1 ∧ (falseP s d).1 ≤ (falseP s d).2 ∧ (falseP s d).2 ≤ 787662783788549761 := by
  obtain ⟨-, hr⟩ := hs
  obtain ⟨hh0, hh1⟩ := high_bd hr
  unfold RangeOK at hr
  have := falseGo_bd (n := 2 * s.no + 1) (h := highF s) (ho := s.ho.toNat) (by omega) hh0 hh1 (by omega) (d := d) (Rows9.start (2 * s.no + 1) (highF s) s.ho.toNat (by omega))
  refine ⟨this.1, this.2.1, Int.le_trans this.2.2 ?_⟩
  refine Int.le_trans (pow_mono (by omega) (show 2 * s.no + 1 ≤ 31 by omega) (0 + d)).1 ?_
  have : ∀ d : Nat, d ≤ 12 → (31 : Int) ^ (0 + d) ≤ 787662783788549761 := by decide
  exact this d hd
theorem lreps_ints {P : Program} {w : World} {O : Nat → Nat → Prop} : ∀ {n : Nat} {us : List Value} {cs : List C}, LReps P w O (List.replicate n .int) us cs → ∃ ns : List Int, ns.length = n ∧ us = ns.map (Value.int .i64) ∧ cs = ns.map .i
  | 0, us, cs, h => by
    match us, cs, h with
    | [], [], _ => exact ⟨[], rfl, rfl, rfl⟩
  | n + 1, us, cs, h => by
    match us, cs, h with
    | u :: us, c :: cs, h =>
      obtain ⟨⟨-, m, rfl, rfl⟩, h2⟩ := h
      obtain ⟨ns, h3, rfl, rfl⟩ := lreps_ints h2
      exact ⟨m :: ns, by simp [h3], rfl, rfl⟩
theorem false_tok : tab4.ok 17 := by
  refine Tab.of_ct rfl rfl ⟨_, Try.func17, by decide, rfl⟩ ?_ ctF_det
  intro Base w vs cs hB hr hpre
  obtain ⟨a0, a1, a2, a3, a4, a5, a6, a7, d, rfl, rfl⟩ : ∃ a0 a1 a2 a3 a4 a5 a6 a7 d : Int, vs = [.agg #[.int .i64 a0, .int .i64 a1, .int .i64 a2, .int .i64 a3, .int .i64 a4, .int .i64 a5, .int .i64 a6, .int .i64 a7], .int .i64 d] ∧ cs = [.i a0, .i a1, .i a2, .i a3, .i a4, .i a5, .i a6, .i a7, .i d] := by
    match vs, hr with
    | [v1, v2], hr =>
      obtain ⟨c1, c2, e, ⟨us, e1, hl⟩, c3, c4, e2, ⟨c, e3, -, m, e4, e5⟩, hn⟩ := hr
      obtain ⟨ns, hlen, rfl, rfl⟩ := lreps_ints (n := 8) hl
      match ns, hlen with
      | [a0, a1, a2, a3, a4, a5, a6, a7], _ =>
        refine ⟨a0, a1, a2, a3, a4, a5, a6, a7, m, ?_, ?_⟩
        · rw [e1, e4]; rfl
        · have hn' : c4 = [] := hn
          rw [e, e2, e3, e5, hn']; rfl
  obtain ⟨hs, d1, d2⟩ := hpre
  have hs' : SenOK ⟨a0, a1, a2, a3, a4, a5, a6, a7⟩ := hs
  have d1' : 1 ≤ d := d1
  have d2' : d ≤ 12 := d2
  obtain ⟨hk, hrg⟩ := hs'
  have h7 : 1 ≤ a7 := by unfold RangeOK at hrg; exact hrg.2.2.2.2.2.2.2.2.2.2.2.2.1
  obtain ⟨q, rfl⟩ : ∃ q : Nat, a7 = q := ⟨a7.toNat, by omega⟩
  obtain ⟨b1, b2, b3⟩ := falseP_bd (s := ⟨a0, a1, a2, a3, a4, a5, a6, q⟩) (d := d.toNat) hs (by omega)
  refine (False_ok a0 a1 a2 a3 a4 a5 a6 d q w hk hrg d1' d2').mono ?_
  rintro e w' ⟨rfl, hb⟩
  have hv : vecB (kindsOf ctFalse.res) [C.i (falseP ⟨a0, a1, a2, a3, a4, a5, a6, q⟩ d.toNat).1, .i (falseP ⟨a0, a1, a2, a3, a4, a5, a6, q⟩ d.toNat).2, .i 0] = [] := rfl
  refine ⟨_, [.i (falseP ⟨a0, a1, a2, a3, a4, a5, a6, q⟩ d.toNat).1, .i (falseP ⟨a0, a1, a2, a3, a4, a5, a6, q⟩ d.toNat).2, .i 0], [], rfl, ⟨[.int .i64 _, .int .i64 _, .int .i64 0], rfl, ?_, by rw [hv]; exact List.nodup_nil, fun b hb => (by rw [hv] at hb; cases hb)⟩, rfl, rfl, Keeps.of_below hb fun i hi => hi.1⟩
  exact rep_lf ⟨by omega, by omega⟩ (rep_lf ⟨by omega, by omega⟩ (rep_lf ⟨by decide, by decide⟩ rfl))
/-! Steps where all is known -/
theorem allC_of {P : Program} : ∀ {ks : List Lk} {p : List C → Prop}, (∀ cs, p cs) → allC P ks p
  | [], p, h => h _
  | .int :: ks, p, h => fun n _ _ => allC_of fun cs => h _
  | .bool :: ks, p, h => fun t => allC_of fun cs => h _
  | .arr t :: ks, p, h => fun v rows d _ _ => allC_of fun cs => h _
  | .vec t :: ks, p, h => fun v rows d _ _ => allC_of fun cs => h _
section
variable {cx : Cx} {R : List C → Prop} {ρ : List C} {Ls : List (List C → Prop)}
theorem VC.pos {b : B} {t e : Tree} (h : b.den ρ = true) (hv : VC cx R t ρ Ls) : VC cx R (.split b t e) ρ Ls := ⟨fun _ => hv, fun h' => by rw [h] at h'; cases h'⟩
theorem VC.neg {b : B} {t e : Tree} (h : b.den ρ = false) (hv : VC cx R e ρ Ls) : VC cx R (.split b t e) ρ Ls := ⟨fun h' => (by rw [h] at h'; cases h'), fun _ => hv⟩
theorem VC.callF {f : Nat} {args : List Lf} {t : Tree} {ai ro : List Sh0} {p : List C → Prop} {g : List C → List C} {out : List C} (hc : cx.ct f = some (ctF ai ro p g)) (hp : p (cs_ ρ args)) (hg : g (cs_ ρ args) = out) (hv : VC cx R t (ρ ++ out) Ls) : VC cx R (.call f args t) ρ Ls := by
  simp only [VC, hc]
  refine ⟨hp, allC_of fun cs hcs => ?_⟩
  have : cs = g (cs_ ρ args) := hcs
  rw [this, hg]
  exact hv
theorem VC.join1 {ks : List Lk} {ws t : Tree} (out : List C) (h1 : VC cx R ws ρ (Ls ++ [fun xs => xs = out])) (h2 : VC cx R t (ρ ++ out) (Ls ++ [fun xs => xs = out])) : VC cx R (.join ks ws t) ρ Ls :=
  ⟨_, h1, allC_of fun cs hcs => by rw [show cs = out from hcs]; exact h2⟩
theorem VC.arr1 {rows : List (List Lf)} {t : Tree} {out : List (List C)} (ho : rows.map (cs_ ρ) = out) (h : ∀ v, VC cx R t (ρ ++ [.s v out]) Ls) : VC cx R (.arr rows t) ρ Ls := fun v => by rw [ho]; exact h v
end
theorem shown_ok : tab4.ok 63 := by
  refine Tab.of_ct rfl rfl ⟨_, Try.func63, by decide, rfl⟩ ?_ ctF_det
  refine ct_ok (cx := cshown) (Tab.cx_ok all_nil) Try.func63 (bds := []) (T := tshown) (by kernel_rfl) ?_
  exact fun _ => ⟨bds_nil _, rfl⟩
theorem pit_ok : tab4.ok 64 := by
  refine Tab.of_ct rfl rfl ⟨_, Try.func64, by decide, rfl⟩ ?_ ctF_det
  refine ct_ok (cx := cpit) (Tab.cx_ok all_nil) Try.func64 (bds := []) (T := tpit) (by kernel_rfl) ?_
  exact fun _ => ⟨bds_nil _, rfl⟩
theorem flows_ok : tab4.ok 65 := by
  refine Tab.of_ct rfl rfl ⟨_, Try.func65, by decide, rfl⟩ ?_ ctF_det
  refine ct_ok (cx := cflows) (Tab.cx_ok all_nil) Try.func65 (bds := []) (T := tflows) (by kernel_rfl) ?_
  exact fun _ => ⟨bds_nil _, rfl⟩
end Go.Proofs.Ytlbgcjpkegpmlaa
/- A slice of integers among the arguments. -/
namespace Go.Proofs.Ytlbgcjpkegpmlaa
open Go.RowKit
theorem kinds_int : kinds Try.prog 3 = some [.int] := by kernel_rfl
theorem rep_nums {W : World} {A : Option Addr} {n c : Nat} (h : NumsAt W W.heap.size A n) : ∃ rows, LRep Try.prog W (fun _ _ => False) (.arr 3) (.slice A n c) (.s (.slice A n c) rows) := by
  obtain ⟨h1, h2⟩ := h
  by_cases hn : n = 0
  · subst hn
    refine ⟨[], fun m => ?_, rfl, .slice A 0 c, [], rfl, 1, fun _ _ => False, fun _ _ h => h.elim, [.int], kinds_int, A, c, rfl, fun h => absurd rfl h⟩
    cases m with
    | zero => trivial
    | succ m => exact ⟨by simp, fun r hr => by cases hr⟩
  · obtain ⟨d, o, rfl, hd, hx⟩ := h2 (by omega)
    let xs : Nat → Int := fun i => if h : i < n then (hx i h).choose else 0
    have hxs : ∀ i, i < n → W.cell? ⟨d, o + i, none⟩ = some (.int .i64 (xs i)) ∧ -9223372036854775808 ≤ xs i ∧ xs i ≤ 9223372036854775807 := fun i hi => by
      have := (hx i hi).choose_spec
      simp only [xs, dif_pos hi]; exact this
    let rows : List (List C) := (List.range n).map fun i => [.i (xs i)]
    have hlen : rows.length = n := by simp [rows]
    refine ⟨rows, fun m => ?_, rfl, .slice (some ⟨d, o, none⟩) n c, rows, rfl, 1, fun b _ => b < W.heap.size, fun b o h => ⟨h, fun h => h⟩, [.int], kinds_int, some ⟨d, o, none⟩, c, by rw [hlen], fun _ => ⟨d, o, rfl, fun i r hi => ?_⟩⟩
    · cases m with
      | zero => trivial
      | succ m =>
        refine ⟨by rw [hlen]; omega, fun r hr c hc => ?_⟩
        obtain ⟨i, hi, rfl⟩ := List.mem_map.1 hr
        rw [List.mem_singleton] at hc
        subst hc
        have := hxs i (List.mem_range.1 hi)
        cases m <;> exact ⟨this.2.1, this.2.2⟩
    · simp only [rows, List.getElem?_map, Option.map_eq_some_iff] at hi
      obtain ⟨k, hk, rfl⟩ := hi
      have hi' : i < n := by
        rcases Nat.lt_or_ge i n with h | h
        · exact h
        · rw [List.getElem?_eq_none (by simpa using h)] at hk; cases hk
      rw [List.getElem?_range hi'] at hk
      cases hk
      refine ⟨rfl, fun j k hj => ?_⟩
      match j, hj with
      | 0, hj =>
        cases hj
        refine ⟨hd, .int .i64 (xs i), .i (xs i), ?_, rfl, xs i, rfl, rfl⟩
        simpa using (hxs i hi').1
theorem rep_arr {W : World} {O : Nat → Nat → Prop} {ss : List Sh0} {vs : List Value} {cs : List C} {t : TypeId} {v : Value} {c : C} {old : Option Nat} (h : LRep Try.prog W O (.arr t) v c) (hr : Reps Try.prog W O old ss vs cs) :
    Reps Try.prog W O old (.lf (.arr t) :: ss) (v :: vs) (c :: cs) :=
  ⟨[_], _, rfl, ⟨_, rfl, h⟩, hr⟩
end Go.Proofs.Ytlbgcjpkegpmlaa
/- A slice of structs of integers among the arguments, opened. -/
namespace Go.Proofs.Ytlbgcjpkegpmlaa
open Go.ChangeShapes Go.WideShapes Go.RowKit Go.Deep
/-- n rows of m integers each, in blocks below b. -/
def RowsIn (w : World) (b : Nat) (A : Option Addr) (n m : Nat) : Prop :=
  n ≤ 9223372036854775807 ∧ (0 < n → ∃ d o, A = some ⟨d, o, none⟩ ∧ d < b ∧ ∀ i, i < n → ∀ j, j < m → ∃ x : Int, w.cell? ⟨d, o + (i * m + j), none⟩ = some (.int .i64 x) ∧ -9223372036854775808 ≤ x ∧ x ≤ 9223372036854775807)
section
variable {H : Type} {enc : TypeId × Value → H} {P : Program} {base : Nat} {spare : Nat → Bool} {held : Bool}
theorem open_rows {r : Reach} {b0 k : Nat} {t e : TypeId} {v : Value} {d : DataW H} {p : List MemPlace} {W : World} (hu : P.underlying t = some (.slice e)) (he : intsB P k e = true) (hc : 0 < P.cellsOf e)
    (hv : Value.okWide P W r b0 t v) (hx : DataW.Trod enc P W base spare held t v d p) :
    ∃ A n c, v = .slice A n c ∧ RowsIn W W.heap.size A n (P.cellsOf e) := by
  obtain ⟨A, n, c, rfl⟩ := okWide_slice hu hv
  refine ⟨A, n, c, rfl, ?_⟩
  obtain ⟨fuel, hf⟩ := hx
  rcases open_slice hu hf with ⟨hcs, _⟩ | ⟨a, len, cap, m, nn, D, Pl, hcs, hb, hl, hm, hmm, _, hx⟩
  · simp [Value.cells] at hcs
    obtain ⟨rfl, rfl, rfl⟩ := hcs
    exact ⟨by omega, fun h => absurd h (by omega)⟩
  · simp [Value.cells] at hcs
    obtain ⟨rfl, rfl, rfl⟩ := hcs
    have hlm : n ≤ m := by rw [hmm]; split <;> omega
    refine ⟨by unfold maxLen at hm; omega, fun hn => ?_⟩
    have each : ∀ i, i < n → ∀ j, j < P.cellsOf e → ∃ x : Int, W.cell? (a.add (i * P.cellsOf e + j)) = some (.int .i64 x) ∧ -9223372036854775808 ≤ x ∧ x ≤ 9223372036854775807 := by
      intro i hi j hj
      obtain ⟨cs', h1, h2⟩ := hx i (by omega)
      obtain ⟨_, hlen, hcell⟩ := World.cells?_some h1
      obtain ⟨_, hints⟩ := ints_of k e nn cs' _ he h2
      obtain ⟨x, hx1, hx2⟩ := hints j (by omega)
      refine ⟨x, ?_, wf_bd hx2⟩
      rw [← hx1, ← hcell j hj, add_add]
    obtain ⟨d, o, s⟩ := a
    obtain ⟨x0, h0, -⟩ := each 0 hn 0 hc
    have hs : s = none := by simpa [Addr.add] using World.cell?_spot h0
    subst hs
    refine ⟨d, o, rfl, ?_, fun i hi j hj => ?_⟩
    · have := World.block_lt_of_cell? _ _ h0
      simpa [Addr.add] using this
    · obtain ⟨x, h1, h2⟩ := each i hi j hj
      exact ⟨x, by rw [← Go.WideShapes.add_plain]; exact h1, h2⟩
end
theorem rep_rows {W : World} {A : Option Addr} {n c m : Nat} {te : TypeId} (hk : kinds Try.prog te = some (List.replicate m .int)) (h : RowsIn W W.heap.size A n m) :
    ∃ rows, LRep Try.prog W (fun _ _ => False) (.arr te) (.slice A n c) (.s (.slice A n c) rows) := by
  obtain ⟨h1, h2⟩ := h
  by_cases hn : n = 0
  · subst hn
    refine ⟨[], fun m => ?_, rfl, .slice A 0 c, [], rfl, 1, fun _ _ => False, fun _ _ h => h.elim, _, hk, A, c, rfl, fun h => absurd rfl h⟩
    cases m with
    | zero => trivial
    | succ m => exact ⟨by simp, fun r hr => by cases hr⟩
  · obtain ⟨d, o, rfl, hd, hx⟩ := h2 (by omega)
    let xs : Nat → Nat → Int := fun i j => if h : i < n ∧ j < m then (hx i h.1 j h.2).choose else 0
    have hxs : ∀ i j, i < n → j < m → W.cell? ⟨d, o + (i * m + j), none⟩ = some (.int .i64 (xs i j)) ∧ -9223372036854775808 ≤ xs i j ∧ xs i j ≤ 9223372036854775807 := fun i j hi hj => by
      have := (hx i hi j hj).choose_spec
      simp only [xs, dif_pos (And.intro hi hj)]; exact this
    let rows : List (List C) := (List.range n).map fun i => (List.range m).map fun j => .i (xs i j)
    have hlen : rows.length = n := by simp [rows]
    refine ⟨rows, fun q => ?_, rfl, .slice (some ⟨d, o, none⟩) n c, rows, rfl, 1, fun b _ => b < W.heap.size, fun b o h => ⟨h, fun h => h⟩, _, hk, some ⟨d, o, none⟩, c, by rw [hlen], fun _ => ⟨d, o, rfl, fun i r hi => ?_⟩⟩
    · cases q with
      | zero => trivial
      | succ q =>
        refine ⟨by rw [hlen]; omega, fun r hr c hc => ?_⟩
        obtain ⟨i, hi, rfl⟩ := List.mem_map.1 hr
        obtain ⟨j, hj, rfl⟩ := List.mem_map.1 hc
        have := hxs i j (List.mem_range.1 hi) (List.mem_range.1 hj)
        cases q <;> exact ⟨this.2.1, this.2.2⟩
    · simp only [rows, List.getElem?_map, Option.map_eq_some_iff] at hi
      obtain ⟨k, hk', rfl⟩ := hi
      have hi' : i < n := by
        rcases Nat.lt_or_ge i n with h | h
        · exact h
        · rw [List.getElem?_eq_none (by simpa using h)] at hk'; cases hk'
      rw [List.getElem?_range hi'] at hk'
      cases hk'
      refine ⟨by simp, fun j k hj => ?_⟩
      have hj' : j < m := by
        rcases Nat.lt_or_ge j m with h | h
        · exact h
        · rw [List.getElem?_eq_none (by simpa using h)] at hj; cases hj
      have hkk : k = .int := by
        have := List.mem_of_getElem? hj
        exact (List.mem_replicate.1 this).2
      subst hkk
      rw [List.length_replicate]
      exact ⟨hd, .int .i64 (xs i j), .i (xs i j), (hxs i j hi' hj').1, by simp [hj'], xs i j, rfl, rfl⟩
end Go.Proofs.Ytlbgcjpkegpmlaa
/- KickKnown, by the table. -/
namespace Go.Proofs.Ytlbgcjpkegpmlaa
open Go.RowKit
set_option linter.unusedSimpArgs false
set_option linter.unusedVariables false

abbrev pitR : List C := [.i 1, .i 10, .i 5, .i 2, .i 1000, .i 1, .i 20000, .i 2]
abbrev flowR : List C := [.i 2, .i 1, .i 0, .i 0, .i 1, .i 0, .i 3000, .i 1]
theorem ex_late : latE (skOf (flowR ++ [.i 1000, .i 100])) = [.i 20, .b true] := by kernel_rfl
theorem ex_latest : latestC [pitR, flowR] 1000 1000 100 100 = [.i 20, .i 0] := by kernel_rfl
theorem ex_caught : caughtC [pitR, flowR] 1000 100 = [.i 20, .i 39000, .i 0] := by kernel_rfl
theorem firA_zero {x : SK} {f : Int} (h : ∀ n, saysV x.ch x.r x.g n - x.no * x.st < x.li) : ∀ {k : Nat} {a : Int}, firA x f k a = none
  | 0, _ => rfl
  | k + 1, a => by
    rw [firA]
    split
    · rw [if_neg (by have := h (f + a * x.pe); omega)]
      exact firA_zero h
    · rfl
theorem ex_none : latestC [flowR] 0 1000 0 100 = [.i 0, .i 13] := by
  have h0 : firA (skR 0 0 flowR) 0 10001 0 = none := firA_zero fun n => by
    show saysV 2 0 0 n - 0 * 1 < 3000
    unfold saysV flowV
    rw [if_neg (by decide)]
    split <;> omega
  have h1 : latV (skR 0 0 flowR) = none := by
    show latL (skR 0 0 flowR) (0 + 1) 0 (-1) 0 0 = none
    rw [latL, h0]
  have h2 : atsL 0 0 [flowR] = [] := by
    rw [atsL, h1]; rfl
  have h3 : sensorsE [flowR] = 0 := by kernel_rfl
  have h4 : kicksE 0 1000 0 100 = 0 := by kernel_rfl
  unfold latestC earlC
  rw [if_pos h3, if_pos h4, if_pos h2]
theorem ex_watch : watchV [pitR, flowR] [[.i 1, .i 7, .i 2999], [.i 1, .i 8, .i 3000], [.i 1, .i 9, .i 5000]] = [.i 1, .i 8, .b true, .i 0] := by kernel_rfl
theorem ex_false : (falseP (senOf [.i 1, .i 1, .i 0, .i 2, .i 1000, .i 0, .i 1000, .i 2, .i 2]) 2) = (4, 25) := by decide +kernel
theorem ex_false3 : (falseP (senOf [.i 1, .i 1, .i 0, .i 2, .i 1000, .i 0, .i 2001, .i 2, .i 3]) 3) = (0, 125) := by decide +kernel
theorem ex_pre1 : SenOK (senOf [.i 1, .i 1, .i 0, .i 2, .i 1000, .i 0, .i 1000, .i 2, .i 2]) ∧ 1 ≤ cell_ [.i 1, .i 1, .i 0, .i 2, .i 1000, .i 0, .i 1000, .i 2, .i 2] 8 ∧ cell_ [.i 1, .i 1, .i 0, .i 2, .i 1000, .i 0, .i 1000, .i 2, .i 2] 8 ≤ 12 := by decide
theorem ex_pre2 : SenOK (senOf [.i 1, .i 1, .i 0, .i 2, .i 1000, .i 0, .i 2001, .i 2, .i 3]) ∧ 1 ≤ cell_ [.i 1, .i 1, .i 0, .i 2, .i 1000, .i 0, .i 2001, .i 2, .i 3] 8 ∧ cell_ [.i 1, .i 1, .i 0, .i 2, .i 1000, .i 0, .i 2001, .i 2, .i 3] 8 ≤ 12 := by decide
theorem known_tree : execFn cknown Try.f16 (ctLaw []) [] = some tknown := by kernel_rfl
theorem known_ok (awake_ok : tab4.ok 19) : CtOK Try.prog 16 (ctLaw []) := by
  refine ct_ok (cx := cknown) (Tab.cx_ok (all_cons awake_ok (all_cons shown_ok (all_cons pit_ok (all_cons flows_ok (all_cons (up4_ok (up3_ok (up_ok flow_ok))) (all_cons (up4_ok (up3_ok (up_ok gain_ok))) (all_cons (up4_ok (up3_ok (up_ok value_ok))) (all_cons (up4_ok (up3_ok (up_ok late_ok))) (all_cons (up4_ok (up3_ok (up_ok latest_ok))) (all_cons (up4_ok (up3_ok (up_ok caught_ok))) (all_cons (up4_ok watch_ok) (all_cons false_tok (all_cons (up4_ok (up3_ok (up_ok ident_ok))) all_nil)))))))))))))) Try.func16 (bds := []) (T := tknown) known_tree ?_
  show True → _
  intro _
  refine ⟨bds_nil _, ?_⟩
  refine VC.callF (out := [.b true]) rfl trivial rfl ?_
  refine VC.neg (by kernel_rfl) ?_
  refine VC.callF (out := [.i 1000, .i 100]) rfl trivial rfl ?_
  refine VC.callF (out := pitR) rfl trivial rfl ?_
  refine VC.callF (out := flowR) rfl trivial rfl ?_
  refine VC.join1 [.b true] ?_ ?_
  · refine VC.callF (out := [.i 1300]) rfl trivial (by kernel_rfl) ?_
    refine VC.pos (by kernel_rfl) ?_
    refine VC.callF (out := [.i 0]) rfl trivial (by kernel_rfl) ?_
    refine VC.pos (by kernel_rfl) ?_
    refine VC.callF (out := [.i 1300]) rfl trivial (by kernel_rfl) ?_
    refine VC.pos (by kernel_rfl) ?_
    refine VC.callF (out := [.i 1000]) rfl trivial (by kernel_rfl) ?_
    show cs_ _ _ = [C.b true]
    kernel_rfl
  refine VC.callF (out := [.i 20, .b true]) rfl trivial ex_late ?_
  refine VC.arr1 (out := [pitR, flowR]) (by kernel_rfl) fun v1 => ?_
  refine VC.callF (out := [.i 20, .i 0]) rfl trivial ex_latest ?_
  refine VC.arr1 (out := [pitR, flowR]) (by kernel_rfl) fun v2 => ?_
  refine VC.callF (out := [.i 20, .i 39000, .i 0]) rfl trivial ex_caught ?_
  refine VC.join1 [.b true] ?_ ?_
  · refine VC.pos (by kernel_rfl) ?_
    refine VC.pos (by kernel_rfl) ?_
    refine VC.pos (by kernel_rfl) ?_
    refine VC.pos (by kernel_rfl) ?_
    refine VC.pos (by kernel_rfl) ?_
    refine VC.pos (by kernel_rfl) ?_
    show cs_ _ _ = [C.b true]
    kernel_rfl
  refine VC.arr1 (out := [flowR]) (by kernel_rfl) fun v3 => ?_
  refine VC.callF (out := [.i 0, .i 13]) rfl trivial ex_none ?_
  refine VC.arr1 (out := [pitR, flowR]) (by kernel_rfl) fun v4 => ?_
  refine VC.arr1 (out := [[.i 1, .i 7, .i 2999], [.i 1, .i 8, .i 3000], [.i 1, .i 9, .i 5000]]) (by kernel_rfl) fun v5 => ?_
  refine VC.callF (out := [.i 1, .i 8, .b true, .i 0]) rfl trivial ex_watch ?_
  refine VC.join1 [.b true] ?_ ?_
  · refine VC.pos (by kernel_rfl) ?_
    refine VC.pos (by kernel_rfl) ?_
    refine VC.pos (by kernel_rfl) ?_
    show cs_ _ _ = [C.b true]
    kernel_rfl
  refine VC.callF (out := [.i 4, .i 25, .i 0]) rfl ex_pre1 (by
    show [C.i (falseP (senOf [.i 1, .i 1, .i 0, .i 2, .i 1000, .i 0, .i 1000, .i 2, .i 2]) 2).1, .i (falseP (senOf [.i 1, .i 1, .i 0, .i 2, .i 1000, .i 0, .i 1000, .i 2, .i 2]) 2).2, .i 0] = _
    rw [ex_false]) ?_
  refine VC.callF (out := [.i 0, .i 125, .i 0]) rfl ex_pre2 (by
    show [C.i (falseP (senOf [.i 1, .i 1, .i 0, .i 2, .i 1000, .i 0, .i 2001, .i 2, .i 3]) 3).1, .i (falseP (senOf [.i 1, .i 1, .i 0, .i 2, .i 1000, .i 0, .i 2001, .i 2, .i 3]) 3).2, .i 0] = _
    rw [ex_false3]) ?_
  refine VC.join1 [.b true] ?_ ?_
  · refine VC.pos (by kernel_rfl) ?_
    refine VC.pos (by kernel_rfl) ?_
    refine VC.pos (by kernel_rfl) ?_
    refine VC.pos (by kernel_rfl) ?_
    refine VC.pos (by kernel_rfl) ?_
    show cs_ _ _ = [C.b true]
    kernel_rfl
  refine VC.callF (out := [.i 10100, .i 10100, .i 20, .i 20, .i (-5), .i (-5), .i 1, .i 0]) rfl trivial (by kernel_rfl) ?_
  refine VC.join1 [.b true] ?_ ?_
  · refine VC.pos (by kernel_rfl) ?_
    show cs_ _ _ = [C.b true]
    kernel_rfl
  repeat (refine VC.pos (by kernel_rfl) ?_)
  show cs_ _ _ = [C.b true]
  kernel_rfl
end Go.Proofs.Ytlbgcjpkegpmlaa
/- The contract of kick.late for the other channel, and of kick.Late. Printed by genD.py. -/
namespace Go.Proofs.Ytlbgcjpkegpmlaa
open Go.RowKit

set_option maxHeartbeats 2000000 in
set_option maxRecDepth 100000 in
theorem late_flow (pe de no st lo li ho r g : Int) (w : World) (hs : RangeOK ⟨2, pe, de, no, st, lo, li, ho⟩) (hk : KickOK r g) :
    Calls Try.prog 79 #[.agg #[.int .i64 2, .int .i64 pe, .int .i64 de, .int .i64 no, .int .i64 st, .int .i64 lo, .int .i64 li, .int .i64 ho], kickV r g] w fun e w' => e = .returned (lateV ⟨2, pe, de, no, st, lo, li, ho⟩ r g) ∧ Below w.heap.size w w' := by
  obtain ⟨h1, h2, h3, h4, h5, h6, h7, h8, h9, h10, h11, h12, h13, h14⟩ := hs
  simp only at h1 h2 h3 h4 h5 h6 h7 h8 h9 h10 h11 h12 h13 h14
  obtain ⟨n1, n2⟩ := mul_bd h5 h6 (by omega : 0 ≤ st) h8
  obtain ⟨q1, q2⟩ := mul_bd (by omega : 0 ≤ ho) h14 (by omega : 0 ≤ lo + 1) (by omega : lo + 1 ≤ 6)
  have q0 := mul_one_le h13 (by omega : 1 ≤ lo + 1)
  have HK := Lib.hid hk
  clear hk
  go_enter Try.func79, Try.ntmps79
  go_wp2_with fail
  go_step3
  go_wp2_with (go_at_call 77; refine (says_flow ⟨2, pe, de, no, st, lo, li, ho⟩ r g _ rfl).mono ?_; rintro e w1 ⟨rfl, hb⟩)
  go_step3
  have B0 : Blk w1 w.heap.size 23 (senCells 2 pe de no st lo li ho) := ((((Blk.new w _ _).alloc _).alloc _).alloc _).below hb
  have B2 : Blk w1 (w.heap.size + 1 + 1) 110 (outCells (0, 0, 0)) := by
    have h := ((Blk.new ((w.alloc (.cells #[.int .i64 2, .int .i64 pe, .int .i64 de, .int .i64 no, .int .i64 st, .int .i64 lo, .int .i64 li, .int .i64 ho] 23)).alloc (.cells #[.int .i64 r, .int .i64 g] 31)) 110 (outCells (0, 0, 0))).alloc (.cells (outCells (-1, 0, 0)) 110)).below hb
    simpa using h
  have B3 : Blk w1 (w.heap.size + 1 + 1 + 1) 110 (outCells (-1, 0, 0)) := by
    have h := (Blk.new (((w.alloc (.cells #[.int .i64 2, .int .i64 pe, .int .i64 de, .int .i64 no, .int .i64 st, .int .i64 lo, .int .i64 li, .int .i64 ho] 23)).alloc (.cells #[.int .i64 r, .int .i64 g] 31)).alloc (.cells (outCells (0, 0, 0)) 110)) 110 (outCells (-1, 0, 0))).below hb
    simpa using h
  have hbw : Below w.heap.size w w1 := by
    repeat' (first | with_reducible exact Below.refl _ _ | with_reducible refine bstep ?_ (by with_reducible assumption) | with_reducible refine balloc ?_ | with_reducible refine bdrew ?_ | with_reducible refine bdrewN ?_ _ | with_reducible refine bset ?_ (by go_size))
  obtain ⟨c1, -⟩ := sen_cells B0
  clear hb
  go_wp2_with fail
  go_loopg [17] (pe.toNat) (fun k v17 wx => ∃ (f : Nat) (o : Int × Int × Int), k + f = pe.toNat ∧ v17 = .int .i64 f ∧ Hid (lateGo ⟨2, pe, de, no, st, lo, li, ho⟩ r g k f o = lateF ⟨2, pe, de, no, st, lo, li, ho⟩ r g) ∧
    Blk wx w.heap.size 23 (senCells 2 pe de no st lo li ho) ∧ Blk wx (w.heap.size + 1 + 1) 110 (outCells (0, 0, 0)) ∧ Blk wx (w.heap.size + 1 + 1 + 1) 110 (outCells o) ∧ Below w.heap.size w wx)
  case atStart => exact ⟨0, (-1, 0, 0), rfl, rfl, rfl, B0, B2, B3, hbw⟩
  case round =>
    clear c1 B0 B2 B3 hbw
    obtain ⟨f, ⟨oa, ob, oc⟩, hkf, rfl, HG, B0, B2, B3, hbw⟩ := hrel
    cases gk with
    | zero =>
      have hlt : ¬ ((f : Int) < pe) := by omega
      obtain ⟨k0, k1, k2, -⟩ := out_cells B3
      obtain ⟨e0, e1, e2, f0, f1, f2⟩ := out_cells B2
      have hz := B3.lt
      have HV := Lib.hid (lateV_some (show lateF ⟨2, pe, de, no, st, lo, li, ho⟩ r g = some (oa, ob, oc) from HG.out.symm))
      clear HG
      go_wp2_with fail
      refine bodyPost_ret (v := .tuple #[.agg #[.int .i64 oa, .int .i64 ob, .int .i64 oc], .bool true]) (by simp [results, Try.results79, go_sem, cell_put_same, e0, e1, e2]) rfl ?_
      refine ⟨by rw [HV.out], ?_⟩
      repeat' (first | with_reducible exact Below.refl _ _ | with_reducible refine bstep ?_ (by with_reducible assumption) | with_reducible refine balloc ?_ | with_reducible refine bdrew ?_ | with_reducible refine bdrewN ?_ _ | with_reducible refine bset ?_ (by go_size))
    | succ k =>
      have hlt : (f : Int) < pe := by omega
      go_wp2_with fail
      go_loopg [9] 10001 (fun j v9 wy => ∃ a : Nat, j + a = 10001 ∧ v9 = .int .i64 a ∧ Hid (findA ⟨2, pe, de, no, st, lo, li, ho⟩ r g f j a = firstA ⟨2, pe, de, no, st, lo, li, ho⟩ r g f) ∧
        Blk wy w.heap.size 23 (senCells 2 pe de no st lo li ho) ∧ Blk wy (w.heap.size + 1 + 1) 110 (outCells (0, 0, 0)) ∧ Blk wy (w.heap.size + 1 + 1 + 1) 110 (outCells (oa, ob, oc)) ∧ Below w.heap.size w wy)
      case atStart => exact ⟨0, rfl, rfl, rfl, B0, B2, B3, hbw⟩
      case round =>
        clear B0 B2 B3 hbw
        rename_i wo _ _ _ _ _ _ _
        obtain ⟨a, hja, rfl, HF, B0, B2, B3, hbw⟩ := hrel
        obtain ⟨s1, s2, s3, s4, s5, s6, s7⟩ := sen_cells B0
        obtain ⟨k0, k1, k2, g0, g1, g2⟩ := out_cells B3
        obtain ⟨e0, e1, e2, f0, f1, f2⟩ := out_cells B2
        have hz0 := B0.lt
        have hz := B3.lt
        obtain ⟨p1, p2⟩ := mul_bd (by omega : (0 : Int) ≤ a) (by omega : (a : Int) ≤ 10001) (by omega : 0 ≤ pe) h2
        by_cases hr : (f : Int) + a * pe ≤ 10000
        · have ha1 : (a : Int) * 1 ≤ a * pe := Int.mul_le_mul_of_nonneg_left h1 (by omega)
          have ha2 : (a : Int) ≤ 10000 := by omega
          clear ha1
          have hj : ∃ j', gk = j' + 1 := ⟨gk - 1, by omega⟩
          obtain ⟨j, rfl⟩ := hj
          have hgb := says_bd (s := ⟨2, pe, de, no, st, lo, li, ho⟩) (n := (f : Int) + a * pe) HK.out (by omega)
          have hsay : saysAt ⟨2, pe, de, no, st, lo, li, ho⟩ r g ((f : Int) + a * pe) = flowAt r g ((f : Int) + a * pe) := by simp [saysAt]
          rw [hsay] at hgb
          obtain ⟨hg1, hg2⟩ := hgb
          by_cases hv : li ≤ flowAt r g ((f : Int) + a * pe) - no * st
          · have hfa : firstA ⟨2, pe, de, no, st, lo, li, ho⟩ r g f = some a := by rw [← HF.out]; simp [findA, hr, hsay, hv]
            obtain ⟨m1, m2⟩ := mul_bd (by omega : (0 : Int) ≤ a + ho * (lo + 1) - 1) (by omega : (a : Int) + ho * (lo + 1) - 1 ≤ 10049) (by omega : 0 ≤ pe) h2
            by_cases ht : 10000 < (f : Int) + (a + ho * (lo + 1) - 1) * pe + de
            · have HV := Lib.hid (lateV_none (show lateF ⟨2, pe, de, no, st, lo, li, ho⟩ r g = none by rw [← HG.out]; simp [lateGo, hfa, alarmT, ht]))
              clear HG hfa HF
              go_wp2_with fail
              have hn2 : (f : Int) + a * pe ≤ 20000 := by omega
              have W3 : IntKind.i64.wrap (no * st) = no * st := IntWalk.i64_in _ (by omega)
              have W4 : IntKind.i64.wrap (flowAt r g ((f : Int) + a * pe) - no * st) = flowAt r g ((f : Int) + a * pe) - no * st := IntWalk.i64_in _ (by omega)
              have W1 : IntKind.i64.wrap ((a : Int) * pe) = (a : Int) * pe := IntWalk.i64_in _ (by omega)
              have W2 : IntKind.i64.wrap ((f : Int) + (a : Int) * pe) = (f : Int) + (a : Int) * pe := IntWalk.i64_in _ (by omega)
              go_region_held3 (fun w' => w'.cell? ⟨w.heap.size, 1, none⟩ = some (.int .i64 pe) ∧ w'.cell? ⟨w.heap.size, 3, none⟩ = some (.int .i64 no) ∧ w'.cell? ⟨w.heap.size, 4, none⟩ = some (.int .i64 st) ∧ w'.cell? ⟨w.heap.size, 6, none⟩ = some (.int .i64 li)) (first | exact ⟨s1, s3, s4, s6⟩ | exact ⟨(hc _ _ hz0).trans s1, (hc _ _ hz0).trans s3, (hc _ _ hz0).trans s4, (hc _ _ hz0).trans s6⟩) (first | (go_at_call 67; (with_reducible refine (flow_any r g ((f : Int) + a * pe) _ HK.out hn2).mono ?_); rintro e w2 ⟨rfl, hb⟩; obtain ⟨hc, hf⟩ := bcell hb))
              clear W1 W2 W3 W4
              have B0' := B0.drew.below hb
              have B2' := B2.drew.below hb
              have B3' := B3.drew.below hb
              have hbw' : Below w.heap.size w w2 := by
                repeat' (first | with_reducible exact Below.refl _ _ | with_reducible refine bstep ?_ (by with_reducible assumption) | with_reducible refine balloc ?_ | with_reducible refine bdrew ?_ | with_reducible refine bdrewN ?_ _ | with_reducible refine bset ?_ (by go_size))
              clear s1 s2 s3 s4 s5 s6 s7 k0 k1 k2 g0 g1 g2 e0 e1 e2 f0 f1 f2 hz0 hz B0 B2 B3 hbw hc hf hb
              obtain ⟨s1, s2, s3, s4, s5, s6, s7⟩ := sen_cells B0'
              obtain ⟨k0, k1, k2, g0, g1, g2⟩ := out_cells B3'
              obtain ⟨e0, e1, e2, f0, f1, f2⟩ := out_cells B2'
              have hz0 := B0'.lt
              have hz := B3'.lt
              go_wp2_with fail
              rw [Exit.noGoto_ret]
              refine bodyPost_ret (v := .tuple #[.agg #[.int .i64 0, .int .i64 0, .int .i64 0], .bool false]) (by simp [results, Try.results79, go_sem, cell_put_same, e0, e1, e2]) rfl ?_
              refine ⟨by rw [HV.out], ?_⟩
              repeat' (first | with_reducible exact Below.refl _ _ | with_reducible refine bstep ?_ (by with_reducible assumption) | with_reducible refine balloc ?_ | with_reducible refine bdrew ?_ | with_reducible refine bdrewN ?_ _ | with_reducible refine bset ?_ (by go_size))
            · by_cases hgt : oa < (f : Int) + (a + ho * (lo + 1) - 1) * pe + de
              · have HG2 : Hid (lateGo ⟨2, pe, de, no, st, lo, li, ho⟩ r g k (f + 1) ((f : Int) + (a + ho * (lo + 1) - 1) * pe + de, (f : Int), (a : Int)) = lateF ⟨2, pe, de, no, st, lo, li, ho⟩ r g) := by
                  show _ = _
                  rw [← HG.out]; simp [lateGo, hfa, alarmT, ht, hgt]
                clear HG hfa HF
                go_wp2_with fail
                have hn2 : (f : Int) + a * pe ≤ 20000 := by omega
                have W3 : IntKind.i64.wrap (no * st) = no * st := IntWalk.i64_in _ (by omega)
                have W4 : IntKind.i64.wrap (flowAt r g ((f : Int) + a * pe) - no * st) = flowAt r g ((f : Int) + a * pe) - no * st := IntWalk.i64_in _ (by omega)
                have W1 : IntKind.i64.wrap ((a : Int) * pe) = (a : Int) * pe := IntWalk.i64_in _ (by omega)
                have W2 : IntKind.i64.wrap ((f : Int) + (a : Int) * pe) = (f : Int) + (a : Int) * pe := IntWalk.i64_in _ (by omega)
                go_region_held3 (fun w' => w'.cell? ⟨w.heap.size, 1, none⟩ = some (.int .i64 pe) ∧ w'.cell? ⟨w.heap.size, 3, none⟩ = some (.int .i64 no) ∧ w'.cell? ⟨w.heap.size, 4, none⟩ = some (.int .i64 st) ∧ w'.cell? ⟨w.heap.size, 6, none⟩ = some (.int .i64 li)) (first | exact ⟨s1, s3, s4, s6⟩ | exact ⟨(hc _ _ hz0).trans s1, (hc _ _ hz0).trans s3, (hc _ _ hz0).trans s4, (hc _ _ hz0).trans s6⟩) (first | (go_at_call 67; (with_reducible refine (flow_any r g ((f : Int) + a * pe) _ HK.out hn2).mono ?_); rintro e w2 ⟨rfl, hb⟩; obtain ⟨hc, hf⟩ := bcell hb))
                clear W1 W2 W3 W4
                have B0' := B0.drew.below hb
                have B2' := B2.drew.below hb
                have B3' := B3.drew.below hb
                have hbw' : Below w.heap.size w w2 := by
                  repeat' (first | with_reducible exact Below.refl _ _ | with_reducible refine bstep ?_ (by with_reducible assumption) | with_reducible refine balloc ?_ | with_reducible refine bdrew ?_ | with_reducible refine bdrewN ?_ _ | with_reducible refine bset ?_ (by go_size))
                clear s1 s2 s3 s4 s5 s6 s7 k0 k1 k2 g0 g1 g2 e0 e1 e2 f0 f1 f2 hz0 hz B0 B2 B3 hbw hc hf hb
                obtain ⟨s1, s2, s3, s4, s5, s6, s7⟩ := sen_cells B0'
                obtain ⟨k0, k1, k2, g0, g1, g2⟩ := out_cells B3'
                obtain ⟨e0, e1, e2, f0, f1, f2⟩ := out_cells B2'
                have hz0 := B0'.lt
                have hz := B3'.lt
                go_wp2_with fail
                go_roundg k
                case measure => omega
                case rel => exact ⟨f + 1, ((f : Int) + (a + ho * (lo + 1) - 1) * pe + de, (f : Int), (a : Int)), by omega, by go_num, HG2, out_far B0' (by omega), out_far B2' (by omega), out_put (x := ((f : Int) + (a + ho * (lo + 1) - 1) * pe + de, (f : Int), (a : Int))) B3', out_below hbw' (by omega)⟩
              · have HG2 : Hid (lateGo ⟨2, pe, de, no, st, lo, li, ho⟩ r g k (f + 1) (oa, ob, oc) = lateF ⟨2, pe, de, no, st, lo, li, ho⟩ r g) := by
                  show _ = _
                  rw [← HG.out]; simp [lateGo, hfa, alarmT, ht, hgt]
                clear HG hfa HF
                go_wp2_with fail
                have hn2 : (f : Int) + a * pe ≤ 20000 := by omega
                have W3 : IntKind.i64.wrap (no * st) = no * st := IntWalk.i64_in _ (by omega)
                have W4 : IntKind.i64.wrap (flowAt r g ((f : Int) + a * pe) - no * st) = flowAt r g ((f : Int) + a * pe) - no * st := IntWalk.i64_in _ (by omega)
                have W1 : IntKind.i64.wrap ((a : Int) * pe) = (a : Int) * pe := IntWalk.i64_in _ (by omega)
                have W2 : IntKind.i64.wrap ((f : Int) + (a : Int) * pe) = (f : Int) + (a : Int) * pe := IntWalk.i64_in _ (by omega)
                go_region_held3 (fun w' => w'.cell? ⟨w.heap.size, 1, none⟩ = some (.int .i64 pe) ∧ w'.cell? ⟨w.heap.size, 3, none⟩ = some (.int .i64 no) ∧ w'.cell? ⟨w.heap.size, 4, none⟩ = some (.int .i64 st) ∧ w'.cell? ⟨w.heap.size, 6, none⟩ = some (.int .i64 li)) (first | exact ⟨s1, s3, s4, s6⟩ | exact ⟨(hc _ _ hz0).trans s1, (hc _ _ hz0).trans s3, (hc _ _ hz0).trans s4, (hc _ _ hz0).trans s6⟩) (first | (go_at_call 67; (with_reducible refine (flow_any r g ((f : Int) + a * pe) _ HK.out hn2).mono ?_); rintro e w2 ⟨rfl, hb⟩; obtain ⟨hc, hf⟩ := bcell hb))
                clear W1 W2 W3 W4
                have B0' := B0.drew.below hb
                have B2' := B2.drew.below hb
                have B3' := B3.drew.below hb
                have hbw' : Below w.heap.size w w2 := by
                  repeat' (first | with_reducible exact Below.refl _ _ | with_reducible refine bstep ?_ (by with_reducible assumption) | with_reducible refine balloc ?_ | with_reducible refine bdrew ?_ | with_reducible refine bdrewN ?_ _ | with_reducible refine bset ?_ (by go_size))
                clear s1 s2 s3 s4 s5 s6 s7 k0 k1 k2 g0 g1 g2 e0 e1 e2 f0 f1 f2 hz0 hz B0 B2 B3 hbw hc hf hb
                obtain ⟨s1, s2, s3, s4, s5, s6, s7⟩ := sen_cells B0'
                obtain ⟨k0, k1, k2, g0, g1, g2⟩ := out_cells B3'
                obtain ⟨e0, e1, e2, f0, f1, f2⟩ := out_cells B2'
                have hz0 := B0'.lt
                have hz := B3'.lt
                go_wp2_with fail
                go_roundg k
                case measure => omega
                case rel => exact ⟨f + 1, (oa, ob, oc), by omega, by go_num, HG2, B0', B2', B3', hbw'⟩
          · have HF2 : Hid (findA ⟨2, pe, de, no, st, lo, li, ho⟩ r g f j (a + 1) = firstA ⟨2, pe, de, no, st, lo, li, ho⟩ r g f) := by
              show _ = _
              rw [← HF.out]; simp [findA, hr, hsay, hv]
            clear HF
            go_wp2_with fail
            have hn2 : (f : Int) + a * pe ≤ 20000 := by omega
            have W3 : IntKind.i64.wrap (no * st) = no * st := IntWalk.i64_in _ (by omega)
            have W4 : IntKind.i64.wrap (flowAt r g ((f : Int) + a * pe) - no * st) = flowAt r g ((f : Int) + a * pe) - no * st := IntWalk.i64_in _ (by omega)
            have W1 : IntKind.i64.wrap ((a : Int) * pe) = (a : Int) * pe := IntWalk.i64_in _ (by omega)
            have W2 : IntKind.i64.wrap ((f : Int) + (a : Int) * pe) = (f : Int) + (a : Int) * pe := IntWalk.i64_in _ (by omega)
            go_region_held3 (fun w' => w'.cell? ⟨w.heap.size, 1, none⟩ = some (.int .i64 pe) ∧ w'.cell? ⟨w.heap.size, 3, none⟩ = some (.int .i64 no) ∧ w'.cell? ⟨w.heap.size, 4, none⟩ = some (.int .i64 st) ∧ w'.cell? ⟨w.heap.size, 6, none⟩ = some (.int .i64 li)) (first | exact ⟨s1, s3, s4, s6⟩ | exact ⟨(hc _ _ hz0).trans s1, (hc _ _ hz0).trans s3, (hc _ _ hz0).trans s4, (hc _ _ hz0).trans s6⟩) (first | (go_at_call 67; (with_reducible refine (flow_any r g ((f : Int) + a * pe) _ HK.out hn2).mono ?_); rintro e w2 ⟨rfl, hb⟩; obtain ⟨hc, hf⟩ := bcell hb))
            clear W1 W2 W3 W4
            have B0' := B0.drew.below hb
            have B2' := B2.drew.below hb
            have B3' := B3.drew.below hb
            have hbw' : Below w.heap.size w w2 := by
              repeat' (first | with_reducible exact Below.refl _ _ | with_reducible refine bstep ?_ (by with_reducible assumption) | with_reducible refine balloc ?_ | with_reducible refine bdrew ?_ | with_reducible refine bdrewN ?_ _ | with_reducible refine bset ?_ (by go_size))
            clear s1 s2 s3 s4 s5 s6 s7 k0 k1 k2 g0 g1 g2 e0 e1 e2 f0 f1 f2 hz0 hz B0 B2 B3 hbw hc hf hb
            obtain ⟨s1, s2, s3, s4, s5, s6, s7⟩ := sen_cells B0'
            obtain ⟨k0, k1, k2, g0, g1, g2⟩ := out_cells B3'
            obtain ⟨e0, e1, e2, f0, f1, f2⟩ := out_cells B2'
            have hz0 := B0'.lt
            have hz := B3'.lt
            go_wp2_with fail
            go_roundg j
            case measure => omega
            case rel => exact ⟨a + 1, by omega, by go_num, HF2, B0', B2', B3', hbw'⟩
        · have hfa : firstA ⟨2, pe, de, no, st, lo, li, ho⟩ r g f = none := by
            rw [← HF.out]
            cases gk <;> simp [findA, hr]
          have HV := Lib.hid (lateV_none (show lateF ⟨2, pe, de, no, st, lo, li, ho⟩ r g = none by rw [← HG.out]; simp [lateGo, hfa]))
          clear HG hfa HF
          go_wp2_with fail
          refine bodyPost_ret (v := .tuple #[.agg #[.int .i64 0, .int .i64 0, .int .i64 0], .bool false]) (by simp [results, Try.results79, go_sem, cell_put_same, e0, e1, e2]) rfl ?_
          refine ⟨by rw [HV.out], ?_⟩
          repeat' (first | with_reducible exact Below.refl _ _ | with_reducible refine bstep ?_ (by with_reducible assumption) | with_reducible refine balloc ?_ | with_reducible refine bdrew ?_ | with_reducible refine bdrewN ?_ _ | with_reducible refine bset ?_ (by go_size))

theorem late_any (s : Sen) (r g : Int) (w : World) (hs : SenOK s) (hk : KickOK r g) :
    Calls Try.prog 79 #[s.v, kickV r g] w fun e w' => e = .returned (lateV s r g) ∧ Below w.heap.size w w' := by
  obtain ⟨ch, pe, de, no, st, lo, li, ho⟩ := s
  obtain ⟨hkind, hr⟩ := hs
  rcases hkind with rfl | rfl
  · exact late_pit _ _ _ _ _ _ _ _ _ w hr hk
  · exact late_flow _ _ _ _ _ _ _ _ _ w hr hk

end Go.Proofs.Ytlbgcjpkegpmlaa
/- The contract of kick.Late. -/
namespace Go.Proofs.Ytlbgcjpkegpmlaa
open Go.RowKit

/-- What Late returns, of the program and of the reference. -/
def lateR (s : Sen) (r g : Int) : Int × Bool := if SenOK s ∧ KickOK r g then (match lateF s r g with | some (t, _, _) => (t, true) | none => (0, false)) else (0, false)
def lateRV (s : Sen) (r g : Int) : Value := .tuple #[.int .i64 (lateR s r g).1, .bool (lateR s r g).2]

theorem notSen {s : Sen} (h : ¬ SenOK s) : (¬ KindOK s) ∨ (KindOK s ∧ ¬ RangeOK s) := by
  unfold SenOK at h
  by_cases hk : KindOK s
  · exact .inr ⟨hk, fun hr => h ⟨hk, hr⟩⟩
  · exact .inl hk

theorem Late_any (s : Sen) (r g : Int) (w : World) :
    Calls Try.prog 49 #[s.v, kickV r g] w fun e w' => e = .returned (lateRV s r g) ∧ Below w.heap.size w w' := by
  by_cases hs : SenOK s
  · have HS := Lib.hid hs
    clear hs
    by_cases hk : KickOK r g
    · have HK := Lib.hid hk
      clear hk
      rcases hl : lateF s r g with _ | ⟨t, f, a⟩
      · have hv : lateRV s r g = .tuple #[.int .i64 0, .bool false] := by simp [lateRV, lateR, hl]
        have hV := Lib.hid (lateV_none hl)
        rw [hv]
        clear hv hl
        go_enter Try.func49, Try.ntmps49
        go_wp2_with (first
          | (go_at_call 40; refine (checkSensor_yes s _ HS.out).mono ?_; rintro e w1 ⟨rfl, hb⟩; obtain ⟨hc, hf⟩ := bcell hb; have hz0 : w.heap.size < w1.heap.size := (by have := hb.size; simp at this; omega); have hz1 : w.heap.size + 1 < w1.heap.size := (by have := hb.size; simp at this; omega))
          | (go_at_call 36; refine (checkKick_yes _ _ _ HK.out).mono ?_; rintro e w2 ⟨rfl, hb2⟩; obtain ⟨hc2, hf2⟩ := bcell hb2)
          | (go_at_call 79; refine (late_any s r g _ HS.out HK.out).mono ?_; rw [hV.out]; rintro e w3 ⟨rfl, hb3⟩))
        go_ret2
        refine ⟨rfl, ?_⟩
        repeat' (first | with_reducible exact Below.refl _ _ | with_reducible refine bstep ?_ (by with_reducible assumption) | with_reducible refine balloc ?_ | with_reducible refine bdrew ?_ | with_reducible refine bdrewN ?_ _ | with_reducible refine bset ?_ (by go_size))
      · have hv : lateRV s r g = .tuple #[.int .i64 t, .bool true] := by simp [lateRV, lateR, hl, HS.out, HK.out]
        have hV := Lib.hid (lateV_some hl)
        rw [hv]
        clear hv hl
        go_enter Try.func49, Try.ntmps49
        go_wp2_with (first
          | (go_at_call 40; refine (checkSensor_yes s _ HS.out).mono ?_; rintro e w1 ⟨rfl, hb⟩; obtain ⟨hc, hf⟩ := bcell hb; have hz0 : w.heap.size < w1.heap.size := (by have := hb.size; simp at this; omega); have hz1 : w.heap.size + 1 < w1.heap.size := (by have := hb.size; simp at this; omega))
          | (go_at_call 36; refine (checkKick_yes _ _ _ HK.out).mono ?_; rintro e w2 ⟨rfl, hb2⟩; obtain ⟨hc2, hf2⟩ := bcell hb2)
          | (go_at_call 79; refine (late_any s r g _ HS.out HK.out).mono ?_; rw [hV.out]; rintro e w3 ⟨rfl, hb3⟩))
        go_ret2
        refine ⟨rfl, ?_⟩
        repeat' (first | with_reducible exact Below.refl _ _ | with_reducible refine bstep ?_ (by with_reducible assumption) | with_reducible refine balloc ?_ | with_reducible refine bdrew ?_ | with_reducible refine bdrewN ?_ _ | with_reducible refine bset ?_ (by go_size))
    · have hv : lateRV s r g = .tuple #[.int .i64 0, .bool false] := by simp [lateRV, lateR, hk]
      rw [hv]
      clear hv
      have HK := Lib.hid hk
      clear hk
      go_enter Try.func49, Try.ntmps49
      go_wp2_with (first
        | (go_at_call 40; refine (checkSensor_yes s _ HS.out).mono ?_; rintro e w1 ⟨rfl, hb⟩; obtain ⟨hc, hf⟩ := bcell hb; have hz0 : w.heap.size < w1.heap.size := (by have := hb.size; simp at this; omega); have hz1 : w.heap.size + 1 < w1.heap.size := (by have := hb.size; simp at this; omega))
        | (go_at_call 36; refine (checkKick_no _ _ _ HK.out).mono ?_; rintro e w2 ⟨rfl, hb2⟩; obtain ⟨hc2, hf2⟩ := bcell hb2))
      go_ret2
      refine ⟨rfl, ?_⟩
      repeat' (first | with_reducible exact Below.refl _ _ | with_reducible refine bstep ?_ (by with_reducible assumption) | with_reducible refine balloc ?_ | with_reducible refine bdrew ?_ | with_reducible refine bdrewN ?_ _ | with_reducible refine bset ?_ (by go_size))
  · have hv : lateRV s r g = .tuple #[.int .i64 0, .bool false] := by simp [lateRV, lateR, hs]
    rw [hv]
    clear hv
    rcases notSen hs with hq | ⟨hq, hq2⟩
    · have HQ := Lib.hid hq
      clear hq hs
      go_enter Try.func49, Try.ntmps49
      go_wp2_with (go_at_call 40; refine (checkSensor_kind s _ HQ.out).mono ?_; rintro e w1 ⟨rfl, hb⟩; obtain ⟨hc, hf⟩ := bcell hb)
      go_ret2
      refine ⟨rfl, ?_⟩
      repeat' (first | with_reducible exact Below.refl _ _ | with_reducible refine bstep ?_ (by with_reducible assumption) | with_reducible refine balloc ?_ | with_reducible refine bdrew ?_ | with_reducible refine bdrewN ?_ _ | with_reducible refine bset ?_ (by go_size))
    · have HQ := Lib.hid hq
      have HQ2 := Lib.hid hq2
      clear hq hq2 hs
      go_enter Try.func49, Try.ntmps49
      go_wp2_with (go_at_call 40; refine (checkSensor_range s _ HQ.out HQ2.out).mono ?_; rintro e w1 ⟨rfl, hb⟩; obtain ⟨hc, hf⟩ := bcell hb)
      go_ret2
      refine ⟨rfl, ?_⟩
      repeat' (first | with_reducible exact Below.refl _ _ | with_reducible refine bstep ?_ (by with_reducible assumption) | with_reducible refine balloc ?_ | with_reducible refine bdrew ?_ | with_reducible refine bdrewN ?_ _ | with_reducible refine bset ?_ (by go_size))
end Go.Proofs.Ytlbgcjpkegpmlaa
/- The contract of awake: the chapter's examples hold. -/
namespace Go.Proofs.Ytlbgcjpkegpmlaa
open Go.RowKit

theorem shown_any (w : World) : Calls Try.prog 63 #[] w fun e w' => e = .returned (kickV 1000 100) ∧ Below w.heap.size w w' := by
  go_enter Try.func63, Try.ntmps63
  go_wp2
  go_returns
  refine ⟨rfl, ?_⟩
  repeat' (first | with_reducible exact Below.refl _ _ | with_reducible refine bstep ?_ (by with_reducible assumption) | with_reducible refine balloc ?_ | with_reducible refine bdrew ?_ | with_reducible refine bdrewN ?_ _ | with_reducible refine bset ?_ (by go_size))
theorem pit_any (w : World) : Calls Try.prog 64 #[] w fun e w' => e = .returned (Sen.v ⟨1, 10, 5, 2, 1000, 1, 20000, 2⟩) ∧ Below w.heap.size w w' := by
  go_enter Try.func64, Try.ntmps64
  go_wp2
  go_returns
  refine ⟨rfl, ?_⟩
  repeat' (first | with_reducible exact Below.refl _ _ | with_reducible refine bstep ?_ (by with_reducible assumption) | with_reducible refine balloc ?_ | with_reducible refine bdrew ?_ | with_reducible refine bdrewN ?_ _ | with_reducible refine bset ?_ (by go_size))
theorem flow_any' (w : World) : Calls Try.prog 65 #[] w fun e w' => e = .returned (Sen.v ⟨2, 1, 0, 0, 1, 0, 3000, 1⟩) ∧ Below w.heap.size w w' := by
  go_enter Try.func65, Try.ntmps65
  go_wp2
  go_returns
  refine ⟨rfl, ?_⟩
  repeat' (first | with_reducible exact Below.refl _ _ | with_reducible refine bstep ?_ (by with_reducible assumption) | with_reducible refine balloc ?_ | with_reducible refine bdrew ?_ | with_reducible refine bdrewN ?_ _ | with_reducible refine bset ?_ (by go_size))

theorem late_ex : lateRV ⟨1, 10, 5, 2, 1000, 1, 20000, 2⟩ 1000 100 = .tuple #[.int .i64 58, .bool true] := by
  have h : lateF ⟨1, 10, 5, 2, 1000, 1, 20000, 2⟩ 1000 100 = some (58, 3, 2) := by decide +kernel
  have hs : SenOK ⟨1, 10, 5, 2, 1000, 1, 20000, 2⟩ := by decide
  have hk : KickOK 1000 100 := by decide
  simp [lateRV, lateR, h, hs, hk]
theorem false_ex : falseP ⟨1, 1, 0, 2, 1000, 0, 1000, 2⟩ 3 = (32, 125) := by decide +kernel
theorem gain_ex : gainF 1000 100 3 = 3300 := by decide +kernel

theorem awake_any (w : World) : Calls Try.prog 19 #[] w fun e w' => e = .returned (.bool true) ∧ Below w.heap.size w w' := by
  go_enter Try.func19, Try.ntmps19
  go_wp2_with fail
  refine (pit_any _).mono ?_
  rintro e w1 ⟨rfl, hb1⟩
  go_wp2_with fail
  refine (shown_any _).mono ?_
  rintro e w2 ⟨rfl, hb2⟩
  go_wp2_with fail
  refine (Late_any ⟨1, 10, 5, 2, 1000, 1, 20000, 2⟩ 1000 100 _).mono ?_
  rw [late_ex]
  rintro e w3 ⟨rfl, hb3⟩
  go_wp2_with fail
  refine (False_ok 1 1 0 2 1000 0 1000 3 2 _ (by decide) (by decide) (by omega) (by omega)).mono ?_
  rw [show (3 : Int).toNat = 3 from rfl, show ((2 : Nat) : Int) = 2 from rfl, false_ex]
  rintro e w4 ⟨rfl, hb4⟩
  go_wp2_with fail
  refine (shown_any _).mono ?_
  rintro e w5 ⟨rfl, hb5⟩
  go_wp2_with fail
  refine (Gain_any 1000 100 3 _).mono ?_
  rw [gain_ex]
  rintro e w6 ⟨rfl, hb6⟩
  go_wp2_with fail
  go_ret
  refine ⟨rfl, ?_⟩
  repeat' (first | with_reducible exact Below.refl _ _ | with_reducible refine bstep ?_ (by with_reducible assumption) | with_reducible refine balloc ?_ | with_reducible refine bdrew ?_ | with_reducible refine bdrewN ?_ _ | with_reducible refine bset ?_ (by go_size))
end Go.Proofs.Ytlbgcjpkegpmlaa
/- The chapter's examples, for the table. -/
namespace Go.Proofs.Ytlbgcjpkegpmlaa
open Go.RowKit
theorem awake_ok : tab.ok 19 := by
  refine Tab.of_ct rfl rfl ⟨_, Try.func19, by decide, rfl⟩ ?_ ctF_det
  intro Base w vs cs hB hr _
  match vs, hr with
  | [], hr =>
    refine (awake_any w).mono ?_
    rintro e w' ⟨rfl, hb⟩
    have hv : vecB (kindsOf ctAwake.res) [C.b true] = [] := rfl
    refine ⟨_, [.b true], [], rfl, ⟨[.bool true], rfl, ?_, by rw [hv]; exact List.nodup_nil, fun b hb => (by rw [hv] at hb; cases hb)⟩, rfl, rfl, Keeps.of_below hb fun i hi => hi.1⟩
    exact ⟨[.b true], [], rfl, ⟨.b true, rfl, fun n => (by cases n <;> trivial), true, rfl, rfl⟩, rfl⟩
end Go.Proofs.Ytlbgcjpkegpmlaa
/- The call of KickKnown. -/
namespace Go.Proofs.Ytlbgcjpkegpmlaa
open Go.RowKit
theorem walk_KickKnown (W : World) : Calls Try.prog 16 #[] W fun e w' => e = .returned (.bool true) ∧ Below W.heap.size W w' :=
  law_walk (known_ok (up4_ok (up3_ok (up_ok awake_ok)))) rfl (show Reps Try.prog W _ none [] [] [] from rfl)
end Go.Proofs.Ytlbgcjpkegpmlaa
namespace Go.Proofs.Ytlbgcjpkegpmlaa.lawKickKnown
open Go.ChangeShapes Go.WideShapes Go.ChangeAt Go.RowKit
set_option linter.unusedVariables false

set_option maxRecDepth 100000 in
theorem lifted (os : Os) (started : os.Started) (H : Type) (enc : TypeId × Value → H) :
    ReturnsInHanded {} Try.checked os 16 .any (Rows.kickKnownSpec.pre6 enc Try.prog Try.f16 Rows.kickKnownRow.domain false) (Rows.kickKnownSpec.post enc Try.prog Try.f16 false true false false) := by
  refine returnsInHanded_of_change (C := Try.checked) own started (by kernel_rfl) Try.func16
    (ChangeSpec.witness6 (enc := enc) (C := Try.checked) false ⟨#[], #[], []⟩ 8 (by kernel_rfl) (by kernel_rfl) (by kernel_rfl) (by kernel_rfl)) ?_
  intro W base args ds gs before hval0 hW hcnd _
  have hval : ∀ (j : Nat) t v, Try.f16.params[j]? = some t → args[j]? = some v → Value.okWide Try.prog W .any base t v := hval0
  have hW' := hW
  obtain ⟨p, q, hA0, hV, rfl, hfz, hnd⟩ := hW
  have hA : DataW.TrodAll enc Try.prog W 0 (fun _ => true) true Try.f16.params.toList args.toList ds p := hA0
  rw [Try.params16] at hA hval
  obtain ⟨hnil, rfl, rfl⟩ := trodAll_nil hA
  obtain rfl : args = #[] := by cases args; simp_all
  obtain ⟨rfl, rfl⟩ := trodVars_none hV
  clear hA0 hval0
  refine (walk_KickKnown  W ).mono fun e W' ⟨he, bel⟩ => ?_
  subst he
  exact ⟨_, rfl, _, _, _, [], _, [], hW', trodAll_mk1 (shut_bool Try.underlying4 _), trodAll_mk0, rfl, bel.frame _, fun h => by cases h⟩

theorem over : Rows.kickKnownRow.holds Try.pinned (OpenSpec.ofChange Rows.kickKnownSpec) :=
  OpenClaim.holds_of_wide 16 Try.f16 rfl rfl rfl rfl rfl rfl rfl ⟨rfl, rfl, rfl, rfl, rfl⟩ rfl rfl rfl rfl rfl (by kernel_rfl) Try.func16 (by kernel_rfl)
    (of_decide_eq_true (by kernel_rfl)) (by unfold Func.isWrapper; first | (rw [if_pos (by decide +kernel)]; kernel_rfl) | (rw [if_neg (by decide +kernel)]; exact ⟨rfl, rfl⟩))
    (fun os started H enc _ => lifted os started H enc)

theorem proved : Rows.KickKnownSaid := over
#print axioms proved
end Go.Proofs.Ytlbgcjpkegpmlaa.lawKickKnown
