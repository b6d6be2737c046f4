/- Texts laid into one: XB1 XB2 XB3 XB4 XT3 XB5 XS3 XT5 XT4 XM1 XB6 XB7 XB8 XB9. -/
import Derived.Test.YtmdmgpikbebejaaWindow7
import Derived.TacticsInMore
import Derived.LoopIn
import Derived.OwnWalkIn
import Derived.WalkKit
/- Kill: holes, wells, programs, kicks. -/
namespace Go.Proofs.Ytmdmgpikbebejaa
open Go.RowKit
set_option linter.unusedSimpArgs false
set_option linter.unusedVariables false

theorem orE_pos {a b : Int} (h : a ≠ 0) : orE a b = a := if_neg h
theorem orE_zero {a b : Int} (h : a = 0) : orE a b = b := if_pos h
theorem progV_cases (a b c d : Int) : (1 ≤ a ∧ a ≤ 3 ∧ 0 ≤ b ∧ b ≤ 40000 ∧ 0 ≤ c ∧ c ≤ 17179869184 ∧ 0 ≤ d ∧ d ≤ 17179869184 ∧ progV ⟨a, b, c, d⟩ = 0) ∨
    (1 ≤ a ∧ a ≤ 3 ∧ (b < 0 ∨ 40000 < b ∨ c < 0 ∨ 17179869184 < c ∨ d < 0 ∨ 17179869184 < d) ∧ progV ⟨a, b, c, d⟩ = 2) ∨ ((a < 1 ∨ 3 < a) ∧ progV ⟨a, b, c, d⟩ = 4) := by
  unfold progV
  simp only [inV_iff]
  split
  · split <;> omega
  · omega
theorem kickV_cases (a b : Int) : (1 ≤ a ∧ a ≤ 16777216 ∧ 1 ≤ b ∧ b ≤ 17179869184 ∧ kickV ⟨a, b⟩ = 0) ∨ ((a < 1 ∨ 16777216 < a ∨ b < 1 ∨ 17179869184 < b) ∧ kickV ⟨a, b⟩ = 2) := by
  unfold kickV
  simp only [inV_iff]
  split <;> omega
theorem fairV_iff {s : Sg} : fairV s = true ↔ 1 ≤ s.l ∧ (0 ≤ s.r ∧ s.r ≤ s.l) ∧ (1 ≤ s.a ∧ s.a ≤ 5000) ∧ 1 ≤ s.g ∧ s.g ≤ 200 := by
  unfold fairV
  simp only [Bool.and_eq_true, inV_iff, decide_eq_true_eq, and_assoc]
theorem fair_no {s : Sg} (h : ¬ (1 ≤ s.l ∧ (0 ≤ s.r ∧ s.r ≤ s.l) ∧ (1 ≤ s.a ∧ s.a ≤ 5000) ∧ 1 ≤ s.g ∧ s.g ≤ 200)) : false = fairV s := by
  symm
  rw [Bool.eq_false_iff]
  exact fun hx => h (fairV_iff.1 hx)
theorem fair_ok : tab2.ok 57 := by
  refine Tab.of_ct rfl rfl ⟨_, Try.func57, by decide, rfl⟩ ?_ ctF_det
  refine ct_ok (cx := cfair) (Tab.cx_ok (all_cons (up_ok fwithin_ok) all_nil)) Try.func57 (bds := []) (T := tfair) (by kernel_rfl) ?_
  unfold tfair
  simp only [VC, allC, List.map_cons, List.map_nil, List.length_cons, List.length_nil, List.getElem?_cons_zero, List.getElem?_cons_succ, List.cons.injEq, C.i.injEq, C.b.injEq, and_true, true_and, forall_const, kindsOf_nil, kindsOf_lf, kindsOf_agg, kindsOf_box, boxKinds_nil, boxKinds_lf, boxKinds_agg, boxKinds_box, List.append_nil, List.cons_append, List.nil_append, den_cmp_le, den_cmp_lt, den_cmp_eq, den_cmp_ne, den_cmp_le', den_cmp_lt', den_cmp_eq', den_cmp_ne', den_and, den_and', den_or, den_or', den_not, den_not', den_blit, den_of, ev_var, at_0, at_1, at_2, at_3, at_4, at_5, at_6, at_7, at_skip, c_int, c_bool, c_arr, c_cnt, c_vec, ev_nil, ev_join, ev_sub3, loc_s, int_i, bool_b, rows_s, cs_nil, cs_cons, E.den_lit, E.den_var, E.den_add, E.den_sub, E.den_mul, E.den_quo, E.den_rem, E.den_max, E.den_min, E.den_len, E.den_wr, E.den_cell, Nat.reduceAdd, ctFair, ctF, segSh, sg_, n_]
  intro a _ _ b _ _ c _ _ d _ _
  refine ⟨bds_nil _, fun h1 => ⟨fun h2 => ⟨fun h3 => ?_, fun h3 => fair_no fun hx => ?_⟩, fun h2 => fair_no fun hx => ?_⟩, fun h1 => fair_no fun hx => ?_⟩
  · show (decide (1 ≤ d) && decide (d ≤ 200)) = fairV ⟨a, b, c, d⟩
    unfold fairV inV
    simp only [decide_eq_true h1, decide_eq_true h2.1, decide_eq_true h2.2, decide_eq_true h3.1, decide_eq_true h3.2, Bool.true_and]
  · have h4 : 1 ≤ c ∧ c ≤ 5000 := hx.2.2.1
    omega
  · have h4 : 0 ≤ b ∧ b ≤ a := hx.2.1
    omega
  · have h4 : 1 ≤ a := hx.1
    omega
theorem cprog_ok : tab2.ok 17 := by
  refine Tab.of_ct rfl rfl ⟨_, Try.func17, by decide, rfl⟩ ?_ ctF_det
  refine ct_ok (cx := ccprog) (Tab.cx_ok (all_cons (up_ok kwithin_ok) all_nil) fxcprog) Try.func17 (bds := []) (T := tcprog) (by kernel_rfl) ?_
  unfold tcprog
  simp only [VC, allC, List.map_cons, List.map_nil, List.length_cons, List.length_nil, List.getElem?_cons_zero, List.getElem?_cons_succ, List.cons.injEq, C.i.injEq, C.b.injEq, and_true, true_and, forall_const, kindsOf_nil, kindsOf_lf, kindsOf_agg, kindsOf_box, boxKinds_nil, boxKinds_lf, boxKinds_agg, boxKinds_box, List.append_nil, List.cons_append, List.nil_append, den_cmp_le, den_cmp_lt, den_cmp_eq, den_cmp_ne, den_cmp_le', den_cmp_lt', den_cmp_eq', den_cmp_ne', den_and, den_and', den_or, den_or', den_not, den_not', den_blit, den_of, ev_var, at_0, at_1, at_2, at_3, at_4, at_5, at_6, at_7, at_skip, c_int, c_bool, c_arr, c_cnt, c_vec, ev_nil, ev_join, ev_sub3, loc_s, int_i, bool_b, rows_s, cs_nil, cs_cons, E.den_lit, E.den_var, E.den_add, E.den_sub, E.den_mul, E.den_quo, E.den_rem, E.den_max, E.den_min, E.den_len, E.den_wr, E.den_cell, Nat.reduceAdd, ctProg, ctF, progSh, progOf, n_]
  intro a _ _ b _ _ c _ _ d _ _
  refine ⟨bds_nil _, ?_⟩
  have := progV_cases a b c d
  generalize progV ⟨a, b, c, d⟩ = v at *
  omega
theorem ckick_ok : tab2.ok 19 := by
  refine Tab.of_ct rfl rfl ⟨_, Try.func19, by decide, rfl⟩ ?_ ctF_det
  refine ct_ok (cx := cckick) (Tab.cx_ok (all_cons (up_ok kwithin_ok) all_nil)) Try.func19 (bds := []) (T := tckick) (by kernel_rfl) ?_
  unfold tckick
  simp only [VC, allC, List.map_cons, List.map_nil, List.length_cons, List.length_nil, List.getElem?_cons_zero, List.getElem?_cons_succ, List.cons.injEq, C.i.injEq, C.b.injEq, and_true, true_and, forall_const, kindsOf_nil, kindsOf_lf, kindsOf_agg, kindsOf_box, boxKinds_nil, boxKinds_lf, boxKinds_agg, boxKinds_box, List.append_nil, List.cons_append, List.nil_append, den_cmp_le, den_cmp_lt, den_cmp_eq, den_cmp_ne, den_cmp_le', den_cmp_lt', den_cmp_eq', den_cmp_ne', den_and, den_and', den_or, den_or', den_not, den_not', den_blit, den_of, ev_var, at_0, at_1, at_2, at_3, at_4, at_5, at_6, at_7, at_skip, c_int, c_bool, c_arr, c_cnt, c_vec, ev_nil, ev_join, ev_sub3, loc_s, int_i, bool_b, rows_s, cs_nil, cs_cons, E.den_lit, E.den_var, E.den_add, E.den_sub, E.den_mul, E.den_quo, E.den_rem, E.den_max, E.den_min, E.den_len, E.den_wr, E.den_cell, Nat.reduceAdd, ctKick, ctF, bubSh, bubOf, n_]
  intro a _ _ b _ _
  refine ⟨bds_nil _, ?_⟩
  have := kickV_cases a b
  generalize kickV ⟨a, b⟩ = v at *
  omega
/-! Holes -/
theorem segs_len (rows : List (List C)) : (segsOf rows).length = rows.length := by simp [segsOf]
def sg0 : Sg := ⟨0, 0, 0, 0⟩
theorem sg_at (v : Value) (rows : List (List C)) (i : Nat) : (⟨((C.s v rows).at i 0).int, ((C.s v rows).at i 1).int, ((C.s v rows).at i 2).int, ((C.s v rows).at i 3).int⟩ : Sg) = (segsOf rows).getD i sg0 := by
  simp only [cell_at, segsOf, List.getD_eq_getElem?_getD, List.getElem?_map]
  cases rows[i]? <;> rfl
theorem sl_at (v : Value) (rows : List (List C)) (i : Nat) : ((C.s v rows).at i 0).int = ((segsOf rows).getD i sg0).l := by rw [← sg_at v rows i]
theorem sr_at (v : Value) (rows : List (List C)) (i : Nat) : ((C.s v rows).at i 1).int = ((segsOf rows).getD i sg0).r := by rw [← sg_at v rows i]
theorem sa_at (v : Value) (rows : List (List C)) (i : Nat) : ((C.s v rows).at i 2).int = ((segsOf rows).getD i sg0).a := by rw [← sg_at v rows i]
theorem sgg_at (v : Value) (rows : List (List C)) (i : Nat) : ((C.s v rows).at i 3).int = ((segsOf rows).getD i sg0).g := by rw [← sg_at v rows i]
theorem longV_app : ∀ (a b : List Sg), longV (a ++ b) = longV a + longV b
  | [], b => by simp [longV]
  | s :: a, b => by rw [List.cons_append, longV, longV, longV_app a b]; omega
theorem longV_nn : ∀ {l : List Sg}, (∀ s ∈ l, fairV s = true) → 0 ≤ longV l
  | [], _ => by simp [longV]
  | s :: l, h => by
    have h1 := (fairV_iff.1 (h s (by simp))).1
    have := longV_nn (l := l) fun x hx => h x (by simp [hx])
    rw [longV]; omega
theorem longV_take {l : List Sg} {i : Nat} (h : i < l.length) : longV (l.take (i + 1)) = longV (l.take i) + (l.getD i sg0).l := by
  rw [take_snoc h sg0, longV_app]; simp [longV]
theorem longV_le {l : List Sg} (hf : ∀ s ∈ l, fairV s = true) (i : Nat) : longV (l.take i) ≤ longV l := by
  have := longV_app (l.take i) (l.drop i)
  rw [List.take_append_drop] at this
  have h2 := longV_nn (l := l.drop i) fun s hs => hf s (List.mem_of_mem_drop hs)
  omega
theorem holeV_short {l : List Sg} (h : l.length = 0) : holeV l = 6 := by unfold holeV; rw [if_pos h]
theorem holeV_full {l : List Sg} (h : 16 < l.length) : holeV l = 8 := by unfold holeV; rw [if_neg (by omega), if_pos h]
theorem holeV_bad {l : List Sg} (h1 : l.length ≠ 0) (h2 : l.length ≤ 16) {s : Sg} (hs : s ∈ l) (h3 : fairV s = false) : holeV l = 2 := by
  unfold holeV
  rw [if_neg h1, if_neg (by omega), if_neg fun h => ?_]
  have := List.all_eq_true.1 h s hs
  rw [h3] at this; cases this
theorem holeV_good {l : List Sg} (h1 : l.length ≠ 0) (h2 : l.length ≤ 16) (hf : ∀ s ∈ l, fairV s = true) : holeV l = if 1048576 < longV l then 5 else 0 := by
  unfold holeV
  rw [if_neg h1, if_neg (by omega), if_pos (List.all_eq_true.2 hf)]
theorem all_take {l : List Sg} {i : Nat} (hi : i < l.length) (h : ∀ s ∈ l.take i, fairV s = true) (h2 : fairV (l.getD i sg0) = true) : ∀ s ∈ l.take (i + 1), fairV s = true := fun s hs => by
  rw [take_snoc hi sg0] at hs
  rcases List.mem_append.1 hs with hs | hs
  · exact h s hs
  · rw [List.mem_singleton] at hs; subst hs; exact h2
theorem hole_ok : tab2.ok 40 := by
  refine Tab.of_ct rfl rfl ⟨_, Try.func40, by decide, rfl⟩ ?_ ctF_det
  refine ct_ok (cx := chole) (Tab.cx_ok (all_cons fair_ok all_nil)) Try.func40 (bds := []) (T := thole) (by kernel_rfl) ?_
  have h1 : chole.ct 57 = some ctFair := rfl
  unfold thole
  simp only [VC, allC, List.map_cons, List.map_nil, List.length_cons, List.length_nil, List.getElem?_cons_zero, List.getElem?_cons_succ, List.cons.injEq, C.i.injEq, C.b.injEq, and_true, true_and, forall_const, kindsOf_nil, kindsOf_lf, kindsOf_agg, kindsOf_box, boxKinds_nil, boxKinds_lf, boxKinds_agg, boxKinds_box, List.append_nil, List.cons_append, List.nil_append, den_cmp_le, den_cmp_lt, den_cmp_eq, den_cmp_ne, den_cmp_le', den_cmp_lt', den_cmp_eq', den_cmp_ne', den_and, den_and', den_or, den_or', den_not, den_not', den_blit, den_of, ev_var, at_0, at_1, at_2, at_3, at_4, at_5, at_6, at_7, at_skip, c_int, c_bool, c_arr, c_cnt, c_vec, ev_nil, ev_join, ev_sub3, loc_s, int_i, bool_b, rows_s, cs_nil, cs_cons, E.den_lit, E.den_var, E.den_add, E.den_sub, E.den_mul, E.den_quo, E.den_rem, E.den_max, E.den_min, E.den_len, E.den_wr, E.den_cell, ev_cell, Nat.reduceAdd, h1, ctFair, ctHole, ctF, holeSh, segSh, sg_, s_, n_, sl_at, sr_at, sa_at, sgg_at]
  intro u r _ _ _
  rw [← segs_len r]
  generalize hL : segsOf r = l at *
  refine ⟨bds_nil _, fun h => (holeV_short (by omega)).symm, fun h0 => ⟨fun h => (holeV_full (by omega)).symm, fun h16 => ?_⟩⟩
  refine ⟨fun xs => match xs with | [_, .i room, .b lg, .i i] => 0 ≤ i ∧ i ≤ l.length ∧ (∀ s ∈ l.take i.toNat, fairV s = true) ∧ 0 ≤ room ∧ room ≤ 1048576 ∧ (lg = true → 1048576 < longV (l.take i.toNat)) ∧ (lg = false → room = 1048576 - longV (l.take i.toNat)) | _ => False, fun xs => match xs with | [_, _, _, .i i] => ((l.length : Int) - i).toNat | _ => 0, ⟨by omega, by omega, fun s hs => by simp at hs, by omega, by omega, fun h => (by cases h), fun _ => by simp [longV]⟩, ?_⟩
  rintro x _ _ room _ _ lg i _ _ ⟨i0, i1, hf, r0, r1, hg, hn⟩
  refine ⟨fun hlt => ⟨i0, hlt, ?_⟩, fun hge => ?_⟩
  · rintro t ht
    have ht : t = fairV (l.getD i.toNat sg0) := ht
    have hm := getD_mem (l := l) (i := i.toNat) (by omega) sg0
    have hlt2 := longV_take (l := l) (i := i.toNat) (by omega)
    have hmu : ((l.length : Int) - (i + 1)).toNat < ((l.length : Int) - i).toNat := by omega
    have e1 : (i + 1).toNat = i.toNat + 1 := by omega
    refine ⟨fun h => (holeV_bad (by omega) (by omega) hm (by rw [← ht, h])).symm, fun h => ?_⟩
    rw [h] at ht
    have hf' := all_take (by omega) hf ht.symm
    have hl1 := (fairV_iff.1 ht.symm).1
    refine ⟨fun hl => ⟨⟨by omega, by omega, by rw [e1]; exact hf', r0, r1, fun _ => by rw [e1, hlt2]; have := hg hl; omega, fun h => (by cases h)⟩, hmu⟩, fun hl => ⟨fun hle => ⟨⟨by omega, by omega⟩, ⟨by omega, by omega⟩, ⟨by omega, by omega, by rw [e1]; exact hf', by omega, by omega, ?_, ?_⟩, hmu⟩, fun hlt3 => ⟨⟨by omega, by omega, by rw [e1]; exact hf', r0, r1, ?_, ?_⟩, hmu⟩⟩⟩
    · intro hd
      have hd : decide (room < ((C.s u r).at i.toNat 0).int) = true := hd
      rw [sl_at, hL, decide_eq_true_eq] at hd
      omega
    · intro _
      have := hn hl
      rw [e1, hlt2]; omega
    · intro _
      have := hn hl
      rw [e1, hlt2]; omega
    · intro hd
      have hd : decide (room < ((C.s u r).at i.toNat 0).int) = false := hd
      rw [sl_at, hL, decide_eq_false_iff_not] at hd
      omega
  · rw [List.take_of_length_le (by omega)] at hf hg hn
    rw [holeV_good (by omega) (by omega) hf]
    exact ⟨fun hl => by rw [if_pos (hg hl)], fun hl => by rw [if_neg (by have := hn hl; omega)]⟩
end Go.Proofs.Ytmdmgpikbebejaa
/- Kill: holes as the document has them, pressures at the bottom. -/
namespace Go.Proofs.Ytmdmgpikbebejaa
open Go.RowKit
set_option linter.unusedSimpArgs false
set_option linter.unusedVariables false

theorem mul_box {a b A B : Int} (a0 : 0 ≤ a) (a1 : a ≤ A) (b0 : 0 ≤ b) (b1 : b ≤ B) : 0 ≤ a * b ∧ a * b ≤ A * B :=
  ⟨Int.mul_nonneg a0 b0, Int.mul_le_mul a1 b1 b0 (by omega)⟩
theorem size_ok : tab2.ok 62 := by
  refine Tab.of_ct rfl rfl ⟨_, Try.func62, by decide, rfl⟩ ?_ ctF_det
  refine ct_ok (cx := csize) (Tab.cx_ok all_nil) Try.func62 (bds := []) (T := tsize) (by kernel_rfl) ?_
  unfold tsize
  simp only [VC, allC, List.map_cons, List.map_nil, List.length_cons, List.length_nil, List.getElem?_cons_zero, List.getElem?_cons_succ, List.cons.injEq, C.i.injEq, C.b.injEq, and_true, true_and, forall_const, kindsOf_nil, kindsOf_lf, kindsOf_agg, kindsOf_box, boxKinds_nil, boxKinds_lf, boxKinds_agg, boxKinds_box, List.append_nil, List.cons_append, List.nil_append, den_cmp_le, den_cmp_lt, den_cmp_eq, den_cmp_ne, den_cmp_le', den_cmp_lt', den_cmp_eq', den_cmp_ne', den_and, den_and', den_or, den_or', den_not, den_not', den_blit, den_of, ev_var, at_0, at_1, at_2, at_3, at_4, at_5, at_6, at_7, at_skip, c_int, c_bool, c_arr, c_cnt, c_vec, ev_nil, ev_join, ev_sub3, loc_s, int_i, bool_b, rows_s, cs_nil, cs_cons, E.den_lit, E.den_var, E.den_add, E.den_sub, E.den_mul, E.den_quo, E.den_rem, E.den_max, E.den_min, E.den_len, E.den_wr, E.den_cell, Nat.reduceAdd, ctSize, ctF, segSh, sg_, n_]
  intro a _ _ b _ _ c _ _ d _ _ ⟨hf, ha⟩
  obtain ⟨h1, -, h3, -⟩ := fairV_iff.1 hf
  have h1 : 1 ≤ a := h1
  have h3 : 1 ≤ c ∧ c ≤ 5000 := h3
  have := mul_box (a := a) (b := c) (A := 1048576) (B := 5000) (by omega) (by omega) (by omega) (by omega)
  exact ⟨bds_nil _, ⟨by omega, by omega⟩, by omega, by omega⟩
/-- The document counts no more than is needed of each. -/
theorem min_next {s L x : Int} (h0 : 0 ≤ s) (h1 : s ≤ L) (h2 : s = L ∨ 1048577 ≤ s) (hx : 1 ≤ x) : 0 ≤ s + min x 1048577 ∧ s + min x 1048577 ≤ L + x ∧ (s + min x 1048577 = L + x ∨ 1048577 ≤ s + min x 1048577) := by omega
theorem rhole_ok : tab2.ok 42 := by
  refine Tab.of_ct rfl rfl ⟨_, Try.func42, by decide, rfl⟩ ?_ ctF_det
  refine ct_ok (cx := crhole) (Tab.cx_ok all_nil) Try.func42 (bds := []) (T := trhole) (by kernel_rfl) ?_
  unfold trhole
  simp only [VC, allC, List.map_cons, List.map_nil, List.length_cons, List.length_nil, List.getElem?_cons_zero, List.getElem?_cons_succ, List.cons.injEq, C.i.injEq, C.b.injEq, and_true, true_and, forall_const, kindsOf_nil, kindsOf_lf, kindsOf_agg, kindsOf_box, boxKinds_nil, boxKinds_lf, boxKinds_agg, boxKinds_box, List.append_nil, List.cons_append, List.nil_append, den_cmp_le, den_cmp_lt, den_cmp_eq, den_cmp_ne, den_cmp_le', den_cmp_lt', den_cmp_eq', den_cmp_ne', den_and, den_and', den_or, den_or', den_not, den_not', den_blit, den_of, ev_var, at_0, at_1, at_2, at_3, at_4, at_5, at_6, at_7, at_skip, c_int, c_bool, c_arr, c_cnt, c_vec, ev_nil, ev_join, ev_sub3, loc_s, int_i, bool_b, rows_s, cs_nil, cs_cons, E.den_lit, E.den_var, E.den_add, E.den_sub, E.den_mul, E.den_quo, E.den_rem, E.den_max, E.den_min, E.den_len, E.den_wr, E.den_cell, ev_cell, Nat.reduceAdd, ctHole, ctF, holeSh, s_, n_, sl_at, sr_at, sa_at, sgg_at]
  intro u r _ _ _
  rw [← segs_len r]
  generalize hL : segsOf r = l at *
  refine ⟨bds_nil _, fun h => (holeV_short (by omega)).symm, fun h0 => ⟨fun h => (holeV_full (by omega)).symm, fun h16 => ?_⟩⟩
  refine ⟨fun xs => match xs with | [_, .i sum, .i i] => 0 ≤ i ∧ i ≤ l.length ∧ (∀ s ∈ l.take i.toNat, fairV s = true) ∧ (0 ≤ sum ∧ sum ≤ 1048577 * i) ∧ sum ≤ longV (l.take i.toNat) ∧ (sum = longV (l.take i.toNat) ∨ 1048577 ≤ sum) | _ => False, fun xs => match xs with | [_, _, .i i] => ((l.length : Int) - i).toNat | _ => 0, ⟨by omega, by omega, fun s hs => by simp at hs, by omega, by simp [longV], .inl (by simp [longV])⟩, ?_⟩
  rintro x _ _ sum _ _ i _ _ ⟨i0, i1, hf, ⟨s0, s1⟩, s2, s3⟩
  refine ⟨fun hlt => ?_, fun hge => ?_⟩
  · have hm := getD_mem (l := l) (i := i.toNat) (by omega) sg0
    have hlt2 := longV_take (l := l) (i := i.toNat) (by omega)
    have hmu : ((l.length : Int) - (i + 1)).toNat < ((l.length : Int) - i).toNat := by omega
    have e1 : (i + 1).toNat = i.toNat + 1 := by omega
    have bad : ¬ (1 ≤ (l.getD i.toNat sg0).l ∧ (0 ≤ (l.getD i.toNat sg0).r ∧ (l.getD i.toNat sg0).r ≤ (l.getD i.toNat sg0).l) ∧ (1 ≤ (l.getD i.toNat sg0).a ∧ (l.getD i.toNat sg0).a ≤ 5000) ∧ 1 ≤ (l.getD i.toNat sg0).g ∧ (l.getD i.toNat sg0).g ≤ 200) → 2 = holeV l := fun h => (holeV_bad (by omega) (by omega) hm (fair_no h).symm).symm
    have hall : (1 ≤ (l.getD i.toNat sg0).l ∧ (0 ≤ (l.getD i.toNat sg0).r ∧ (l.getD i.toNat sg0).r ≤ (l.getD i.toNat sg0).l) ∧ (1 ≤ (l.getD i.toNat sg0).a ∧ (l.getD i.toNat sg0).a ≤ 5000) ∧ 1 ≤ (l.getD i.toNat sg0).g ∧ (l.getD i.toNat sg0).g ≤ 200) → ∀ s ∈ l.take (i.toNat + 1), fairV s = true := fun h => all_take (by omega) hf (fairV_iff.2 h)
    generalize l.getD i.toNat sg0 = s at *
    refine ⟨i0, hlt, fun h => bad (by omega), fun g1 => ⟨fun h => bad (by omega), fun g2 => ⟨fun h => bad (by omega), fun g3 => ⟨fun h => bad (by omega), fun g4 => ⟨fun h => bad (by omega), fun g5 => ⟨fun h => bad (by omega), fun g6 => ⟨fun h => bad (by omega), fun g7 => ?_⟩⟩⟩⟩⟩⟩⟩
    obtain ⟨n0, n1, n2⟩ := min_next s0 s2 s3 g1
    exact ⟨⟨by omega, by omega⟩, ⟨by omega, by omega⟩, ⟨by omega, by omega, by rw [e1]; exact hall ⟨by omega, by omega, by omega, by omega⟩, ⟨by omega, by omega⟩, by rw [e1, hlt2]; exact n1, by rw [e1, hlt2]; exact n2⟩, hmu⟩
  · rw [List.take_of_length_le (by omega)] at hf s2 s3
    rw [holeV_good (by omega) (by omega) hf]
    exact ⟨fun hl => by rw [if_pos (by omega)], fun hl => by rw [if_neg (by omega)]⟩
theorem okE_box {a b c d v p e : Int} (h : OkE ⟨a, b, c, d⟩ ⟨v, p⟩ e) : 1 ≤ p ∧ p ≤ 17179869184 ∧ 0 ≤ c ∧ c ≤ 17179869184 ∧ 0 ≤ d ∧ d ≤ 17179869184 ∧ -17179869184 ≤ e * d ∧ e * d ≤ 17179869184 := by
  obtain ⟨h1, h2, h3, h4⟩ := h
  have p1 := progV_cases a b c d
  have k1 := kickV_cases v p
  rcases (show e = -1 ∨ e = 0 ∨ e = 1 by omega) with rfl | rfl | rfl
  · rw [Int.neg_one_mul]; omega
  · rw [Int.zero_mul]; omega
  · rw [Int.one_mul]; omega
theorem botj_ok : tab2.ok 45 := by
  refine Tab.of_ct rfl rfl ⟨_, Try.func45, by decide, rfl⟩ ?_ ctF_det
  refine ct_ok (cx := cbotj) (Tab.cx_ok all_nil) Try.func45 (bds := []) (T := tbotj) (by kernel_rfl) ?_
  unfold tbotj
  simp only [VC, allC, List.map_cons, List.map_nil, List.length_cons, List.length_nil, List.getElem?_cons_zero, List.getElem?_cons_succ, List.cons.injEq, C.i.injEq, C.b.injEq, and_true, true_and, forall_const, kindsOf_nil, kindsOf_lf, kindsOf_agg, kindsOf_box, boxKinds_nil, boxKinds_lf, boxKinds_agg, boxKinds_box, List.append_nil, List.cons_append, List.nil_append, den_cmp_le, den_cmp_lt, den_cmp_eq, den_cmp_ne, den_cmp_le', den_cmp_lt', den_cmp_eq', den_cmp_ne', den_and, den_and', den_or, den_or', den_not, den_not', den_blit, den_of, ev_var, at_0, at_1, at_2, at_3, at_4, at_5, at_6, at_7, at_skip, c_int, c_bool, c_arr, c_cnt, c_vec, ev_nil, ev_join, ev_sub3, loc_s, int_i, bool_b, rows_s, cs_nil, cs_cons, E.den_lit, E.den_var, E.den_add, E.den_sub, E.den_mul, E.den_quo, E.den_rem, E.den_max, E.den_min, E.den_len, E.den_wr, E.den_cell, Nat.reduceAdd, ctBotJ, ctF, jobSh, progOf, bubOf, n_]
  intro u1 r1 _ _ _ w _ _ u2 r2 _ _ _ li _ _ pi _ _ st _ _ a _ _ b _ _ c _ _ d _ _ v _ _ p _ _ u3 r3 _ _ _ ro _ _ e _ _ hp
  have := okE_box hp
  unfold botV
  generalize e * d = x at *
  refine ⟨bds_nil _, ⟨by omega, by omega⟩, ⟨by omega, by omega⟩, ⟨by omega, by omega⟩, ⟨by omega, by omega⟩, ?_⟩
  show max 1 (p + c + x) = max 1 (p + c + x)
  rfl
theorem bottom_ok : tab2.ok 21 := by
  refine Tab.of_ct rfl rfl ⟨_, Try.func21, by decide, rfl⟩ ?_ ctF_det
  refine ct_ok (cx := cbottom) (Tab.cx_ok (all_cons cprog_ok (all_cons ckick_ok (all_cons botj_ok all_nil)))) Try.func21 (bds := []) (T := tbottom) (by kernel_rfl) ?_
  have h1 : cbottom.ct 17 = some ctProg := rfl
  have h2 : cbottom.ct 19 = some ctKick := rfl
  have h3 : cbottom.ct 45 = some ctBotJ := rfl
  unfold tbottom
  simp only [VC, allC, List.map_cons, List.map_nil, List.length_cons, List.length_nil, List.getElem?_cons_zero, List.getElem?_cons_succ, List.cons.injEq, C.i.injEq, C.b.injEq, and_true, true_and, forall_const, kindsOf_nil, kindsOf_lf, kindsOf_agg, kindsOf_box, boxKinds_nil, boxKinds_lf, boxKinds_agg, boxKinds_box, List.append_nil, List.cons_append, List.nil_append, den_cmp_le, den_cmp_lt, den_cmp_eq, den_cmp_ne, den_cmp_le', den_cmp_lt', den_cmp_eq', den_cmp_ne', den_and, den_and', den_or, den_or', den_not, den_not', den_blit, den_of, ev_var, at_0, at_1, at_2, at_3, at_4, at_5, at_6, at_7, at_skip, c_int, c_bool, c_arr, c_cnt, c_vec, ev_nil, ev_join, ev_sub3, loc_s, int_i, bool_b, rows_s, cs_nil, cs_cons, E.den_lit, E.den_var, E.den_add, E.den_sub, E.den_mul, E.den_quo, E.den_rem, E.den_max, E.den_min, E.den_len, E.den_wr, E.den_cell, Nat.reduceAdd, h1, h2, h3, ctProg, ctKick, ctBotJ, ctBottom, ctF, jobSh, progSh, bubSh, progOf, bubOf, n_]
  intro a _ _ b _ _ c _ _ d _ _ v _ _ p _ _ e _ _; refine ⟨bds_nil _, ?_⟩; rintro n _ _ hn; refine ⟨fun h => (by unfold bottomV; rw [if_neg (fun hx => h (hn.trans hx.1))]), fun h1 => ?_⟩; rintro m _ _ hm; refine ⟨fun h => (by unfold bottomV; rw [if_neg (fun hx => h (hm.trans hx.2.1))]), fun h2 => ⟨fun h => (by unfold bottomV; rw [if_neg (by omega)]), fun h3 => ⟨fun h => (by unfold bottomV; rw [if_neg (by omega)]), fun h4 => ?_⟩⟩⟩
  have hok : OkE ⟨a, b, c, d⟩ ⟨v, p⟩ e := ⟨hn.symm.trans h1, hm.symm.trans h2, h3, h4⟩
  refine ⟨hok, ?_⟩
  rintro x _ _ hx
  unfold OkE at hok
  unfold bottomV
  rw [if_pos hok]; exact hx
end Go.Proofs.Ytmdmgpikbebejaa
/- Kill: what the places of a hole hand out. -/
namespace Go.Proofs.Ytmdmgpikbebejaa
open Go.RowKit
set_option linter.unusedSimpArgs false
set_option linter.unusedVariables false

/-- Where a hole's segments begin. -/
def atK (l : List Sg) (k : Nat) : Int := volV (l.take k)
def placeEl (l : List Sg) (k : Nat) : List C := [.i (atK l k), .i (l.getD k sg0).l, .i (l.getD k sg0).r, .i (l.getD k sg0).a, .i (l.getD k sg0).g]
def placeEls (l : List Sg) : List (List C) := (List.range l.length).map (placeEl l)
def sgV (s : Sg) : Value := .agg #[.int .i64 s.l, .int .i64 s.r, .int .i64 s.a, .int .i64 s.g]
def n5 (x : List C) (k : Nat) : Int := (x.getD k (.i 0)).int
def placeVal (x : List C) : Array Value := #[.int .i64 (n5 x 0), .agg #[.int .i64 (n5 x 1), .int .i64 (n5 x 2), .int .i64 (n5 x 3), .int .i64 (n5 x 4)]]
def placesIt : It := ⟨[.box 24 [.arr 97]], fun cs => placeEls (segsOf (at_ cs 0).rows), placeVal, fun cs => holeV (segsOf (at_ cs 0).rows) = 0⟩
theorem placeEls_at {l : List Sg} {k : Nat} (h : k < l.length) : (placeEls l)[k]? = some (placeEl l k) := by
  simp [placeEls, h]
theorem atK_succ {l : List Sg} {k : Nat} (h : k < l.length) : atK l (k + 1) = atK l k + (l.getD k sg0).l * (l.getD k sg0).a := by
  have happ : ∀ (a b : List Sg), volV (a ++ b) = volV a + volV b := fun a b => by
    induction a with
    | nil => simp [volV]
    | cons s a ih => rw [List.cons_append, volV, volV, ih]; omega
  unfold atK
  rw [take_snoc h sg0, happ]; simp [volV]
/-- What the box holds. -/
theorem places_rep {w : World} {Base : Nat → Nat → Prop} {vs : List Value} {cs : List C} (h : Reps Try.prog w Base none placesIt.args vs cs) :
    ∃ b v rows cap a, vs = [.pointer (some ⟨b, 0, none⟩)] ∧ cs = [.s v rows] ∧ v = .slice a rows.length cap ∧ w.cell? ⟨b, 0, none⟩ = some v ∧ (rows.length : Int) ≤ 9223372036854775807 ∧
      (rows ≠ [] → ∃ b' o, a = some ⟨b', o, none⟩ ∧ ∀ i, i < rows.length → w.cell? ⟨b', o + i * 4, none⟩ = some (.int .i64 ((segsOf rows).getD i sg0).l) ∧ w.cell? ⟨b', o + i * 4 + 1, none⟩ = some (.int .i64 ((segsOf rows).getD i sg0).r) ∧ w.cell? ⟨b', o + i * 4 + 2, none⟩ = some (.int .i64 ((segsOf rows).getD i sg0).a) ∧ w.cell? ⟨b', o + i * 4 + 3, none⟩ = some (.int .i64 ((segsOf rows).getD i sg0).g)) := by
  cases vs with
  | nil => exact h.elim
  | cons v0 vs =>
  obtain ⟨c1, c2, rfl, h1, h2⟩ := h
  cases vs with
  | cons _ _ => exact h2.elim
  | nil =>
  have h2 : c2 = [] := h2
  subst h2
  obtain ⟨b, us, rfl, hb, -, hr⟩ := h1
  match us, c1, hr with
  | [], [], hr => exact hr.elim
  | [], _ :: _, hr => exact hr.elim
  | _ :: _, [], hr => exact hr.elim
  | _ :: _ :: _, _ :: _, hr => exact hr.2.elim
  | [_], _ :: _ :: _, hr => exact hr.2.elim
  | [u], [c], hr =>
    obtain ⟨⟨hsm, hu, v, rows, rfl, d, S, hS, hA⟩, -⟩ := hr
    have hu : u = v := hu
    subst hu
    have hcell := hb.cell 0 (v := u) rfl
    cases d with
    | zero => exact hA.elim
    | succ d =>
      obtain ⟨ks, hk, a, cap, rfl, hA⟩ := hA
      rw [show kinds Try.prog 97 = some [.int, .int, .int, .int] by kernel_rfl] at hk
      cases hk
      refine ⟨b, _, rows, cap, a, rfl, rfl, rfl, hcell, (hsm 1).1, fun hne => ?_⟩
      obtain ⟨b', o, rfl, -, hr⟩ := hA hne
      refine ⟨b', o, rfl, fun i hi => ?_⟩
      obtain ⟨-, hc⟩ := hr i rows[i] (List.getElem?_eq_getElem hi)
      have hsg : (segsOf rows).getD i sg0 = segOf rows[i] := by
        simp only [segsOf, List.getD_eq_getElem?_getD, List.getElem?_map, List.getElem?_eq_getElem hi, Option.map_some, Option.getD_some]
      have one : ∀ j, j < 4 → w.cell? ⟨b', o + (i * 4 + j), none⟩ = some (.int .i64 ((rows[i]).getD j (.i 0)).int) := fun j hj => by
        obtain ⟨-, x, c, hx, hc1, n, rfl, rfl⟩ := hc j .int (by
          rcases (show j = 0 ∨ j = 1 ∨ j = 2 ∨ j = 3 by omega) with rfl | rfl | rfl | rfl <;> rfl)
        have e : o + (i * [Lk.int, Lk.int, Lk.int, Lk.int].length + j) = o + (i * 4 + j) := rfl
        rw [e] at hx
        rw [hx, List.getD_eq_getElem?_getD, hc1]
        rfl
      rw [hsg]
      exact ⟨one 0 (by decide), one 1 (by decide), one 2 (by decide), one 3 (by decide)⟩
theorem int_call {f : Nat} {args : List Sh0} {pre : List C → Prop} {g : List C → Int} (h : CtOK Try.prog f (ctF args [.lf .int] pre fun cs => [.i (g cs)])) (hno : args.all (fun s => !s.isBox) = true) {w : World} {vs : List Value} {cs : List C}
    (hr : Reps Try.prog w (fun _ _ => False) none args vs cs) (hp : pre cs) : Calls Try.prog f vs.toArray w fun e w' => e = .returned (.int .i64 (g cs)) ∧ Below w.heap.size w w' := by
  refine (h (fun _ _ => False) w vs cs (fun _ _ hb => hb.elim) hr hp).mono ?_
  rintro e w' ⟨v, rs, outs, rfl, ⟨us, rfl, hres, -⟩, hout, hpost, hb⟩
  refine ⟨?_, hb.noBox hno⟩
  have ho := outs_noBox hno hout
  subst ho
  have hrs : rs = [.i (g cs)] := by have : rs ++ [] = [.i (g cs)] := hpost; rwa [List.append_nil] at this
  subst hrs
  match us, hres with
  | [v], hres =>
    obtain ⟨c1, c2, hc, ⟨c, rfl, hr1⟩, hr2⟩ := hres
    cases hr2
    cases hc
    obtain ⟨-, n, rfl, hn⟩ := hr1
    cases hn
    rfl
theorem small_i {n : Int} (h : -9223372036854775808 ≤ n ∧ n ≤ 9223372036854775807) : ∀ m, (C.i n).small m := fun m => by cases m <;> exact h
theorem size_call {s : Sg} (hf : fairV s = true) (hl : s.l ≤ 1048576) (w : World) : Calls Try.prog 62 #[sgV s] w fun e w' => e = .returned (.int .i64 (s.l * s.a)) ∧ Below w.heap.size w w' := by
  obtain ⟨a1, a2, a3, a4⟩ := fairV_iff.1 hf
  have hr : Reps Try.prog w (fun _ _ => False) none [segSh] [sgV s] [.i s.l, .i s.r, .i s.a, .i s.g] :=
    ⟨[.i s.l, .i s.r, .i s.a, .i s.g], [], rfl, ⟨[.int .i64 s.l, .int .i64 s.r, .int .i64 s.a, .int .i64 s.g], rfl, ⟨small_i (by omega), _, rfl, rfl⟩, ⟨small_i (by omega), _, rfl, rfl⟩, ⟨small_i (by omega), _, rfl, rfl⟩, ⟨small_i (by omega), _, rfl, rfl⟩, trivial⟩, rfl⟩
  exact int_call (g := fun cs => n_ cs 0 * n_ cs 2) (size_ok.2.1 ctSize rfl).1 rfl hr ⟨hf, hl⟩
theorem hole_good {l : List Sg} (h : holeV l = 0) : l ≠ [] ∧ l.length ≤ 16 ∧ (∀ s ∈ l, fairV s = true) ∧ longV l ≤ 1048576 := by
  unfold holeV at h
  split at h
  · omega
  rename_i h1
  split at h
  · omega
  split at h
  · rename_i h3
    split at h
    · omega
    · exact ⟨fun e => h1 (by rw [e]; rfl), by omega, List.all_eq_true.1 h3, by omega⟩
  · omega
theorem long_one {l : List Sg} (hf : ∀ s ∈ l, fairV s = true) {s : Sg} (hs : s ∈ l) : s.l ≤ longV l := by
  obtain ⟨a, b, rfl⟩ := List.append_of_mem hs
  rw [longV_app, longV]
  have h1 := longV_nn (l := a) fun x hx => hf x (by simp [hx])
  have h2 := longV_nn (l := b) fun x hx => hf x (by simp [hx])
  omega
theorem volV_box : ∀ {l : List Sg}, (∀ s ∈ l, fairV s = true) → 0 ≤ volV l ∧ volV l ≤ longV l * 5000
  | [], _ => by simp [volV, longV]
  | s :: l, h => by
    obtain ⟨h1, -, h3, -⟩ := fairV_iff.1 (h s (by simp))
    have := volV_box (l := l) fun x hx => h x (by simp [hx])
    have := mul_box (a := s.l) (b := s.a) (A := s.l) (B := 5000) (by omega) (by omega) (by omega) (by omega)
    rw [volV, longV, Int.add_mul]
    omega
theorem atK_box {l : List Sg} (h : holeV l = 0) (k : Nat) : 0 ≤ atK l k ∧ atK l k ≤ 5242880000 := by
  obtain ⟨-, -, hf, hl⟩ := hole_good h
  have h1 := volV_box (l := l.take k) fun s hs => hf s (List.mem_of_mem_take hs)
  have h2 := longV_le hf k
  unfold atK
  omega
set_option maxRecDepth 100000 in
set_option maxHeartbeats 2000000 in
theorem places_ok : ItOK Try.prog 83 placesIt := by
  intro Base vs cs l J Jx W hpre hrep hJ hJx hY h0
  obtain ⟨b, v, rows, cap, a, rfl, rfl, rfl, hb0, hsm, -⟩ := places_rep (hrep 0 W h0).2
  have hbox : ∀ k w, J k w → w.cell? ⟨b, 0, none⟩ = some (.slice a rows.length cap) ∧ (rows ≠ [] → ∃ b' o, a = some ⟨b', o, none⟩ ∧ ∀ i, i < rows.length → w.cell? ⟨b', o + i * 4, none⟩ = some (.int .i64 ((segsOf rows).getD i sg0).l) ∧ w.cell? ⟨b', o + i * 4 + 1, none⟩ = some (.int .i64 ((segsOf rows).getD i sg0).r) ∧ w.cell? ⟨b', o + i * 4 + 2, none⟩ = some (.int .i64 ((segsOf rows).getD i sg0).a) ∧ w.cell? ⟨b', o + i * 4 + 3, none⟩ = some (.int .i64 ((segsOf rows).getD i sg0).g)) := fun k w hj => by
    obtain ⟨b2, v2, rows2, cap2, a2, e1, e2, e3, h1, -, h2⟩ := places_rep (hrep k w hj).2
    simp at e1 e2
    obtain ⟨rfl, rfl⟩ := e2
    obtain rfl := e1
    cases e3
    exact ⟨h1, h2⟩
  replace hpre : holeV (segsOf rows) = 0 := hpre
  obtain ⟨hne, hl16, hfair, hlong⟩ := hole_good hpre
  have hel : placesIt.els [.s (.slice a rows.length cap) rows] = placeEls (segsOf rows) := rfl
  rw [hel] at hY ⊢
  have hlen : (placeEls (segsOf rows)).length = rows.length := by simp [placeEls, segs_len]
  rw [hlen]
  have hY' : ∀ k w w', k < rows.length → J k w → Below w.heap.size w w' → YieldAt Fence.wide 0 Try.prog l #[.int .i64 (atK (segsOf rows) k), sgV ((segsOf rows).getD k sg0)] w' fun e w'' => ((e = .returned (.bool true) ∧ J (k + 1) w'') ∧ Keeps (fun i => w.heap.size ≤ i ∧ i < w'.heap.size) w' w'') ∨ (e = .returned (.bool false) ∧ Jx w'') := fun k w w' hk hj hb =>
    hY k _ w w' (placeEls_at (l := segsOf rows) (by rw [segs_len]; exact hk)) hj hb
  clear hY hel hrep
  generalize hn : rows.length = n at *
  have hsl : (segsOf rows).length = n := by rw [segs_len]; exact hn
  generalize segsOf rows = L at *
  refine callsIn_of_wp Try.func83 rfl trivial ?_ rfl
  simp only [Try.ntmps83, List.size_toArray, List.length_cons, List.length_nil, Nat.reduceAdd, Nat.reduceSub, Array.replicate_succ, Array.replicate_zero, List.push_toArray, List.append_toArray, List.nil_append, List.cons_append]
  gi_wp2
  gi_loopw [3, 9] (fun pl i wr => ∃ k : Nat, k ≤ n ∧ pl = .int .i64 (atK L k) ∧ i = .int .i64 k ∧ J k wr) (fun _ i _ => ((n : Int) - intOf i).toNat)
  case atStart => exact ⟨0, Nat.zero_le _, by simp [atK, volV], rfl, h0⟩
  case round =>
    obtain ⟨k, hk, rfl, rfl, hj⟩ := hrel
    by_cases hlt : k < n
    · obtain ⟨hcb, hrow⟩ := hbox k wr hj
      obtain ⟨b', o, rfl, hce⟩ := hrow (by intro e; rw [e] at hn; simp at hn; omega)
      obtain ⟨c0, c1, c2, c3⟩ := hce k hlt
      have hyk := fun w' => hY' k wr w' hlt hj
      clear hY'
      have hsf := hfair _ (getD_mem (l := L) (i := k) (by omega) sg0)
      have hsl2 := long_one hfair (getD_mem (l := L) (i := k) (by omega) sg0)
      have hnext := atK_succ (l := L) (k := k) (by omega)
      have hbx := atK_box hpre (k + 1)
      have hbx0 := atK_box hpre k
      obtain ⟨sg, hsg⟩ : ∃ sg, L.getD k sg0 = sg := ⟨_, rfl⟩
      rw [hsg] at c0 c1 c2 c3 hyk hsf hsl2 hnext
      clear hsg hce hrow hbox
      obtain ⟨at1, hat1⟩ : ∃ x, atK L (k + 1) = x := ⟨_, rfl⟩
      obtain ⟨at0, hat0⟩ : ∃ x, atK L k = x := ⟨_, rfl⟩
      rw [hat1] at hnext hbx
      rw [hat0] at hnext hbx0 hyk
      rw [hat0]
      have hy := hyk (wr.alloc (.cells #[.int .i64 sg.l, .int .i64 sg.r, .int .i64 sg.a, .int .i64 sg.g] 97)) (below_alloc wr _)
      obtain ⟨fn, tmps, assign, body, hy1, hR⟩ := hy
      unfold sgV at hy1
      have hb0 : (0 : Int) ≤ k := by omega
      have hb1 : (k : Int) < n := by omega
      gi_wp2
      refine ⟨rfl, hR.mono ?_⟩
      rintro e W3 (⟨⟨rfl, hj3⟩, hkp⟩ | ⟨rfl, hx3⟩)
      · have hB3 : Blk W3 wr.heap.size 97 #[.int .i64 sg.l, .int .i64 sg.r, .int .i64 sg.a, .int .i64 sg.g] := (hkp.block wr.heap.size ⟨Nat.le_refl _, by simp⟩).trans (Blk.new wr _ _)
        have d0 := hB3.cell 0 rfl
        have d1 := hB3.cell 1 rfl
        have d2 := hB3.cell 2 rfl
        have d3 := hB3.cell 3 rfl
        have hlt3 := hB3.lt
        clear hB3 hkp
        have hsz := fun w => size_call hsf (by omega) w
        unfold sgV at hsz
        gi_wp2
        refine ⟨trivial, rfl, callsIn_wide.2 ((hsz W3).mono ?_)⟩
        rintro e W4 ⟨rfl, hb4⟩
        have hj4 := hJ _ _ _ hj3 hb4
        have hbx1 : -9223372036854775808 ≤ at0 + sg.l * sg.a ∧ at0 + sg.l * sg.a ≤ 9223372036854775807 := by omega
        gi_wp2
        exact ⟨⟨k + 1, by omega, by rw [hat1, hnext], by simp, hj4⟩, by simp only [intOf]; omega⟩
      · gi_wp2
        refine bodyPost_ret (results_none rfl _ _ _) rfl ?_
        exact ⟨⟨_, rfl⟩, .inr hx3⟩
    · obtain rfl : k = n := by omega
      gi_wp2
      go_end0
      exact ⟨⟨_, rfl⟩, .inl hj⟩
end Go.Proofs.Ytmdmgpikbebejaa
/- Kill: the volume and the height of a hole: their states. -/
namespace Go.Proofs.Ytmdmgpikbebejaa
open Go.RowKit
set_option linter.unusedSimpArgs false
set_option linter.unusedVariables false

theorem callable_places : Callable Try.prog 83 := ⟨_, Try.func83, by decide, rfl⟩
theorem places_made0 (u : Value) (hu : u.oneCell' = true) (w : World) : Calls Try.prog 61 #[.agg #[u]] w fun e w' => e = .returned (.func (.func 83) #[] #[.pointer (some ⟨w.heap.size, 0, none⟩)]) ∧ w' = w.alloc (.cells #[u] 24) := by
  refine (callsIn_wide (n := 0)).1 (callsIn_of_wp Try.func61 rfl trivial ?_ rfl)
  simp only [Try.ntmps61, List.size_toArray, List.length_cons, List.length_nil, Nat.reduceAdd, Nat.reduceSub, Array.replicate_succ, Array.replicate_zero, List.push_toArray, List.append_toArray, List.nil_append, List.cons_append]
  gi_wp2
  go_ret
  exact ⟨rfl, rfl⟩
theorem places_made : ∀ O us cs w, LReps Try.prog w O [.arr 97] us cs → Calls Try.prog 61 #[.agg us.toArray] w fun e w' => e = .returned (.func (.func 83) #[] #[.pointer (some ⟨w.heap.size, 0, none⟩)]) ∧ w' = w.alloc (.cells us.toArray 24) := by
  intro O us cs w h
  match us, cs, h with
  | [], [], h => exact h.elim
  | [], _ :: _, h => exact h.elim
  | _ :: _, [], h => exact h.elim
  | _ :: _ :: _, _ :: _, h => exact h.2.elim
  | [_], _ :: _ :: _, h => exact h.2.elim
  | [u], [c], h =>
    obtain ⟨⟨-, hu, hA⟩, -⟩ := h
    obtain ⟨a, cap, hl⟩ := hA.loc
    refine places_made0 u ?_ w
    rw [hu, hl]; rfl
def placeSv0 (n : Nat) : SV := .one (.lf (.int (.var n)))
def placeSv1 (n : Nat) : SV := .one (.agg [.int (.var (n + 1)), .int (.var (n + 2)), .int (.var (n + 3)), .int (.var (n + 4))])
theorem place_el {rows : List (List C)} {v : Value} (hp : holeV (segsOf rows) = 0) : ∀ x ∈ placesIt.els [.s v rows], x.length = [Lk.int, .int, .int, .int, .int].length ∧ (∀ c ∈ x, ∀ n, c.small n) ∧ ∀ (Γ' : Env) (n : Nat), (∀ j c, x[j]? = some c → at_ Γ'.ρ (n + j) = c) → placesIt.val x = #[(placeSv0 n).den Γ', (placeSv1 n).den Γ'] ∧ ∀ P w O, (placeSv0 n).ok P w O Γ' ∧ (placeSv1 n).ok P w O Γ' := by
  intro x hx
  obtain ⟨k, hk⟩ := List.getElem?_of_mem hx
  have hk2 : (placeEls (segsOf rows))[k]? = some x := hk
  have hlt : k < (segsOf rows).length := by
    rcases Nat.lt_or_ge k (segsOf rows).length with h | h
    · exact h
    · rw [List.getElem?_eq_none (by simp [placeEls]; exact h)] at hk2; cases hk2
  rw [placeEls_at hlt] at hk2
  cases hk2
  obtain ⟨-, -, hf, hl⟩ := hole_good hp
  have hm := getD_mem (l := segsOf rows) (i := k) hlt sg0
  obtain ⟨f1, f2, f3, f4⟩ := fairV_iff.1 (hf _ hm)
  have f5 := long_one hf hm
  have f6 := atK_box hp k
  refine ⟨rfl, fun c hc m => ?_, fun Γ' n hat => ⟨?_, fun P w O => ⟨?_, ?_⟩⟩⟩
  · simp only [placeEl, List.mem_cons, List.not_mem_nil, or_false] at hc
    rcases hc with rfl | rfl | rfl | rfl | rfl <;> exact small_i (by omega) m
  · have h0 := hat 0 _ rfl
    have h1 := hat 1 _ rfl
    have h2 := hat 2 _ rfl
    have h3 := hat 3 _ rfl
    have h4 := hat 4 _ rfl
    simp only [Nat.add_zero] at h0
    simp only [placeSv0, placeSv1, SV.den, S0.den, dens, Lf.den, E.den_var, h0, h1, h2, h3, h4, List.map_cons, List.map_nil, C.int]
    rfl
  · exact one_ok trivial
  · intro l hl
    simp only [S0.cells, List.mem_cons, List.not_mem_nil, or_false] at hl
    rcases hl with rfl | rfl | rfl | rfl <;> trivial
def volS0 : St := { sl := [(1, some (.one (.lf (.ptr 0 0)))), (3, some (.one (.lf (.ptr 1 0))))], mem := [(0, some (24, [.arr 97 (.var 0)])), (1, some (2, [.int (.lit 0)]))], nt := 15, nb := 2, nx := 1, lvl := 1, bds := [], vec := [] }
def volR : RgS := ⟨volS0, 6, 7, [.arr 97 (.var 0)], [], [.blk 1], 8, 9, [.int, .int, .int, .int, .int], placeSv0, placeSv1⟩
def hgtS0 : St := { sl := [(1, some (.one (.lf (.ptr 0 0)))), (2, some (.one (.lf (.ptr 1 0)))), (3, some (.one (.lf (.ptr 2 0)))), (4, some (.one (.lf (.ptr 3 0))))], mem := [(0, some (24, [.arr 97 (.var 0)])), (1, some (91, [.vec 70 1])), (2, some (25, [.vec 70 2])), (3, some (2, [.int (.lit 0)]))], nt := 32, nb := 4, nx := 3, lvl := 1, bds := [], vec := [(1, some (70, .var 1)), (2, some (70, .var 2))] }
def hgtR : RgS := ⟨hgtS0, 13, 14, [.arr 97 (.var 0)], [], [.blk 2, .blk 3], 15, 16, [.int, .int, .int, .int, .int], placeSv0, placeSv1⟩
end Go.Proofs.Ytmdmgpikbebejaa
/- What is to be shown of each function, as the executor has it. Printed by trees.py. -/
namespace Go.Proofs.Ytmdmgpikbebejaa
def tvol1 : Tree :=
  (.back 0 [])
noncomputable def cvol2 : Cx := tab2.only [62] (fun r => match r with
  | 50004 => [.blk 1]
  | _ => []) [] 0 [] (fun _ => none)
def tvol2 : Tree :=
  (.call 62 [(.int (.var 3)), (.int (.var 4)), (.int (.var 5)), (.int (.var 6))] (.ob (.and (.cmp .le (.lit (-9223372036854775808)) (.add (.var 1) (.var 7))) (.cmp .le (.add (.var 1) (.var 7)) (.lit 9223372036854775807))) (.ob (.and (.cmp .le (.lit (-9223372036854775808)) (.add (.var 1) (.var 7))) (.cmp .le (.add (.var 1) (.var 7)) (.lit 9223372036854775807))) (.back 0 [(.int (.add (.var 1) (.var 7)))]))))
def tvol3 : Tree :=
  (.ret [(.int (.var 1))])
def thgt1 : Tree :=
  (.dfn .nil (.call 40 [(.arr 97 (.var 0))] (.split (.cmp .ne (.var 2) (.lit 0)) (.dfn .nil (.ret [(.arr 70 (.var 3))])) (.arr [[(.int (.lit 0)), (.int (.lit 0))]] (.dfn .nil (.back 0 [(.cnt 70 (.var 1)), (.cnt 70 (.var 3))]))))))
noncomputable def chgt2 : Cx := tab2.only [40, 62] (fun r => match r with
  | 50009 => [.blk 2, .vec 3]
  | _ => []) [] 0 [] (fun _ => none)
def thgt2 : Tree :=
  (.ob (.and (.cmp .le (.lit (-9223372036854775808)) (.add (.var 4) (.var 7))) (.cmp .le (.add (.var 4) (.var 7)) (.lit 9223372036854775807))) (.call 62 [(.int (.var 6)), (.int (.var 7)), (.int (.var 8)), (.int (.var 9))] (.ob (.and (.cmp .le (.lit (-9223372036854775808)) (.add (.var 5) (.var 10))) (.cmp .le (.add (.var 5) (.var 10)) (.lit 9223372036854775807))) (.ob (.and (.cmp .le (.lit (-9223372036854775808)) (.add (.var 5) (.var 10))) (.cmp .le (.add (.var 5) (.var 10)) (.lit 9223372036854775807))) (.ob (.and (.cmp .le (.lit (-9223372036854775808)) (.add (.var 4) (.var 7))) (.cmp .le (.add (.var 4) (.var 7)) (.lit 9223372036854775807))) (.arr [[(.int (.add (.var 5) (.var 10))), (.int (.add (.var 4) (.var 7)))]] (.ob (.cmp .le (.mul (.add (.len (.var 3)) (.len (.var 11))) (.lit 16)) (.lit 140737488355328)) (.cat (.var 3) (.var 11) (.ob (.and (.cmp .le (.lit (-9223372036854775808)) (.add (.var 4) (.var 7))) (.cmp .le (.add (.var 4) (.var 7)) (.lit 9223372036854775807))) (.back 0 [(.cnt 70 (.var 12)), (.int (.add (.var 4) (.var 7)))]))))))))))
def thgt3 : Tree :=
  (.ret [(.arr 70 (.var 3))])
noncomputable def cvolm : Cx := tab2.only [40, 51] (fun _ => []) [] 0 [] (fun _ => none)
def tvolm : Tree :=
  (.call 40 [(.arr 97 (.var 0))] (.split (.cmp .ne (.var 1) (.lit 0)) (.ret [(.int (.lit 0))]) (.call 51 [(.arr 97 (.var 0))] (.ret [(.int (.var 2))]))))
end Go.Proofs.Ytmdmgpikbebejaa
/- Kill: the volume and the height of a hole. -/
namespace Go.Proofs.Ytmdmgpikbebejaa
open Go.RowKit
set_option linter.unusedSimpArgs false
set_option linter.unusedVariables false

theorem callable_mkplaces : Callable Try.prog 61 := ⟨_, Try.func61, by decide, rfl⟩
theorem vol_split : bodyOf Try.f51 = pre (heads 2 (bodyOf Try.f51)) (Code.seq (.seq (.region 2 #[opN (nav [1, 1, 0, 0] (bodyOf Try.f51)) 0, opN (nav [1, 1, 0, 0] (bodyOf Try.f51)) 1] false) (.block 0 (.rangeFunc (.tmp volR.d2) #[volR.p0, volR.p1] (rangeAssign (nav [1, 1, 0, 1, 0] (bodyOf Try.f51))) (rangeBody (nav [1, 1, 0, 1, 0] (bodyOf Try.f51)))))) (nav [1, 1, 1] (bodyOf Try.f51))) := by kernel_rfl
theorem vol_t1 : execL cvol2 (heads 2 (bodyOf Try.f51)) { startOf Try.f51 ctVolI [] [] with lvl := (startOf Try.f51 ctVolI [] []).lvl + 1 } (joinK (startOf Try.f51 ctVolI [] []) volS0 [] [] (endQ cvol2 Try.f51 ctVolI)) = some tvol1 := by kernel_rfl
theorem vol_t2 : rgRound cvol2 (endQ cvol2 Try.f51 ctVolI) volR (rangeAssign (nav [1, 1, 0, 1, 0] (bodyOf Try.f51))) (rangeBody (nav [1, 1, 0, 1, 0] (bodyOf Try.f51))) = some tvol2 := by kernel_rfl
theorem vol_t3 : rgTail cvol2 (endQ cvol2 Try.f51 ctVolI) volR (nav [1, 1, 1] (bodyOf Try.f51)) = some tvol3 := by kernel_rfl
theorem vol_cx : CxOK cvol2 := Tab.cx_ok (all_cons size_ok all_nil)
theorem nil_of {P : Program} {xs : List C} (h : CTy P [] xs) : xs = [] := by cases xs with | nil => rfl | cons _ _ => exact h.elim
theorem placeEls_get {l : List Sg} {k : Nat} {x : List C} (h : (placeEls l)[k]? = some x) : k < l.length ∧ x = placeEl l k := by
  have hk : k < l.length := by
    rcases Nat.lt_or_ge k l.length with h2 | h2
    · exact h2
    · rw [List.getElem?_eq_none (by simp [placeEls]; exact h2)] at h; cases h
  rw [placeEls_at hk] at h
  exact ⟨hk, (Option.some.inj h).symm⟩
theorem vol_ok : tab2.ok 51 := by
  refine Tab.of_ct rfl rfl ⟨_, Try.func51, by decide, rfl⟩ ?_ ctF_det
  refine ct_ok_marks (cx := cvol2) (bds := []) vol_cx Try.func51 (c := bodyOf Try.f51) rfl ⟨by decide, by decide, by decide⟩ fun cs hcs hp => ⟨bds_nil _, fun F w0 Γ a w Q hρ hds hs hk hm => ?_⟩
  obtain ⟨v, rows, rfl⟩ : ∃ v rows, cs = [.s v rows] := by
    match cs, hcs with
    | [c1], ⟨⟨_, v0, r0, _, e1, _⟩, _⟩ => exact ⟨v0, r0, by rw [e1]⟩
  have hp : holeV (segsOf rows) = 0 := hp
  obtain ⟨h1, h2, hf, hl⟩ := hole_good hp
  rw [vol_split]
  refine pre_seg (R := ctVolI.post [.s v rows]) vol_cx (Ls := []) (I := fun _ => True) vol_t1 (by kernel_rfl) rfl (by rw [hρ]; unfold tvol1; simp only [VC, allC, List.map_cons, List.map_nil, List.length_cons, List.length_nil, List.getElem?_cons_zero, List.getElem?_cons_succ, List.cons.injEq, C.i.injEq, C.b.injEq, and_true, true_and, forall_const, kindsOf_nil, kindsOf_lf, kindsOf_agg, kindsOf_box, boxKinds_nil, boxKinds_lf, boxKinds_agg, boxKinds_box, List.append_nil, List.cons_append, List.nil_append, den_cmp_le, den_cmp_lt, den_cmp_eq, den_cmp_ne, den_cmp_le', den_cmp_lt', den_cmp_eq', den_cmp_ne', den_and, den_and', den_or, den_or', den_not, den_not', den_blit, den_of, ev_var, at_0, at_1, at_2, at_3, at_4, at_5, at_6, at_7, at_skip, c_int, c_bool, c_arr, c_cnt, c_vec, ev_nil, ev_join, ev_sub3, loc_s, int_i, bool_b, rows_s, cs_nil, cs_cons, E.den_lit, E.den_var, E.den_add, E.den_sub, E.den_mul, E.den_quo, E.den_rem, E.den_max, E.den_min, E.den_len, E.den_wr, E.den_cell]) hs ?_ ?_
  · intro xs Γx a' wp hxs hI hρ' he hs'
    obtain rfl := nil_of hxs
    have hρx : Γx.ρ = [.s v rows] := by rw [hρ', hρ]; rfl
    refine range_fn (R := ctVolI.post [.s v rows]) vol_cx volR (it := placesIt) (init := [.int (.lit 0)]) (cs := [.s v rows]) (by kernel_rfl) rfl rfl (call_op rfl callable_mkplaces) rfl rfl (by kernel_rfl) rfl places_made places_ok callable_places (by rw [hρx]; rfl) hp (place_el hp) vol_t2 vol_t3 hs' he hds hm
      (fun k xs => xs = [.i (atK (segsOf rows) k)]) (by rw [hρx]; rfl) (fun k xs x hx hty hI => ?_) (fun xs hty hI => ?_)
    · subst hI
      obtain ⟨hk', rfl⟩ : k < (segsOf rows).length ∧ x = placeEl (segsOf rows) k := placeEls_get hx
      have hm2 := getD_mem (l := segsOf rows) (i := k) hk' sg0
      have h3 := atK_box hp (k + 1)
      have h4 := long_one hf hm2
      have h5 := hf _ hm2
      rw [hρx]
      unfold tvol2 placeEl
      have h6 : cvol2.ct 62 = some ctSize := rfl
      simp only [VC, allC, List.map_cons, List.map_nil, List.length_cons, List.length_nil, List.getElem?_cons_zero, List.getElem?_cons_succ, List.cons.injEq, C.i.injEq, C.b.injEq, and_true, true_and, forall_const, kindsOf_nil, kindsOf_lf, kindsOf_agg, kindsOf_box, boxKinds_nil, boxKinds_lf, boxKinds_agg, boxKinds_box, List.append_nil, List.cons_append, List.nil_append, den_cmp_le, den_cmp_lt, den_cmp_eq, den_cmp_ne, den_cmp_le', den_cmp_lt', den_cmp_eq', den_cmp_ne', den_and, den_and', den_or, den_or', den_not, den_not', den_blit, den_of, ev_var, at_0, at_1, at_2, at_3, at_4, at_5, at_6, at_7, at_skip, c_int, c_bool, c_arr, c_cnt, c_vec, ev_nil, ev_join, ev_sub3, loc_s, int_i, bool_b, rows_s, cs_nil, cs_cons, E.den_lit, E.den_var, E.den_add, E.den_sub, E.den_mul, E.den_quo, E.den_rem, E.den_max, E.den_min, E.den_len, E.den_wr, E.den_cell, h6, ctSize, ctF, segSh, sg_, n_, Nat.reduceAdd, C.int]
      rw [atK_succ hk'] at h3 ⊢
      exact ⟨⟨h5, by omega⟩, fun _ _ _ e => by subst e; exact ⟨⟨by omega, by omega⟩, ⟨by omega, by omega⟩, rfl⟩⟩
    · subst hI
      rw [hρx]
      unfold tvol3
      simp only [VC, allC, List.map_cons, List.map_nil, List.length_cons, List.length_nil, List.getElem?_cons_zero, List.getElem?_cons_succ, List.cons.injEq, C.i.injEq, C.b.injEq, and_true, true_and, forall_const, kindsOf_nil, kindsOf_lf, kindsOf_agg, kindsOf_box, boxKinds_nil, boxKinds_lf, boxKinds_agg, boxKinds_box, List.append_nil, List.cons_append, List.nil_append, den_cmp_le, den_cmp_lt, den_cmp_eq, den_cmp_ne, den_cmp_le', den_cmp_lt', den_cmp_eq', den_cmp_ne', den_and, den_and', den_or, den_or', den_not, den_not', den_blit, den_of, ev_var, at_0, at_1, at_2, at_3, at_4, at_5, at_6, at_7, at_skip, c_int, c_bool, c_arr, c_cnt, c_vec, ev_nil, ev_join, ev_sub3, loc_s, int_i, bool_b, rows_s, cs_nil, cs_cons, E.den_lit, E.den_var, E.den_add, E.den_sub, E.den_mul, E.den_quo, E.den_rem, E.den_max, E.den_min, E.den_len, E.den_wr, E.den_cell]
      have hle : (placesIt.els [C.s v rows]).length = (segsOf rows).length := by simp [placesIt, placeEls, at_, C.rows]
      show [C.i (atK (segsOf rows) (placesIt.els [C.s v rows]).length)] = [C.i (volV (segsOf rows))]
      rw [hle]; unfold atK; rw [List.take_length]
  · intro x st' T' Γ' Ls' hx hk' he hlen' hv' a' w' hs'
    exact hk x st' T' Γ' Ls' hk' he List.nil_prefix hlen' hv' a' w' hs'
theorem roomS_no {l : List Sg} (h : holeV l ≠ 0) : roomS l = 0 := if_neg h
theorem roomS_yes {l : List Sg} (h : holeV l = 0) : roomS l = volV l := if_pos h
theorem heightV_no {l : List Sg} (h : holeV l ≠ 0) : heightV l = [] := if_neg h
theorem heightV_yes {l : List Sg} (h : holeV l = 0) : heightV l = heightL l := if_pos h
theorem volm_ok : tab2.ok 30 := by
  refine Tab.of_ct rfl rfl ⟨_, Try.func30, by decide, rfl⟩ ?_ ctF_det
  refine ct_ok (cx := cvolm) (Tab.cx_ok (all_cons hole_ok (all_cons vol_ok all_nil))) Try.func30 (bds := []) (T := tvolm) (by kernel_rfl) ?_
  have h1 : cvolm.ct 40 = some ctHole := rfl
  have h2 : cvolm.ct 51 = some ctVolI := rfl
  unfold tvolm
  simp only [VC, allC, List.map_cons, List.map_nil, List.length_cons, List.length_nil, List.getElem?_cons_zero, List.getElem?_cons_succ, List.cons.injEq, C.i.injEq, C.b.injEq, and_true, true_and, forall_const, kindsOf_nil, kindsOf_lf, kindsOf_agg, kindsOf_box, boxKinds_nil, boxKinds_lf, boxKinds_agg, boxKinds_box, List.append_nil, List.cons_append, List.nil_append, den_cmp_le, den_cmp_lt, den_cmp_eq, den_cmp_ne, den_cmp_le', den_cmp_lt', den_cmp_eq', den_cmp_ne', den_and, den_and', den_or, den_or', den_not, den_not', den_blit, den_of, ev_var, at_0, at_1, at_2, at_3, at_4, at_5, at_6, at_7, at_skip, c_int, c_bool, c_arr, c_cnt, c_vec, ev_nil, ev_join, ev_sub3, loc_s, int_i, bool_b, rows_s, cs_nil, cs_cons, E.den_lit, E.den_var, E.den_add, E.den_sub, E.den_mul, E.den_quo, E.den_rem, E.den_max, E.den_min, E.den_len, E.den_wr, E.den_cell, Nat.reduceAdd, h1, h2, ctHole, ctVolI, ctVol, ctF, holeSh, s_]
  intro u r _ _ _
  refine ⟨bds_nil _, fun n _ _ hn => ⟨fun h => (roomS_no (by omega)).symm, fun h => ⟨by omega, fun m _ _ hm => by rw [roomS_yes (by omega)]; exact hm⟩⟩⟩
theorem rvol_ok : tab2.ok 43 := by
  refine Tab.of_ct rfl rfl ⟨_, Try.func43, by decide, rfl⟩ ?_ ctF_det
  refine ct_ok (cx := crvol) (Tab.cx_ok (all_cons rhole_ok all_nil)) Try.func43 (bds := []) (T := trvol) (by kernel_rfl) ?_
  have h1 : crvol.ct 42 = some ctHole := rfl
  unfold trvol
  simp only [VC, allC, List.map_cons, List.map_nil, List.length_cons, List.length_nil, List.getElem?_cons_zero, List.getElem?_cons_succ, List.cons.injEq, C.i.injEq, C.b.injEq, and_true, true_and, forall_const, kindsOf_nil, kindsOf_lf, kindsOf_agg, kindsOf_box, boxKinds_nil, boxKinds_lf, boxKinds_agg, boxKinds_box, List.append_nil, List.cons_append, List.nil_append, den_cmp_le, den_cmp_lt, den_cmp_eq, den_cmp_ne, den_cmp_le', den_cmp_lt', den_cmp_eq', den_cmp_ne', den_and, den_and', den_or, den_or', den_not, den_not', den_blit, den_of, ev_var, at_0, at_1, at_2, at_3, at_4, at_5, at_6, at_7, at_skip, c_int, c_bool, c_arr, c_cnt, c_vec, ev_nil, ev_join, ev_sub3, loc_s, int_i, bool_b, rows_s, cs_nil, cs_cons, E.den_lit, E.den_var, E.den_add, E.den_sub, E.den_mul, E.den_quo, E.den_rem, E.den_max, E.den_min, E.den_len, E.den_wr, E.den_cell, ev_cell, Nat.reduceAdd, h1, ctHole, ctVol, ctF, holeSh, s_, sl_at, sa_at]
  intro u r _ _ _
  refine ⟨bds_nil _, fun n _ _ hn => ⟨fun h => (roomS_no (by omega)).symm, fun h => ?_⟩⟩
  have hp : holeV (segsOf r) = 0 := by omega
  obtain ⟨-, -, hf, hl⟩ := hole_good hp
  have e2 := segs_len r
  rw [roomS_yes hp]
  refine ⟨fun xs => match xs with | [.i s, .i i] => 0 ≤ i ∧ i ≤ r.length ∧ s = atK (segsOf r) i.toNat | _ => False, fun xs => match xs with | [_, .i i] => ((r.length : Int) - i).toNat | _ => 0, ⟨by omega, by omega, by simp [atK, volV]⟩, ?_⟩
  rintro s _ _ i _ _ ⟨i0, i1, rfl⟩
  refine ⟨fun hlt => ?_, fun hge => by unfold atK; rw [List.take_of_length_le (by omega)]⟩
  have hk' : i.toNat < (segsOf r).length := by omega
  have hm2 := getD_mem (l := segsOf r) (i := i.toNat) hk' sg0
  have h3 := atK_box hp (i.toNat + 1)
  have h3' := atK_box hp i.toNat
  have h4 := long_one hf hm2
  have h5 := fairV_iff.1 (hf _ hm2)
  rw [atK_succ hk'] at h3
  exact ⟨i0, hlt, hlt, ⟨by omega, by omega⟩, ⟨by omega, by omega⟩, ⟨by omega, by omega⟩, ⟨by omega, by omega, by rw [show (i + 1).toNat = i.toNat + 1 by omega, atK_succ hk']⟩, (show ((r.length : Int) - (i + 1)).toNat < ((r.length : Int) - i).toNat by omega)⟩
/-! The height -/
def riseV : List Sg → Int
  | [] => 0
  | s :: l => s.r + riseV l
theorem riseV_app : ∀ (a b : List Sg), riseV (a ++ b) = riseV a + riseV b
  | [], b => by simp [riseV]
  | s :: a, b => by rw [List.cons_append, riseV, riseV, riseV_app a b]; omega
def riseK (l : List Sg) (k : Nat) : Int := riseV (l.take k)
theorem riseK_succ {l : List Sg} {k : Nat} (h : k < l.length) : riseK l (k + 1) = riseK l k + (l.getD k sg0).r := by
  unfold riseK
  rw [take_snoc h sg0, riseV_app]; simp [riseV]
theorem riseV_box : ∀ {l : List Sg}, (∀ s ∈ l, fairV s = true) → 0 ≤ riseV l ∧ riseV l ≤ longV l
  | [], _ => by simp [riseV, longV]
  | s :: l, h => by
    obtain ⟨h1, h2, -, -⟩ := fairV_iff.1 (h s (by simp))
    have := riseV_box (l := l) fun x hx => h x (by simp [hx])
    rw [riseV, longV]; omega
theorem riseK_box {l : List Sg} (h : holeV l = 0) (k : Nat) : 0 ≤ riseK l k ∧ riseK l k ≤ 1048576 := by
  obtain ⟨-, -, hf, hl⟩ := hole_good h
  have h1 := riseV_box (l := l.take k) fun s hs => hf s (List.mem_of_mem_take hs)
  have h2 := longV_le hf k
  unfold riseK; omega
theorem upGo_app : ∀ (l : List Sg) (s : Sg) (a u : Int), upGo a u (l ++ [s]) = upGo a u l ++ [(a + volV l + s.l * s.a, u + riseV l + s.r)]
  | [], s, a, u => by simp [upGo, volV, riseV]
  | x :: l, s, a, u => by
    rw [List.cons_append, upGo, upGo, upGo_app l s, volV, riseV, List.cons_append]
    congr 3
    · congr 1 <;> omega
def heightK (l : List Sg) (k : Nat) : List Kn := heightL (l.take k)
theorem heightK_succ {l : List Sg} {k : Nat} (h : k < l.length) : heightK l (k + 1) = heightK l k ++ [(atK l k + (l.getD k sg0).l * (l.getD k sg0).a, riseK l k + (l.getD k sg0).r)] := by
  unfold heightK heightL
  rw [take_snoc h sg0, upGo_app, List.cons_append]
  unfold atK riseK
  simp
theorem upGo_len : ∀ (l : List Sg) (a u : Int), (upGo a u l).length = l.length
  | [], _, _ => rfl
  | s :: l, a, u => by rw [upGo, List.length_cons, upGo_len l]; rfl
theorem heightK_len {l : List Sg} {k : Nat} (h : k ≤ l.length) : (heightK l k).length = k + 1 := by
  unfold heightK heightL
  rw [List.length_cons, upGo_len, List.length_take]; omega
theorem knots_app (a b : List (List C)) : knots (a ++ b) = knots a ++ knots b := by simp [knots]
theorem knots_len2 (a : List (List C)) : (knots a).length = a.length := by simp [knots]
theorem hgt_split : bodyOf Try.f58 = pre (heads 4 (bodyOf Try.f58)) (Code.seq (.seq (.region 5 #[opN (nav [1, 1, 1, 1, 0, 0] (bodyOf Try.f58)) 0, opN (nav [1, 1, 1, 1, 0, 0] (bodyOf Try.f58)) 1] false) (.block 0 (.rangeFunc (.tmp hgtR.d2) #[hgtR.p0, hgtR.p1] (rangeAssign (nav [1, 1, 1, 1, 0, 1, 0] (bodyOf Try.f58))) (rangeBody (nav [1, 1, 1, 1, 0, 1, 0] (bodyOf Try.f58)))))) (nav [1, 1, 1, 1, 1] (bodyOf Try.f58))) := by kernel_rfl
theorem hgt_t1 : execL chgt2 (heads 4 (bodyOf Try.f58)) { startOf Try.f58 ctHeight [] [] with lvl := (startOf Try.f58 ctHeight [] []).lvl + 1 } (joinK (startOf Try.f58 ctHeight [] []) hgtS0 [.blk 1, .blk 2] [.vec 70, .vec 70] (endQ chgt2 Try.f58 ctHeight)) = some thgt1 := by kernel_rfl
theorem hgt_t2 : rgRound chgt2 (endQ chgt2 Try.f58 ctHeight) hgtR (rangeAssign (nav [1, 1, 1, 1, 0, 1, 0] (bodyOf Try.f58))) (rangeBody (nav [1, 1, 1, 1, 0, 1, 0] (bodyOf Try.f58))) = some thgt2 := by kernel_rfl
theorem hgt_t3 : rgTail chgt2 (endQ chgt2 Try.f58 ctHeight) hgtR (nav [1, 1, 1, 1, 1] (bodyOf Try.f58)) = some thgt3 := by kernel_rfl
theorem hgt_cx : CxOK chgt2 := Tab.cx_ok (all_cons hole_ok (all_cons size_ok all_nil))
theorem hgt_ok : tab2.ok 58 := by
  refine Tab.of_ct rfl rfl ⟨_, Try.func58, by decide, rfl⟩ ?_ (fun h => by cases h)
  refine ct_ok_marks (cx := chgt2) (bds := []) hgt_cx Try.func58 (c := bodyOf Try.f58) rfl ⟨by decide, by decide, by decide⟩ fun cs hcs _ => ⟨bds_nil _, fun F w0 Γ a w Q hρ hds hs hk hm => ?_⟩
  obtain ⟨v, rows, rfl⟩ : ∃ v rows, cs = [.s v rows] := by
    match cs, hcs with
    | [c1], ⟨⟨_, v0, r0, _, e1, _⟩, _⟩ => exact ⟨v0, r0, by rw [e1]⟩
  have h6 : chgt2.ct 62 = some ctSize := rfl
  have h7 : chgt2.ct 40 = some ctHole := rfl
  rw [hgt_split]
  refine pre_seg (R := ctHeight.post [.s v rows]) hgt_cx (Ls := []) (I := fun xs => holeV (segsOf rows) = 0 ∧ ∃ u1 u2 r2, xs = [.s u1 [], .s u2 r2] ∧ knots r2 = [(0, 0)]) hgt_t1 (by kernel_rfl) rfl ?_ hs ?_ ?_
  · rw [hρ]
    unfold thgt1
    simp only [VC, allC, List.map_cons, List.map_nil, List.length_cons, List.length_nil, List.getElem?_cons_zero, List.getElem?_cons_succ, List.cons.injEq, C.i.injEq, C.b.injEq, and_true, true_and, forall_const, kindsOf_nil, kindsOf_lf, kindsOf_agg, kindsOf_box, boxKinds_nil, boxKinds_lf, boxKinds_agg, boxKinds_box, List.append_nil, List.cons_append, List.nil_append, den_cmp_le, den_cmp_lt, den_cmp_eq, den_cmp_ne, den_cmp_le', den_cmp_lt', den_cmp_eq', den_cmp_ne', den_and, den_and', den_or, den_or', den_not, den_not', den_blit, den_of, ev_var, at_0, at_1, at_2, at_3, at_4, at_5, at_6, at_7, at_skip, c_int, c_bool, c_arr, c_cnt, c_vec, ev_nil, ev_join, ev_sub3, loc_s, int_i, bool_b, rows_s, cs_nil, cs_cons, E.den_lit, E.den_var, E.den_add, E.den_sub, E.den_mul, E.den_quo, E.den_rem, E.den_max, E.den_min, E.den_len, E.den_wr, E.den_cell, h7, ctHole, ctF, holeSh, s_]
    intro n _ _ hn
    exact ⟨fun h => ⟨.slice none 0 0, [], rfl, by rw [show heightV (s_ [C.s v rows] 0) = [] from heightV_no (by intro e; exact h (hn.trans e))]; rfl⟩, fun h v2 => ⟨by omega, _, v2, _, ⟨rfl, rfl⟩, rfl⟩⟩
  · intro xs Γx a' wp hxs hI hρ' he hs'
    obtain ⟨hp, u1, u2, r2, rfl, hr2⟩ := hI
    obtain ⟨h1, h2, hf, hl⟩ := hole_good hp
    have hρx : Γx.ρ = [.s v rows, .s u1 [], .s u2 r2] := by rw [hρ', hρ]; rfl
    refine range_fn (R := ctHeight.post [.s v rows]) hgt_cx hgtR (it := placesIt) (init := [.cnt 70 (.var 2), .int (.lit 0)]) (cs := [.s v rows]) (by kernel_rfl) rfl rfl (call_op rfl callable_mkplaces) rfl rfl (by kernel_rfl) rfl places_made places_ok callable_places (by rw [hρx]; rfl) hp (place_el hp) hgt_t2 hgt_t3 hs' he hds hm
      (fun k xs => ∃ u3 r3, xs = [.s u3 r3, .i (riseK (segsOf rows) k)] ∧ knots r3 = heightK (segsOf rows) k) ?_ (fun k xs x hx hty hI => ?_) (fun xs hty hI => ?_)
    · rw [hρx]; exact ⟨u2, r2, rfl, by rw [hr2]; rfl⟩
    · obtain ⟨u3, r3, rfl, hr3⟩ := hI
      obtain ⟨hk', rfl⟩ : k < (segsOf rows).length ∧ x = placeEl (segsOf rows) k := placeEls_get hx
      have hm2 := getD_mem (l := segsOf rows) (i := k) hk' sg0
      have h3 := atK_box hp (k + 1)
      have h3' := atK_box hp k
      have h4 := long_one hf hm2
      have h5 := hf _ hm2
      have h8 := riseK_box hp (k + 1)
      rw [hρx]
      unfold thgt2 placeEl
      simp only [VC, allC, List.map_cons, List.map_nil, List.length_cons, List.length_nil, List.getElem?_cons_zero, List.getElem?_cons_succ, List.cons.injEq, C.i.injEq, C.b.injEq, and_true, true_and, forall_const, kindsOf_nil, kindsOf_lf, kindsOf_agg, kindsOf_box, boxKinds_nil, boxKinds_lf, boxKinds_agg, boxKinds_box, List.append_nil, List.cons_append, List.nil_append, den_cmp_le, den_cmp_lt, den_cmp_eq, den_cmp_ne, den_cmp_le', den_cmp_lt', den_cmp_eq', den_cmp_ne', den_and, den_and', den_or, den_or', den_not, den_not', den_blit, den_of, ev_var, at_0, at_1, at_2, at_3, at_4, at_5, at_6, at_7, at_skip, c_int, c_bool, c_arr, c_cnt, c_vec, ev_nil, ev_join, ev_sub3, loc_s, int_i, bool_b, rows_s, cs_nil, cs_cons, E.den_lit, E.den_var, E.den_add, E.den_sub, E.den_mul, E.den_quo, E.den_rem, E.den_max, E.den_min, E.den_len, E.den_wr, E.den_cell, h6, ctSize, ctF, segSh, sg_, n_, Nat.reduceAdd, C.int]
      rw [atK_succ hk'] at h3
      rw [riseK_succ hk'] at h8
      have hlen : r3.length = k + 1 := by rw [← knots_len2, hr3, heightK_len (by omega)]
      refine ⟨⟨by omega, by omega⟩, ⟨h5, by omega⟩, fun n _ _ e => ?_⟩
      subst e
      exact ⟨⟨by omega, by omega⟩, ⟨by omega, by omega⟩, ⟨by omega, by omega⟩, by omega, fun v2 => ⟨⟨by omega, by omega⟩, v2, _, ⟨rfl, (riseK_succ hk').symm⟩, by rw [knots_app, hr3, heightK_succ hk']; rfl⟩⟩
    · obtain ⟨u3, r3, rfl, hr3⟩ := hI
      rw [hρx]
      unfold thgt3
      simp only [VC, allC, List.map_cons, List.map_nil, List.length_cons, List.length_nil, List.getElem?_cons_zero, List.getElem?_cons_succ, List.cons.injEq, C.i.injEq, C.b.injEq, and_true, true_and, forall_const, kindsOf_nil, kindsOf_lf, kindsOf_agg, kindsOf_box, boxKinds_nil, boxKinds_lf, boxKinds_agg, boxKinds_box, List.append_nil, List.cons_append, List.nil_append, den_cmp_le, den_cmp_lt, den_cmp_eq, den_cmp_ne, den_cmp_le', den_cmp_lt', den_cmp_eq', den_cmp_ne', den_and, den_and', den_or, den_or', den_not, den_not', den_blit, den_of, ev_var, at_0, at_1, at_2, at_3, at_4, at_5, at_6, at_7, at_skip, c_int, c_bool, c_arr, c_cnt, c_vec, ev_nil, ev_join, ev_sub3, loc_s, int_i, bool_b, rows_s, cs_nil, cs_cons, E.den_lit, E.den_var, E.den_add, E.den_sub, E.den_mul, E.den_quo, E.den_rem, E.den_max, E.den_min, E.den_len, E.den_wr, E.den_cell]
      have hle : (placesIt.els [C.s v rows]).length = (segsOf rows).length := by simp [placesIt, placeEls, at_, C.rows]
      rw [hle] at hr3
      exact ⟨u3, r3, rfl, by rw [hr3]; unfold heightK; rw [List.take_length]; exact (heightV_yes hp).symm⟩
  · intro x st' T' Γ' Ls' hx hk' he hlen' hv' a' w' hs'
    exact hk x st' T' Γ' Ls' hk' he List.nil_prefix hlen' hv' a' w' hs'
end Go.Proofs.Ytmdmgpikbebejaa
/- Kill: what each function computes: moments. -/
namespace Go.Proofs.Ytmdmgpikbebejaa
set_option linter.unusedVariables false

/-- A job: a well, a program, a kick. -/
structure Jb where
  w : Wl
  p : Pg
  k : Bb
def jobOf (cs : List C) (i : Nat) : Jb := ⟨wellOf cs i, progOf cs (i + 6), bubOf cs (i + 10)⟩
def jobV (j : Jb) : Int := orE (wellV j.w) (orE (progV j.p) (kickV j.k))
/-- The job's arguments are valid; its line and its room are those of the hole. -/
def JobOK (cs : List C) (i : Nat) : Prop := jobV (jobOf cs i) = 0 ∧ k_ cs (i + 12) = heightV (jobOf cs i).w.segs ∧ n_ cs (i + 13) = volV (jobOf cs i).w.segs
def htV (l : List Sg) (u : Int) : Kn := atV (heightV l) u
def lessK (a b : Kn) : Kn := (max 0 (a.1 - b.2), max 0 (a.2 - b.1))
def underK (a : Kn) (w : Int) (h : Kn) : Kn := (a.1 - w * h.2, a.2 - w * h.1)
def minusK (a : Kn) (n : Int) : Kn := (max 0 (a.1 - n), max 0 (a.2 - n))
def gasK (k : Bb) (p : Kn) : Kn := (k.vol * k.pore / max 1 p.2, (k.vol * k.pore + max 1 p.1 - 1) / max 1 p.1)
def spanK (a b : Kn) : Kn := (a.1, b.2)
def mudV (j : Jb) (m : Int) : Int := if j.p.kind = 2 then max 0 (min m (volV j.w.segs) - j.w.pipe) else 0
def downV (j : Jb) (b c u : Int) : Kn := if u ≤ c then underK (b, b) j.p.weight (htV j.w.segs u) else underK (underK (b, b) j.p.weight (htV j.w.segs c)) j.w.weight (lessK (htV j.w.segs u) (htV j.w.segs c))
/-- A moment. -/
structure Mo where
  pumped : Int
  gas : Kn
  base : Kn
  surf : Kn
  pts : List Kn
def baseV (j : Jb) (m b : Int) : Kn := downV j b (mudV j m) m
def rgasV (j : Jb) (m b : Int) : Kn := gasK j.k (baseV j m b)
def rtopV (j : Jb) (m b : Int) : Kn := spanK (htV j.w.segs (m + (rgasV j m b).1)) (htV j.w.segs (m + (rgasV j m b).2))
def ratV (j : Jb) (m b u : Int) : Kn := if u ≤ m then downV j b (mudV j m) u else underK (baseV j m b) j.w.weight (lessK (htV j.w.segs u) (rtopV j m b))
def risingV (j : Jb) (m b : Int) : Mo := ⟨m, rgasV j m b, baseV j m b, underK (baseV j m b) j.w.weight (lessK (htV j.w.segs (volV j.w.segs)) (rtopV j m b)), j.w.points.map fun p => ratV j m b p.1⟩
def pgasV (j : Jb) (m b : Int) : Kn := minusK (gasK j.k (b, b)) m
def edgeV (j : Jb) (m : Int) : Int := max 0 (volV j.w.segs - m)
def ptopV (j : Jb) (m b : Int) : Kn := spanK (htV j.w.segs (pgasV j m b).1) (htV j.w.segs (pgasV j m b).2)
def patV (j : Jb) (m b u : Int) : Kn := underK (underK (b, b) j.w.weight (lessK (htV j.w.segs (min u (edgeV j m))) (ptopV j m b))) j.p.weight (lessK (htV j.w.segs u) (htV j.w.segs (edgeV j m)))
def pushedV (j : Jb) (m b : Int) : Mo := ⟨m, pgasV j m b, (b, b), patV j m b (volV j.w.segs), j.w.points.map fun p => patV j m b p.1⟩
def momentV (j : Jb) (step err : Int) : Mo := if j.p.kind = 3 then pushedV j (step * j.w.step) (botV j.p j.k err) else risingV j (step * j.w.step) (botV j.p j.k err)
def overV (j : Jb) (x : Mo) : Bool := if j.p.kind = 3 then x.gas.2 == 0 else decide (volV j.w.segs ≤ x.pumped + x.gas.2)

/-- Sizes that the numbers of a job have. -/
def BOK (b : Int) : Prop := 1 ≤ b ∧ b ≤ 68719476736
def MOK (m : Int) : Prop := 0 ≤ m ∧ m ≤ 4398046511104
def KnOK (a : Kn) : Prop := -1099511627776 ≤ a.1 ∧ a.1 ≤ 1099511627776 ∧ -1099511627776 ≤ a.2 ∧ a.2 ≤ 1099511627776
def kn_ (cs : List C) (i : Nat) : Kn := (n_ cs i, n_ cs (i + 1))
def HtOK (h : Kn) : Prop := 0 ≤ h.1 ∧ h.1 ≤ 1048576 ∧ 0 ≤ h.2 ∧ h.2 ≤ 1048576
def WtOK (w : Int) : Prop := 0 ≤ w ∧ w ≤ 40000
def GOK (a : Kn) : Prop := 0 ≤ a.1 ∧ a.1 ≤ 1152921504606846976 ∧ 0 ≤ a.2 ∧ a.2 ≤ 1152921504606846976
def ctLess : Ct := ctF [rangeSh, rangeSh] [rangeSh] (fun cs => HtOK (kn_ cs 0) ∧ HtOK (kn_ cs 2)) (fun cs => ofKn (lessK (kn_ cs 0) (kn_ cs 2)))
def ctUnder : Ct := ctF [rangeSh, .lf .int, rangeSh] [rangeSh] (fun cs => KnOK (kn_ cs 0) ∧ WtOK (n_ cs 2) ∧ HtOK (kn_ cs 3)) (fun cs => ofKn (underK (kn_ cs 0) (n_ cs 2) (kn_ cs 3)))
def ctJoin : Ct := ctF [rangeSh, rangeSh] [rangeSh] (fun _ => True) (fun cs => ofKn (spanK (kn_ cs 0) (kn_ cs 2)))
def ctExact : Ct := ctF [.lf .int] [rangeSh] (fun _ => True) (fun cs => ofKn (n_ cs 0, n_ cs 0))
def ctMinus : Ct := ctF [rangeSh, .lf .int] [rangeSh] (fun cs => GOK (kn_ cs 0) ∧ MOK (n_ cs 2)) (fun cs => ofKn (minusK (kn_ cs 0) (n_ cs 2)))
def ctJHeight : Ct := ctF [jobSh, .lf .int] [rangeSh] (fun _ => True) (fun cs => ofKn (atV (k_ cs 12) (n_ cs 14)))
def ctMud : Ct := ctF [jobSh, .lf .int] [.lf .int] (fun cs => JobOK cs 0 ∧ MOK (n_ cs 14)) (fun cs => [.i (mudV (jobOf cs 0) (n_ cs 14))])
def ctGas : Ct := ctF [jobSh, rangeSh] [rangeSh] (fun cs => JobOK cs 0 ∧ KnOK (kn_ cs 14)) (fun cs => ofKn (gasK (bubOf cs 10) (kn_ cs 14)))
def ctDown : Ct := ctF [jobSh, .lf .int, .lf .int, .lf .int] [rangeSh] (fun cs => JobOK cs 0 ∧ BOK (n_ cs 14)) (fun cs => ofKn (downV (jobOf cs 0) (n_ cs 14) (n_ cs 15) (n_ cs 16)))
def momKs : List Lk := [.int, .int, .int, .int, .int, .int, .int, .vec 49]
def momSh : Sh0 := .agg momKs
def momASh : Sh0 := .agg [.int, .int, .int, .int, .int, .int, .int, .arr 49]
def momOf (cs : List C) (i : Nat) : Mo := ⟨n_ cs i, kn_ cs (i + 1), kn_ cs (i + 3), kn_ cs (i + 5), k_ cs (i + 7)⟩
/-- These cells are a moment. -/
def IsMo (x : Mo) (rs : List C) : Prop := ∃ v rows, rs = [.i x.pumped, .i x.gas.1, .i x.gas.2, .i x.base.1, .i x.base.2, .i x.surf.1, .i x.surf.2, .s v rows] ∧ knots rows = x.pts
def ctRising : Ct := ⟨[jobSh, .lf .int, .lf .int], [momSh], fun cs => JobOK cs 0 ∧ MOK (n_ cs 14) ∧ BOK (n_ cs 15), fun cs rs => IsMo (risingV (jobOf cs 0) (n_ cs 14) (n_ cs 15)) rs, false⟩
def ctPushed : Ct := ⟨[jobSh, .lf .int, .lf .int], [momSh], fun cs => JobOK cs 0 ∧ MOK (n_ cs 14) ∧ BOK (n_ cs 15), fun cs rs => IsMo (pushedV (jobOf cs 0) (n_ cs 14) (n_ cs 15)) rs, false⟩
def StepOK (s : Int) : Prop := 0 ≤ s ∧ s ≤ 400
def ErrOK (e : Int) : Prop := -1 ≤ e ∧ e ≤ 1
def ctMoment : Ct := ⟨[jobSh, .lf .int, .lf .int], [momSh], fun cs => JobOK cs 0 ∧ StepOK (n_ cs 14) ∧ ErrOK (n_ cs 15), fun cs rs => IsMo (momentV (jobOf cs 0) (n_ cs 14) (n_ cs 15)) rs, false⟩
def ctOver : Ct := ctF [jobSh, momASh] [.lf .bool] (fun cs => JobOK cs 0 ∧ 0 ≤ n_ cs 14 ∧ n_ cs 14 ≤ 4398046511104 ∧ 0 ≤ n_ cs 16 ∧ n_ cs 16 ≤ 1152921504606846976) (fun cs => [.b (overV (jobOf cs 0) (momOf cs 14))])
def ctCheckJ : Ct := ctF [wellSh, progSh, bubSh] [.lf .int] (fun _ => True) (fun cs => [.i (jobV (jobOf cs 0))])
def noMo : Mo := ⟨0, (0, 0), (0, 0), (0, 0), []⟩
def atMo (j : Jb) (step err : Int) : Mo := if jobV j = 0 ∧ 0 ≤ step ∧ step ≤ 400 ∧ -1 ≤ err ∧ err ≤ 1 then momentV j step err else noMo
def atE (j : Jb) (step err : Int) : Int := if jobV j = 0 then (if 0 ≤ step ∧ step ≤ 400 ∧ -1 ≤ err ∧ err ≤ 1 then 0 else 2) else jobV j
def ctAtK : Ct := ⟨[wellSh, progSh, bubSh, .lf .int, .lf .int], [momSh, .lf .int], fun _ => True, fun cs rs => ∃ r1 r2, rs = r1 ++ [r2] ∧ IsMo (atMo (jobOf cs 0) (n_ cs 12) (n_ cs 13)) r1 ∧ r2 = .i (atE (jobOf cs 0) (n_ cs 12) (n_ cs 13)), false⟩
def tab3 : Tab where
  ct := fun f => match f with
    | 75 => some ctJHeight
    | 72 => some ctMud
    | 74 => some ctGas
    | 73 => some ctDown
    | 59 => some ctRising
    | 60 => some ctPushed
    | 50 => some ctMoment
    | 70 => some ctOver
    | 79 => some ctLess
    | 78 => some ctUnder
    | 76 => some ctJoin
    | 80 => some ctExact
    | 81 => some ctMinus
    | 48 => some ctCheckJ
    | 27 => some ctAtK
    | f => tab2.ct f
  inl := tab2.inl
  sel := tab2.sel
theorem up3_ok {f : Nat} (h : tab2.ok f) (he : tab3.ct f = tab2.ct f := by rfl) : tab3.ok f :=
  ⟨h.1, fun ct hc => h.2.1 ct (he ▸ hc), h.2.2.1, h.2.2.2⟩
end Go.Proofs.Ytmdmgpikbebejaa
/- What is to be shown of each function, as the executor has it. Printed by trees.py. -/
namespace Go.Proofs.Ytmdmgpikbebejaa
noncomputable def flris : List (Nat × Func) := [(77, Try.f77)]
theorem fxris : ∀ p ∈ flris, FnOK p := fns_cons ⟨Try.func77, ⟨_, Try.func77, by decide, rfl⟩⟩ (fns_nil)
noncomputable def cris : Cx := tab3.only [75, 72, 74, 73, 78, 79, 76] (fun r => match r with
  | 8 => [.blk 8]
  | 50010 => [.blk 8, .vec 39]
  | 50012 => [.blk 8]
  | _ => []) flris 1 [] (fun _ => none)
def tris_1 : Tree :=
  (.arr [[(.int (.var 40)), (.int (.var 41))]] (.ob (.cmp .le (.mul (.add (.len (.var 39)) (.len (.var 42))) (.lit 16)) (.lit 140737488355328)) (.cat (.var 39) (.var 42) (.back 0 [(.int (.add (.var 31) (.lit 1))), (.int (.var 32)), (.int (.var 33)), (.int (.var 34)), (.int (.var 35)), (.int (.var 36)), (.int (.var 37)), (.int (.var 38)), (.cnt 49 (.var 43))]))))
def tris_2 : Tree :=
  (.arr [[(.int (.var 44)), (.int (.var 45))]] (.ob (.cmp .le (.mul (.add (.len (.var 39)) (.len (.var 46))) (.lit 16)) (.lit 140737488355328)) (.cat (.var 39) (.var 46) (.back 0 [(.int (.add (.var 31) (.lit 1))), (.int (.var 32)), (.int (.var 33)), (.int (.var 34)), (.int (.var 35)), (.int (.var 36)), (.int (.var 37)), (.int (.var 38)), (.cnt 49 (.var 47))]))))
def tris_3 : Tree :=
  (.call 78 [(.int (.var 18)), (.int (.var 19)), (.int (.var 1)), (.int (.var 42)), (.int (.var 43))] (.ret [(.int (.var 32)), (.int (.var 33)), (.int (.var 34)), (.int (.var 35)), (.int (.var 36)), (.int (.var 44)), (.int (.var 45)), (.cnt 49 (.var 39))]))
def tris_4 : Tree :=
  (.arr [] (.dfn .nil (.dfn .nil (.loop [.int, .int, .int, .int, .int, .int, .int, .int, (.vec 49)] [(.int (.lit 0)), (.int (.var 14)), (.int (.var 20)), (.int (.var 21)), (.int (.var 18)), (.int (.var 19)), (.int (.lit 0)), (.int (.lit 0)), (.cnt 49 (.var 29))] (.split (.cmp .lt (.var 31) (.len (.var 2))) (.ob (.cmp .le (.lit 0) (.var 31)) (.ob (.cmp .lt (.var 31) (.len (.var 2))) (.split (.cmp .le (.cell (.var 2) (.var 31) 0) (.var 14)) (.call 73 [(.arr 97 (.var 0)), (.int (.var 1)), (.arr 70 (.var 2)), (.int (.var 3)), (.int (.var 4)), (.int (.var 5)), (.int (.var 6)), (.int (.var 7)), (.int (.var 8)), (.int (.var 9)), (.int (.var 10)), (.int (.var 11)), (.arr 70 (.var 12)), (.int (.var 13)), (.int (.var 15)), (.int (.var 17)), (.int (.cell (.var 2) (.var 31) 0))] tris_1) (.call 75 [(.arr 97 (.var 0)), (.int (.var 1)), (.arr 70 (.var 2)), (.int (.var 3)), (.int (.var 4)), (.int (.var 5)), (.int (.var 6)), (.int (.var 7)), (.int (.var 8)), (.int (.var 9)), (.int (.var 10)), (.int (.var 11)), (.arr 70 (.var 12)), (.int (.var 13)), (.int (.cell (.var 2) (.var 31) 0))] (.call 79 [(.int (.var 40)), (.int (.var 41)), (.int (.var 26)), (.int (.var 27))] (.call 78 [(.int (.var 18)), (.int (.var 19)), (.int (.var 1)), (.int (.var 42)), (.int (.var 43))] tris_2)))))) (.call 75 [(.arr 97 (.var 0)), (.int (.var 1)), (.arr 70 (.var 2)), (.int (.var 3)), (.int (.var 4)), (.int (.var 5)), (.int (.var 6)), (.int (.var 7)), (.int (.var 8)), (.int (.var 9)), (.int (.var 10)), (.int (.var 11)), (.arr 70 (.var 12)), (.int (.var 13)), (.int (.var 13))] (.call 79 [(.int (.var 40)), (.int (.var 41)), (.int (.var 26)), (.int (.var 27))] tris_3)))))))
def tris_5 : Tree :=
  (.ob (.and (.cmp .le (.lit (-9223372036854775808)) (.add (.var 14) (.var 21))) (.cmp .le (.add (.var 14) (.var 21)) (.lit 9223372036854775807))) (.ob (.and (.cmp .le (.lit (-9223372036854775808)) (.add (.var 14) (.var 21))) (.cmp .le (.add (.var 14) (.var 21)) (.lit 9223372036854775807))) (.call 75 [(.arr 97 (.var 0)), (.int (.var 1)), (.arr 70 (.var 2)), (.int (.var 3)), (.int (.var 4)), (.int (.var 5)), (.int (.var 6)), (.int (.var 7)), (.int (.var 8)), (.int (.var 9)), (.int (.var 10)), (.int (.var 11)), (.arr 70 (.var 12)), (.int (.var 13)), (.int (.add (.var 14) (.var 21)))] (.call 76 [(.int (.var 22)), (.int (.var 23)), (.int (.var 24)), (.int (.var 25))] tris_4))))
def tris_6 : Tree :=
  (.ob (.and (.cmp .le (.lit (-9223372036854775808)) (.add (.var 14) (.var 20))) (.cmp .le (.add (.var 14) (.var 20)) (.lit 9223372036854775807))) (.ob (.and (.cmp .le (.lit (-9223372036854775808)) (.add (.var 14) (.var 20))) (.cmp .le (.add (.var 14) (.var 20)) (.lit 9223372036854775807))) (.call 75 [(.arr 97 (.var 0)), (.int (.var 1)), (.arr 70 (.var 2)), (.int (.var 3)), (.int (.var 4)), (.int (.var 5)), (.int (.var 6)), (.int (.var 7)), (.int (.var 8)), (.int (.var 9)), (.int (.var 10)), (.int (.var 11)), (.arr 70 (.var 12)), (.int (.var 13)), (.int (.add (.var 14) (.var 20)))] tris_5)))
def tris_7 : Tree :=
  (.call 74 [(.arr 97 (.var 0)), (.int (.var 1)), (.arr 70 (.var 2)), (.int (.var 3)), (.int (.var 4)), (.int (.var 5)), (.int (.var 6)), (.int (.var 7)), (.int (.var 8)), (.int (.var 9)), (.int (.var 10)), (.int (.var 11)), (.arr 70 (.var 12)), (.int (.var 13)), (.int (.var 18)), (.int (.var 19))] tris_6)
def tris_8 : Tree :=
  (.call 73 [(.arr 97 (.var 0)), (.int (.var 1)), (.arr 70 (.var 2)), (.int (.var 3)), (.int (.var 4)), (.int (.var 5)), (.int (.var 6)), (.int (.var 7)), (.int (.var 8)), (.int (.var 9)), (.int (.var 10)), (.int (.var 11)), (.arr 70 (.var 12)), (.int (.var 13)), (.int (.var 15)), (.int (.var 17)), (.int (.var 14))] tris_7)
def tris : Tree :=
  (.dfn .nil (.call 72 [(.arr 97 (.var 0)), (.int (.var 1)), (.arr 70 (.var 2)), (.int (.var 3)), (.int (.var 4)), (.int (.var 5)), (.int (.var 6)), (.int (.var 7)), (.int (.var 8)), (.int (.var 9)), (.int (.var 10)), (.int (.var 11)), (.arr 70 (.var 12)), (.int (.var 13)), (.int (.var 14))] tris_8))
noncomputable def flpsh : List (Nat × Func) := [(82, Try.f82)]
theorem fxpsh : ∀ p ∈ flpsh, FnOK p := fns_cons ⟨Try.func82, ⟨_, Try.func82, by decide, rfl⟩⟩ (fns_nil)
noncomputable def cpsh : Cx := tab3.only [75, 74, 80, 78, 79, 76, 81] (fun r => match r with
  | 80046 => [.blk 0]
  | 70011 => [.blk 0]
  | 7 => [.blk 6]
  | 50009 => [.blk 6, .vec 57]
  | _ => []) flpsh 1 [] (fun _ => none)
def tpsh_1 : Tree :=
  (.arr [[(.int (.var 72)), (.int (.var 73))]] (.ob (.cmp .le (.mul (.add (.len (.var 57)) (.len (.var 74))) (.lit 16)) (.lit 140737488355328)) (.cat (.var 57) (.var 74) (.back 0 [(.int (.add (.var 49) (.lit 1))), (.int (.var 50)), (.int (.var 51)), (.int (.var 52)), (.int (.var 53)), (.int (.var 54)), (.int (.var 55)), (.int (.var 56)), (.cnt 49 (.var 75))]))))
def tpsh_2 : Tree :=
  (.ob (.and (.cmp .le (.lit (-9223372036854775808)) (.max (.lit 0) (.sub (.var 13) (.var 14)))) (.cmp .le (.max (.lit 0) (.sub (.var 13) (.var 14))) (.lit 9223372036854775807))) (.call 75 [(.arr 97 (.var 0)), (.int (.var 1)), (.arr 70 (.var 2)), (.int (.var 3)), (.int (.var 4)), (.int (.var 5)), (.int (.var 6)), (.int (.var 7)), (.int (.var 8)), (.int (.var 9)), (.int (.var 10)), (.int (.var 11)), (.arr 70 (.var 12)), (.int (.var 13)), (.int (.max (.lit 0) (.sub (.var 13) (.var 14))))] (.call 79 [(.int (.var 66)), (.int (.var 67)), (.int (.var 68)), (.int (.var 69))] (.call 78 [(.int (.var 64)), (.int (.var 65)), (.int (.var 7)), (.int (.var 70)), (.int (.var 71))] tpsh_1))))
def tpsh_3 : Tree :=
  (.call 75 [(.arr 97 (.var 0)), (.int (.var 1)), (.arr 70 (.var 2)), (.int (.var 3)), (.int (.var 4)), (.int (.var 5)), (.int (.var 6)), (.int (.var 7)), (.int (.var 8)), (.int (.var 9)), (.int (.var 10)), (.int (.var 11)), (.arr 70 (.var 12)), (.int (.var 13)), (.int (.cell (.var 2) (.var 49) 0))] tpsh_2)
def tpsh_4 : Tree :=
  (.call 79 [(.int (.var 58)), (.int (.var 59)), (.int (.var 27)), (.int (.var 28))] (.call 80 [(.int (.var 15))] (.call 78 [(.int (.var 62)), (.int (.var 63)), (.int (.var 1)), (.int (.var 60)), (.int (.var 61))] tpsh_3)))
def tpsh_5 : Tree :=
  (.dfn .nil (.loop [.int, .int, .int, .int, .int, .int, .int, .int, (.vec 49)] [(.int (.lit 0)), (.int (.var 14)), (.int (.var 21)), (.int (.var 22)), (.int (.var 30)), (.int (.var 31)), (.int (.var 46)), (.int (.var 47)), (.cnt 49 (.var 48))] (.split (.cmp .lt (.var 49) (.len (.var 2))) (.ob (.cmp .le (.lit 0) (.var 49)) (.ob (.cmp .lt (.var 49) (.len (.var 2))) (.call 75 [(.arr 97 (.var 0)), (.int (.var 1)), (.arr 70 (.var 2)), (.int (.var 3)), (.int (.var 4)), (.int (.var 5)), (.int (.var 6)), (.int (.var 7)), (.int (.var 8)), (.int (.var 9)), (.int (.var 10)), (.int (.var 11)), (.arr 70 (.var 12)), (.int (.var 13)), (.int (.min (.cell (.var 2) (.var 49) 0) (.max (.lit 0) (.sub (.var 13) (.var 14)))))] tpsh_4))) (.ret [(.int (.var 50)), (.int (.var 51)), (.int (.var 52)), (.int (.var 53)), (.int (.var 54)), (.int (.var 55)), (.int (.var 56)), (.cnt 49 (.var 57))]))))
def tpsh_6 : Tree :=
  (.ob (.and (.cmp .le (.lit (-9223372036854775808)) (.max (.lit 0) (.sub (.var 13) (.var 14)))) (.cmp .le (.max (.lit 0) (.sub (.var 13) (.var 14))) (.lit 9223372036854775807))) (.call 75 [(.arr 97 (.var 0)), (.int (.var 1)), (.arr 70 (.var 2)), (.int (.var 3)), (.int (.var 4)), (.int (.var 5)), (.int (.var 6)), (.int (.var 7)), (.int (.var 8)), (.int (.var 9)), (.int (.var 10)), (.int (.var 11)), (.arr 70 (.var 12)), (.int (.var 13)), (.int (.max (.lit 0) (.sub (.var 13) (.var 14))))] (.call 79 [(.int (.var 40)), (.int (.var 41)), (.int (.var 42)), (.int (.var 43))] (.call 78 [(.int (.var 38)), (.int (.var 39)), (.int (.var 7)), (.int (.var 44)), (.int (.var 45))] tpsh_5))))
def tpsh_7 : Tree :=
  (.call 75 [(.arr 97 (.var 0)), (.int (.var 1)), (.arr 70 (.var 2)), (.int (.var 3)), (.int (.var 4)), (.int (.var 5)), (.int (.var 6)), (.int (.var 7)), (.int (.var 8)), (.int (.var 9)), (.int (.var 10)), (.int (.var 11)), (.arr 70 (.var 12)), (.int (.var 13)), (.int (.var 13))] tpsh_6)
def tpsh_8 : Tree :=
  (.call 79 [(.int (.var 32)), (.int (.var 33)), (.int (.var 27)), (.int (.var 28))] (.call 80 [(.int (.var 15))] (.call 78 [(.int (.var 36)), (.int (.var 37)), (.int (.var 1)), (.int (.var 34)), (.int (.var 35))] tpsh_7)))
def tpsh_9 : Tree :=
  (.call 75 [(.arr 97 (.var 0)), (.int (.var 1)), (.arr 70 (.var 2)), (.int (.var 3)), (.int (.var 4)), (.int (.var 5)), (.int (.var 6)), (.int (.var 7)), (.int (.var 8)), (.int (.var 9)), (.int (.var 10)), (.int (.var 11)), (.arr 70 (.var 12)), (.int (.var 13)), (.int (.min (.var 13) (.max (.lit 0) (.sub (.var 13) (.var 14)))))] tpsh_8)
def tpsh_10 : Tree :=
  (.call 75 [(.arr 97 (.var 0)), (.int (.var 1)), (.arr 70 (.var 2)), (.int (.var 3)), (.int (.var 4)), (.int (.var 5)), (.int (.var 6)), (.int (.var 7)), (.int (.var 8)), (.int (.var 9)), (.int (.var 10)), (.int (.var 11)), (.arr 70 (.var 12)), (.int (.var 13)), (.int (.var 22))] (.call 76 [(.int (.var 23)), (.int (.var 24)), (.int (.var 25)), (.int (.var 26))] (.arr [] (.call 80 [(.int (.var 15))] tpsh_9))))
def tpsh_11 : Tree :=
  (.ob (.and (.cmp .le (.lit (-9223372036854775808)) (.sub (.var 13) (.var 14))) (.cmp .le (.sub (.var 13) (.var 14)) (.lit 9223372036854775807))) (.call 75 [(.arr 97 (.var 0)), (.int (.var 1)), (.arr 70 (.var 2)), (.int (.var 3)), (.int (.var 4)), (.int (.var 5)), (.int (.var 6)), (.int (.var 7)), (.int (.var 8)), (.int (.var 9)), (.int (.var 10)), (.int (.var 11)), (.arr 70 (.var 12)), (.int (.var 13)), (.int (.var 21))] tpsh_10))
def tpsh_12 : Tree :=
  (.call 74 [(.arr 97 (.var 0)), (.int (.var 1)), (.arr 70 (.var 2)), (.int (.var 3)), (.int (.var 4)), (.int (.var 5)), (.int (.var 6)), (.int (.var 7)), (.int (.var 8)), (.int (.var 9)), (.int (.var 10)), (.int (.var 11)), (.arr 70 (.var 12)), (.int (.var 13)), (.int (.var 17)), (.int (.var 18))] (.call 81 [(.int (.var 19)), (.int (.var 20)), (.int (.var 14))] tpsh_11))
def tpsh : Tree :=
  (.dfn .nil (.call 80 [(.int (.var 15))] tpsh_12))
end Go.Proofs.Ytmdmgpikbebejaa
/- What is to be shown of each function, as the executor has it. Printed by trees.py. -/
namespace Go.Proofs.Ytmdmgpikbebejaa
noncomputable def cless : Cx := tab3.only [] (fun _ => []) [] 0 [] (fun _ => none)
def tless : Tree :=
  (.ob (.and (.cmp .le (.lit (-9223372036854775808)) (.sub (.var 0) (.var 3))) (.cmp .le (.sub (.var 0) (.var 3)) (.lit 9223372036854775807))) (.ob (.and (.cmp .le (.lit (-9223372036854775808)) (.sub (.var 1) (.var 2))) (.cmp .le (.sub (.var 1) (.var 2)) (.lit 9223372036854775807))) (.ob (.and (.cmp .le (.lit (-9223372036854775808)) (.max (.lit 0) (.sub (.var 0) (.var 3)))) (.cmp .le (.max (.lit 0) (.sub (.var 0) (.var 3))) (.lit 9223372036854775807))) (.ob (.and (.cmp .le (.lit (-9223372036854775808)) (.max (.lit 0) (.sub (.var 1) (.var 2)))) (.cmp .le (.max (.lit 0) (.sub (.var 1) (.var 2))) (.lit 9223372036854775807))) (.ret [(.int (.max (.lit 0) (.sub (.var 0) (.var 3)))), (.int (.max (.lit 0) (.sub (.var 1) (.var 2))))])))))
noncomputable def cunder : Cx := tab3.only [] (fun _ => []) [] 0 [] (fun _ => none)
def tunder : Tree :=
  (.ob (.and (.cmp .le (.lit (-9223372036854775808)) (.mul (.var 2) (.var 4))) (.cmp .le (.mul (.var 2) (.var 4)) (.lit 9223372036854775807))) (.ob (.and (.cmp .le (.lit (-9223372036854775808)) (.sub (.var 0) (.mul (.var 2) (.var 4)))) (.cmp .le (.sub (.var 0) (.mul (.var 2) (.var 4))) (.lit 9223372036854775807))) (.ob (.and (.cmp .le (.lit (-9223372036854775808)) (.mul (.var 2) (.var 3))) (.cmp .le (.mul (.var 2) (.var 3)) (.lit 9223372036854775807))) (.ob (.and (.cmp .le (.lit (-9223372036854775808)) (.sub (.var 1) (.mul (.var 2) (.var 3)))) (.cmp .le (.sub (.var 1) (.mul (.var 2) (.var 3))) (.lit 9223372036854775807))) (.ob (.and (.cmp .le (.lit (-9223372036854775808)) (.sub (.var 0) (.mul (.var 2) (.var 4)))) (.cmp .le (.sub (.var 0) (.mul (.var 2) (.var 4))) (.lit 9223372036854775807))) (.ob (.and (.cmp .le (.lit (-9223372036854775808)) (.sub (.var 1) (.mul (.var 2) (.var 3)))) (.cmp .le (.sub (.var 1) (.mul (.var 2) (.var 3))) (.lit 9223372036854775807))) (.ret [(.int (.sub (.var 0) (.mul (.var 2) (.var 4)))), (.int (.sub (.var 1) (.mul (.var 2) (.var 3))))])))))))
noncomputable def cjoin : Cx := tab3.only [] (fun _ => []) [] 0 [] (fun _ => none)
def tjoin : Tree :=
  (.ret [(.int (.var 0)), (.int (.var 3))])
noncomputable def cexact : Cx := tab3.only [] (fun _ => []) [] 0 [] (fun _ => none)
def texact : Tree :=
  (.ret [(.int (.var 0)), (.int (.var 0))])
noncomputable def cminus : Cx := tab3.only [] (fun _ => []) [] 0 [] (fun _ => none)
def tminus : Tree :=
  (.ob (.and (.cmp .le (.lit (-9223372036854775808)) (.sub (.var 0) (.var 2))) (.cmp .le (.sub (.var 0) (.var 2)) (.lit 9223372036854775807))) (.ob (.and (.cmp .le (.lit (-9223372036854775808)) (.sub (.var 1) (.var 2))) (.cmp .le (.sub (.var 1) (.var 2)) (.lit 9223372036854775807))) (.ob (.and (.cmp .le (.lit (-9223372036854775808)) (.max (.lit 0) (.sub (.var 0) (.var 2)))) (.cmp .le (.max (.lit 0) (.sub (.var 0) (.var 2))) (.lit 9223372036854775807))) (.ob (.and (.cmp .le (.lit (-9223372036854775808)) (.max (.lit 0) (.sub (.var 1) (.var 2)))) (.cmp .le (.max (.lit 0) (.sub (.var 1) (.var 2))) (.lit 9223372036854775807))) (.ret [(.int (.max (.lit 0) (.sub (.var 0) (.var 2)))), (.int (.max (.lit 0) (.sub (.var 1) (.var 2))))])))))
noncomputable def cjht : Cx := tab3.only [86] (fun _ => []) [] 0 [] (fun _ => none)
def tjht : Tree :=
  (.call 86 [(.arr 70 (.var 12)), (.int (.var 14))] (.ret [(.int (.var 15)), (.int (.var 16))]))
noncomputable def flmud : List (Nat × Func) := [(44, Try.f44)]
theorem fxmud : ∀ p ∈ flmud, FnOK p := fns_cons ⟨Try.func44, ⟨_, Try.func44, by decide, rfl⟩⟩ (fns_nil)
noncomputable def cmud : Cx := tab3.only [] (fun _ => []) flmud 1 [] (fun _ => none)
def tmud : Tree :=
  (.split (.cmp .eq (.var 6) (.lit 1)) (.ret [(.int (.lit 0))]) (.split (.cmp .eq (.var 6) (.lit 2)) (.ob (.and (.cmp .le (.lit (-9223372036854775808)) (.sub (.min (.var 14) (.var 13)) (.var 4))) (.cmp .le (.sub (.min (.var 14) (.var 13)) (.var 4)) (.lit 9223372036854775807))) (.ob (.and (.cmp .le (.lit (-9223372036854775808)) (.max (.lit 0) (.sub (.min (.var 14) (.var 13)) (.var 4)))) (.cmp .le (.max (.lit 0) (.sub (.min (.var 14) (.var 13)) (.var 4))) (.lit 9223372036854775807))) (.ret [(.int (.max (.lit 0) (.sub (.min (.var 14) (.var 13)) (.var 4))))]))) (.split (.cmp .eq (.var 6) (.lit 3)) (.ret [(.int (.lit 0))]) (.ret [(.int (.lit 0))]))))
noncomputable def cjgas : Cx := tab3.only [] (fun _ => []) [] 0 [] (fun _ => none)
def tjgas : Tree :=
  (.ob (.and (.cmp .le (.lit (-9223372036854775808)) (.mul (.var 10) (.var 11))) (.cmp .le (.mul (.var 10) (.var 11)) (.lit 9223372036854775807))) (.ob (.and (.cmp .le (.lit (-9223372036854775808)) (.quo (.mul (.var 10) (.var 11)) (.max (.lit 1) (.var 15)))) (.cmp .le (.quo (.mul (.var 10) (.var 11)) (.max (.lit 1) (.var 15))) (.lit 9223372036854775807))) (.ob (.and (.cmp .le (.lit (-9223372036854775808)) (.add (.mul (.var 10) (.var 11)) (.max (.lit 1) (.var 14)))) (.cmp .le (.add (.mul (.var 10) (.var 11)) (.max (.lit 1) (.var 14))) (.lit 9223372036854775807))) (.ob (.and (.cmp .le (.lit (-9223372036854775808)) (.sub (.add (.mul (.var 10) (.var 11)) (.max (.lit 1) (.var 14))) (.lit 1))) (.cmp .le (.sub (.add (.mul (.var 10) (.var 11)) (.max (.lit 1) (.var 14))) (.lit 1)) (.lit 9223372036854775807))) (.ob (.and (.cmp .le (.lit (-9223372036854775808)) (.quo (.sub (.add (.mul (.var 10) (.var 11)) (.max (.lit 1) (.var 14))) (.lit 1)) (.max (.lit 1) (.var 14)))) (.cmp .le (.quo (.sub (.add (.mul (.var 10) (.var 11)) (.max (.lit 1) (.var 14))) (.lit 1)) (.max (.lit 1) (.var 14))) (.lit 9223372036854775807))) (.ob (.and (.cmp .le (.lit (-9223372036854775808)) (.quo (.mul (.var 10) (.var 11)) (.max (.lit 1) (.var 15)))) (.cmp .le (.quo (.mul (.var 10) (.var 11)) (.max (.lit 1) (.var 15))) (.lit 9223372036854775807))) (.ob (.and (.cmp .le (.lit (-9223372036854775808)) (.quo (.sub (.add (.mul (.var 10) (.var 11)) (.max (.lit 1) (.var 14))) (.lit 1)) (.max (.lit 1) (.var 14)))) (.cmp .le (.quo (.sub (.add (.mul (.var 10) (.var 11)) (.max (.lit 1) (.var 14))) (.lit 1)) (.max (.lit 1) (.var 14))) (.lit 9223372036854775807))) (.ret [(.int (.quo (.mul (.var 10) (.var 11)) (.max (.lit 1) (.var 15)))), (.int (.quo (.sub (.add (.mul (.var 10) (.var 11)) (.max (.lit 1) (.var 14))) (.lit 1)) (.max (.lit 1) (.var 14))))]))))))))
noncomputable def cdown : Cx := tab3.only [75, 80, 78, 79] (fun _ => []) [] 0 [] (fun _ => none)
def tdown : Tree :=
  (.split (.cmp .le (.var 16) (.var 15)) (.call 80 [(.int (.var 14))] (.call 75 [(.arr 97 (.var 0)), (.int (.var 1)), (.arr 70 (.var 2)), (.int (.var 3)), (.int (.var 4)), (.int (.var 5)), (.int (.var 6)), (.int (.var 7)), (.int (.var 8)), (.int (.var 9)), (.int (.var 10)), (.int (.var 11)), (.arr 70 (.var 12)), (.int (.var 13)), (.int (.var 16))] (.call 78 [(.int (.var 17)), (.int (.var 18)), (.int (.var 7)), (.int (.var 19)), (.int (.var 20))] (.ret [(.int (.var 21)), (.int (.var 22))])))) (.call 75 [(.arr 97 (.var 0)), (.int (.var 1)), (.arr 70 (.var 2)), (.int (.var 3)), (.int (.var 4)), (.int (.var 5)), (.int (.var 6)), (.int (.var 7)), (.int (.var 8)), (.int (.var 9)), (.int (.var 10)), (.int (.var 11)), (.arr 70 (.var 12)), (.int (.var 13)), (.int (.var 15))] (.call 80 [(.int (.var 14))] (.call 78 [(.int (.var 19)), (.int (.var 20)), (.int (.var 7)), (.int (.var 17)), (.int (.var 18))] (.call 75 [(.arr 97 (.var 0)), (.int (.var 1)), (.arr 70 (.var 2)), (.int (.var 3)), (.int (.var 4)), (.int (.var 5)), (.int (.var 6)), (.int (.var 7)), (.int (.var 8)), (.int (.var 9)), (.int (.var 10)), (.int (.var 11)), (.arr 70 (.var 12)), (.int (.var 13)), (.int (.var 16))] (.call 79 [(.int (.var 23)), (.int (.var 24)), (.int (.var 17)), (.int (.var 18))] (.call 78 [(.int (.var 21)), (.int (.var 22)), (.int (.var 1)), (.int (.var 25)), (.int (.var 26))] (.ret [(.int (.var 27)), (.int (.var 28))]))))))))
noncomputable def cchk : Cx := tab3.only [15, 17, 19] (fun _ => []) [] 0 [] (fun _ => none)
def tchk : Tree :=
  (.call 15 [(.arr 97 (.var 0)), (.int (.var 1)), (.arr 70 (.var 2)), (.int (.var 3)), (.int (.var 4)), (.int (.var 5))] (.split (.cmp .ne (.var 12) (.lit 0)) (.ret [(.int (.var 12))]) (.call 17 [(.int (.var 6)), (.int (.var 7)), (.int (.var 8)), (.int (.var 9))] (.split (.cmp .ne (.var 13) (.lit 0)) (.ret [(.int (.var 13))]) (.call 19 [(.int (.var 10)), (.int (.var 11))] (.ret [(.int (.var 14))]))))))
noncomputable def flover : List (Nat × Func) := [(44, Try.f44), (117, Try.f117), (118, Try.f118), (119, Try.f119)]
theorem fxover : ∀ p ∈ flover, FnOK p := fns_cons ⟨Try.func44, ⟨_, Try.func44, by decide, rfl⟩⟩ (fns_cons ⟨Try.func117, ⟨_, Try.func117, by decide, rfl⟩⟩ (fns_cons ⟨Try.func118, ⟨_, Try.func118, by decide, rfl⟩⟩ (fns_cons ⟨Try.func119, ⟨_, Try.func119, by decide, rfl⟩⟩ (fns_nil))))
noncomputable def cover : Cx := tab3.only [] (fun _ => []) flover 4 [] (fun _ => none)
def tover : Tree :=
  (.split (.cmp .eq (.var 6) (.lit 1)) (.ob (.and (.cmp .le (.lit (-9223372036854775808)) (.add (.var 14) (.var 16))) (.cmp .le (.add (.var 14) (.var 16)) (.lit 9223372036854775807))) (.ret [(.bool (.cmp .le (.var 13) (.add (.var 14) (.var 16))))])) (.split (.cmp .eq (.var 6) (.lit 2)) (.ob (.and (.cmp .le (.lit (-9223372036854775808)) (.add (.var 14) (.var 16))) (.cmp .le (.add (.var 14) (.var 16)) (.lit 9223372036854775807))) (.ret [(.bool (.cmp .le (.var 13) (.add (.var 14) (.var 16))))])) (.split (.cmp .eq (.var 6) (.lit 3)) (.ret [(.bool (.cmp .eq (.var 16) (.lit 0)))]) (.fail 9 [0]))))
noncomputable def flmom : List (Nat × Func) := [(44, Try.f44), (117, Try.f117), (118, Try.f118), (119, Try.f119)]
theorem fxmom : ∀ p ∈ flmom, FnOK p := fns_cons ⟨Try.func44, ⟨_, Try.func44, by decide, rfl⟩⟩ (fns_cons ⟨Try.func117, ⟨_, Try.func117, by decide, rfl⟩⟩ (fns_cons ⟨Try.func118, ⟨_, Try.func118, by decide, rfl⟩⟩ (fns_cons ⟨Try.func119, ⟨_, Try.func119, by decide, rfl⟩⟩ (fns_nil))))
noncomputable def cmom : Cx := tab3.only [45, 59, 60] (fun _ => []) flmom 4 [] (fun _ => none)
def tmom : Tree :=
  (.dfn .nil (.ob (.and (.cmp .le (.lit (-9223372036854775808)) (.mul (.var 14) (.var 5))) (.cmp .le (.mul (.var 14) (.var 5)) (.lit 9223372036854775807))) (.call 45 [(.arr 97 (.var 0)), (.int (.var 1)), (.arr 70 (.var 2)), (.int (.var 3)), (.int (.var 4)), (.int (.var 5)), (.int (.var 6)), (.int (.var 7)), (.int (.var 8)), (.int (.var 9)), (.int (.var 10)), (.int (.var 11)), (.arr 70 (.var 12)), (.int (.var 13)), (.int (.var 15))] (.split (.cmp .eq (.var 6) (.lit 1)) (.ob (.and (.cmp .le (.lit (-9223372036854775808)) (.mul (.var 14) (.var 5))) (.cmp .le (.mul (.var 14) (.var 5)) (.lit 9223372036854775807))) (.call 59 [(.arr 97 (.var 0)), (.int (.var 1)), (.arr 70 (.var 2)), (.int (.var 3)), (.int (.var 4)), (.int (.var 5)), (.int (.var 6)), (.int (.var 7)), (.int (.var 8)), (.int (.var 9)), (.int (.var 10)), (.int (.var 11)), (.arr 70 (.var 12)), (.int (.var 13)), (.int (.mul (.var 14) (.var 5))), (.int (.var 17))] (.ret [(.int (.var 18)), (.int (.var 19)), (.int (.var 20)), (.int (.var 21)), (.int (.var 22)), (.int (.var 23)), (.int (.var 24)), (.cnt 49 (.var 25))]))) (.split (.cmp .eq (.var 6) (.lit 2)) (.ob (.and (.cmp .le (.lit (-9223372036854775808)) (.mul (.var 14) (.var 5))) (.cmp .le (.mul (.var 14) (.var 5)) (.lit 9223372036854775807))) (.call 59 [(.arr 97 (.var 0)), (.int (.var 1)), (.arr 70 (.var 2)), (.int (.var 3)), (.int (.var 4)), (.int (.var 5)), (.int (.var 6)), (.int (.var 7)), (.int (.var 8)), (.int (.var 9)), (.int (.var 10)), (.int (.var 11)), (.arr 70 (.var 12)), (.int (.var 13)), (.int (.mul (.var 14) (.var 5))), (.int (.var 17))] (.ret [(.int (.var 18)), (.int (.var 19)), (.int (.var 20)), (.int (.var 21)), (.int (.var 22)), (.int (.var 23)), (.int (.var 24)), (.cnt 49 (.var 25))]))) (.split (.cmp .eq (.var 6) (.lit 3)) (.ob (.and (.cmp .le (.lit (-9223372036854775808)) (.mul (.var 14) (.var 5))) (.cmp .le (.mul (.var 14) (.var 5)) (.lit 9223372036854775807))) (.call 60 [(.arr 97 (.var 0)), (.int (.var 1)), (.arr 70 (.var 2)), (.int (.var 3)), (.int (.var 4)), (.int (.var 5)), (.int (.var 6)), (.int (.var 7)), (.int (.var 8)), (.int (.var 9)), (.int (.var 10)), (.int (.var 11)), (.arr 70 (.var 12)), (.int (.var 13)), (.int (.mul (.var 14) (.var 5))), (.int (.var 17))] (.ret [(.int (.var 18)), (.int (.var 19)), (.int (.var 20)), (.int (.var 21)), (.int (.var 22)), (.int (.var 23)), (.int (.var 24)), (.cnt 49 (.var 25))]))) (.fail 21 [0])))))))
noncomputable def flkat : List (Nat × Func) := [(49, Try.f49)]
theorem fxkat : ∀ p ∈ flkat, FnOK p := fns_cons ⟨Try.func49, ⟨_, Try.func49, by decide, rfl⟩⟩ (fns_nil)
noncomputable def ckat : Cx := tab3.only [48, 58, 30, 50] (fun _ => []) flkat 1 [] (fun _ => none)
def tkat : Tree :=
  (.dfn .nil (.call 48 [(.arr 97 (.var 0)), (.int (.var 1)), (.arr 70 (.var 2)), (.int (.var 3)), (.int (.var 4)), (.int (.var 5)), (.int (.var 6)), (.int (.var 7)), (.int (.var 8)), (.int (.var 9)), (.int (.var 10)), (.int (.var 11))] (.split (.cmp .ne (.var 15) (.lit 0)) (.dfn .nil (.ret [(.int (.lit 0)), (.int (.lit 0)), (.int (.lit 0)), (.int (.lit 0)), (.int (.lit 0)), (.int (.lit 0)), (.int (.lit 0)), (.cnt 49 (.var 16)), (.int (.var 15))])) (.split (.cmp .lt (.var 12) (.lit 0)) (.dfn .nil (.ret [(.int (.lit 0)), (.int (.lit 0)), (.int (.lit 0)), (.int (.lit 0)), (.int (.lit 0)), (.int (.lit 0)), (.int (.lit 0)), (.cnt 49 (.var 16)), (.int (.lit 2))])) (.split (.cmp .lt (.lit 400) (.var 12)) (.dfn .nil (.ret [(.int (.lit 0)), (.int (.lit 0)), (.int (.lit 0)), (.int (.lit 0)), (.int (.lit 0)), (.int (.lit 0)), (.int (.lit 0)), (.cnt 49 (.var 16)), (.int (.lit 2))])) (.split (.cmp .lt (.var 13) (.lit (-1))) (.dfn .nil (.ret [(.int (.lit 0)), (.int (.lit 0)), (.int (.lit 0)), (.int (.lit 0)), (.int (.lit 0)), (.int (.lit 0)), (.int (.lit 0)), (.cnt 49 (.var 16)), (.int (.lit 2))])) (.split (.cmp .lt (.lit 1) (.var 13)) (.dfn .nil (.ret [(.int (.lit 0)), (.int (.lit 0)), (.int (.lit 0)), (.int (.lit 0)), (.int (.lit 0)), (.int (.lit 0)), (.int (.lit 0)), (.cnt 49 (.var 16)), (.int (.lit 2))])) (.dfn .nil (.dfn .nil (.dfn .nil (.call 58 [(.arr 97 (.var 0))] (.call 30 [(.arr 97 (.var 0))] (.call 50 [(.arr 97 (.var 0)), (.int (.var 1)), (.arr 70 (.var 2)), (.int (.var 3)), (.int (.var 4)), (.int (.var 5)), (.int (.var 6)), (.int (.var 7)), (.int (.var 8)), (.int (.var 9)), (.int (.var 10)), (.int (.var 11)), (.arr 70 (.var 19)), (.int (.var 20)), (.int (.var 12)), (.int (.var 13))] (.ret [(.int (.var 21)), (.int (.var 22)), (.int (.var 23)), (.int (.var 24)), (.int (.var 25)), (.int (.var 26)), (.int (.var 27)), (.cnt 49 (.var 28)), (.int (.lit 0))]))))))))))))))
end Go.Proofs.Ytmdmgpikbebejaa
/- Kill: the values of a line, part by part; heights: plain laws. -/
namespace Go.Proofs.Ytmdmgpikbebejaa
open Go.RowKit
set_option linter.unusedSimpArgs false
set_option linter.unusedVariables false

theorem split_at : ∀ {ks : List Kn}, Asc ks → ∀ x : Int, ∃ i ≤ ks.length, (∀ k < i, (ks.getD k (0, 0)).1 < x) ∧ ∀ k, i ≤ k → k < ks.length → x ≤ (ks.getD k (0, 0)).1
  | [], _, x => ⟨0, Nat.le_refl _, fun k hk => by omega, fun k _ hk => by simp at hk⟩
  | a :: l, h, x => by
    by_cases hx : a.1 < x
    · obtain ⟨i, hi, h1, h2⟩ := split_at h.tail x
      refine ⟨i + 1, by simpa using hi, fun k hk => ?_, fun k h3 h4 => ?_⟩
      · match k, hk with
        | 0, _ => exact hx
        | k + 1, hk => exact h1 k (by omega)
      · match k, h3, h4 with
        | k + 1, h3, h4 => exact h2 k (by omega) (by simpa using h4)
    · refine ⟨0, by omega, fun k hk => by omega, fun k _ hk => ?_⟩
      match k, hk with
      | 0, _ => show x ≤ a.1; omega
      | k + 1, hk =>
        have := h.head_lt _ (getD_mem (l := l) (i := k) (by simpa using hk) (0, 0))
        show x ≤ (l.getD k (0, 0)).1
        omega
def segR (p q : Kn) (y : Int) : Kn := (p.2 + (q.2 - p.2) * (y - p.1) / (q.1 - p.1), p.2 + -(-((q.2 - p.2) * (y - p.1)) / (q.1 - p.1)))
def le2 (p q : Kn) : Prop := p.1 ≤ q.1 ∧ p.2 ≤ q.2
theorem rangeP_knot {ks : List Kn} (ha : Asc ks) {k : Kn} (hk : k ∈ ks) : rangeP ks k.1 = (k.2, k.2) := by
  unfold rangeP
  rw [valP_knot ha hk]
  show (k.2, k.2 + min 0 1) = _
  rw [show k.2 + min (0 : Int) 1 = k.2 by omega]
theorem val_mid {ks : List Kn} (ha : Asc ks) {i : Nat} (h1 : 0 < i) (h2 : i < ks.length) {y : Int} (hy : (ks.getD (i - 1) (0, 0)).1 ≤ y) (hy2 : y ≤ (ks.getD i (0, 0)).1) :
    rangeP ks y = segR (ks.getD (i - 1) (0, 0)) (ks.getD i (0, 0)) y := by
  have hlt := ha.lt (i := i - 1) (j := i) (by omega) h2
  have hp := getD_mem (l := ks) (i := i - 1) (by omega) (0, 0)
  have hq := getD_mem (l := ks) (i := i) h2 (0, 0)
  have hbefore : ∀ k < i, (ks.getD (i - 1) (0, 0)).1 < y → (ks.getD k (0, 0)).1 < y := fun k hk h => by
    rcases Nat.lt_or_ge k (i - 1) with h3 | h3
    · have := ha.lt (i := k) (j := i - 1) h3 (by omega); omega
    · rw [show k = i - 1 by omega]; exact h
  have hafter : ∀ k, i ≤ k → k < ks.length → y ≤ (ks.getD k (0, 0)).1 := fun k h3 h4 => by
    rcases Nat.lt_or_ge i k with h5 | h5
    · have := ha.lt (i := i) (j := k) h5 h4; omega
    · rw [show k = i by omega]; exact hy2
  by_cases e1 : (ks.getD (i - 1) (0, 0)).1 = y
  · rw [← e1, rangeP_knot ha hp]
    unfold segR
    rw [Int.sub_self, Int.mul_zero, Int.neg_zero, Int.zero_ediv]
    simp
  by_cases e2 : (ks.getD i (0, 0)).1 = y
  · rw [← e2, rangeP_knot ha hq]
    unfold segR
    rw [← Int.neg_mul, Int.mul_ediv_cancel _ (by omega), Int.mul_ediv_cancel _ (by omega)]
    ext <;> simp <;> omega
  have hf := findV_at (ks := ks) (by intro e; rw [e] at h2; simp at h2) (x := y) (i := i) (by omega) (fun k hk => hbefore k hk (by omega)) hafter
  rw [if_neg (fun h => e2 h.2), show min i (ks.length - 1) = i by omega] at hf
  unfold rangeP valP partAt
  rw [hf]
  generalize ks.getD (i - 1) (0, 0) = p at *
  generalize ks.getD i (0, 0) = q at *
  rw [if_neg (fun h : p = q => by rw [h] at hlt; omega)]
  unfold segR segP
  rw [ceil_law (by omega)]
  simp only [Int.add_assoc]
theorem val_low {ks : List Kn} (ha : Asc ks) (h0 : 0 < ks.length) {y : Int} (hy : y ≤ (ks.getD 0 (0, 0)).1) : rangeP ks y = ((ks.getD 0 (0, 0)).2, (ks.getD 0 (0, 0)).2) := by
  have hf := findV_at (ks := ks) (by intro e; rw [e] at h0; simp at h0) (x := y) (i := 0) (by omega) (fun k hk => by omega) (fun k _ h4 => by
    rcases Nat.eq_zero_or_pos k with h5 | h5
    · rw [h5]; exact hy
    · have := ha.lt (i := 0) (j := k) h5 h4; omega)
  have hf : findV ks y = (ks.getD 0 (0, 0), ks.getD 0 (0, 0)) := by rw [hf]; split <;> simp
  unfold rangeP valP partAt
  rw [hf, if_pos rfl]
  show ((ks.getD 0 (0, 0)).2, (ks.getD 0 (0, 0)).2 + min 0 1) = _
  rw [show (ks.getD 0 (0, 0)).2 + min (0 : Int) 1 = (ks.getD 0 (0, 0)).2 by omega]
theorem val_high {ks : List Kn} (ha : Asc ks) (h0 : 0 < ks.length) {y : Int} (hy : (ks.getD (ks.length - 1) (0, 0)).1 ≤ y) : rangeP ks y = ((ks.getD (ks.length - 1) (0, 0)).2, (ks.getD (ks.length - 1) (0, 0)).2) := by
  by_cases e : (ks.getD (ks.length - 1) (0, 0)).1 = y
  · rw [← e, rangeP_knot ha (getD_mem (by omega) _)]
  have hf := findV_at (ks := ks) (by intro e; rw [e] at h0; simp at h0) (x := y) (i := ks.length) (by omega) (fun k hk => by
    rcases Nat.lt_or_ge k (ks.length - 1) with h5 | h5
    · have := ha.lt (i := k) (j := ks.length - 1) h5 (by omega); omega
    · rw [show k = ks.length - 1 by omega]; omega) (fun k h3 h4 => by omega)
  rw [if_neg (fun h => by omega), show min ks.length (ks.length - 1) = ks.length - 1 by omega] at hf
  unfold rangeP valP partAt
  rw [hf, if_pos rfl]
  show ((ks.getD (ks.length - 1) (0, 0)).2, (ks.getD (ks.length - 1) (0, 0)).2 + min 0 1) = _
  rw [show (ks.getD (ks.length - 1) (0, 0)).2 + min (0 : Int) 1 = (ks.getD (ks.length - 1) (0, 0)).2 by omega]
theorem segR_up {p q : Kn} (h : p.1 < q.1) (hd : p.2 ≤ q.2) {x y : Int} (hxy : x ≤ y) : le2 (segR p q x) (segR p q y) := by
  have m : (q.2 - p.2) * (x - p.1) ≤ (q.2 - p.2) * (y - p.1) := Int.mul_le_mul_of_nonneg_left (by omega) (by omega)
  have a1 := Int.ediv_le_ediv (show 0 < q.1 - p.1 by omega) m
  have a2 := Int.ediv_le_ediv (show 0 < q.1 - p.1 by omega) (Int.neg_le_neg m)
  exact ⟨by show p.2 + _ ≤ p.2 + _; omega, by show p.2 + -_ ≤ p.2 + -_; omega⟩
theorem segR_down {p q : Kn} (h : p.1 < q.1) (hd : q.2 ≤ p.2) {x y : Int} (hxy : x ≤ y) : le2 (segR p q y) (segR p q x) := by
  have m : (q.2 - p.2) * (y - p.1) ≤ (q.2 - p.2) * (x - p.1) := Int.mul_le_mul_of_nonpos_left (by omega) (by omega)
  have a1 := Int.ediv_le_ediv (show 0 < q.1 - p.1 by omega) m
  have a2 := Int.ediv_le_ediv (show 0 < q.1 - p.1 by omega) (Int.neg_le_neg m)
  exact ⟨by show p.2 + _ ≤ p.2 + _; omega, by show p.2 + -_ ≤ p.2 + -_; omega⟩
theorem range_box {ks : List Kn} (ha : Asc ks) (h0 : 0 < ks.length) {lo hi : Int} (hb : ∀ k ∈ ks, lo ≤ k.2 ∧ k.2 ≤ hi) (x : Int) : lo ≤ (rangeP ks x).1 ∧ (rangeP ks x).1 ≤ hi ∧ lo ≤ (rangeP ks x).2 ∧ (rangeP ks x).2 ≤ hi := by
  obtain ⟨i, hi', h1, h2⟩ := split_at ha x
  by_cases e0 : i = 0
  · subst e0
    rw [val_low ha h0 (h2 0 (Nat.le_refl _) h0)]
    have := hb _ (getD_mem h0 (0, 0))
    exact ⟨this.1, this.2, this.1, this.2⟩
  have hp := h1 (i - 1) (by omega)
  by_cases e1 : i = ks.length
  · rw [val_high ha h0 (by rw [← e1]; omega)]
    have := hb _ (getD_mem (l := ks) (i := ks.length - 1) (by omega) (0, 0))
    exact ⟨this.1, this.2, this.1, this.2⟩
  have hq := h2 i (Nat.le_refl _) (by omega)
  have hlt := ha.lt (i := i - 1) (j := i) (by omega) (by omega)
  have mp := getD_mem (l := ks) (i := i - 1) (by omega) (0, 0)
  have mq := getD_mem (l := ks) (i := i) (by omega) (0, 0)
  have kp := rangeP_knot ha mp
  have kq := rangeP_knot ha mq
  rw [val_mid ha (i := i) (by omega) (by omega) (Int.le_refl _) (by omega)] at kp
  rw [val_mid ha (i := i) (by omega) (by omega) (by omega) (Int.le_refl _)] at kq
  rw [val_mid ha (i := i) (by omega) (by omega) (by omega) hq]
  have bp := hb _ mp
  have bq := hb _ mq
  rcases Int.le_total (ks.getD (i - 1) (0, 0)).2 (ks.getD i (0, 0)).2 with hd | hd
  · have u1 := segR_up hlt hd (show (ks.getD (i - 1) (0, 0)).1 ≤ x by omega)
    have u2 := segR_up hlt hd hq
    rw [kp] at u1
    rw [kq] at u2
    obtain ⟨a1, a2⟩ := u1
    obtain ⟨a3, a4⟩ := u2
    exact ⟨Int.le_trans bp.1 a1, Int.le_trans a3 bq.2, Int.le_trans bp.1 a2, Int.le_trans a4 bq.2⟩
  · have u1 := segR_down hlt hd (show (ks.getD (i - 1) (0, 0)).1 ≤ x by omega)
    have u2 := segR_down hlt hd hq
    rw [kp] at u1
    rw [kq] at u2
    obtain ⟨a1, a2⟩ := u1
    obtain ⟨a3, a4⟩ := u2
    exact ⟨Int.le_trans bq.1 a3, Int.le_trans a1 bp.2, Int.le_trans bq.1 a4, Int.le_trans a2 bp.2⟩
/-! Heights -/
theorem upGo_asc : ∀ {l : List Sg} {a u : Int}, (∀ s ∈ l, fairV s = true) → Asc ((a, u) :: upGo a u l)
  | [], a, u, _ => Asc.one _
  | s :: l, a, u, h => by
    obtain ⟨h1, -, h3, -⟩ := fairV_iff.1 (h s (by simp))
    have := mul_box (a := s.l) (b := s.a) (A := s.l) (B := 5000) (by omega) (by omega) (by omega) (by omega)
    have h4 : s.l * 1 ≤ s.l * s.a := Int.mul_le_mul_of_nonneg_left (by omega) (by omega)
    rw [upGo]
    exact Asc.cons (by show a < a + s.l * s.a; omega) (upGo_asc fun x hx => h x (by simp [hx]))
theorem upGo_box : ∀ {l : List Sg} {a u : Int}, (∀ s ∈ l, fairV s = true) → ∀ k ∈ upGo a u l, u ≤ k.2 ∧ k.2 ≤ u + riseV l
  | [], a, u, _, k, hk => by cases hk
  | s :: l, a, u, h, k, hk => by
    obtain ⟨h1, h2, -, -⟩ := fairV_iff.1 (h s (by simp))
    have hb := riseV_box (l := l) fun x hx => h x (by simp [hx])
    rw [upGo] at hk
    rw [riseV]
    rcases List.mem_cons.1 hk with rfl | hk
    · show u ≤ u + s.r ∧ u + s.r ≤ _; omega
    · have := upGo_box (l := l) (fun x hx => h x (by simp [hx])) k hk; omega
theorem height_asc {l : List Sg} (h : holeV l = 0) : Asc (heightL l) := upGo_asc (hole_good h).2.2.1
theorem height_box {l : List Sg} (h : holeV l = 0) : ∀ k ∈ heightL l, 0 ≤ k.2 ∧ k.2 ≤ riseV l := fun k hk => by
  have hf := (hole_good h).2.2.1
  have hb := riseV_box hf
  rcases List.mem_cons.1 hk with rfl | hk
  · exact ⟨Int.le_refl _, hb.1⟩
  · have := upGo_box hf k hk; omega
theorem rise_box {l : List Sg} (h : holeV l = 0) : 0 ≤ riseV l ∧ riseV l ≤ 1048576 := by
  obtain ⟨-, -, hf, hl⟩ := hole_good h
  have := riseV_box hf; omega
theorem ht_box {l : List Sg} (h : holeV l = 0) (u : Int) : 0 ≤ (htV l u).1 ∧ (htV l u).1 ≤ riseV l ∧ 0 ≤ (htV l u).2 ∧ (htV l u).2 ≤ riseV l := by
  have hr := rise_box h
  unfold htV atV
  rw [heightV_yes h]
  split
  · exact range_box (height_asc h) (by simp [heightL]) (height_box h) u
  · exact ⟨Int.le_refl _, hr.1, Int.le_refl _, hr.1⟩
theorem ht_ok {l : List Sg} (h : holeV l = 0) (u : Int) : HtOK (htV l u) := by
  have h1 := ht_box h u
  have h2 := rise_box h
  exact ⟨h1.1, by omega, h1.2.2.1, by omega⟩
end Go.Proofs.Ytmdmgpikbebejaa
/- Kill: wells checked; spans, heights, gas. -/
namespace Go.Proofs.Ytmdmgpikbebejaa
open Go.RowKit
set_option linter.unusedSimpArgs false
set_option linter.unusedVariables false

/-! Wells -/
section
variable {s : List Sg} {wt : Int} {ps : List Kn} {li pi st : Int}
theorem wellV_hole (h : holeV s ≠ 0) : wellV ⟨s, wt, ps, li, pi, st⟩ = holeV s := orE_pos h
theorem wellV_weight (h0 : holeV s = 0) (h : wt < 0 ∨ 40000 < wt) : wellV ⟨s, wt, ps, li, pi, st⟩ = 2 := by
  unfold wellV; rw [orE_zero h0, if_neg]; rw [inV_iff]; show ¬ (0 ≤ wt ∧ wt ≤ 40000); omega
theorem wellV_full (h0 : holeV s = 0) (h1 : 0 ≤ wt ∧ wt ≤ 40000) (h : 8 < ps.length) : wellV ⟨s, wt, ps, li, pi, st⟩ = 8 := by
  unfold wellV; rw [orE_zero h0, if_pos (inV_iff.2 h1), if_pos h]
theorem wellV_pts (h0 : holeV s = 0) (h1 : 0 ≤ wt ∧ wt ≤ 40000) (h : ps.length ≤ 8) : wellV ⟨s, wt, ps, li, pi, st⟩ = orE (badKs (volV s) 68719476736 (-1) ps) (if inV li 0 68719476736 = true ∧ inV pi 0 1099511627776 = true ∧ inV st 1 (volV s) = true then 0 else 2) := by
  unfold wellV roomV
  rw [orE_zero h0, if_pos (inV_iff.2 h1), if_neg (show ¬ 8 < ps.length by omega), roomS_yes h0]
theorem wellV_last (h0 : holeV s = 0) (h1 : 0 ≤ wt ∧ wt ≤ 40000) (h : ps.length ≤ 8) (hb : badKs (volV s) 68719476736 (-1) ps = 0) : ((0 ≤ li ∧ li ≤ 68719476736) ∧ (0 ≤ pi ∧ pi ≤ 1099511627776) ∧ (1 ≤ st ∧ st ≤ volV s) ∧ wellV ⟨s, wt, ps, li, pi, st⟩ = 0) ∨ ((li < 0 ∨ 68719476736 < li ∨ pi < 0 ∨ 1099511627776 < pi ∨ st < 1 ∨ volV s < st) ∧ wellV ⟨s, wt, ps, li, pi, st⟩ = 2) := by
  rw [wellV_pts h0 h1 h, orE_zero hb]
  simp only [inV_iff]
  split <;> omega
theorem wellV_ok (h : wellV ⟨s, wt, ps, li, pi, st⟩ = 0) : holeV s = 0 ∧ (0 ≤ wt ∧ wt ≤ 40000) ∧ ps.length ≤ 8 ∧ badKs (volV s) 68719476736 (-1) ps = 0 ∧ (0 ≤ li ∧ li ≤ 68719476736) ∧ (0 ≤ pi ∧ pi ≤ 1099511627776) ∧ 1 ≤ st ∧ st ≤ volV s := by
  by_cases h0 : holeV s = 0
  · by_cases h1 : 0 ≤ wt ∧ wt ≤ 40000
    · by_cases h2 : ps.length ≤ 8
      · by_cases hb : badKs (volV s) 68719476736 (-1) ps = 0
        · rcases wellV_last (li := li) (pi := pi) (st := st) h0 h1 h2 hb with h3 | h3
          · exact ⟨h0, h1, h2, hb, h3.1, h3.2.1, h3.2.2.1⟩
          · omega
        · rw [wellV_pts h0 h1 h2, orE_pos hb] at h; exact absurd h hb
      · rw [wellV_full h0 h1 (by omega)] at h; omega
    · rw [wellV_weight h0 (by omega)] at h; omega
  · rw [wellV_hole h0] at h; exact absurd h h0
end
theorem cwell_ok : tab2.ok 15 := by
  refine Tab.of_ct rfl rfl ⟨_, Try.func15, by decide, rfl⟩ ?_ ctF_det
  refine ct_ok (cx := ccwell) (Tab.cx_ok (all_cons hole_ok (all_cons volm_ok (all_cons (up_ok kwithin_ok) all_nil)))) Try.func15 (bds := []) (T := tcwell) (by kernel_rfl) ?_
  have h1 : ccwell.ct 40 = some ctHole := rfl
  have h2 : ccwell.ct 30 = some ctVol := rfl
  unfold tcwell
  simp only [VC, allC, List.map_cons, List.map_nil, List.length_cons, List.length_nil, List.getElem?_cons_zero, List.getElem?_cons_succ, List.cons.injEq, C.i.injEq, C.b.injEq, and_true, true_and, forall_const, kindsOf_nil, kindsOf_lf, kindsOf_agg, kindsOf_box, boxKinds_nil, boxKinds_lf, boxKinds_agg, boxKinds_box, List.append_nil, List.cons_append, List.nil_append, den_cmp_le, den_cmp_lt, den_cmp_eq, den_cmp_ne, den_cmp_le', den_cmp_lt', den_cmp_eq', den_cmp_ne', den_and, den_and', den_or, den_or', den_not, den_not', den_blit, den_of, ev_var, at_0, at_1, at_2, at_3, at_4, at_5, at_6, at_7, at_skip, c_int, c_bool, c_arr, c_cnt, c_vec, ev_nil, ev_join, ev_sub3, loc_s, int_i, bool_b, rows_s, cs_nil, cs_cons, E.den_lit, E.den_var, E.den_add, E.den_sub, E.den_mul, E.den_quo, E.den_rem, E.den_max, E.den_min, E.den_len, E.den_wr, E.den_cell, ev_cell, Nat.reduceAdd, kn1, kn2, h1, h2, ctHole, ctVol, ctWell, ctF, holeSh, wellSh, wellKs, wellOf, s_, n_, k_]
  intro u r _ _ _ wt _ _ u2 r2 _ _ _ li _ _ pi _ _ st _ _
  have hk := knots_len r2
  generalize hks : knots r2 = ks at *
  generalize hS : segsOf r = s at *
  rw [← hk]
  refine ⟨bds_nil _, fun n _ _ hn => ⟨fun h => (hn.trans (wellV_hole (by omega)).symm), fun h => ?_⟩⟩
  have h0 : holeV s = 0 := by omega
  refine ⟨fun h => (wellV_weight h0 (by omega)).symm, fun hw => ⟨fun h => (wellV_full h0 (by omega) (by omega)).symm, fun h8 => ?_⟩⟩
  intro room _ _ hroom
  rw [roomS_yes h0] at hroom
  subst hroom
  refine ⟨fun xs => match xs with | [_, .i last, .i i] => 0 ≤ i ∧ i ≤ ks.length ∧ badKs (volV s) 68719476736 (-1) ks = badKs (volV s) 68719476736 last (ks.drop i.toNat) | _ => False, fun xs => match xs with | [_, _, .i i] => ((ks.length : Int) - i).toNat | _ => 0, ⟨by omega, by omega, rfl⟩, ?_⟩
  rintro x _ _ last _ _ i _ _ ⟨i0, i1, hi⟩
  refine ⟨fun hlt => ⟨i0, hlt, ?_⟩, fun hge => ?_⟩
  · rw [drop_cons (by omega) (0, 0), ← show (i + 1).toNat = i.toNat + 1 by omega] at hi
    generalize ks.getD i.toNat (0, 0) = k at *
    refine ⟨fun h => ?_, fun h5 => ⟨fun h => ?_, fun h6 => ⟨fun h => ?_, fun h7 => ?_⟩⟩⟩
    · rw [wellV_pts h0 (by omega) (by omega), hi, badKs_range (by omega)]; rfl
    · rw [wellV_pts h0 (by omega) (by omega), hi, badKs_range (by omega)]; rfl
    · rw [wellV_pts h0 (by omega) (by omega), hi, badKs_order (by omega) h]; rfl
    exact ⟨⟨by omega, by omega, by rw [hi, badKs_next (by omega) h7]⟩, (show ((ks.length : Int) - (i + 1)).toNat < ((ks.length : Int) - i).toNat by omega)⟩
  · rw [List.drop_of_length_le (by omega)] at hi
    have hc := wellV_last (li := li) (pi := pi) (st := st) h0 (show 0 ≤ wt ∧ wt ≤ 40000 by omega) (show ks.length ≤ 8 by omega) hi
    generalize wellV ⟨s, wt, ks, li, pi, st⟩ = v at *
    omega
end Go.Proofs.Ytmdmgpikbebejaa
/- Kill: spans, heights, gas, mud, what lies below the gas. -/
namespace Go.Proofs.Ytmdmgpikbebejaa
open Go.RowKit
set_option linter.unusedSimpArgs false
set_option linter.unusedVariables false

theorem orE_iff {a b : Int} : orE a b = 0 ↔ a = 0 ∧ b = 0 := by unfold orE; split <;> omega
theorem jobV_iff {j : Jb} : jobV j = 0 ↔ wellV j.w = 0 ∧ progV j.p = 0 ∧ kickV j.k = 0 := by unfold jobV; rw [orE_iff, orE_iff]
structure JF (j : Jb) : Prop where
  hole : holeV j.w.segs = 0
  weight : 0 ≤ j.w.weight ∧ j.w.weight ≤ 40000
  len : j.w.points.length ≤ 8
  pts : badKs (volV j.w.segs) 68719476736 (-1) j.w.points = 0
  limit : 0 ≤ j.w.limit ∧ j.w.limit ≤ 68719476736
  pipe : 0 ≤ j.w.pipe ∧ j.w.pipe ≤ 1099511627776
  step : 1 ≤ j.w.step ∧ j.w.step ≤ volV j.w.segs
  room : volV j.w.segs ≤ 5242880000
  kind : 1 ≤ j.p.kind ∧ j.p.kind ≤ 3
  pweight : 0 ≤ j.p.weight ∧ j.p.weight ≤ 40000
  margin : 0 ≤ j.p.margin ∧ j.p.margin ≤ 17179869184
  err : 0 ≤ j.p.err ∧ j.p.err ≤ 17179869184
  vol : 1 ≤ j.k.vol ∧ j.k.vol ≤ 16777216
  pore : 1 ≤ j.k.pore ∧ j.k.pore ≤ 17179869184
theorem vol_le {l : List Sg} (h : holeV l = 0) : volV l ≤ 5242880000 := by
  have := atK_box h l.length
  unfold atK at this
  rw [List.take_length] at this
  omega
theorem jf_of {j : Jb} (h : jobV j = 0) : JF j := by
  obtain ⟨⟨s, wt, ps, li, pi, st⟩, ⟨a, b, c, d⟩, ⟨v, p⟩⟩ := j
  obtain ⟨h1, h2, h3⟩ := jobV_iff.1 h
  have w := wellV_ok h1
  have p1 := progV_cases a b c d
  have k1 := kickV_cases v p
  have h2 : progV ⟨a, b, c, d⟩ = 0 := h2
  have h3 : kickV ⟨v, p⟩ = 0 := h3
  have hv := vol_le w.1
  have p2 : 1 ≤ a ∧ a ≤ 3 ∧ 0 ≤ b ∧ b ≤ 40000 ∧ 0 ≤ c ∧ c ≤ 17179869184 ∧ 0 ≤ d ∧ d ≤ 17179869184 := by omega
  have k2 : 1 ≤ v ∧ v ≤ 16777216 ∧ 1 ≤ p ∧ p ≤ 17179869184 := by omega
  exact ⟨w.1, w.2.1, w.2.2.1, w.2.2.2.1, w.2.2.2.2.1, w.2.2.2.2.2.1, w.2.2.2.2.2.2, hv, ⟨p2.1, p2.2.1⟩, ⟨p2.2.2.1, p2.2.2.2.1⟩, ⟨p2.2.2.2.2.1, p2.2.2.2.2.2.1⟩, p2.2.2.2.2.2.2, ⟨k2.1, k2.2.1⟩, k2.2.2⟩
theorem JobOK.jf {cs : List C} {i : Nat} (h : JobOK cs i) : JF (jobOf cs i) := jf_of h.1
theorem mul_bd {w h : Int} (hw : 0 ≤ w ∧ w ≤ 40000) (h0 : 0 ≤ h) (h1 : h ≤ 1048576) : 0 ≤ w * h ∧ w * h ≤ 41943040000 := by
  have := mul_box (a := w) (b := h) (A := 40000) (B := 1048576) (by omega) (by omega) (by omega) (by omega)
  omega
theorem kn_den (a b : Int) : ofKn (a, b) = [.i a, .i b] := rfl
theorem less_ok : tab3.ok 79 := by
  refine Tab.of_ct rfl rfl ⟨_, Try.func79, by decide, rfl⟩ ?_ ctF_det
  refine ct_ok (cx := cless) (Tab.cx_ok all_nil) Try.func79 (bds := []) (T := tless) (by kernel_rfl) ?_
  unfold tless
  simp only [VC, allC, List.map_cons, List.map_nil, List.length_cons, List.length_nil, List.getElem?_cons_zero, List.getElem?_cons_succ, List.cons.injEq, C.i.injEq, C.b.injEq, and_true, true_and, forall_const, kindsOf_nil, kindsOf_lf, kindsOf_agg, kindsOf_box, boxKinds_nil, boxKinds_lf, boxKinds_agg, boxKinds_box, List.append_nil, List.cons_append, List.nil_append, den_cmp_le, den_cmp_lt, den_cmp_eq, den_cmp_ne, den_cmp_le', den_cmp_lt', den_cmp_eq', den_cmp_ne', den_and, den_and', den_or, den_or', den_not, den_not', den_blit, den_of, ev_var, at_0, at_1, at_2, at_3, at_4, at_5, at_6, at_7, at_skip, c_int, c_bool, c_arr, c_cnt, c_vec, ev_nil, ev_join, ev_sub3, loc_s, int_i, bool_b, rows_s, cs_nil, cs_cons, E.den_lit, E.den_var, E.den_add, E.den_sub, E.den_mul, E.den_quo, E.den_rem, E.den_max, E.den_min, E.den_len, E.den_wr, E.den_cell, Nat.reduceAdd, ctLess, ctF, rangeSh, kn_, n_, ofKn]
  rintro a _ _ b _ _ c _ _ d _ _ ⟨⟨h1, h2, h3, h4⟩, h5, h6, h7, h8⟩
  simp only at h1 h2 h3 h4 h5 h6 h7 h8
  exact ⟨bds_nil _, by omega, by omega, by omega, by omega, rfl, rfl⟩
theorem under_ok : tab3.ok 78 := by
  refine Tab.of_ct rfl rfl ⟨_, Try.func78, by decide, rfl⟩ ?_ ctF_det
  refine ct_ok (cx := cunder) (Tab.cx_ok all_nil) Try.func78 (bds := []) (T := tunder) (by kernel_rfl) ?_
  unfold tunder
  simp only [VC, allC, List.map_cons, List.map_nil, List.length_cons, List.length_nil, List.getElem?_cons_zero, List.getElem?_cons_succ, List.cons.injEq, C.i.injEq, C.b.injEq, and_true, true_and, forall_const, kindsOf_nil, kindsOf_lf, kindsOf_agg, kindsOf_box, boxKinds_nil, boxKinds_lf, boxKinds_agg, boxKinds_box, List.append_nil, List.cons_append, List.nil_append, den_cmp_le, den_cmp_lt, den_cmp_eq, den_cmp_ne, den_cmp_le', den_cmp_lt', den_cmp_eq', den_cmp_ne', den_and, den_and', den_or, den_or', den_not, den_not', den_blit, den_of, ev_var, at_0, at_1, at_2, at_3, at_4, at_5, at_6, at_7, at_skip, c_int, c_bool, c_arr, c_cnt, c_vec, ev_nil, ev_join, ev_sub3, loc_s, int_i, bool_b, rows_s, cs_nil, cs_cons, E.den_lit, E.den_var, E.den_add, E.den_sub, E.den_mul, E.den_quo, E.den_rem, E.den_max, E.den_min, E.den_len, E.den_wr, E.den_cell, Nat.reduceAdd, ctUnder, ctF, rangeSh, kn_, n_, ofKn]
  rintro a _ _ b _ _ w _ _ c _ _ d _ _ ⟨⟨h1, h2, h3, h4⟩, hw, h5, h6, h7, h8⟩
  simp only at h1 h2 h3 h4 h5 h6 h7 h8
  have := mul_bd hw h5 h6
  have := mul_bd hw h7 h8
  exact ⟨bds_nil _, by omega, by omega, by omega, by omega, by omega, by omega, rfl, rfl⟩
theorem join_ok : tab3.ok 76 := by
  refine Tab.of_ct rfl rfl ⟨_, Try.func76, by decide, rfl⟩ ?_ ctF_det
  refine ct_ok (cx := cjoin) (Tab.cx_ok all_nil) Try.func76 (bds := []) (T := tjoin) (by kernel_rfl) ?_
  unfold tjoin
  simp only [VC, allC, List.map_cons, List.map_nil, List.length_cons, List.length_nil, List.getElem?_cons_zero, List.getElem?_cons_succ, List.cons.injEq, C.i.injEq, C.b.injEq, and_true, true_and, forall_const, kindsOf_nil, kindsOf_lf, kindsOf_agg, kindsOf_box, boxKinds_nil, boxKinds_lf, boxKinds_agg, boxKinds_box, List.append_nil, List.cons_append, List.nil_append, den_cmp_le, den_cmp_lt, den_cmp_eq, den_cmp_ne, den_cmp_le', den_cmp_lt', den_cmp_eq', den_cmp_ne', den_and, den_and', den_or, den_or', den_not, den_not', den_blit, den_of, ev_var, at_0, at_1, at_2, at_3, at_4, at_5, at_6, at_7, at_skip, c_int, c_bool, c_arr, c_cnt, c_vec, ev_nil, ev_join, ev_sub3, loc_s, int_i, bool_b, rows_s, cs_nil, cs_cons, E.den_lit, E.den_var, E.den_add, E.den_sub, E.den_mul, E.den_quo, E.den_rem, E.den_max, E.den_min, E.den_len, E.den_wr, E.den_cell, Nat.reduceAdd, ctJoin, ctF, rangeSh, kn_, n_, ofKn]
  intro a _ _ b _ _ c _ _ d _ _
  exact ⟨bds_nil _, rfl, rfl⟩
theorem exact_ok : tab3.ok 80 := by
  refine Tab.of_ct rfl rfl ⟨_, Try.func80, by decide, rfl⟩ ?_ ctF_det
  refine ct_ok (cx := cexact) (Tab.cx_ok all_nil) Try.func80 (bds := []) (T := texact) (by kernel_rfl) ?_
  unfold texact
  simp only [VC, allC, List.map_cons, List.map_nil, List.length_cons, List.length_nil, List.getElem?_cons_zero, List.getElem?_cons_succ, List.cons.injEq, C.i.injEq, C.b.injEq, and_true, true_and, forall_const, kindsOf_nil, kindsOf_lf, kindsOf_agg, kindsOf_box, boxKinds_nil, boxKinds_lf, boxKinds_agg, boxKinds_box, List.append_nil, List.cons_append, List.nil_append, den_cmp_le, den_cmp_lt, den_cmp_eq, den_cmp_ne, den_cmp_le', den_cmp_lt', den_cmp_eq', den_cmp_ne', den_and, den_and', den_or, den_or', den_not, den_not', den_blit, den_of, ev_var, at_0, at_1, at_2, at_3, at_4, at_5, at_6, at_7, at_skip, c_int, c_bool, c_arr, c_cnt, c_vec, ev_nil, ev_join, ev_sub3, loc_s, int_i, bool_b, rows_s, cs_nil, cs_cons, E.den_lit, E.den_var, E.den_add, E.den_sub, E.den_mul, E.den_quo, E.den_rem, E.den_max, E.den_min, E.den_len, E.den_wr, E.den_cell, Nat.reduceAdd, ctExact, ctF, rangeSh, kn_, n_, ofKn]
  intro a _ _
  exact bds_nil _
theorem minus_ok : tab3.ok 81 := by
  refine Tab.of_ct rfl rfl ⟨_, Try.func81, by decide, rfl⟩ ?_ ctF_det
  refine ct_ok (cx := cminus) (Tab.cx_ok all_nil) Try.func81 (bds := []) (T := tminus) (by kernel_rfl) ?_
  unfold tminus
  simp only [VC, allC, List.map_cons, List.map_nil, List.length_cons, List.length_nil, List.getElem?_cons_zero, List.getElem?_cons_succ, List.cons.injEq, C.i.injEq, C.b.injEq, and_true, true_and, forall_const, kindsOf_nil, kindsOf_lf, kindsOf_agg, kindsOf_box, boxKinds_nil, boxKinds_lf, boxKinds_agg, boxKinds_box, List.append_nil, List.cons_append, List.nil_append, den_cmp_le, den_cmp_lt, den_cmp_eq, den_cmp_ne, den_cmp_le', den_cmp_lt', den_cmp_eq', den_cmp_ne', den_and, den_and', den_or, den_or', den_not, den_not', den_blit, den_of, ev_var, at_0, at_1, at_2, at_3, at_4, at_5, at_6, at_7, at_skip, c_int, c_bool, c_arr, c_cnt, c_vec, ev_nil, ev_join, ev_sub3, loc_s, int_i, bool_b, rows_s, cs_nil, cs_cons, E.den_lit, E.den_var, E.den_add, E.den_sub, E.den_mul, E.den_quo, E.den_rem, E.den_max, E.den_min, E.den_len, E.den_wr, E.den_cell, Nat.reduceAdd, ctMinus, ctF, rangeSh, kn_, n_, ofKn]
  rintro a _ _ b _ _ m _ _ ⟨⟨h1, h2, h3, h4⟩, h5, h6⟩
  simp only at h1 h2 h3 h4 h5 h6
  exact ⟨bds_nil _, by omega, by omega, by omega, by omega, rfl, rfl⟩
theorem jht_ok : tab3.ok 75 := by
  refine Tab.of_ct rfl rfl ⟨_, Try.func75, by decide, rfl⟩ ?_ ctF_det
  refine ct_ok (cx := cjht) (Tab.cx_ok (all_cons (up3_ok (up_ok at_ok)) all_nil)) Try.func75 (bds := []) (T := tjht) (by kernel_rfl) ?_
  have h1 : cjht.ct 86 = some ctAt := rfl
  unfold tjht
  simp only [VC, allC, List.map_cons, List.map_nil, List.length_cons, List.length_nil, List.getElem?_cons_zero, List.getElem?_cons_succ, List.cons.injEq, C.i.injEq, C.b.injEq, and_true, true_and, forall_const, kindsOf_nil, kindsOf_lf, kindsOf_agg, kindsOf_box, boxKinds_nil, boxKinds_lf, boxKinds_agg, boxKinds_box, List.append_nil, List.cons_append, List.nil_append, den_cmp_le, den_cmp_lt, den_cmp_eq, den_cmp_ne, den_cmp_le', den_cmp_lt', den_cmp_eq', den_cmp_ne', den_and, den_and', den_or, den_or', den_not, den_not', den_blit, den_of, ev_var, at_0, at_1, at_2, at_3, at_4, at_5, at_6, at_7, at_skip, c_int, c_bool, c_arr, c_cnt, c_vec, ev_nil, ev_join, ev_sub3, loc_s, int_i, bool_b, rows_s, cs_nil, cs_cons, E.den_lit, E.den_var, E.den_add, E.den_sub, E.den_mul, E.den_quo, E.den_rem, E.den_max, E.den_min, E.den_len, E.den_wr, E.den_cell, Nat.reduceAdd, h1, ctAt, ctJHeight, ctF, lineSh, jobSh, rangeSh, n_, k_, ofKn]
  intro u1 r1 _ _ _ w _ _ u2 r2 _ _ _ li _ _ pi _ _ st _ _ ka _ _ kb _ _ kc _ _ kd _ _ v _ _ po _ _ u3 r3 _ _ _ ro _ _ u _ _
  refine ⟨bds_nil _, fun a _ _ b _ _ e => ?_⟩
  exact e
theorem mud_ok : tab3.ok 72 := by
  refine Tab.of_ct rfl rfl ⟨_, Try.func72, by decide, rfl⟩ ?_ ctF_det
  refine ct_ok (cx := cmud) (Tab.cx_ok all_nil fxmud) Try.func72 (bds := []) (T := tmud) (by kernel_rfl) ?_
  unfold tmud
  simp only [VC, allC, List.map_cons, List.map_nil, List.length_cons, List.length_nil, List.getElem?_cons_zero, List.getElem?_cons_succ, List.cons.injEq, C.i.injEq, C.b.injEq, and_true, true_and, forall_const, kindsOf_nil, kindsOf_lf, kindsOf_agg, kindsOf_box, boxKinds_nil, boxKinds_lf, boxKinds_agg, boxKinds_box, List.append_nil, List.cons_append, List.nil_append, den_cmp_le, den_cmp_lt, den_cmp_eq, den_cmp_ne, den_cmp_le', den_cmp_lt', den_cmp_eq', den_cmp_ne', den_and, den_and', den_or, den_or', den_not, den_not', den_blit, den_of, ev_var, at_0, at_1, at_2, at_3, at_4, at_5, at_6, at_7, at_skip, c_int, c_bool, c_arr, c_cnt, c_vec, ev_nil, ev_join, ev_sub3, loc_s, int_i, bool_b, rows_s, cs_nil, cs_cons, E.den_lit, E.den_var, E.den_add, E.den_sub, E.den_mul, E.den_quo, E.den_rem, E.den_max, E.den_min, E.den_len, E.den_wr, E.den_cell, Nat.reduceAdd, ctMud, ctF, jobSh, n_]
  rintro u1 r1 _ _ _ w _ _ u2 r2 _ _ _ li _ _ pi _ _ st _ _ ka _ _ kb _ _ kc _ _ kd _ _ v _ _ po _ _ u3 r3 _ _ _ ro _ _ m _ _ ⟨hj, hm1, hm2⟩
  have hm1 : 0 ≤ m := hm1
  have hm2 : m ≤ 4398046511104 := hm2
  have hf := hj.jf
  have hro : ro = volV (segsOf r1) := hj.2.2
  have hv0 : volV (segsOf r1) ≤ 5242880000 := hf.room
  have hst : 1 ≤ st ∧ st ≤ volV (segsOf r1) := hf.step
  have hpi : 0 ≤ pi ∧ pi ≤ 1099511627776 := hf.pipe
  have e1 : ∀ x : Int, (ka ≠ 2 → x = 0) → (ka = 2 → x = max 0 (min m (volV (segsOf r1)) - pi)) → x = mudV (jobOf [.s u1 r1, .i w, .s u2 r2, .i li, .i pi, .i st, .i ka, .i kb, .i kc, .i kd, .i v, .i po, .s u3 r3, .i ro, .i m] 0) m := fun x h1 h2 => by
    show x = if ka = 2 then max 0 (min m (volV (segsOf r1)) - pi) else 0
    split
    · rename_i h; exact h2 h
    · rename_i h; exact h1 h
  refine ⟨bds_nil _, fun h => e1 _ (fun _ => rfl) (fun h2 => by omega), fun h => ⟨fun h2 => ⟨by omega, by omega, e1 _ (fun h3 => absurd h2 h3) fun _ => by rw [hro]⟩, fun h2 => ⟨fun h3 => e1 _ (fun _ => rfl) (fun h4 => absurd h4 h2), fun h3 => e1 _ (fun _ => rfl) (fun h4 => absurd h4 h2)⟩⟩⟩
theorem quo_box {n d : Int} (h0 : 0 ≤ n) (hd : 1 ≤ d) : n.tdiv d = n / d ∧ 0 ≤ n / d ∧ n / d ≤ n := by
  refine ⟨Int.tdiv_eq_ediv_of_nonneg h0, Int.ediv_nonneg h0 (by omega), ?_⟩
  have := Int.ediv_le_self d h0
  exact this
theorem gas_ok : tab3.ok 74 := by
  refine Tab.of_ct rfl rfl ⟨_, Try.func74, by decide, rfl⟩ ?_ ctF_det
  refine ct_ok (cx := cjgas) (Tab.cx_ok all_nil) Try.func74 (bds := []) (T := tjgas) (by kernel_rfl) ?_
  unfold tjgas
  simp only [VC, allC, List.map_cons, List.map_nil, List.length_cons, List.length_nil, List.getElem?_cons_zero, List.getElem?_cons_succ, List.cons.injEq, C.i.injEq, C.b.injEq, and_true, true_and, forall_const, kindsOf_nil, kindsOf_lf, kindsOf_agg, kindsOf_box, boxKinds_nil, boxKinds_lf, boxKinds_agg, boxKinds_box, List.append_nil, List.cons_append, List.nil_append, den_cmp_le, den_cmp_lt, den_cmp_eq, den_cmp_ne, den_cmp_le', den_cmp_lt', den_cmp_eq', den_cmp_ne', den_and, den_and', den_or, den_or', den_not, den_not', den_blit, den_of, ev_var, at_0, at_1, at_2, at_3, at_4, at_5, at_6, at_7, at_skip, c_int, c_bool, c_arr, c_cnt, c_vec, ev_nil, ev_join, ev_sub3, loc_s, int_i, bool_b, rows_s, cs_nil, cs_cons, E.den_lit, E.den_var, E.den_add, E.den_sub, E.den_mul, E.den_quo, E.den_rem, E.den_max, E.den_min, E.den_len, E.den_wr, E.den_cell, Nat.reduceAdd, ctGas, ctF, jobSh, rangeSh, kn_, n_, ofKn]
  rintro u1 r1 _ _ _ w _ _ u2 r2 _ _ _ li _ _ pi _ _ st _ _ ka _ _ kb _ _ kc _ _ kd _ _ v _ _ po _ _ u3 r3 _ _ _ ro _ _ p1 _ _ p2 _ _ ⟨hj, h1, h2, h3, h4⟩
  simp only at h1 h2 h3 h4
  have hf := hj.jf
  have hv : 1 ≤ v ∧ v ≤ 16777216 := hf.vol
  have hp : 1 ≤ po ∧ po ≤ 17179869184 := hf.pore
  have hn := mul_box (a := v) (b := po) (A := 16777216) (B := 17179869184) (by omega) (by omega) (by omega) (by omega)
  have g1 : ∀ a b : Int, a = v * po / max 1 p2 → b = (v * po + max 1 p1 - 1) / max 1 p1 → ([.i a, .i b] : List C) = [.i (gasK (bubOf [.s u1 r1, .i w, .s u2 r2, .i li, .i pi, .i st, .i ka, .i kb, .i kc, .i kd, .i v, .i po, .s u3 r3, .i ro, .i p1, .i p2] 10) (p1, p2)).1, .i (gasK (bubOf [.s u1 r1, .i w, .s u2 r2, .i li, .i pi, .i st, .i ka, .i kb, .i kc, .i kd, .i v, .i po, .s u3 r3, .i ro, .i p1, .i p2] 10) (p1, p2)).2] := fun a b e1 e2 => by rw [e1, e2]; rfl
  simp only [List.cons.injEq, C.i.injEq, and_true] at g1
  generalize v * po = n at *
  have q1 := quo_box (n := n) (d := max 1 p2) (by omega) (by omega)
  have q2 := quo_box (n := n + max 1 p1 - 1) (d := max 1 p1) (by omega) (by omega)
  rw [q1.1, q2.1]
  exact ⟨bds_nil _, by omega, by omega, by omega, by omega, by omega, by omega, by omega, g1 _ _ rfl rfl⟩
end Go.Proofs.Ytmdmgpikbebejaa
/- Kill: pressures below the gas; a job's check; the last step's sign. -/
namespace Go.Proofs.Ytmdmgpikbebejaa
open Go.RowKit
set_option linter.unusedSimpArgs false
set_option linter.unusedVariables false

/-- Both ends lie between two numbers. -/
def KnB (lo hi : Int) (a : Kn) : Prop := lo ≤ a.1 ∧ a.1 ≤ hi ∧ lo ≤ a.2 ∧ a.2 ≤ hi
theorem KnB.ok {lo hi : Int} {a : Kn} (h : KnB lo hi a) (h1 : -1099511627776 ≤ lo) (h2 : hi ≤ 1099511627776) : KnOK a := by
  obtain ⟨a1, a2, a3, a4⟩ := h
  exact ⟨by omega, by omega, by omega, by omega⟩
theorem under_bd {lo hi w : Int} {a h : Kn} (ha : KnB lo hi a) (hw : 0 ≤ w ∧ w ≤ 40000) (hh : HtOK h) : KnB (lo - 41943040000) hi (underK a w h) := by
  obtain ⟨a1, a2, a3, a4⟩ := ha
  obtain ⟨b1, b2, b3, b4⟩ := hh
  have m1 := mul_bd hw b1 b2
  have m2 := mul_bd hw b3 b4
  exact ⟨by show _ ≤ a.1 - w * h.2; omega, by show a.1 - w * h.2 ≤ _; omega, by show _ ≤ a.2 - w * h.1; omega, by show a.2 - w * h.1 ≤ _; omega⟩
theorem less_ht {a b : Kn} (ha : HtOK a) (hb : HtOK b) : HtOK (lessK a b) := by
  obtain ⟨a1, a2, a3, a4⟩ := ha
  obtain ⟨b1, b2, b3, b4⟩ := hb
  exact ⟨by show 0 ≤ max 0 (a.1 - b.2); omega, by show max 0 (a.1 - b.2) ≤ _; omega, by show 0 ≤ max 0 (a.2 - b.1); omega, by show max 0 (a.2 - b.1) ≤ _; omega⟩
theorem exact_bd {b : Int} (hb : BOK b) : KnB 1 68719476736 (b, b) := ⟨hb.1, hb.2, hb.1, hb.2⟩
theorem down_bd {j : Jb} (hf : JF j) {b : Int} (hb : BOK b) (c u : Int) : KnB (-83886079999) 68719476736 (downV j b c u) := by
  have e := exact_bd hb
  have h1 := under_bd e hf.pweight (ht_ok hf.hole u)
  have h2 := under_bd (under_bd e hf.pweight (ht_ok hf.hole c)) hf.weight (less_ht (ht_ok hf.hole u) (ht_ok hf.hole c))
  unfold downV
  split
  · obtain ⟨a1, a2, a3, a4⟩ := h1; exact ⟨by omega, a2, by omega, a4⟩
  · obtain ⟨a1, a2, a3, a4⟩ := h2; exact ⟨by omega, a2, by omega, a4⟩
theorem down_ok : tab3.ok 73 := by
  refine Tab.of_ct rfl rfl ⟨_, Try.func73, by decide, rfl⟩ ?_ ctF_det
  refine ct_ok (cx := cdown) (Tab.cx_ok (all_cons jht_ok (all_cons exact_ok (all_cons under_ok (all_cons less_ok all_nil))))) Try.func73 (bds := []) (T := tdown) (by kernel_rfl) ?_
  have h1 : cdown.ct 75 = some ctJHeight := rfl
  have h2 : cdown.ct 80 = some ctExact := rfl
  have h3 : cdown.ct 78 = some ctUnder := rfl
  have h4 : cdown.ct 79 = some ctLess := rfl
  unfold tdown
  simp only [VC, allC, List.map_cons, List.map_nil, List.length_cons, List.length_nil, List.getElem?_cons_zero, List.getElem?_cons_succ, List.cons.injEq, C.i.injEq, C.b.injEq, and_true, true_and, forall_const, kindsOf_nil, kindsOf_lf, kindsOf_agg, kindsOf_box, boxKinds_nil, boxKinds_lf, boxKinds_agg, boxKinds_box, List.append_nil, List.cons_append, List.nil_append, den_cmp_le, den_cmp_lt, den_cmp_eq, den_cmp_ne, den_cmp_le', den_cmp_lt', den_cmp_eq', den_cmp_ne', den_and, den_and', den_or, den_or', den_not, den_not', den_blit, den_of, ev_var, at_0, at_1, at_2, at_3, at_4, at_5, at_6, at_7, at_skip, c_int, c_bool, c_arr, c_cnt, c_vec, ev_nil, ev_join, ev_sub3, loc_s, int_i, bool_b, rows_s, cs_nil, cs_cons, E.den_lit, E.den_var, E.den_add, E.den_sub, E.den_mul, E.den_quo, E.den_rem, E.den_max, E.den_min, E.den_len, E.den_wr, E.den_cell, Nat.reduceAdd, h1, h2, h3, h4, ctJHeight, ctExact, ctUnder, ctLess, ctDown, ctF, jobSh, rangeSh, kn_, n_, k_, ofKn]
  rintro u1 r1 _ _ _ w _ _ u2 r2 _ _ _ li _ _ pi _ _ st _ _ ka _ _ kb _ _ kc _ _ kd _ _ v _ _ po _ _ u3 r3 _ _ _ ro _ _ b _ _ c _ _ u _ _ ⟨hj, hb⟩
  have hf := hj.jf
  have hline : knots r3 = heightV (segsOf r1) := hj.2.1
  rw [hline]
  have hw : 0 ≤ w ∧ w ≤ 40000 := hf.weight
  have hp : 0 ≤ kb ∧ kb ≤ 40000 := hf.pweight
  have hh : ∀ x, HtOK (htV (segsOf r1) x) := ht_ok (show holeV (segsOf r1) = 0 from hf.hole)
  have he := exact_bd hb
  have hd1 : u ≤ c → downV (jobOf [.s u1 r1, .i w, .s u2 r2, .i li, .i pi, .i st, .i ka, .i kb, .i kc, .i kd, .i v, .i po, .s u3 r3, .i ro, .i b, .i c, .i u] 0) b c u = underK (b, b) kb (htV (segsOf r1) u) := fun h => if_pos h
  have hd2 : ¬ u ≤ c → downV (jobOf [.s u1 r1, .i w, .s u2 r2, .i li, .i pi, .i st, .i ka, .i kb, .i kc, .i kd, .i v, .i po, .s u3 r3, .i ro, .i b, .i c, .i u] 0) b c u = underK (underK (b, b) kb (htV (segsOf r1) c)) w (lessK (htV (segsOf r1) u) (htV (segsOf r1) c)) := fun h => if_neg h
  refine ⟨bds_nil _, fun hle => ?_, fun hgt => ?_⟩
  · rw [hd1 hle]
    rintro x1 _ _ x2 _ _ ⟨rfl, rfl⟩ x3 _ _ x4 _ _ ⟨rfl, rfl⟩
    refine ⟨⟨he.ok (by decide) (by decide), hp, hh u⟩, ?_⟩
    rintro x5 _ _ x6 _ _ ⟨rfl, rfl⟩
    exact ⟨rfl, rfl⟩
  · rw [hd2 (by omega)]
    rintro x1 _ _ x2 _ _ ⟨rfl, rfl⟩ x3 _ _ x4 _ _ ⟨rfl, rfl⟩
    refine ⟨⟨he.ok (by decide) (by decide), hp, hh c⟩, ?_⟩
    rintro x5 _ _ x6 _ _ ⟨rfl, rfl⟩ x7 _ _ x8 _ _ ⟨rfl, rfl⟩
    refine ⟨⟨hh u, hh c⟩, ?_⟩
    rintro x9 _ _ x10 _ _ ⟨rfl, rfl⟩
    refine ⟨⟨(under_bd he hp (hh c)).ok (by decide) (by decide), hw, less_ht (hh u) (hh c)⟩, ?_⟩
    rintro x11 _ _ x12 _ _ ⟨rfl, rfl⟩
    exact ⟨rfl, rfl⟩
theorem chk_ok : tab3.ok 48 := by
  refine Tab.of_ct rfl rfl ⟨_, Try.func48, by decide, rfl⟩ ?_ ctF_det
  refine ct_ok (cx := cchk) (Tab.cx_ok (all_cons (up3_ok cwell_ok) (all_cons (up3_ok cprog_ok) (all_cons (up3_ok ckick_ok) all_nil)))) Try.func48 (bds := []) (T := tchk) (by kernel_rfl) ?_
  have h1 : cchk.ct 15 = some ctWell := rfl
  have h2 : cchk.ct 17 = some ctProg := rfl
  have h3 : cchk.ct 19 = some ctKick := rfl
  unfold tchk
  simp only [VC, allC, List.map_cons, List.map_nil, List.length_cons, List.length_nil, List.getElem?_cons_zero, List.getElem?_cons_succ, List.cons.injEq, C.i.injEq, C.b.injEq, and_true, true_and, forall_const, kindsOf_nil, kindsOf_lf, kindsOf_agg, kindsOf_box, boxKinds_nil, boxKinds_lf, boxKinds_agg, boxKinds_box, List.append_nil, List.cons_append, List.nil_append, den_cmp_le, den_cmp_lt, den_cmp_eq, den_cmp_ne, den_cmp_le', den_cmp_lt', den_cmp_eq', den_cmp_ne', den_and, den_and', den_or, den_or', den_not, den_not', den_blit, den_of, ev_var, at_0, at_1, at_2, at_3, at_4, at_5, at_6, at_7, at_skip, c_int, c_bool, c_arr, c_cnt, c_vec, ev_nil, ev_join, ev_sub3, loc_s, int_i, bool_b, rows_s, cs_nil, cs_cons, E.den_lit, E.den_var, E.den_add, E.den_sub, E.den_mul, E.den_quo, E.den_rem, E.den_max, E.den_min, E.den_len, E.den_wr, E.den_cell, Nat.reduceAdd, h1, h2, h3, ctWell, ctProg, ctKick, ctCheckJ, ctF, wellSh, wellKs, progSh, bubSh]
  intro u1 r1 _ _ _ w _ _ u2 r2 _ _ _ li _ _ pi _ _ st _ _ ka _ _ kb _ _ kc _ _ kd _ _ v _ _ po _ _
  refine ⟨bds_nil _, fun n _ _ hn => ⟨fun h => ?_, fun h => fun n2 _ _ hn2 => ⟨fun h2 => ?_, fun h2 => fun n3 _ _ hn3 => ?_⟩⟩⟩
  · rw [hn] at h ⊢; exact (orE_pos h).symm
  · rw [hn] at h; rw [hn2] at h2 ⊢
    exact ((orE_zero h).trans (orE_pos h2)).symm
  · rw [hn] at h; rw [hn2] at h2; rw [hn3]
    exact ((orE_zero h).trans (orE_zero h2)).symm
theorem over_ok : tab3.ok 70 := by
  refine Tab.of_ct rfl rfl ⟨_, Try.func70, by decide, rfl⟩ ?_ ctF_det
  refine ct_ok (cx := cover) (Tab.cx_ok all_nil fxover) Try.func70 (bds := []) (T := tover) (by kernel_rfl) ?_
  unfold tover
  simp only [VC, allC, List.map_cons, List.map_nil, List.length_cons, List.length_nil, List.getElem?_cons_zero, List.getElem?_cons_succ, List.cons.injEq, C.i.injEq, C.b.injEq, and_true, true_and, forall_const, kindsOf_nil, kindsOf_lf, kindsOf_agg, kindsOf_box, boxKinds_nil, boxKinds_lf, boxKinds_agg, boxKinds_box, List.append_nil, List.cons_append, List.nil_append, den_cmp_le, den_cmp_lt, den_cmp_eq, den_cmp_ne, den_cmp_le', den_cmp_lt', den_cmp_eq', den_cmp_ne', den_and, den_and', den_or, den_or', den_not, den_not', den_blit, den_of, ev_var, at_0, at_1, at_2, at_3, at_4, at_5, at_6, at_7, at_skip, c_int, c_bool, c_arr, c_cnt, c_vec, ev_nil, ev_join, ev_sub3, loc_s, int_i, bool_b, rows_s, cs_nil, cs_cons, E.den_lit, E.den_var, E.den_add, E.den_sub, E.den_mul, E.den_quo, E.den_rem, E.den_max, E.den_min, E.den_len, E.den_wr, E.den_cell, Nat.reduceAdd, ctOver, ctF, jobSh, momASh, n_]
  rintro u1 r1 _ _ _ w _ _ u2 r2 _ _ _ li _ _ pi _ _ st _ _ ka _ _ kb _ _ kc _ _ kd _ _ v _ _ po _ _ u3 r3 _ _ _ ro _ _ m1 _ _ m2 _ _ m3 _ _ m4 _ _ m5 _ _ m6 _ _ m7 _ _ u4 r4 _ _ _ ⟨hj, h1, h2, h3, h4⟩
  have hf := hj.jf
  have hro : ro = volV (segsOf r1) := hj.2.2
  have hk : 1 ≤ ka ∧ ka ≤ 3 := hf.kind
  generalize hO : overV _ _ = O
  have o1 : ka ≠ 3 → O = decide (volV (segsOf r1) ≤ m1 + m3) := fun h => by rw [← hO]; exact if_neg h
  have o3 : ka = 3 → O = decide (m3 = 0) := fun h => by rw [← hO]; exact if_pos h
  refine ⟨bds_nil _, fun e => ⟨by omega, ?_⟩, fun e1 => ⟨fun e => ⟨by omega, ?_⟩, fun e2 => ⟨fun e => ?_, fun e3 => by omega⟩⟩⟩
  · rw [o1 (by omega)]; show decide (ro ≤ m1 + m3) = _; rw [hro]
  · rw [o1 (by omega)]; show decide (ro ≤ m1 + m3) = _; rw [hro]
  · rw [o3 e]; rfl
theorem bot_box {j : Jb} (hf : JF j) {e : Int} (he : ErrOK e) : BOK (botV j.p j.k e) := by
  have h1 := hf.margin
  have h2 := hf.err
  have h3 := hf.pore
  have h4 : 0 ≤ e + 1 ∧ e ≤ 1 := ⟨by have := he.1; omega, he.2⟩
  have h5 : -17179869184 ≤ e * j.p.err ∧ e * j.p.err ≤ 17179869184 := by
    rcases (show e = -1 ∨ e = 0 ∨ e = 1 by omega) with rfl | rfl | rfl
    · rw [Int.neg_one_mul]; omega
    · rw [Int.zero_mul]; omega
    · rw [Int.one_mul]; omega
  unfold botV
  exact ⟨by omega, by omega⟩
theorem step_box {j : Jb} (hf : JF j) {s : Int} (hs : StepOK s) : MOK (s * j.w.step) := by
  have h1 := hf.step
  have h2 := hf.room
  have h3 := hs.1
  have h4 := hs.2
  have := mul_box (a := s) (b := j.w.step) (A := 400) (B := 5242880000) h3 h4 (by omega) (by omega)
  exact ⟨by omega, by omega⟩
theorem mom_cx (hr : tab3.ok 59) (hp : tab3.ok 60) : CxOK cmom := Tab.cx_ok (all_cons (up3_ok botj_ok) (all_cons hr (all_cons hp all_nil))) fxmom
theorem mom_ok (hr : tab3.ok 59) (hp : tab3.ok 60) : tab3.ok 50 := by
  refine Tab.of_ct rfl rfl ⟨_, Try.func50, by decide, rfl⟩ ?_ (fun h => by cases h)
  refine ct_ok (cx := cmom) (mom_cx hr hp) Try.func50 (bds := []) (T := tmom) (by kernel_rfl) ?_
  have h1 : cmom.ct 45 = some ctBotJ := rfl
  have h2 : cmom.ct 59 = some ctRising := rfl
  have h3 : cmom.ct 60 = some ctPushed := rfl
  unfold tmom
  simp only [VC, allC, List.map_cons, List.map_nil, List.length_cons, List.length_nil, List.getElem?_cons_zero, List.getElem?_cons_succ, List.cons.injEq, C.i.injEq, C.b.injEq, and_true, true_and, forall_const, kindsOf_nil, kindsOf_lf, kindsOf_agg, kindsOf_box, boxKinds_nil, boxKinds_lf, boxKinds_agg, boxKinds_box, List.append_nil, List.cons_append, List.nil_append, den_cmp_le, den_cmp_lt, den_cmp_eq, den_cmp_ne, den_cmp_le', den_cmp_lt', den_cmp_eq', den_cmp_ne', den_and, den_and', den_or, den_or', den_not, den_not', den_blit, den_of, ev_var, at_0, at_1, at_2, at_3, at_4, at_5, at_6, at_7, at_skip, c_int, c_bool, c_arr, c_cnt, c_vec, ev_nil, ev_join, ev_sub3, loc_s, int_i, bool_b, rows_s, cs_nil, cs_cons, E.den_lit, E.den_var, E.den_add, E.den_sub, E.den_mul, E.den_quo, E.den_rem, E.den_max, E.den_min, E.den_len, E.den_wr, E.den_cell, Nat.reduceAdd, h1, h2, h3, ctBotJ, ctRising, ctPushed, ctMoment, ctF, jobSh, momSh, momKs, n_]
  rintro u1 r1 _ _ _ w _ _ u2 r2 _ _ _ li _ _ pi _ _ st _ _ ka _ _ kb _ _ kc _ _ kd _ _ v _ _ po _ _ u3 r3 _ _ _ ro _ _ s _ _ e _ _ ⟨hj, hs, he⟩
  have hf := hj.jf
  have hro : ro = volV (segsOf r1) := hj.2.2
  have hk : 1 ≤ ka ∧ ka ≤ 3 := hf.kind
  have hm : MOK (s * st) := step_box hf hs
  have hm1 : 0 ≤ s * st := hm.1
  have hm2 : s * st ≤ 4398046511104 := hm.2
  have hb : BOK (botV ⟨ka, kb, kc, kd⟩ ⟨v, po⟩ e) := bot_box hf he
  have hjv := jobV_iff.1 hj.1
  have q1 : ka ≠ 3 → momentV (jobOf [.s u1 r1, .i w, .s u2 r2, .i li, .i pi, .i st, .i ka, .i kb, .i kc, .i kd, .i v, .i po, .s u3 r3, .i ro, .i s, .i e] 0) s e = risingV (jobOf [.s u1 r1, .i w, .s u2 r2, .i li, .i pi, .i st, .i ka, .i kb, .i kc, .i kd, .i v, .i po, .s u3 r3, .i ro, .i s, .i e] 0) (s * st) (botV ⟨ka, kb, kc, kd⟩ ⟨v, po⟩ e) := fun h => if_neg h
  have q3 : ka = 3 → momentV (jobOf [.s u1 r1, .i w, .s u2 r2, .i li, .i pi, .i st, .i ka, .i kb, .i kc, .i kd, .i v, .i po, .s u3 r3, .i ro, .i s, .i e] 0) s e = pushedV (jobOf [.s u1 r1, .i w, .s u2 r2, .i li, .i pi, .i st, .i ka, .i kb, .i kc, .i kd, .i v, .i po, .s u3 r3, .i ro, .i s, .i e] 0) (s * st) (botV ⟨ka, kb, kc, kd⟩ ⟨v, po⟩ e) := fun h => if_pos h
  refine ⟨bds_nil _, ⟨by omega, by omega⟩, ⟨hjv.2.1, hjv.2.2, he⟩, ?_⟩
  rintro n _ _ rfl
  refine ⟨fun h => ⟨⟨by omega, by omega⟩, ⟨hj, hm, hb⟩, ?_⟩, fun h1 => ⟨fun h => ⟨⟨by omega, by omega⟩, ⟨hj, hm, hb⟩, ?_⟩, fun h2 => ⟨fun h => ⟨⟨by omega, by omega⟩, ⟨hj, hm, hb⟩, ?_⟩, fun h3 => by omega⟩⟩⟩
  · intro _ _ _ _ _ _ _ _ _ _ _ _ _ _ _ _ _ _ _ _ _ _ _ _ _ _ hx
    rw [q1 (by omega)]; exact hx
  · intro _ _ _ _ _ _ _ _ _ _ _ _ _ _ _ _ _ _ _ _ _ _ _ _ _ _ hx
    rw [q1 (by omega)]; exact hx
  · intro _ _ _ _ _ _ _ _ _ _ _ _ _ _ _ _ _ _ _ _ _ _ _ _ _ _ hx
    rw [q3 (by omega)]; exact hx
end Go.Proofs.Ytmdmgpikbebejaa
/- Kill: a moment while the gas rises. -/
namespace Go.Proofs.Ytmdmgpikbebejaa
open Go.RowKit
set_option linter.unusedSimpArgs false
set_option linter.unusedVariables false

theorem gasK_bd {k : Bb} (hv : 1 ≤ k.vol ∧ k.vol ≤ 16777216) (hp : 1 ≤ k.pore ∧ k.pore ≤ 17179869184) (p : Kn) : 0 ≤ (gasK k p).1 ∧ (gasK k p).1 ≤ 288230376151711744 ∧ 0 ≤ (gasK k p).2 ∧ (gasK k p).2 ≤ 288230376151711744 := by
  have hn := mul_box (a := k.vol) (b := k.pore) (A := 16777216) (B := 17179869184) (by omega) (by omega) (by omega) (by omega)
  have h1 : 1 * 1 ≤ k.vol * k.pore := Int.mul_le_mul hv.1 hp.1 (by omega) (by omega)
  unfold gasK
  generalize k.vol * k.pore = n at *
  have q1 := quo_box (n := n) (d := max 1 p.2) (by omega) (by omega)
  have q2 := quo_box (n := n + max 1 p.1 - 1) (d := max 1 p.1) (by omega) (by omega)
  have hd : 1 ≤ max 1 p.1 := by omega
  generalize max 1 p.1 = d at *
  have h3 : 0 ≤ (n - 1) * (d - 1) := Int.mul_nonneg (by omega) (by omega)
  have h4 : (n + d - 1) / d ≤ n := Int.ediv_le_of_le_mul (by omega) (by
    have : (n - 1) * (d - 1) = n * d - n - d + 1 := by rw [Int.sub_mul, Int.mul_sub, Int.mul_sub]; omega
    omega)
  exact ⟨q1.2.1, by show n / _ ≤ _; omega, q2.2.1, by show (n + d - 1) / d ≤ _; omega⟩
theorem map_take_succ {α β : Type} (f : α → β) {l : List α} {i : Nat} (h : i < l.length) (d : α) : (l.take (i + 1)).map f = (l.take i).map f ++ [f (l.getD i d)] := by
  rw [take_snoc h d, List.map_append]; rfl
set_option maxHeartbeats 1000000 in
theorem ris_ok : tab3.ok 59 := by
  refine Tab.of_ct rfl rfl ⟨_, Try.func59, by decide, rfl⟩ ?_ (fun h => by cases h)
  refine ct_ok (cx := cris) (Tab.cx_ok (all_cons jht_ok (all_cons mud_ok (all_cons gas_ok (all_cons down_ok (all_cons under_ok (all_cons less_ok (all_cons join_ok all_nil))))))) fxris) Try.func59 (bds := []) (T := tris) (by kernel_rfl) ?_
  have h1 : cris.ct 75 = some ctJHeight := rfl
  have h2 : cris.ct 72 = some ctMud := rfl
  have h3 : cris.ct 74 = some ctGas := rfl
  have h4 : cris.ct 73 = some ctDown := rfl
  have h5 : cris.ct 78 = some ctUnder := rfl
  have h6 : cris.ct 79 = some ctLess := rfl
  have h7 : cris.ct 76 = some ctJoin := rfl
  unfold tris
  simp only [VC, allC, List.map_cons, List.map_nil, List.length_cons, List.length_nil, List.getElem?_cons_zero, List.getElem?_cons_succ, List.cons.injEq, C.i.injEq, C.b.injEq, and_true, true_and, forall_const, kindsOf_nil, kindsOf_lf, kindsOf_agg, kindsOf_box, boxKinds_nil, boxKinds_lf, boxKinds_agg, boxKinds_box, List.append_nil, List.cons_append, List.nil_append, den_cmp_le, den_cmp_lt, den_cmp_eq, den_cmp_ne, den_cmp_le', den_cmp_lt', den_cmp_eq', den_cmp_ne', den_and, den_and', den_or, den_or', den_not, den_not', den_blit, den_of, ev_var, at_0, at_1, at_2, at_3, at_4, at_5, at_6, at_7, at_skip, c_int, c_bool, c_arr, c_cnt, c_vec, ev_nil, ev_join, ev_sub3, loc_s, int_i, bool_b, rows_s, cs_nil, cs_cons, E.den_lit, E.den_var, E.den_add, E.den_sub, E.den_mul, E.den_quo, E.den_rem, E.den_max, E.den_min, E.den_len, E.den_wr, E.den_cell, ev_cell, kn1, kn2, Nat.reduceAdd, h1, h2, h3, h4, h5, h6, h7, ctJHeight, ctMud, ctGas, ctDown, ctUnder, ctLess, ctJoin, ctF, jobSh, rangeSh, momSh, momKs, kn_, n_, k_, ofKn, ctRising]
  rintro u1 r1 _ _ _ w _ _ u2 r2 _ _ _ li _ _ pi _ _ st _ _ ka _ _ kb _ _ kc _ _ kd _ _ v _ _ po _ _ u3 r3 _ _ _ ro _ _ m _ _ b _ _ ⟨hj, hm, hb⟩
  obtain ⟨j, hjd⟩ : ∃ j, j = jobOf [.s u1 r1, .i w, .s u2 r2, .i li, .i pi, .i st, .i ka, .i kb, .i kc, .i kd, .i v, .i po, .s u3 r3, .i ro, .i m, .i b] 0 := ⟨_, rfl⟩
  rw [← hjd]
  have hf : JF j := by rw [hjd]; exact hj.jf
  have hm1 : 0 ≤ m := hm.1
  have hm2 : m ≤ 4398046511104 := hm.2
  have hro : ro = volV j.w.segs := by rw [hjd]; exact hj.2.2
  have hline : ∀ u, atV (knots r3) u = htV j.w.segs u := fun u => by rw [hjd]; exact congrArg (fun l => atV l u) hj.2.1
  have hseg : j.w.segs = segsOf r1 := by rw [hjd]; rfl
  have hwt : j.w.weight = w := by rw [hjd]; rfl
  have hpts : j.w.points = knots r2 := by rw [hjd]; rfl
  have hlen := knots_len r2
  have hw : 0 ≤ w ∧ w ≤ 40000 := hwt ▸ hf.weight
  have hh : ∀ x, HtOK (htV j.w.segs x) := ht_ok hf.hole
  have hg := gasK_bd hf.vol hf.pore (baseV j m b)
  have hbd := down_bd hf hb (mudV j m) m
  have hpl := hf.len
  refine ⟨bds_nil _, ⟨hj, hm⟩, ?_⟩
  rintro c _ _ hc
  have hc : c = mudV j m := by rw [hjd]; exact hc
  subst hc
  unfold tris_8
  simp only [VC, allC, List.map_cons, List.map_nil, List.length_cons, List.length_nil, List.getElem?_cons_zero, List.getElem?_cons_succ, List.cons.injEq, C.i.injEq, C.b.injEq, and_true, true_and, forall_const, kindsOf_nil, kindsOf_lf, kindsOf_agg, kindsOf_box, boxKinds_nil, boxKinds_lf, boxKinds_agg, boxKinds_box, List.append_nil, List.cons_append, List.nil_append, den_cmp_le, den_cmp_lt, den_cmp_eq, den_cmp_ne, den_cmp_le', den_cmp_lt', den_cmp_eq', den_cmp_ne', den_and, den_and', den_or, den_or', den_not, den_not', den_blit, den_of, ev_var, at_0, at_1, at_2, at_3, at_4, at_5, at_6, at_7, at_skip, c_int, c_bool, c_arr, c_cnt, c_vec, ev_nil, ev_join, ev_sub3, loc_s, int_i, bool_b, rows_s, cs_nil, cs_cons, E.den_lit, E.den_var, E.den_add, E.den_sub, E.den_mul, E.den_quo, E.den_rem, E.den_max, E.den_min, E.den_len, E.den_wr, E.den_cell, ev_cell, kn1, kn2, Nat.reduceAdd, h1, h2, h3, h4, h5, h6, h7, ctJHeight, ctMud, ctGas, ctDown, ctUnder, ctLess, ctJoin, ctF, jobSh, rangeSh, momSh, momKs, kn_, n_, k_, ofKn]
  refine ⟨⟨hj, hb⟩, ?_⟩
  rintro b1 _ _ b2 _ _ ⟨e1, e2⟩
  have e1 : b1 = (baseV j m b).1 := by rw [e1, hjd]; rfl
  have e2 : b2 = (baseV j m b).2 := by rw [e2, hjd]; rfl
  subst e1 e2
  unfold tris_7
  simp only [VC, allC, List.map_cons, List.map_nil, List.length_cons, List.length_nil, List.getElem?_cons_zero, List.getElem?_cons_succ, List.cons.injEq, C.i.injEq, C.b.injEq, and_true, true_and, forall_const, kindsOf_nil, kindsOf_lf, kindsOf_agg, kindsOf_box, boxKinds_nil, boxKinds_lf, boxKinds_agg, boxKinds_box, List.append_nil, List.cons_append, List.nil_append, den_cmp_le, den_cmp_lt, den_cmp_eq, den_cmp_ne, den_cmp_le', den_cmp_lt', den_cmp_eq', den_cmp_ne', den_and, den_and', den_or, den_or', den_not, den_not', den_blit, den_of, ev_var, at_0, at_1, at_2, at_3, at_4, at_5, at_6, at_7, at_skip, c_int, c_bool, c_arr, c_cnt, c_vec, ev_nil, ev_join, ev_sub3, loc_s, int_i, bool_b, rows_s, cs_nil, cs_cons, E.den_lit, E.den_var, E.den_add, E.den_sub, E.den_mul, E.den_quo, E.den_rem, E.den_max, E.den_min, E.den_len, E.den_wr, E.den_cell, ev_cell, kn1, kn2, Nat.reduceAdd, h1, h2, h3, h4, h5, h6, h7, ctJHeight, ctMud, ctGas, ctDown, ctUnder, ctLess, ctJoin, ctF, jobSh, rangeSh, momSh, momKs, kn_, n_, k_, ofKn]
  refine ⟨⟨hj, hbd.ok (by decide) (by decide)⟩, ?_⟩
  rintro g1 _ _ g2 _ _ ⟨e1, e2⟩
  have e1 : g1 = (rgasV j m b).1 := by rw [e1, hjd]; rfl
  have e2 : g2 = (rgasV j m b).2 := by rw [e2, hjd]; rfl
  subst e1 e2
  have hg1 : 0 ≤ (rgasV j m b).1 ∧ (rgasV j m b).1 ≤ 288230376151711744 := ⟨hg.1, hg.2.1⟩
  have hg2 : 0 ≤ (rgasV j m b).2 ∧ (rgasV j m b).2 ≤ 288230376151711744 := ⟨hg.2.2.1, hg.2.2.2⟩
  unfold tris_6
  simp only [VC, allC, List.map_cons, List.map_nil, List.length_cons, List.length_nil, List.getElem?_cons_zero, List.getElem?_cons_succ, List.cons.injEq, C.i.injEq, C.b.injEq, and_true, true_and, forall_const, kindsOf_nil, kindsOf_lf, kindsOf_agg, kindsOf_box, boxKinds_nil, boxKinds_lf, boxKinds_agg, boxKinds_box, List.append_nil, List.cons_append, List.nil_append, den_cmp_le, den_cmp_lt, den_cmp_eq, den_cmp_ne, den_cmp_le', den_cmp_lt', den_cmp_eq', den_cmp_ne', den_and, den_and', den_or, den_or', den_not, den_not', den_blit, den_of, ev_var, at_0, at_1, at_2, at_3, at_4, at_5, at_6, at_7, at_skip, c_int, c_bool, c_arr, c_cnt, c_vec, ev_nil, ev_join, ev_sub3, loc_s, int_i, bool_b, rows_s, cs_nil, cs_cons, E.den_lit, E.den_var, E.den_add, E.den_sub, E.den_mul, E.den_quo, E.den_rem, E.den_max, E.den_min, E.den_len, E.den_wr, E.den_cell, ev_cell, kn1, kn2, Nat.reduceAdd, h1, h2, h3, h4, h5, h6, h7, ctJHeight, ctMud, ctGas, ctDown, ctUnder, ctLess, ctJoin, ctF, jobSh, rangeSh, momSh, momKs, kn_, n_, k_, ofKn, hline]
  refine ⟨⟨by omega, by omega⟩, ⟨by omega, by omega⟩, ?_⟩
  rintro t1 _ _ t2 _ _ ⟨rfl, rfl⟩
  unfold tris_5
  simp only [VC, allC, List.map_cons, List.map_nil, List.length_cons, List.length_nil, List.getElem?_cons_zero, List.getElem?_cons_succ, List.cons.injEq, C.i.injEq, C.b.injEq, and_true, true_and, forall_const, kindsOf_nil, kindsOf_lf, kindsOf_agg, kindsOf_box, boxKinds_nil, boxKinds_lf, boxKinds_agg, boxKinds_box, List.append_nil, List.cons_append, List.nil_append, den_cmp_le, den_cmp_lt, den_cmp_eq, den_cmp_ne, den_cmp_le', den_cmp_lt', den_cmp_eq', den_cmp_ne', den_and, den_and', den_or, den_or', den_not, den_not', den_blit, den_of, ev_var, at_0, at_1, at_2, at_3, at_4, at_5, at_6, at_7, at_skip, c_int, c_bool, c_arr, c_cnt, c_vec, ev_nil, ev_join, ev_sub3, loc_s, int_i, bool_b, rows_s, cs_nil, cs_cons, E.den_lit, E.den_var, E.den_add, E.den_sub, E.den_mul, E.den_quo, E.den_rem, E.den_max, E.den_min, E.den_len, E.den_wr, E.den_cell, ev_cell, kn1, kn2, Nat.reduceAdd, h1, h2, h3, h4, h5, h6, h7, ctJHeight, ctMud, ctGas, ctDown, ctUnder, ctLess, ctJoin, ctF, jobSh, rangeSh, momSh, momKs, kn_, n_, k_, ofKn, hline]
  refine ⟨⟨by omega, by omega⟩, ⟨by omega, by omega⟩, ?_⟩
  rintro t1 _ _ t2 _ _ ⟨rfl, rfl⟩ t3 _ _ t4 _ _ ⟨e1, e2⟩
  have e1 : t3 = (rtopV j m b).1 := by rw [e1]; rfl
  have e2 : t4 = (rtopV j m b).2 := by rw [e2]; rfl
  subst e1 e2
  unfold tris_4
  simp only [VC, allC, List.map_cons, List.map_nil, List.length_cons, List.length_nil, List.getElem?_cons_zero, List.getElem?_cons_succ, List.cons.injEq, C.i.injEq, C.b.injEq, and_true, true_and, forall_const, kindsOf_nil, kindsOf_lf, kindsOf_agg, kindsOf_box, boxKinds_nil, boxKinds_lf, boxKinds_agg, boxKinds_box, List.append_nil, List.cons_append, List.nil_append, den_cmp_le, den_cmp_lt, den_cmp_eq, den_cmp_ne, den_cmp_le', den_cmp_lt', den_cmp_eq', den_cmp_ne', den_and, den_and', den_or, den_or', den_not, den_not', den_blit, den_of, ev_var, at_0, at_1, at_2, at_3, at_4, at_5, at_6, at_7, at_skip, c_int, c_bool, c_arr, c_cnt, c_vec, ev_nil, ev_join, ev_sub3, loc_s, int_i, bool_b, rows_s, cs_nil, cs_cons, E.den_lit, E.den_var, E.den_add, E.den_sub, E.den_mul, E.den_quo, E.den_rem, E.den_max, E.den_min, E.den_len, E.den_wr, E.den_cell, ev_cell, kn1, kn2, Nat.reduceAdd, h1, h2, h3, h4, h5, h6, h7, ctJHeight, ctMud, ctGas, ctDown, ctUnder, ctLess, ctJoin, ctF, jobSh, rangeSh, momSh, momKs, kn_, n_, k_, ofKn, hline]
  intro vv
  have hr1 : ∀ u, u ≤ m → ratV j m b u = downV j b (mudV j m) u := fun u h => if_pos h
  have hr2 : ∀ u, m < u → ratV j m b u = underK (baseV j m b) w (lessK (htV j.w.segs u) (rtopV j m b)) := fun u h => by rw [← hwt]; exact if_neg (by omega)
  have htop : HtOK (rtopV j m b) := ⟨(hh _).1, (hh _).2.1, (hh _).2.2.1, (hh _).2.2.2⟩
  have hbk : KnOK (baseV j m b) := hbd.ok (by decide) (by decide)
  rw [hpts] at hpl
  refine ⟨fun xs => match xs with | [.i i, .i a1, .i a2, .i a3, .i a4, .i a5, _, _, .s _ rows] => 0 ≤ i ∧ i ≤ (knots r2).length ∧ a1 = m ∧ a2 = (rgasV j m b).1 ∧ a3 = (rgasV j m b).2 ∧ a4 = (baseV j m b).1 ∧ a5 = (baseV j m b).2 ∧ knots rows = ((knots r2).take i.toNat).map (fun p => ratV j m b p.1) | _ => False, fun xs => match xs with | .i i :: _ => ((r2.length : Int) - i).toNat | _ => 0, ⟨by omega, by omega, rfl, rfl, rfl, rfl, rfl, by simp [knots]⟩, ?_⟩
  rintro i _ _ a1 _ _ a2 _ _ a3 _ _ a4 _ _ a5 _ _ s1 _ _ s2 _ _ vr rows _ _ _ ⟨i0, i1, rfl, rfl, rfl, rfl, rfl, hrows⟩
  have hrl : rows.length = i.toNat := by
    have := congrArg List.length hrows
    rw [knots_len2, List.length_map, List.length_take] at this
    omega
  refine ⟨fun hlt => ⟨i0, hlt, ?_⟩, fun hge => ?_⟩
  · have hnext := map_take_succ (fun p : Kn => ratV j a1 b p.1) (l := knots r2) (i := i.toNat) (by omega) (0, 0)
    have hmu : ((r2.length : Int) - (i + 1)).toNat < ((r2.length : Int) - i).toNat := by omega
    have ei : (i + 1).toNat = i.toNat + 1 := by omega
    generalize (knots r2).getD i.toNat (0, 0) = k at *
    refine ⟨fun hle => ⟨⟨hj, hb⟩, ?_⟩, fun hgt => ?_⟩
    · rintro x1 _ _ x2 _ _ ⟨e1, e2⟩
      unfold tris_1
      simp only [VC, allC, List.map_cons, List.map_nil, List.length_cons, List.length_nil, List.getElem?_cons_zero, List.getElem?_cons_succ, List.cons.injEq, C.i.injEq, C.b.injEq, and_true, true_and, forall_const, kindsOf_nil, kindsOf_lf, kindsOf_agg, kindsOf_box, boxKinds_nil, boxKinds_lf, boxKinds_agg, boxKinds_box, List.append_nil, List.cons_append, List.nil_append, den_cmp_le, den_cmp_lt, den_cmp_eq, den_cmp_ne, den_cmp_le', den_cmp_lt', den_cmp_eq', den_cmp_ne', den_and, den_and', den_or, den_or', den_not, den_not', den_blit, den_of, ev_var, at_0, at_1, at_2, at_3, at_4, at_5, at_6, at_7, at_skip, c_int, c_bool, c_arr, c_cnt, c_vec, ev_nil, ev_join, ev_sub3, loc_s, int_i, bool_b, rows_s, cs_nil, cs_cons, E.den_lit, E.den_var, E.den_add, E.den_sub, E.den_mul, E.den_quo, E.den_rem, E.den_max, E.den_min, E.den_len, E.den_wr, E.den_cell, ev_cell, kn1, kn2, Nat.reduceAdd, h1, h2, h3, h4, h5, h6, h7, ctJHeight, ctMud, ctGas, ctDown, ctUnder, ctLess, ctJoin, ctF, jobSh, rangeSh, momSh, momKs, kn_, n_, k_, ofKn]
      refine ⟨by omega, ⟨by omega, by omega, ?_⟩, hmu⟩
      have e1 : x1 = (downV j b (mudV j a1) k.1).1 := by rw [e1, hjd]; rfl
      have e2 : x2 = (downV j b (mudV j a1) k.1).2 := by rw [e2, hjd]; rfl
      rw [ei, hnext, hr1 _ hle, knots_app, hrows, e1, e2]; rfl
    · rintro x1 _ _ x2 _ _ ⟨rfl, rfl⟩
      refine ⟨⟨hh _, htop⟩, ?_⟩
      rintro x1 _ _ x2 _ _ ⟨rfl, rfl⟩
      refine ⟨⟨hbk, hw, less_ht (hh _) htop⟩, ?_⟩
      rintro x1 _ _ x2 _ _ ⟨e1, e2⟩
      unfold tris_2
      simp only [VC, allC, List.map_cons, List.map_nil, List.length_cons, List.length_nil, List.getElem?_cons_zero, List.getElem?_cons_succ, List.cons.injEq, C.i.injEq, C.b.injEq, and_true, true_and, forall_const, kindsOf_nil, kindsOf_lf, kindsOf_agg, kindsOf_box, boxKinds_nil, boxKinds_lf, boxKinds_agg, boxKinds_box, List.append_nil, List.cons_append, List.nil_append, den_cmp_le, den_cmp_lt, den_cmp_eq, den_cmp_ne, den_cmp_le', den_cmp_lt', den_cmp_eq', den_cmp_ne', den_and, den_and', den_or, den_or', den_not, den_not', den_blit, den_of, ev_var, at_0, at_1, at_2, at_3, at_4, at_5, at_6, at_7, at_skip, c_int, c_bool, c_arr, c_cnt, c_vec, ev_nil, ev_join, ev_sub3, loc_s, int_i, bool_b, rows_s, cs_nil, cs_cons, E.den_lit, E.den_var, E.den_add, E.den_sub, E.den_mul, E.den_quo, E.den_rem, E.den_max, E.den_min, E.den_len, E.den_wr, E.den_cell, ev_cell, kn1, kn2, Nat.reduceAdd, h1, h2, h3, h4, h5, h6, h7, ctJHeight, ctMud, ctGas, ctDown, ctUnder, ctLess, ctJoin, ctF, jobSh, rangeSh, momSh, momKs, kn_, n_, k_, ofKn]
      refine ⟨by omega, ⟨by omega, by omega, ?_⟩, hmu⟩
      rw [ei, hnext, hr2 _ hgt, knots_app, hrows, e1, e2]; rfl
  · rintro x1 _ _ x2 _ _ ⟨rfl, rfl⟩
    refine ⟨⟨hh _, htop⟩, ?_⟩
    rintro x1 _ _ x2 _ _ ⟨rfl, rfl⟩
    unfold tris_3
    simp only [VC, allC, List.map_cons, List.map_nil, List.length_cons, List.length_nil, List.getElem?_cons_zero, List.getElem?_cons_succ, List.cons.injEq, C.i.injEq, C.b.injEq, and_true, true_and, forall_const, kindsOf_nil, kindsOf_lf, kindsOf_agg, kindsOf_box, boxKinds_nil, boxKinds_lf, boxKinds_agg, boxKinds_box, List.append_nil, List.cons_append, List.nil_append, den_cmp_le, den_cmp_lt, den_cmp_eq, den_cmp_ne, den_cmp_le', den_cmp_lt', den_cmp_eq', den_cmp_ne', den_and, den_and', den_or, den_or', den_not, den_not', den_blit, den_of, ev_var, at_0, at_1, at_2, at_3, at_4, at_5, at_6, at_7, at_skip, c_int, c_bool, c_arr, c_cnt, c_vec, ev_nil, ev_join, ev_sub3, loc_s, int_i, bool_b, rows_s, cs_nil, cs_cons, E.den_lit, E.den_var, E.den_add, E.den_sub, E.den_mul, E.den_quo, E.den_rem, E.den_max, E.den_min, E.den_len, E.den_wr, E.den_cell, ev_cell, kn1, kn2, Nat.reduceAdd, h1, h2, h3, h4, h5, h6, h7, ctJHeight, ctMud, ctGas, ctDown, ctUnder, ctLess, ctJoin, ctF, jobSh, rangeSh, momSh, momKs, kn_, n_, k_, ofKn]
    refine ⟨⟨hbk, hw, less_ht (hh _) htop⟩, ?_⟩
    rintro x1 _ _ x2 _ _ ⟨e1, e2⟩
    rw [List.take_of_length_le (by omega)] at hrows
    refine ⟨vr, rows, ?_, by rw [hrows]; show _ = j.w.points.map _; rw [hpts]⟩
    rw [e1, e2, hro, ← hwt]; rfl
end Go.Proofs.Ytmdmgpikbebejaa
