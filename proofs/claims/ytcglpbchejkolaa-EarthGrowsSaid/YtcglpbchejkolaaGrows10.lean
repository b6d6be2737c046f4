/- The law EarthGrows: for every input the call returns true, and each argument reads afterwards as it read before. The frame is printed by frame.py. -/
import Derived.Test.YtcglpbchejkolaaGrows9
import Derived.Test.YtcglpbchejkolaaRows
import Derived.ShutString
import Derived.ChangeOld
/- Earth: True and Known of numbers. -/
namespace Go.Proofs.Ytcglpbchejkolaa
open Go.RowKit
set_option linter.unusedSimpArgs false
set_option linter.unusedVariables false

set_option maxRecDepth 100000 in
theorem truth_ok : tab5.ok 34 := by
  refine Tab.of_ct rfl rfl ⟨_, Try.func34, by decide, rfl⟩ ?_ (fun h => by cases h)
  refine ct_ok (cx := ctruth) (Tab.cx_ok (all_cons (up5_ok (up4_ok mod64_ok)) (all_cons pick_ok all_nil))) Try.func34 (bds := []) (T := ttruth) (by kernel_rfl) ?_
  have h1 : ctruth.ct 22 = some ctMod := rfl
  have h2 : ctruth.ct 61 = some ctPick := rfl
  unfold ttruth
  simp only [VC, allC, List.map_cons, List.map_nil, List.length_cons, List.length_nil, List.getElem?_cons_zero, List.getElem?_cons_succ, List.cons.injEq, C.i.injEq, C.b.injEq, and_true, true_and, forall_const, kindsOf_nil, kindsOf_lf, kindsOf_agg, kindsOf_box, boxKinds_nil, boxKinds_lf, boxKinds_agg, boxKinds_box, List.append_nil, List.cons_append, List.nil_append, den_cmp_le, den_cmp_lt, den_cmp_eq, den_cmp_ne, den_cmp_le', den_cmp_lt', den_cmp_eq', den_cmp_ne', den_and, den_and', den_or, den_or', den_not, den_not', den_blit, den_of, ev_var, at_0, at_1, at_2, at_3, at_4, at_5, at_6, at_7, at_skip, c_int, c_bool, c_arr, c_cnt, c_vec, ev_nil, ev_join, ev_sub3, loc_s, int_i, bool_b, rows_s, cs_nil, cs_cons, E.den_lit, E.den_var, E.den_add, E.den_sub, E.den_mul, E.den_quo, E.den_rem, E.den_max, E.den_min, E.den_len, E.den_wr, E.den_cell, ev_cell, h1, h2, ctMod, ctPick, ctTrue, ctF, groundSh, vecTruth, n_, k_, grOf]
  intro b _ _ u1 r1 _ _ _ u2 r2 _ _ _ u3 r3 _ _ _
  generalize hg : (⟨b, ints r1, ints r2, ints r3⟩ : Gr) = g at *
  have gb : g.bottom = b := by rw [← hg]
  have gs : ints r1 = g.steps := by rw [← hg]
  rw [gs]
  refine ⟨bds_nil _, by decide, ?_⟩
  rintro m _ _ hm
  have hB : 1000 + m = bottomV g := by unfold bottomV; rw [gb, hm]
  have bB := bottomV_bd g
  refine ⟨⟨by omega, by omega⟩, by decide, ?_⟩
  rintro n9 _ _ h9
  refine ⟨by decide, ?_⟩
  rintro n10 _ _ h10
  refine ⟨by decide, ?_⟩
  rintro n11 _ _ h11
  refine ⟨by decide, ?_⟩
  rintro n12 _ _ h12
  have b10 := Int.emod_nonneg n9 (b := 1000000) (by decide)
  have b10' := Int.emod_lt_of_pos n9 (b := 1000000) (by decide)
  have b12 := Int.emod_nonneg n11 (b := 20000000) (by decide)
  have b12' := Int.emod_lt_of_pos n11 (b := 20000000) (by decide)
  rw [← h10] at b10 b10'
  rw [← h12] at b12 b12'
  rw [hB]
  generalize hBB : bottomV g = B at *
  have hP : tpV g = (truthGo g B 6 0 0 n10 (n10 + n12)).map fun k => (k.1, k.2.1) := by unfold tpV truthL; rw [hBB, ← h9, ← h11, ← h10, ← h12]
  have hF : tfV g = (truthGo g B 6 0 0 n10 (n10 + n12)).map fun k => (k.1, k.2.2) := by unfold tfV truthL; rw [hBB, ← h9, ← h11, ← h10, ← h12]
  refine ⟨⟨by omega, by omega⟩, ⟨by omega, by omega⟩, fun xs => match xs with | [.i a, .i p, .i f, .i i, .s _ rp, .s _ rf] => 0 ≤ i ∧ i ≤ 6 ∧ 0 ≤ a ∧ a ≤ B ∧ 0 ≤ p ∧ p ≤ 1000000 + 30000 * a ∧ 0 ≤ f ∧ f ≤ 21000000 + 30000 * a ∧ rp.length = i.toNat ∧ rf.length = i.toNat ∧ knots rp ++ (truthGo g B (6 - i).toNat i a p f).map (fun k => (k.1, k.2.1)) = tpV g ∧ knots rf ++ (truthGo g B (6 - i).toNat i a p f).map (fun k => (k.1, k.2.2)) = tfV g | _ => False, fun xs => match xs with | [_, _, _, .i i, _, _] => (6 - i).toNat | _ => 0, ⟨by omega, by omega, by omega, by omega, by omega, by omega, by omega, by omega, rfl, rfl, hP.symm, hF.symm⟩, ?_⟩
  rintro a _ _ p _ _ f _ _ i _ _ v17 rp _ _ _ v18 rf _ _ _ ⟨i0, i1, a0, a1, p0, p1, f0, f1, lp, lf, hp, hf⟩
  refine ⟨fun hi => ?_, fun hi => ?_⟩
  rotate_left
  · rw [show (6 - i).toNat = 0 by omega, truthGo, List.map_nil, List.append_nil] at hp hf
    exact ⟨hp, hf⟩
  rw [show (6 - i).toNat = (5 - i).toNat + 1 by omega, truthGo, List.map_cons] at hp hf
  refine ⟨fun xs => match xs with | [.s _ rp', .s _ rf'] => rp' = rp ++ [[.i a, .i p]] ∧ rf' = rf ++ [[.i a, .i f]] | _ => False, ⟨⟨⟨by omega, fun _ => ⟨by omega, fun _ => ⟨rfl, rfl⟩⟩⟩, ⟨by omega, fun _ => ⟨by omega, fun _ => ⟨rfl, rfl⟩⟩⟩⟩, ⟨by omega, fun _ => ⟨by omega, fun _ => ⟨rfl, rfl⟩⟩⟩⟩, ?_⟩
  rintro v19 r19 _ _ _ v20 r20 _ _ _ ⟨rfl, rfl⟩
  refine ⟨fun ha => ?_, fun ha => ⟨by omega, ?_⟩⟩
  · rw [if_pos ha, List.map_nil] at hp hf
    exact ⟨by rw [knots_snoc]; exact hp, by rw [knots_snoc]; exact hf⟩
  rw [if_neg ha] at hp hf
  rintro n21 _ _ h21
  refine ⟨⟨by omega, by omega⟩, by omega, ?_⟩
  rintro n22 _ _ h22
  have b22 := Int.emod_nonneg n21 (b := B) (by omega)
  have b22' := Int.emod_lt_of_pos n21 (b := B) (by omega)
  rw [← h22] at b22 b22'
  have hst : stepV g B i a = if i = 4 ∨ B < a + (1 + n22) then B - a else 1 + n22 := by unfold stepV; rw [← h21, ← h22]
  have bst := stepV_bd g (i := i) (show 1 ≤ B by omega) (show a < B by omega)
  refine ⟨⟨by omega, by omega⟩, fun xs => match xs with | [.b t] => t = decide (i = 4 ∨ B < a + (1 + n22)) | _ => False, ⟨fun h4 => (decide_eq_true (.inl h4)).symm, fun h4 => ⟨⟨by omega, by omega⟩, ?_⟩⟩, ?_⟩
  · have e : (decide (B < a + (1 + n22))) = decide (i = 4 ∨ B < a + (1 + n22)) := by
      rw [decide_eq_decide]; exact ⟨.inr, fun h => h.resolve_left h4⟩
    rw [← e, ← hB]; rfl
  rintro t ht
  refine ⟨fun xs => match xs with | [.i s] => s = stepV g B i a | _ => False, ⟨fun h => ⟨⟨by omega, by omega⟩, ⟨by omega, by omega⟩, ?_⟩, fun h => ⟨⟨by omega, by omega⟩, ?_⟩⟩, ?_⟩
  · show B - a = _
    rw [hst, if_pos (of_decide_eq_true (ht.symm.trans h))]
  · show 1 + n22 = _
    rw [hst, if_neg (of_decide_eq_false (ht.symm.trans h))]
  rintro s _ _ rfl
  generalize stepV g B i a = s at *
  refine ⟨by omega, ?_⟩
  rintro n25 _ _ h25
  have b25 := pickV_bd g.steps (i + 3)
  rw [← h25] at b25
  rw [Int.tdiv_eq_ediv_of_nonneg b25.1]
  refine ⟨⟨by omega, by omega⟩, ⟨by omega, by omega⟩, by decide, ?_⟩
  rintro n26 _ _ h26
  have hA : 2000 + n26 = gainA g i := by unfold gainA; rw [← h25, h26]
  have bA := gainA_bd g i
  rw [hA]
  refine ⟨⟨by omega, by omega⟩, by omega, ?_⟩
  rintro n27 _ _ h27
  have b27 := pickV_bd g.steps (i + 4)
  rw [← h27] at b27
  rw [Int.tdiv_eq_ediv_of_nonneg b27.1]
  refine ⟨⟨by omega, by omega⟩, ⟨by omega, by omega⟩, ⟨by omega, by omega⟩, ⟨by omega, by omega⟩, by omega, ?_⟩
  rintro n28 _ _ h28
  have hG : gainA g i + n28 = gainB g i := by unfold gainB; rw [← h27, h28]
  have bG := gainB_bd g i
  rw [hG]
  generalize gainA g i = A at *
  generalize gainB g i = G at *
  have m1 : A * s ≤ 30000 * s := Int.mul_le_mul_of_nonneg_right (by omega) (by omega)
  have m2 : G * s ≤ 30000 * s := Int.mul_le_mul_of_nonneg_right (by omega) (by omega)
  have m3 : 0 ≤ A * s := Int.mul_nonneg (by omega) (by omega)
  have m4 : 0 ≤ G * s := Int.mul_nonneg (by omega) (by omega)
  refine ⟨⟨by omega, by omega⟩, ⟨by omega, by omega⟩, ⟨by omega, by omega⟩, ⟨by omega, by omega⟩, ⟨by omega, by omega⟩, ⟨by omega, by omega⟩, ⟨by omega, by omega⟩, ⟨by omega, by omega⟩, ⟨by omega, by omega⟩, ⟨by omega, by omega, by omega, by omega, by omega, by omega, by omega, by omega, by rw [List.length_append, lp, List.length_singleton]; omega, by rw [List.length_append, lf, List.length_singleton]; omega, ?_, ?_⟩, (show (6 - (i + 1)).toNat < (6 - i).toNat by omega)⟩
  · rw [knots_snoc, List.append_assoc, show (6 - (i + 1)).toNat = (5 - i).toNat by omega]; exact hp
  · rw [knots_snoc, List.append_assoc, show (6 - (i + 1)).toNat = (5 - i).toNat by omega]; exact hf
theorem reps_snoc (rows : List (List C)) (a b c : Int) : repsOf (rows ++ [[.i a, .i b, .i c]]) = repsOf rows ++ [⟨a, b, c⟩] := by rw [reps_app, reps_one]
set_option maxRecDepth 100000 in
theorem known_ok : tab5.ok 20 := by
  refine Tab.of_ct rfl rfl ⟨_, Try.func20, by decide, rfl⟩ ?_ (fun h => by cases h)
  refine ct_ok (cx := cknown) (Tab.cx_ok (all_cons (up5_ok (up4_ok mod64_ok)) (all_cons pick_ok (all_cons truth_ok (all_cons shifted_ok (all_cons report_ok all_nil)))))) Try.func20 (bds := []) (T := tknown) (by kernel_rfl) ?_
  have h1 : cknown.ct 22 = some ctMod := rfl
  have h2 : cknown.ct 61 = some ctPick := rfl
  have h3 : cknown.ct 34 = some ctTrue := rfl
  have h4 : cknown.ct 62 = some ctShifted := rfl
  have h5 : cknown.ct 59 = some ctReport := rfl
  unfold tknown
  simp only [VC, allC, List.map_cons, List.map_nil, List.length_cons, List.length_nil, List.getElem?_cons_zero, List.getElem?_cons_succ, List.cons.injEq, C.i.injEq, C.b.injEq, and_true, true_and, forall_const, kindsOf_nil, kindsOf_lf, kindsOf_agg, kindsOf_box, boxKinds_nil, boxKinds_lf, boxKinds_agg, boxKinds_box, List.append_nil, List.cons_append, List.nil_append, den_cmp_le, den_cmp_lt, den_cmp_eq, den_cmp_ne, den_cmp_le', den_cmp_lt', den_cmp_eq', den_cmp_ne', den_and, den_and', den_or, den_or', den_not, den_not', den_blit, den_of, ev_var, at_0, at_1, at_2, at_3, at_4, at_5, at_6, at_7, at_skip, c_int, c_bool, c_arr, c_cnt, c_vec, ev_nil, ev_join, ev_sub3, loc_s, int_i, bool_b, rows_s, cs_nil, cs_cons, E.den_lit, E.den_var, E.den_add, E.den_sub, E.den_mul, E.den_quo, E.den_rem, E.den_max, E.den_min, E.den_len, E.den_wr, E.den_cell, ev_cell, h1, h2, h3, h4, h5, ctMod, ctPick, ctTrue, ctShifted, ctReport, ctKnown, ctF, groundSh, vecTruth, vecEarth, lineSh, n_, k_, grOf, earOf]
  intro b _ _ u1 r1 _ _ _ u2 r2 _ _ _ u3 r3 _ _ _
  simp only [in1 u3 r3]
  rw [← ints_len r3]
  generalize hg : (⟨b, ints r1, ints r2, ints r3⟩ : Gr) = g at *
  have go : ints r2 = g.off := by rw [← hg]
  have gm : ints r3 = g.marks := by rw [← hg]
  rw [go, gm]
  refine ⟨bds_nil _, ?_⟩
  rintro v9 r9 _ _ _ v10 r10 _ _ _ ⟨h9, h10⟩
  rw [← knots_len r9]
  simp only [kn1 v9 r9, h9, h10]
  obtain ⟨lpos, e0, e1⟩ := endV_bd (tp_line g)
  have hE : ((tpV g).getD (((tpV g).length : Int) - 1).toNat (0, 0)).1 = endV (tpV g) := by unfold endV; rw [show (((tpV g).length : Int) - 1).toNat = (tpV g).length - 1 by omega]
  rw [hE]
  refine ⟨by omega, by omega, by decide, ?_⟩
  rintro n13 _ _ h13
  refine ⟨by decide, ?_⟩
  rintro n14 _ _ h14
  refine ⟨by decide, ?_⟩
  rintro n15 _ _ h15
  refine ⟨by decide, ?_⟩
  rintro n16 _ _ h16
  have b16 := Int.emod_nonneg n15 (b := 10001) (by decide)
  have b16' := Int.emod_lt_of_pos n15 (b := 10001) (by decide)
  rw [← h16] at b16 b16'
  have tl : (tpV g).length ≤ 100 ∧ ∀ k ∈ tpV g, -1152921504606846976 ≤ k.2 ∧ k.2 ≤ 1152921504606846976 := ⟨by have := tp_len g; omega, fun k hk => by have := tp_box g k hk; omega⟩
  have fl : (tfV g).length ≤ 100 ∧ ∀ k ∈ tfV g, -1152921504606846976 ≤ k.2 ∧ k.2 ≤ 1152921504606846976 := ⟨by have := tf_len g; omega, fun k hk => by have := tf_box g k hk; omega⟩
  refine ⟨⟨by omega, by omega⟩, ⟨tl.1, tl.2, by decide, by decide⟩, ?_⟩
  rintro v27 r27 _ _ _ h27
  refine ⟨⟨tl.1, tl.2, by decide, by decide⟩, ?_⟩
  rintro v28 r28 _ _ _ h28
  refine ⟨⟨fl.1, fl.2, by decide, by decide⟩, ?_⟩
  rintro v29 r29 _ _ _ h29
  refine ⟨⟨fl.1, fl.2, by decide, by decide⟩, ?_⟩
  rintro v30 r30 _ _ _ h30
  refine ⟨⟨by omega, by omega⟩, fun xs => match xs with | [.i i, .i b, .s _ a1, .s _ a2, .s _ a3, .s _ a4, .i gl, .i gh, .s _ rr] => 0 ≤ i ∧ i ≤ 8 ∧ i ≤ g.marks.length ∧ b = endV (tpV g) ∧ knots a1 = shiftGo g.off false 0 (tpV g) ∧ knots a2 = shiftGo g.off true 3 (tpV g) ∧ knots a3 = shiftGo g.off false 5 (tfV g) ∧ knots a4 = shiftGo g.off true 7 (tfV g) ∧ gl = n14 ∧ gh = 30000 + n16 ∧ rr.length = i.toNat ∧ repsOf rr = (g.marks.take i.toNat).map (repV (tpV g) (tfV g)) | _ => False, fun xs => match xs with | .i i :: _ => (8 - i).toNat | _ => 0, ⟨by omega, by omega, by omega, rfl, h27, h28, h29, h30, rfl, rfl, rfl, rfl⟩, ?_⟩
  rintro i _ _ b' _ _ v33 r33 _ _ _ v34 r34 _ _ _ v35 r35 _ _ _ v36 r36 _ _ _ gl _ _ gh _ _ v39 r39 _ _ _ ⟨i0, i8, im, eb, k1, k2, k3, k4, egl, egh, rl, hr⟩
  subst eb egl egh
  have fin : ((g.marks.length : Int) ≤ i ∨ 8 ≤ i) → (⟨endV (tpV g), knots r33, knots r34, knots r35, knots r36, gl, 30000 + n16, repsOf r39⟩ : Ear) = knownV g := fun h => by
    unfold knownV
    rw [k1, k2, k3, k4, hr, h14, h13, h16, h15]
    congr 2
    rcases h with h | h
    · rw [List.take_of_length_le (by omega), List.take_of_length_le (by omega)]
    · rw [show i.toNat = 8 by omega]
  refine ⟨fun hlt => ⟨fun h8 => ?_, fun h8 => fin (.inr (by omega))⟩, fun hge => fin (.inl (by omega))⟩
  refine ⟨i0, hlt, ⟨tp_line g, tf_line g⟩, ?_⟩
  rintro x _ _ y _ _ z _ _ ⟨rfl, rfl, rfl⟩
  refine ⟨by omega, fun v44 => ⟨⟨by omega, by omega, by omega, rfl, k1, k2, k3, k4, rfl, rfl, by rw [List.length_append, rl, List.length_singleton]; omega, ?_⟩, (show (8 - (i + 1)).toNat < (8 - i).toNat by omega)⟩⟩
  rw [reps_snoc, hr, show (i + 1).toNat = i.toNat + 1 by omega, take_snoc (by omega) 0, List.map_append]
  rfl
end Go.Proofs.Ytcglpbchejkolaa
/- Earth: the values of a line, part by part: plain laws. -/
namespace Go.Proofs.Ytcglpbchejkolaa
open Go.RowKit
set_option linter.unusedSimpArgs false
set_option linter.unusedVariables false

def segR (p q : Kn) (y : Int) : Kn := (p.2 + (q.2 - p.2) * (y - p.1) / (q.1 - p.1), p.2 + -(-((q.2 - p.2) * (y - p.1)) / (q.1 - p.1)))
def le2 (p q : Kn) : Prop := p.1 ≤ q.1 ∧ p.2 ≤ q.2
theorem rangeP_knot {ks : List Kn} (ha : Asc ks) {k : Kn} (hk : k ∈ ks) : rangeP ks k.1 = (k.2, k.2) := by
  unfold rangeP
  rw [valP_knot ha hk]
  show (k.2, k.2 + min 0 1) = _
  rw [show k.2 + min (0 : Int) 1 = k.2 by omega]
theorem val_mid {ks : List Kn} (ha : Asc ks) {i : Nat} (h1 : 0 < i) (h2 : i < ks.length) {y : Int} (hy : (ks.getD (i - 1) (0, 0)).1 ≤ y) (hy2 : y ≤ (ks.getD i (0, 0)).1) :
    rangeP ks y = segR (ks.getD (i - 1) (0, 0)) (ks.getD i (0, 0)) y := by
  have hlt := ha.lt (i := i - 1) (j := i) (by omega) h2
  have hp := getD_mem (l := ks) (i := i - 1) (by omega) (0, 0)
  have hq := getD_mem (l := ks) (i := i) h2 (0, 0)
  have hbefore : ∀ k < i, (ks.getD (i - 1) (0, 0)).1 < y → (ks.getD k (0, 0)).1 < y := fun k hk h => by
    rcases Nat.lt_or_ge k (i - 1) with h3 | h3
    · have := ha.lt (i := k) (j := i - 1) h3 (by omega); omega
    · rw [show k = i - 1 by omega]; exact h
  have hafter : ∀ k, i ≤ k → k < ks.length → y ≤ (ks.getD k (0, 0)).1 := fun k h3 h4 => by
    rcases Nat.lt_or_ge i k with h5 | h5
    · have := ha.lt (i := i) (j := k) h5 h4; omega
    · rw [show k = i by omega]; exact hy2
  by_cases e1 : (ks.getD (i - 1) (0, 0)).1 = y
  · rw [← e1, rangeP_knot ha hp]
    unfold segR
    rw [Int.sub_self, Int.mul_zero, Int.neg_zero, Int.zero_ediv]
    simp
  by_cases e2 : (ks.getD i (0, 0)).1 = y
  · rw [← e2, rangeP_knot ha hq]
    unfold segR
    rw [← Int.neg_mul, Int.mul_ediv_cancel _ (by omega), Int.mul_ediv_cancel _ (by omega)]
    ext <;> simp <;> omega
  have hf := findV_at (ks := ks) (by intro e; rw [e] at h2; simp at h2) (x := y) (i := i) (by omega) (fun k hk => hbefore k hk (by omega)) hafter
  rw [if_neg (fun h => e2 h.2), show min i (ks.length - 1) = i by omega] at hf
  unfold rangeP valP partAt
  rw [hf]
  generalize ks.getD (i - 1) (0, 0) = p at *
  generalize ks.getD i (0, 0) = q at *
  rw [if_neg (fun h : p = q => by rw [h] at hlt; omega)]
  unfold segR segP
  rw [ceil_law (by omega)]
  simp only [Int.add_assoc]
theorem val_low {ks : List Kn} (ha : Asc ks) (h0 : 0 < ks.length) {y : Int} (hy : y ≤ (ks.getD 0 (0, 0)).1) : rangeP ks y = ((ks.getD 0 (0, 0)).2, (ks.getD 0 (0, 0)).2) := by
  have hf := findV_at (ks := ks) (by intro e; rw [e] at h0; simp at h0) (x := y) (i := 0) (by omega) (fun k hk => by omega) (fun k _ h4 => by
    rcases Nat.eq_zero_or_pos k with h5 | h5
    · rw [h5]; exact hy
    · have := ha.lt (i := 0) (j := k) h5 h4; omega)
  have hf : findV ks y = (ks.getD 0 (0, 0), ks.getD 0 (0, 0)) := by rw [hf]; split <;> simp
  unfold rangeP valP partAt
  rw [hf, if_pos rfl]
  show ((ks.getD 0 (0, 0)).2, (ks.getD 0 (0, 0)).2 + min 0 1) = _
  rw [show (ks.getD 0 (0, 0)).2 + min (0 : Int) 1 = (ks.getD 0 (0, 0)).2 by omega]
theorem val_high {ks : List Kn} (ha : Asc ks) (h0 : 0 < ks.length) {y : Int} (hy : (ks.getD (ks.length - 1) (0, 0)).1 ≤ y) : rangeP ks y = ((ks.getD (ks.length - 1) (0, 0)).2, (ks.getD (ks.length - 1) (0, 0)).2) := by
  by_cases e : (ks.getD (ks.length - 1) (0, 0)).1 = y
  · rw [← e, rangeP_knot ha (getD_mem (by omega) _)]
  have hf := findV_at (ks := ks) (by intro e; rw [e] at h0; simp at h0) (x := y) (i := ks.length) (by omega) (fun k hk => by
    rcases Nat.lt_or_ge k (ks.length - 1) with h5 | h5
    · have := ha.lt (i := k) (j := ks.length - 1) h5 (by omega); omega
    · rw [show k = ks.length - 1 by omega]; omega) (fun k h3 h4 => by omega)
  rw [if_neg (fun h => by omega), show min ks.length (ks.length - 1) = ks.length - 1 by omega] at hf
  unfold rangeP valP partAt
  rw [hf, if_pos rfl]
  show ((ks.getD (ks.length - 1) (0, 0)).2, (ks.getD (ks.length - 1) (0, 0)).2 + min 0 1) = _
  rw [show (ks.getD (ks.length - 1) (0, 0)).2 + min (0 : Int) 1 = (ks.getD (ks.length - 1) (0, 0)).2 by omega]
theorem segR_up {p q : Kn} (h : p.1 < q.1) (hd : p.2 ≤ q.2) {x y : Int} (hxy : x ≤ y) : le2 (segR p q x) (segR p q y) := by
  have m : (q.2 - p.2) * (x - p.1) ≤ (q.2 - p.2) * (y - p.1) := Int.mul_le_mul_of_nonneg_left (by omega) (by omega)
  have a1 := Int.ediv_le_ediv (show 0 < q.1 - p.1 by omega) m
  have a2 := Int.ediv_le_ediv (show 0 < q.1 - p.1 by omega) (Int.neg_le_neg m)
  exact ⟨by show p.2 + _ ≤ p.2 + _; omega, by show p.2 + -_ ≤ p.2 + -_; omega⟩
theorem segR_down {p q : Kn} (h : p.1 < q.1) (hd : q.2 ≤ p.2) {x y : Int} (hxy : x ≤ y) : le2 (segR p q y) (segR p q x) := by
  have m : (q.2 - p.2) * (y - p.1) ≤ (q.2 - p.2) * (x - p.1) := Int.mul_le_mul_of_nonpos_left (by omega) (by omega)
  have a1 := Int.ediv_le_ediv (show 0 < q.1 - p.1 by omega) m
  have a2 := Int.ediv_le_ediv (show 0 < q.1 - p.1 by omega) (Int.neg_le_neg m)
  exact ⟨by show p.2 + _ ≤ p.2 + _; omega, by show p.2 + -_ ≤ p.2 + -_; omega⟩
/-- A part on which a line goes one way. -/
def Mono (ks : List Kn) (a b : Int) : Prop :=
  (∀ x y, a ≤ x → x ≤ y → y ≤ b → le2 (rangeP ks x) (rangeP ks y)) ∨ (∀ x y, a ≤ x → x ≤ y → y ≤ b → le2 (rangeP ks y) (rangeP ks x))
/-- Within a part each place lies in a smaller one, between knots or the part's ends, on which the line goes one way. -/
theorem piece {ks : List Kn} (ha : Asc ks) (h0 : 0 < ks.length) {u w x : Int} (hu : u ≤ x) (hw : x ≤ w) : ∃ a b, u ≤ a ∧ a ≤ x ∧ x ≤ b ∧ b ≤ w ∧ Mono ks a b ∧ (a = u ∨ ∃ k ∈ ks, k.1 = a) ∧ (b = w ∨ ∃ k ∈ ks, k.1 = b) := by
  have conc : ∀ {v : Int}, le2 (v, v) (v, v) := ⟨Int.le_refl _, Int.le_refl _⟩
  obtain ⟨i, hi, h1, h2⟩ := split_at ha x
  by_cases e0 : i = 0
  · subst e0
    have hx := h2 0 (Nat.le_refl _) h0
    by_cases hb : (ks.getD 0 (0, 0)).1 ≤ w
    · exact ⟨u, (ks.getD 0 (0, 0)).1, Int.le_refl _, hu, hx, hb, .inl fun y z _ h4 h5 => by rw [val_low ha h0 (by omega), val_low ha h0 h5]; exact conc, .inl rfl, .inr ⟨_, getD_mem h0 _, rfl⟩⟩
    · exact ⟨u, w, Int.le_refl _, hu, hw, Int.le_refl _, .inl fun y z _ h4 h5 => by rw [val_low ha h0 (by omega), val_low ha h0 (by omega)]; exact conc, .inl rfl, .inl rfl⟩
  have hp := h1 (i - 1) (by omega)
  have lo : ∃ a, u ≤ a ∧ a ≤ x ∧ (ks.getD (i - 1) (0, 0)).1 ≤ a ∧ (a = u ∨ ∃ k ∈ ks, k.1 = a) := by
    by_cases h : u ≤ (ks.getD (i - 1) (0, 0)).1
    · exact ⟨_, h, by omega, Int.le_refl _, .inr ⟨_, getD_mem (by omega) _, rfl⟩⟩
    · exact ⟨u, Int.le_refl _, hu, by omega, .inl rfl⟩
  obtain ⟨a, a1, a2, a3, a4⟩ := lo
  by_cases e1 : i = ks.length
  · subst e1
    exact ⟨a, w, a1, a2, hw, Int.le_refl _, .inl fun y z h3 h4 _ => by rw [val_high ha h0 (by omega), val_high ha h0 (by omega)]; exact conc, a4, .inl rfl⟩
  have hq := h2 i (Nat.le_refl _) (by omega)
  have hlt := ha.lt (i := i - 1) (j := i) (by omega) (by omega)
  have hi' : ∃ b, x ≤ b ∧ b ≤ w ∧ b ≤ (ks.getD i (0, 0)).1 ∧ (b = w ∨ ∃ k ∈ ks, k.1 = b) := by
    by_cases h : (ks.getD i (0, 0)).1 ≤ w
    · exact ⟨_, hq, h, Int.le_refl _, .inr ⟨_, getD_mem (by omega) _, rfl⟩⟩
    · exact ⟨w, hw, Int.le_refl _, by omega, .inl rfl⟩
  obtain ⟨b, b1, b2, b3, b4⟩ := hi'
  refine ⟨a, b, a1, a2, b1, b2, ?_, a4, b4⟩
  clear a4 b4
  rcases Int.le_total (ks.getD (i - 1) (0, 0)).2 (ks.getD i (0, 0)).2 with hd | hd
  · left
    intro y z h3 h4 h5
    rw [val_mid ha (i := i) (y := y) (by omega) (by omega) (by omega) (by omega), val_mid ha (i := i) (y := z) (by omega) (by omega) (by omega) (by omega)]
    exact segR_up hlt hd h4
  · right
    intro y z h3 h4 h5
    rw [val_mid ha (i := i) (y := y) (by omega) (by omega) (by omega) (by omega), val_mid ha (i := i) (y := z) (by omega) (by omega) (by omega) (by omega)]
    exact segR_down hlt hd h4
end Go.Proofs.Ytcglpbchejkolaa
/- Earth: the least and the greatest value of a part enclose all, and are among them: plain laws. -/
namespace Go.Proofs.Ytcglpbchejkolaa
open Go.RowKit
set_option linter.unusedSimpArgs false
set_option linter.unusedVariables false

theorem foldMin_le : ∀ (l : List Int) (s : Int), foldMin l s ≤ s ∧ ∀ x ∈ l, foldMin l s ≤ x
  | [], s => ⟨Int.le_refl _, fun x hx => by cases hx⟩
  | y :: l, s => by
    obtain ⟨h1, h2⟩ := foldMin_le l (min s y)
    show foldMin l (min s y) ≤ s ∧ ∀ x ∈ y :: l, foldMin l (min s y) ≤ x
    refine ⟨by omega, fun x hx => ?_⟩
    rcases List.mem_cons.1 hx with rfl | hx
    · omega
    · exact h2 x hx
theorem foldMax_ge : ∀ (l : List Int) (s : Int), s ≤ foldMax l s ∧ ∀ x ∈ l, x ≤ foldMax l s
  | [], s => ⟨Int.le_refl _, fun x hx => by cases hx⟩
  | y :: l, s => by
    obtain ⟨h1, h2⟩ := foldMax_ge l (max s y)
    show s ≤ foldMax l (max s y) ∧ ∀ x ∈ y :: l, x ≤ foldMax l (max s y)
    refine ⟨by omega, fun x hx => ?_⟩
    rcases List.mem_cons.1 hx with rfl | hx
    · omega
    · exact h2 x hx
/-- Both components' least are one place's. -/
theorem foldMin_at (f : Int → Kn) (hf : ∀ x, (f x).1 ≤ (f x).2 ∧ (f x).2 ≤ (f x).1 + 1) : ∀ (l : List Int) (s : Int), ∃ x ∈ s :: l, (foldMin (l.map fun x => (f x).1) (f s).1, foldMin (l.map fun x => (f x).2) (f s).2) = f x
  | [], s => ⟨s, by simp, rfl⟩
  | y :: l, s => by
    show ∃ x ∈ s :: y :: l, (foldMin (l.map fun x => (f x).1) (min (f s).1 (f y).1), foldMin (l.map fun x => (f x).2) (min (f s).2 (f y).2)) = f x
    have hs := hf s
    have hy := hf y
    by_cases h : (f s).1 ≤ (f y).1 ∧ (f s).2 ≤ (f y).2
    · obtain ⟨x, hx, e⟩ := foldMin_at f hf l s
      rw [show min (f s).1 (f y).1 = (f s).1 by omega, show min (f s).2 (f y).2 = (f s).2 by omega]
      refine ⟨x, ?_, e⟩
      rcases List.mem_cons.1 hx with rfl | hx
      · simp
      · simp [hx]
    · obtain ⟨x, hx, e⟩ := foldMin_at f hf l y
      rw [show min (f s).1 (f y).1 = (f y).1 by omega, show min (f s).2 (f y).2 = (f y).2 by omega]
      exact ⟨x, List.mem_cons_of_mem _ hx, e⟩
theorem foldMax_at (f : Int → Kn) (hf : ∀ x, (f x).1 ≤ (f x).2 ∧ (f x).2 ≤ (f x).1 + 1) : ∀ (l : List Int) (s : Int), ∃ x ∈ s :: l, (foldMax (l.map fun x => (f x).1) (f s).1, foldMax (l.map fun x => (f x).2) (f s).2) = f x
  | [], s => ⟨s, by simp, rfl⟩
  | y :: l, s => by
    show ∃ x ∈ s :: y :: l, (foldMax (l.map fun x => (f x).1) (max (f s).1 (f y).1), foldMax (l.map fun x => (f x).2) (max (f s).2 (f y).2)) = f x
    have hs := hf s
    have hy := hf y
    by_cases h : (f y).1 ≤ (f s).1 ∧ (f y).2 ≤ (f s).2
    · obtain ⟨x, hx, e⟩ := foldMax_at f hf l s
      rw [show max (f s).1 (f y).1 = (f s).1 by omega, show max (f s).2 (f y).2 = (f s).2 by omega]
      refine ⟨x, ?_, e⟩
      rcases List.mem_cons.1 hx with rfl | hx
      · simp
      · simp [hx]
    · obtain ⟨x, hx, e⟩ := foldMax_at f hf l y
      rw [show max (f s).1 (f y).1 = (f y).1 by omega, show max (f s).2 (f y).2 = (f y).2 by omega]
      exact ⟨x, List.mem_cons_of_mem _ hx, e⟩
theorem inner_mem {ks : List Kn} {a b x : Int} (h1 : a ≤ x) (h2 : x ≤ b) (h : x = a ∨ x = b ∨ ∃ k ∈ ks, k.1 = x) : x ∈ innerV ks a b := by
  unfold innerV
  by_cases e1 : x = a
  · subst e1; simp
  by_cases e2 : x = b
  · subst e2; simp
  obtain ⟨k, hk, e⟩ := (h.resolve_left e1).resolve_left e2
  refine List.mem_append_right _ (List.mem_map.2 ⟨k, List.mem_filter.2 ⟨hk, ?_⟩, e⟩)
  rw [Bool.and_eq_true, decide_eq_true_eq, decide_eq_true_eq]
  omega
theorem inner_in {ks : List Kn} {a b x : Int} (hab : a ≤ b) (h : x ∈ innerV ks a b) : a ≤ x ∧ x ≤ b ∧ (x = a ∨ x = b ∨ ∃ k ∈ ks, k.1 = x) := by
  unfold innerV at h
  rcases List.mem_append.1 h with h | h
  · simp only [List.mem_cons, List.not_mem_nil, or_false] at h
    rcases h with rfl | rfl
    · exact ⟨Int.le_refl _, hab, .inl rfl⟩
    · exact ⟨hab, Int.le_refl _, .inr (.inl rfl)⟩
  · obtain ⟨k, hk, rfl⟩ := List.mem_map.1 h
    obtain ⟨h1, h2⟩ := List.mem_filter.1 hk
    rw [Bool.and_eq_true, decide_eq_true_eq, decide_eq_true_eq] at h2
    exact ⟨by omega, by omega, .inr (.inr ⟨k, h1, rfl⟩)⟩
theorem Good.rg {ks : List Kn} (h : Good ks) (x : Int) : (rangeP ks x).1 ≤ (rangeP ks x).2 ∧ (rangeP ks x).2 ≤ (rangeP ks x).1 + 1 := by
  have := h.val x
  unfold rangeP
  exact ⟨by show _ ≤ _ + _; omega, by show _ + _ ≤ _; omega⟩
section
variable {ks : List Kn} (hr : rightB ks = true) {a b : Int} (hab : a ≤ b)
include hr hab
theorem least_eq : leastV ks a b = (foldMin ((innerV ks a b).map fun x => (rangeP ks x).1) (rangeP ks a).1, foldMin ((innerV ks a b).map fun x => (rangeP ks x).2) (rangeP ks a).2) := by
  unfold leastV; rw [if_pos ⟨hr, hab⟩]
theorem most_eq : mostV ks a b = (foldMax ((innerV ks a b).map fun x => (rangeP ks x).1) (rangeP ks a).1, foldMax ((innerV ks a b).map fun x => (rangeP ks x).2) (rangeP ks a).2) := by
  unfold mostV; rw [if_pos ⟨hr, hab⟩]
theorem least_cand {x : Int} (hx : x ∈ innerV ks a b) : le2 (leastV ks a b) (rangeP ks x) := by
  rw [least_eq hr hab]
  exact ⟨(foldMin_le _ _).2 _ (List.mem_map.2 ⟨x, hx, rfl⟩), (foldMin_le _ _).2 _ (List.mem_map.2 ⟨x, hx, rfl⟩)⟩
theorem most_cand {x : Int} (hx : x ∈ innerV ks a b) : le2 (rangeP ks x) (mostV ks a b) := by
  rw [most_eq hr hab]
  exact ⟨(foldMax_ge _ _).2 _ (List.mem_map.2 ⟨x, hx, rfl⟩), (foldMax_ge _ _).2 _ (List.mem_map.2 ⟨x, hx, rfl⟩)⟩
theorem least_at : ∃ x, a ≤ x ∧ x ≤ b ∧ (x = a ∨ x = b ∨ ∃ k ∈ ks, k.1 = x) ∧ leastV ks a b = rangeP ks x := by
  obtain ⟨x, hx, e⟩ := foldMin_at (rangeP ks) (good hr).rg (innerV ks a b) a
  rw [← least_eq hr hab] at e
  have hm : x ∈ innerV ks a b := by
    rcases List.mem_cons.1 hx with rfl | hx
    · exact inner_mem (Int.le_refl _) hab (.inl rfl)
    · exact hx
  obtain ⟨h1, h2, h3⟩ := inner_in hab hm
  exact ⟨x, h1, h2, h3, e⟩
theorem most_at : ∃ x, a ≤ x ∧ x ≤ b ∧ (x = a ∨ x = b ∨ ∃ k ∈ ks, k.1 = x) ∧ mostV ks a b = rangeP ks x := by
  obtain ⟨x, hx, e⟩ := foldMax_at (rangeP ks) (good hr).rg (innerV ks a b) a
  rw [← most_eq hr hab] at e
  have hm : x ∈ innerV ks a b := by
    rcases List.mem_cons.1 hx with rfl | hx
    · exact inner_mem (Int.le_refl _) hab (.inl rfl)
    · exact hx
  obtain ⟨h1, h2, h3⟩ := inner_in hab hm
  exact ⟨x, h1, h2, h3, e⟩
theorem enclose {x : Int} (h1 : a ≤ x) (h2 : x ≤ b) : le2 (leastV ks a b) (rangeP ks x) ∧ le2 (rangeP ks x) (mostV ks a b) := by
  have hg := good hr
  obtain ⟨p, q, p1, p2, p3, p4, hm, hp, hq⟩ := piece hg.asc (List.length_pos_iff.2 hg.ne) h1 h2
  have cp : p ∈ innerV ks a b := inner_mem p1 (by omega) (hp.imp id .inr)
  have cq : q ∈ innerV ks a b := inner_mem (by omega) p4 (.inr hq)
  have l1 := least_cand hr hab cp
  have l2 := least_cand hr hab cq
  have m1 := most_cand hr hab cp
  have m2 := most_cand hr hab cq
  rcases hm with hm | hm
  · have u1 := hm p x (Int.le_refl _) p2 p3
    have u2 := hm x q p2 p3 (Int.le_refl _)
    exact ⟨⟨Int.le_trans l1.1 u1.1, Int.le_trans l1.2 u1.2⟩, Int.le_trans u2.1 m2.1, Int.le_trans u2.2 m2.2⟩
  · have u1 := hm p x (Int.le_refl _) p2 p3
    have u2 := hm x q p2 p3 (Int.le_refl _)
    exact ⟨⟨Int.le_trans l2.1 u2.1, Int.le_trans l2.2 u2.2⟩, Int.le_trans u1.1 m1.1, Int.le_trans u1.2 m1.2⟩
end
end Go.Proofs.Ytcglpbchejkolaa
/- Earth: the earth made of numbers: its lines are lines. -/
namespace Go.Proofs.Ytcglpbchejkolaa
open Go.RowKit
set_option linter.unusedSimpArgs false
set_option linter.unusedVariables false

theorem shift_len (off : List Int) (up : Bool) : ∀ (l : List Kn) (i : Int), (shiftGo off up i l).length = l.length
  | [], i => rfl
  | k :: l, i => by rw [shiftGo, List.length_cons, List.length_cons, shift_len off up l]
theorem shift_asc (off : List Int) (up : Bool) : ∀ {l : List Kn} {i : Int}, Asc l → Asc (shiftGo off up i l)
  | [], i, _ => .nil
  | [k], i, _ => .one _
  | k :: k' :: l, i, .cons h ht => .cons h (shift_asc off up (i := i + 1) ht)
theorem shift_box {off : List Int} {up : Bool} {A V : Int} : ∀ {l : List Kn} {i : Int}, (∀ k ∈ l, 0 ≤ k.1 ∧ k.1 ≤ A ∧ 0 ≤ k.2 ∧ k.2 ≤ V) → ∀ k ∈ shiftGo off up i l, 0 ≤ k.1 ∧ k.1 ≤ A ∧ 0 ≤ k.2 ∧ k.2 ≤ V + 40000000
  | [], i, _, k, hk => by cases hk
  | x :: l, i, h, k, hk => by
    rw [shiftGo] at hk
    rcases List.mem_cons.1 hk with rfl | hk
    · have hx := h x (by simp)
      have hp := Int.emod_nonneg (pickV off i) (b := 40000000) (by decide)
      have hp' := Int.emod_lt_of_pos (pickV off i) (b := 40000000) (by decide)
      refine ⟨hx.1, hx.2.1, ?_⟩
      show 0 ≤ (if up = true then x.2 + pickV off i % 40000000 else max 0 (x.2 - pickV off i % 40000000)) ∧ (if up = true then x.2 + pickV off i % 40000000 else max 0 (x.2 - pickV off i % 40000000)) ≤ V + 40000000
      split <;> omega
    · exact shift_box (fun k hk => h k (by simp [hk])) k hk
theorem shift_line {off : List Int} {up : Bool} {l : List Kn} {i : Int} (h0 : l ≠ []) (h1 : l.length ≤ 6) (ha : Asc l) (hb : ∀ k ∈ l, 0 ≤ k.1 ∧ k.1 ≤ 500000 ∧ 0 ≤ k.2 ∧ k.2 ≤ 15021000000) : lineE (shiftGo off up i l) = 0 :=
  lineE_of (fun e => h0 (List.length_eq_zero_iff.1 (by rw [← shift_len off up l i, e]; rfl))) (by rw [shift_len]; omega) (shift_asc off up ha) fun k hk => by have := shift_box hb k hk; omega
theorem tp_box' (g : Gr) : ∀ k ∈ tpV g, 0 ≤ k.1 ∧ k.1 ≤ 500000 ∧ 0 ≤ k.2 ∧ k.2 ≤ 15021000000 := fun k hk => by have := tp_box g k hk; omega
theorem known_pl (g : Gr) : lineE (knownV g).pl = 0 := shift_line (tp_rise g).ne (tp_len g) (tp_rise g).asc (tp_box' g)
theorem known_ph (g : Gr) : lineE (knownV g).ph = 0 := shift_line (tp_rise g).ne (tp_len g) (tp_rise g).asc (tp_box' g)
theorem known_fl (g : Gr) : lineE (knownV g).fl = 0 := shift_line (tf_rise g).ne (tf_len g) (tf_rise g).asc (tf_box g)
theorem known_fh (g : Gr) : lineE (knownV g).fh = 0 := shift_line (tf_rise g).ne (tf_len g) (tf_rise g).asc (tf_box g)
end Go.Proofs.Ytcglpbchejkolaa
/- Earth: bounds of a line's values; one cm's step of what a point allows. -/
namespace Go.Proofs.Ytcglpbchejkolaa
open Go.RowKit
set_option linter.unusedSimpArgs false
set_option linter.unusedVariables false

theorem range_box {ks : List Kn} (ha : Asc ks) (h0 : 0 < ks.length) {lo hi : Int} (hb : ∀ k ∈ ks, lo ≤ k.2 ∧ k.2 ≤ hi) (x : Int) : lo ≤ (rangeP ks x).1 ∧ (rangeP ks x).1 ≤ hi ∧ lo ≤ (rangeP ks x).2 ∧ (rangeP ks x).2 ≤ hi := by
  obtain ⟨i, hi', h1, h2⟩ := split_at ha x
  by_cases e0 : i = 0
  · subst e0
    rw [val_low ha h0 (h2 0 (Nat.le_refl _) h0)]
    have := hb _ (getD_mem h0 (0, 0))
    exact ⟨this.1, this.2, this.1, this.2⟩
  have hp := h1 (i - 1) (by omega)
  by_cases e1 : i = ks.length
  · rw [val_high ha h0 (by rw [← e1]; omega)]
    have := hb _ (getD_mem (l := ks) (i := ks.length - 1) (by omega) (0, 0))
    exact ⟨this.1, this.2, this.1, this.2⟩
  have hq := h2 i (Nat.le_refl _) (by omega)
  have hlt := ha.lt (i := i - 1) (j := i) (by omega) (by omega)
  have mp := getD_mem (l := ks) (i := i - 1) (by omega) (0, 0)
  have mq := getD_mem (l := ks) (i := i) (by omega) (0, 0)
  have kp := rangeP_knot ha mp
  have kq := rangeP_knot ha mq
  rw [val_mid ha (i := i) (by omega) (by omega) (Int.le_refl _) (by omega)] at kp
  rw [val_mid ha (i := i) (by omega) (by omega) (by omega) (Int.le_refl _)] at kq
  rw [val_mid ha (i := i) (by omega) (by omega) (by omega) hq]
  have bp := hb _ mp
  have bq := hb _ mq
  rcases Int.le_total (ks.getD (i - 1) (0, 0)).2 (ks.getD i (0, 0)).2 with hd | hd
  · have u1 := segR_up hlt hd (show (ks.getD (i - 1) (0, 0)).1 ≤ x by omega)
    have u2 := segR_up hlt hd hq
    rw [kp] at u1
    rw [kq] at u2
    obtain ⟨a1, a2⟩ := u1
    obtain ⟨a3, a4⟩ := u2
    exact ⟨Int.le_trans bp.1 a1, Int.le_trans a3 bq.2, Int.le_trans bp.1 a2, Int.le_trans a4 bq.2⟩
  · have u1 := segR_down hlt hd (show (ks.getD (i - 1) (0, 0)).1 ≤ x by omega)
    have u2 := segR_down hlt hd hq
    rw [kp] at u1
    rw [kq] at u2
    obtain ⟨a1, a2⟩ := u1
    obtain ⟨a3, a4⟩ := u2
    exact ⟨Int.le_trans bq.1 a3, Int.le_trans a1 bp.2, Int.le_trans bq.1 a4, Int.le_trans a2 bp.2⟩
theorem upP_step {gl gh z : Int} (h : gl ≤ gh) (h0 : 0 ≤ gl) (k : Kn) : upP gl gh z k + gl ≤ upP gl gh (z + 1) k ∧ upP gl gh (z + 1) k ≤ upP gl gh z k + gh := by
  unfold upP
  have e1 : gl * (z + 1 - k.1) = gl * (z - k.1) + gl := by rw [show z + 1 - k.1 = (z - k.1) + 1 by omega, Int.mul_add, Int.mul_one]
  have e2 : gh * (z + 1 - k.1) = gh * (z - k.1) + gh := by rw [show z + 1 - k.1 = (z - k.1) + 1 by omega, Int.mul_add, Int.mul_one]
  by_cases h1 : z + 1 < k.1
  · rw [if_pos h1, if_pos (by omega)]; omega
  · by_cases h2 : z < k.1
    · rw [if_neg h1, if_pos h2, show z + 1 - k.1 = 0 by omega, show z - k.1 = -1 by omega]; omega
    · rw [if_neg h1, if_neg h2]; omega
theorem loP_step {gl gh z : Int} (h : gl ≤ gh) (h0 : 0 ≤ gl) (k : Kn) : loP gl gh z k + gl ≤ loP gl gh (z + 1) k ∧ loP gl gh (z + 1) k ≤ loP gl gh z k + gh := by
  unfold loP
  have e1 : gl * (z + 1 - k.1) = gl * (z - k.1) + gl := by rw [show z + 1 - k.1 = (z - k.1) + 1 by omega, Int.mul_add, Int.mul_one]
  have e2 : gh * (z + 1 - k.1) = gh * (z - k.1) + gh := by rw [show z + 1 - k.1 = (z - k.1) + 1 by omega, Int.mul_add, Int.mul_one]
  by_cases h1 : z + 1 < k.1
  · rw [if_pos h1, if_pos (by omega)]; omega
  · by_cases h2 : z < k.1
    · rw [if_neg h1, if_pos h2, show z + 1 - k.1 = 0 by omega, show z - k.1 = -1 by omega]; omega
    · rw [if_neg h1, if_neg h2]; omega
theorem upV_step {gl gh z : Int} (h : gl ≤ gh) (h0 : 0 ≤ gl) : ∀ (l : List Kn) (s s' : Int), s' ≤ s + gh → upV gl gh l (z + 1) s' ≤ upV gl gh l z s + gh
  | [], s, s', hs => hs
  | k :: l, s, s', hs => by
    have := upP_step (z := z) h h0 k
    exact upV_step h h0 l (min s (upP gl gh z k)) (min s' (upP gl gh (z + 1) k)) (by omega)
theorem loV_step {gl gh z : Int} (h : gl ≤ gh) (h0 : 0 ≤ gl) : ∀ (l : List Kn) (s s' : Int), s ≤ s' → loV gl gh l z s ≤ loV gl gh l (z + 1) s'
  | [], s, s', hs => hs
  | k :: l, s, s', hs => by
    have := loP_step (z := z) h h0 k
    exact loV_step h h0 l (max s (loP gl gh z k)) (max s' (loP gl gh (z + 1) k)) (by omega)
end Go.Proofs.Ytcglpbchejkolaa
/- Earth: one cm's step of a line that goes up. -/
namespace Go.Proofs.Ytcglpbchejkolaa
open Go.RowKit
set_option linter.unusedSimpArgs false
set_option linter.unusedVariables false

theorem Rise.slope {gl gh B : Int} : ∀ {l : List Kn}, Rise gl gh B l → ∀ {i : Nat}, 0 < i → i < l.length → gl * ((l.getD i (0, 0)).1 - (l.getD (i - 1) (0, 0)).1) ≤ (l.getD i (0, 0)).2 - (l.getD (i - 1) (0, 0)).2 ∧ (l.getD i (0, 0)).2 - (l.getD (i - 1) (0, 0)).2 ≤ gh * ((l.getD i (0, 0)).1 - (l.getD (i - 1) (0, 0)).1)
  | [], h, i, h1, h2 => by cases h
  | [k], h, i, h1, h2 => by simp at h2; omega
  | (a, v) :: (a', v') :: l, h, i, h1, h2 => by
    cases h with
    | cons ha hB g1 g2 ht =>
      match i, h1, h2 with
      | 1, _, _ => exact ⟨g1, g2⟩
      | i + 2, _, h2 => exact ht.slope (i := i + 1) (by omega) (by simpa using h2)
theorem segR_step {p q : Kn} {gl gh z : Int} (h : p.1 < q.1) (h1 : gl * (q.1 - p.1) ≤ q.2 - p.2) (h2 : q.2 - p.2 ≤ gh * (q.1 - p.1)) :
    ((segR p q z).1 + gl ≤ (segR p q (z + 1)).1 ∧ (segR p q (z + 1)).1 ≤ (segR p q z).1 + gh) ∧ (segR p q z).2 + gl ≤ (segR p q (z + 1)).2 ∧ (segR p q (z + 1)).2 ≤ (segR p q z).2 + gh := by
  unfold segR
  have hL : 0 < q.1 - p.1 := by omega
  have e : (q.2 - p.2) * (z + 1 - p.1) = (q.2 - p.2) * (z - p.1) + (q.2 - p.2) := by rw [show z + 1 - p.1 = (z - p.1) + 1 by omega, Int.mul_add, Int.mul_one]
  rw [e]
  generalize (q.2 - p.2) * (z - p.1) = N at *
  generalize q.2 - p.2 = D at *
  generalize q.1 - p.1 = L at *
  have a1 := Int.ediv_le_ediv hL (show N + gl * L ≤ N + D by omega)
  have a2 := Int.ediv_le_ediv hL (show N + D ≤ N + gh * L by omega)
  have a3 := Int.ediv_le_ediv hL (show -(N + D) ≤ -N + -gl * L by rw [Int.neg_mul]; omega)
  have a4 := Int.ediv_le_ediv hL (show -N + -gh * L ≤ -(N + D) by rw [Int.neg_mul]; omega)
  rw [Int.add_mul_ediv_right _ _ (by omega)] at a1 a2 a3 a4
  simp only []
  omega
theorem Rise.step {gl gh B : Int} {l : List Kn} (h : Rise gl gh B l) (h0 : 0 ≤ gl) (hg : gl ≤ gh) (z : Int) : le2 (rangeP l z) (rangeP l (z + 1)) ∧ (rangeP l (z + 1)).1 ≤ (rangeP l z).1 + gh ∧ (rangeP l (z + 1)).2 ≤ (rangeP l z).2 + gh := by
  have ha := h.asc
  have hl : 0 < l.length := List.length_pos_iff.2 h.ne
  obtain ⟨i, hi, h1, h2⟩ := split_at ha (z + 1)
  by_cases e0 : i = 0
  · subst e0
    have := h2 0 (Nat.le_refl _) hl
    rw [val_low ha hl (y := z) (by omega), val_low ha hl this]
    exact ⟨⟨Int.le_refl _, Int.le_refl _⟩, by show _ ≤ _ + gh; omega, by show _ ≤ _ + gh; omega⟩
  have hp := h1 (i - 1) (by omega)
  by_cases e1 : i = l.length
  · rw [e1] at hp
    rw [val_high ha hl (y := z) (by omega), val_high ha hl (y := z + 1) (by omega)]
    exact ⟨⟨Int.le_refl _, Int.le_refl _⟩, by show _ ≤ _ + gh; omega, by show _ ≤ _ + gh; omega⟩
  have hq := h2 i (Nat.le_refl _) (by omega)
  have hlt := ha.lt (i := i - 1) (j := i) (by omega) (by omega)
  obtain ⟨s1, s2⟩ := h.slope (i := i) (by omega) (by omega)
  rw [val_mid ha (i := i) (y := z) (by omega) (by omega) (by omega) (by omega), val_mid ha (i := i) (y := z + 1) (by omega) (by omega) (by omega) (by omega)]
  obtain ⟨⟨b1, b2⟩, b3, b4⟩ := segR_step (z := z) hlt s1 s2
  exact ⟨⟨by omega, by omega⟩, b2, b4⟩
/-- A line lifted as a whole. -/
def lift (off : Int) (l : List Kn) : List Kn := l.map fun k => (k.1, k.2 + off)
theorem Rise.lift {gl gh B off : Int} : ∀ {l : List Kn}, Rise gl gh B l → Rise gl gh B (lift off l)
  | [], h => by cases h
  | [k], h => by cases h; exact .one _
  | (a, v) :: (a', v') :: l, h => by
    cases h with
    | cons ha hB g1 g2 ht => exact .cons ha hB (show gl * (a' - a) ≤ v' + off - (v + off) by omega) (show v' + off - (v + off) ≤ gh * (a' - a) by omega) ht.lift
end Go.Proofs.Ytcglpbchejkolaa
/- Earth: the earth whose lines are a truth's: valid, and what its ranges do in one cm. -/
namespace Go.Proofs.Ytcglpbchejkolaa
open Go.RowKit
set_option linter.unusedSimpArgs false
set_option linter.unusedVariables false

theorem same_ab {u l : List Kn} (hu : Good u) (hl : Good l) (h1 : ∀ k ∈ u, ∃ k' ∈ l, k'.1 = k.1 ∧ k'.2 ≤ k.2) (h2 : ∀ k ∈ l, ∃ k' ∈ u, k'.1 = k.1 ∧ k.2 ≤ k'.2) (to : Int) : aboveV u l to = true := by
  rw [aboveV_iff hu hl]
  refine ⟨fun k hk => .inr ?_, fun k hk => .inr ?_⟩
  · obtain ⟨k', m, e, le⟩ := h1 k hk
    rw [← e, rangeP_knot hl.asc m]; exact le
  · obtain ⟨k', m, e, le⟩ := h2 k hk
    rw [← e, rangeP_knot hu.asc m]; exact le
theorem lift_mem {off : Int} {l : List Kn} {k : Kn} : k ∈ lift off l ↔ ∃ k' ∈ l, k = (k'.1, k'.2 + off) := by
  unfold lift
  rw [List.mem_map]
  exact ⟨fun ⟨x, h, e⟩ => ⟨x, h, e.symm⟩, fun ⟨x, h, e⟩ => ⟨x, h, e.symm⟩⟩
theorem tf_over (g : Gr) : ∀ k ∈ tfV g, ∃ k' ∈ tpV g, k'.1 = k.1 ∧ k'.2 ≤ k.2 := fun k hk => by
  obtain ⟨x, hx, rfl⟩ := List.mem_map.1 hk
  exact ⟨(x.1, x.2.1), List.mem_map.2 ⟨x, hx, rfl⟩, rfl, (truthL_box g x hx).2.2.2.2.1⟩
theorem tp_under (g : Gr) : ∀ k ∈ tpV g, ∃ k' ∈ tfV g, k'.1 = k.1 ∧ k.2 ≤ k'.2 := fun k hk => by
  obtain ⟨x, hx, rfl⟩ := List.mem_map.1 hk
  exact ⟨(x.1, x.2.2), List.mem_map.2 ⟨x, hx, rfl⟩, rfl, (truthL_box g x hx).2.2.2.2.1⟩
theorem lift_line {l : List Kn} {off : Int} (o0 : 0 ≤ off) (o1 : off ≤ 30000000) (h0 : l ≠ []) (h1 : l.length ≤ 6) (ha : Asc (lift off l)) (hb : ∀ k ∈ l, 0 ≤ k.1 ∧ k.1 ≤ 500000 ∧ 0 ≤ k.2 ∧ k.2 ≤ 15021000000) : lineE (lift off l) = 0 := by
  have hlen : (lift off l).length = l.length := by simp [lift]
  refine lineE_of (fun e => h0 (List.length_eq_zero_iff.1 (by rw [← hlen, e]; rfl))) (by omega) ha fun k hk => ?_
  obtain ⟨k', m, rfl⟩ := lift_mem.1 hk
  have := hb k' m
  exact ⟨this.1, by show k'.1 ≤ _; omega, by show 0 ≤ k'.2 + off; omega, by show k'.2 + off ≤ _; omega⟩
theorem repV_in (g : Gr) (n : Int) : 1 ≤ (repV (tpV g) (tfV g) n).kind ∧ (repV (tpV g) (tfV g) n).kind ≤ 4 ∧ 0 ≤ (repV (tpV g) (tfV g) n).z ∧ (repV (tpV g) (tfV g) n).z ≤ bottomV g ∧ 0 ≤ (repV (tpV g) (tfV g) n).p ∧ (repV (tpV g) (tfV g) n).p ≤ 68719476736 := by
  have hB := bottomV_bd g
  have n0 := Int.emod_nonneg n (b := 1099511627776) (by decide)
  have n1 := Int.emod_lt_of_pos n (b := 1099511627776) (by decide)
  unfold repV
  rw [tp_end]
  generalize n % 1099511627776 = m at *
  have z0 := Int.emod_nonneg (m / 4) (b := bottomV g + 1) (by omega)
  have z1 := Int.emod_lt_of_pos (m / 4) (b := bottomV g + 1) (by omega)
  generalize m / 4 % (bottomV g + 1) = z at *
  have bp := range_box (tp_rise g).asc (List.length_pos_iff.2 (tp_rise g).ne) (fun k hk => (tp_box' g k hk).2.2) z
  have bf := range_box (tf_rise g).asc (List.length_pos_iff.2 (tf_rise g).ne) (fun k hk => (tf_box g k hk).2.2) z
  refine ⟨by show 1 ≤ 1 + m % 4; omega, by show 1 + m % 4 ≤ 4; omega, z0, by show z ≤ _; omega, ?_⟩
  simp only []
  split
  · omega
  · split
    · omega
    · split <;> omega
def growE (g : Gr) (off : Int) : Ear := { knownV g with pl := tpV g, ph := lift off (tpV g), fl := tfV g, fh := lift off (tfV g) }
theorem grow_valid (g : Gr) {off : Int} (o0 : 0 ≤ off) (o1 : off ≤ 30000000) : Valid (growE g off) where
  b := by show 1 ≤ endV (tpV g) ∧ endV (tpV g) ≤ 1048576; rw [tp_end]; have := bottomV_bd g; omega
  g := by
    show 0 ≤ pickV g.off 1 % 2001 ∧ pickV g.off 1 % 2001 ≤ 30000 + pickV g.off 2 % 10001 ∧ 30000 + pickV g.off 2 % 10001 ≤ 40000
    omega
  pl := tp_line g
  ph := lift_line o0 o1 (tp_rise g).ne (tp_len g) (tp_rise g).lift.asc (tp_box' g)
  fl := tf_line g
  fh := lift_line o0 o1 (tf_rise g).ne (tf_len g) (tf_rise g).lift.asc (tf_box g)
  ab1 := same_ab (good (rightB_of (lift_line o0 o1 (tp_rise g).ne (tp_len g) (tp_rise g).lift.asc (tp_box' g)))) (good (rightB_of (tp_line g)))
    (fun k hk => by obtain ⟨k', m, rfl⟩ := lift_mem.1 hk; exact ⟨k', m, rfl, by show k'.2 ≤ k'.2 + off; omega⟩)
    (fun k hk => ⟨_, lift_mem.2 ⟨k, hk, rfl⟩, rfl, by show k.2 ≤ k.2 + off; omega⟩) _
  ab2 := same_ab (good (rightB_of (lift_line o0 o1 (tf_rise g).ne (tf_len g) (tf_rise g).lift.asc (tf_box g)))) (good (rightB_of (tf_line g)))
    (fun k hk => by obtain ⟨k', m, rfl⟩ := lift_mem.1 hk; exact ⟨k', m, rfl, by show k'.2 ≤ k'.2 + off; omega⟩)
    (fun k hk => ⟨_, lift_mem.2 ⟨k, hk, rfl⟩, rfl, by show k.2 ≤ k.2 + off; omega⟩) _
  ab3 := same_ab (good (rightB_of (lift_line o0 o1 (tf_rise g).ne (tf_len g) (tf_rise g).lift.asc (tf_box g)))) (good (rightB_of (tp_line g)))
    (fun k hk => by obtain ⟨k', m, rfl⟩ := lift_mem.1 hk; obtain ⟨x, hx, e1, e2⟩ := tf_over g k' m; exact ⟨x, hx, e1, by show x.2 ≤ k'.2 + off; omega⟩)
    (fun k hk => by obtain ⟨x, hx, e1, e2⟩ := tp_under g k hk; exact ⟨_, lift_mem.2 ⟨x, hx, rfl⟩, e1, by show k.2 ≤ x.2 + off; omega⟩) _
  reps := by
    show ((g.marks.take 8).map (repV (tpV g) (tfV g))).length ≤ 24
    rw [List.length_map, List.length_take]; omega
  rep := fun r hr => by
    obtain ⟨n, -, rfl⟩ := List.mem_map.1 (show r ∈ (g.marks.take 8).map (repV (tpV g) (tfV g)) from hr)
    have := repV_in g n
    show _ ∧ _ ∧ _ ∧ _ ≤ endV (tpV g) ∧ _
    rw [tp_end]; exact this
theorem grow_law (g : Gr) {off : Int} (o0 : 0 ≤ off) (o1 : off ≤ 30000000) (z : Int) : phV (growE g off) (z + 1) ≤ phV (growE g off) z + (growE g off).gh ∧ fhV (growE g off) (z + 1) ≤ fhV (growE g off) z + (growE g off).gh ∧ plV (growE g off) z ≤ plV (growE g off) (z + 1) ∧ flV (growE g off) z ≤ flV (growE g off) (z + 1) := by
  have hv := grow_valid g o0 o1
  have hg := hv.g
  have hgh : 30000 ≤ (growE g off).gh := by show 30000 ≤ 30000 + pickV g.off 2 % 10001; omega
  have s1 := (tp_rise g).lift (off := off) |>.step (by decide) (by decide) z
  have s2 := (tf_rise g).lift (off := off) |>.step (by decide) (by decide) z
  have s3 := (tp_rise g).step (by decide) (by decide) z
  have s4 := (tf_rise g).step (by decide) (by decide) z
  have f : fhV (growE g off) (z + 1) ≤ fhV (growE g off) z + (growE g off).gh := by
    unfold fhV
    refine upV_step hg.2.1 hg.1 _ _ _ ?_
    have := s2.2.2
    show (rangeP (lift off (tfV g)) (z + 1)).2 ≤ (rangeP (lift off (tfV g)) z).2 + _
    omega
  have u : upV (growE g off).gl (growE g off).gh (pointsV (growE g off).bottom (growE g off).reps (growE g off).ph 2) (z + 1) (rangeP (growE g off).ph (z + 1)).2 ≤ upV (growE g off).gl (growE g off).gh (pointsV (growE g off).bottom (growE g off).reps (growE g off).ph 2) z (rangeP (growE g off).ph z).2 + (growE g off).gh := by
    refine upV_step hg.2.1 hg.1 _ _ _ ?_
    have := s1.2.2
    show (rangeP (lift off (tpV g)) (z + 1)).2 ≤ (rangeP (lift off (tpV g)) z).2 + _
    omega
  have p : plV (growE g off) z ≤ plV (growE g off) (z + 1) := by
    unfold plV
    have := loV_step (z := z) hg.2.1 hg.1 (pointsV (growE g off).bottom (growE g off).reps (growE g off).pl 1) (rangeP (growE g off).pl z).1 (rangeP (growE g off).pl (z + 1)).1 s3.1.1
    omega
  refine ⟨by unfold phV; omega, f, p, ?_⟩
  unfold flV
  have := loV_step (z := z) hg.2.1 hg.1 (pointsV (growE g off).bottom (growE g off).reps (growE g off).fl 3) (rangeP (growE g off).fl z).1 (rangeP (growE g off).fl (z + 1)).1 s4.1.1
  omega
end Go.Proofs.Ytcglpbchejkolaa
/- Earth: EarthGrows by the table. -/
namespace Go.Proofs.Ytcglpbchejkolaa
open Go.RowKit
set_option linter.unusedSimpArgs false
set_option linter.unusedVariables false

def ofKnots (l : List Kn) : List (List C) := l.map ofKn
theorem ofKnots_len (l : List Kn) : (ofKnots l).length = l.length := by simp [ofKnots]
theorem knots_of (l : List Kn) : knots (ofKnots l) = l := by
  unfold knots ofKnots
  rw [List.map_map]
  exact (List.map_congr_left (g := id) fun r _ => rfl).trans (List.map_id _)
theorem rows_knots {d : Nat} {rows : List (List C)} (h : TyN Try.prog d 44 rows) : rows = ofKnots (knots rows) := by
  cases d with
  | zero => exact h.elim
  | succ d =>
    obtain ⟨ks, hk, hh⟩ := h
    rw [show kinds Try.prog 44 = some [.int, .int] by kernel_rfl] at hk
    cases hk
    unfold ofKnots knots
    rw [List.map_map]
    refine (List.map_congr_left (g := id) fun r hr => ?_).trans (List.map_id _) |>.symm
    obtain ⟨hl, hc⟩ := hh r hr
    obtain ⟨c0, h0, n0, rfl⟩ := hc 0 .int rfl
    obtain ⟨c1, h1, n1, rfl⟩ := hc 1 .int rfl
    match r, hl, h0, h1 with
    | [a, b], _, h0, h1 => simp at h0 h1; subst h0; subst h1; rfl
def liftN (off : Int) (i : Nat) (l : List Kn) : List Kn := lift off (l.take i) ++ l.drop i
theorem liftN_len (off : Int) (i : Nat) (l : List Kn) : (liftN off i l).length = l.length := by
  unfold liftN lift; rw [List.length_append, List.length_map, List.length_take, List.length_drop]; omega
theorem liftN_at {off : Int} {i : Nat} {l : List Kn} (h : i < l.length) (d : Kn) : (liftN off i l).getD i d = l.getD i d := by
  unfold liftN lift
  rw [drop_cons h d, List.getD_eq_getElem?_getD, List.getElem?_append_right (by simp; omega)]
  simp [Nat.min_eq_left (Nat.le_of_lt h)]
theorem liftN_step {off : Int} {i : Nat} {l : List Kn} (h : i < l.length) (d : Kn) : (liftN off i l).set i ((l.getD i d).1, (l.getD i d).2 + off) = liftN off (i + 1) l := by
  unfold liftN lift
  rw [take_snoc h d, drop_cons h d, List.map_append, List.append_assoc, List.set_append_right _ _ (by simp; omega)]
  simp [Nat.min_eq_left (Nat.le_of_lt h)]
theorem liftN_end {off : Int} {i : Nat} {l : List Kn} (h : l.length ≤ i) : liftN off i l = lift off l := by
  unfold liftN; rw [List.take_of_length_le h, List.drop_eq_nil_of_le h, List.append_nil]
theorem upd_knot {l : List Kn} {i : Nat} (h : i < l.length) (n : Int) (d : Kn) : updRow (ofKnots l) i 1 [.i n] = ofKnots (l.set i ((l.getD i d).1, n)) := by
  have e : (ofKnots l).getD i [] = [.i (l.getD i d).1, .i (l.getD i d).2] := by
    unfold ofKnots
    rw [List.getD_eq_getElem?_getD, List.getElem?_map, List.getElem?_eq_getElem h, List.getD_eq_getElem?_getD, List.getElem?_eq_getElem h]; rfl
  unfold updRow
  rw [e]
  unfold ofKnots
  rw [List.map_set]; rfl
theorem lift_step {off : Int} {l : List Kn} {i : Int} (i0 : 0 ≤ i) (hi : i < l.length) : updRow (ofKnots (liftN off i.toNat l)) i.toNat 1 [.i ((l.getD i.toNat (0, 0)).2 + off)] = ofKnots (liftN off (i + 1).toNat l) := by
  rw [upd_knot (by rw [liftN_len]; omega) _ (0, 0), liftN_at (by omega), show (i + 1).toNat = i.toNat + 1 by omega, ← liftN_step (by omega) (0, 0)]
theorem upV_bd {gl gh z c : Int} : ∀ (l : List Kn) (s : Int), (∀ k ∈ l, c ≤ upP gl gh z k) → c ≤ s → c ≤ upV gl gh l z s ∧ upV gl gh l z s ≤ s
  | [], s, _, h => ⟨h, Int.le_refl _⟩
  | k :: l, s, hl, h => by
    have h1 := hl k (by simp)
    have := upV_bd l (min s (upP gl gh z k)) (fun x hx => hl x (by simp [hx])) (by omega)
    show c ≤ upV gl gh l z (min s (upP gl gh z k)) ∧ upV gl gh l z (min s (upP gl gh z k)) ≤ s
    omega
theorem up_bd {e : Ear} (h : Valid e) {z : Int} (z0 : 0 ≤ z) (z1 : z ≤ e.bottom) : (-41943040000 ≤ phV e z ∧ phV e z ≤ 68719476737) ∧ -41943040000 ≤ fhV e z ∧ fhV e z ≤ 68719476737 := by
  have hg := h.g
  have hb := h.b
  have pt : ∀ (ks : List Kn) (kind : Int), lineE ks = 0 → ∀ k ∈ pointsV e.bottom e.reps ks kind, -41943040000 ≤ upP e.gl e.gh z k := fun ks kind hk k hm => by
    have hp := (h.points hk kind).2 k hm
    have b1 := g_bd (g := e.gl) (z := z) (k := k.1) (by omega) (by omega) z0 (by omega) hp.1 hp.2.1
    have b2 := g_bd (g := e.gh) (z := z) (k := k.1) (by omega) (by omega) z0 (by omega) hp.1 hp.2.1
    unfold upP
    split <;> omega
  have rp := rangeP_bd h.ph z
  have rf := rangeP_bd h.fh z
  have u1 := upV_bd (gl := e.gl) (gh := e.gh) (z := z) (c := -41943040000) _ (rangeP e.fh z).2 (pt e.fh 4 h.fh) (by omega)
  have u2 := upV_bd (gl := e.gl) (gh := e.gh) (z := z) (c := -41943040000) _ (rangeP e.ph z).2 (pt e.ph 2 h.ph) (by omega)
  have f : -41943040000 ≤ fhV e z ∧ fhV e z ≤ 68719476737 := by unfold fhV; omega
  exact ⟨by unfold phV; omega, f⟩
set_option maxRecDepth 100000 in
theorem lgrows_ok : CtOK Try.prog 6 (ctLaw [groundSh, .lf .int, .lf .int]) := by
  refine ct_ok (cx := clgrows) (Tab.cx_ok (all_cons (up5_ok (up4_ok mod64_ok)) (all_cons known_ok (all_cons truth_ok (all_cons (up5_ok (up4_ok own_ok)) (all_cons (up5_ok (up4_ok (up3_ok pore_ok))) (all_cons (up5_ok (up4_ok (up3_ok frac_ok))) (all_cons (up5_ok (up4_ok (up3_ok check_ok))) (all_cons (up5_ok (up4_ok (up3_ok awake_ok))) all_nil))))))))) Try.func6 (bds := []) (T := tlgrows) (by kernel_rfl) ?_
  have h1 : clgrows.ct 22 = some ctMod := rfl
  have h2 : clgrows.ct 20 = some ctKnown := rfl
  have h3 : clgrows.ct 34 = some ctTrue := rfl
  have h4 : clgrows.ct 24 = some ctOwn := rfl
  have h5 : clgrows.ct 27 = some (ctRange poreV) := rfl
  have h6 : clgrows.ct 29 = some (ctRange fracV) := rfl
  have h7 : clgrows.ct 35 = some ctCheck := rfl
  have h8 : clgrows.ct 17 = some ctAwake := rfl
  unfold tlgrows
  simp (maxSteps := 10000000) only [VC, allC, List.map_cons, List.map_nil, List.length_cons, List.length_nil, List.getElem?_cons_zero, List.getElem?_cons_succ, List.cons.injEq, C.i.injEq, C.b.injEq, and_true, true_and, forall_const, kindsOf_nil, kindsOf_lf, kindsOf_agg, kindsOf_box, boxKinds_nil, boxKinds_lf, boxKinds_agg, boxKinds_box, List.append_nil, List.cons_append, List.nil_append, den_cmp_le, den_cmp_lt, den_cmp_eq, den_cmp_ne, den_cmp_le', den_cmp_lt', den_cmp_eq', den_cmp_ne', den_and, den_and', den_or, den_or', den_not, den_not', den_blit, den_of, ev_var, at_0, at_1, at_2, at_3, at_4, at_5, at_6, at_7, at_skip, c_int, c_bool, c_arr, c_cnt, c_vec, ev_nil, ev_join, ev_sub3, loc_s, int_i, bool_b, rows_s, cs_nil, cs_cons, E.den_lit, E.den_var, E.den_add, E.den_sub, E.den_mul, E.den_quo, E.den_rem, E.den_max, E.den_min, E.den_len, E.den_wr, E.den_cell, ev_cell, kn2, h1, h2, h3, h4, h5, h6, h7, h8, ctMod, ctKnown, ctTrue, ctOwn, ctRange, ctCheck, ctAwake, ctLaw, ctF, lineSh, rangeSh, groundSh, vecEarth, vecTruth, earthSh, earthKs, ofKn, k_, n_, earOf, grOf]
  intro b _ _ u1 r1 _ _ _ u2 r2 _ _ _ u3 r3 _ _ _ x _ _ y _ _
  generalize hg : (⟨b, ints r1, ints r2, ints r3⟩ : Gr) = g at *
  refine ⟨bds_nil _, ?_⟩
  rintro v6 r6 _ t6 _ v7 r7 _ t7 _ ⟨e6, e7⟩
  rintro bt _ _ v11 r11 _ _ _ v12 r12 _ _ _ v13 r13 _ _ _ v14 r14 _ _ _ gl _ _ gh _ _ v17 r17 _ _ _ hk
  refine ⟨by decide, ?_⟩
  rintro off _ _ ho
  have o0 := Int.emod_nonneg x (b := 30000000) (by decide)
  have o1 := Int.emod_lt_of_pos x (b := 30000000) (by decide)
  rw [← ho] at o0 o1
  have q6 := rows_knots t6
  have q7 := rows_knots t7
  rw [e6] at q6
  rw [e7] at q7
  subst q6 q7
  have lp := tp_len g
  have lf := tf_len g
  have lpf : (tfV g).length = (tpV g).length := by unfold tfV tpV; rw [List.length_map, List.length_map]
  have pre6 : (ofKnots (tpV g)).length ≤ 1000 := by rw [ofKnots_len]; omega
  have pre7 : (ofKnots (tfV g)).length ≤ 1000 := by rw [ofKnots_len]; omega
  refine ⟨pre6, ?_⟩
  rintro v24 r24 _ _ _ ⟨_, hh⟩
  obtain rfl := (by simpa using hh : v24 = _ ∧ r24 = ofKnots (tpV g)).2
  refine ⟨pre7, ?_⟩
  rintro v25 r25 _ _ _ ⟨_, hh⟩
  obtain rfl := (by simpa using hh : v25 = _ ∧ r25 = ofKnots (tfV g)).2
  refine ⟨pre6, ?_⟩
  rintro v26 r26 _ _ _ ⟨_, hh⟩
  obtain rfl := (by simpa using hh : v26 = _ ∧ r26 = ofKnots (tpV g)).2
  refine ⟨pre7, ?_⟩
  rintro v27 r27 _ _ _ ⟨_, hh⟩
  obtain rfl := (by simpa using hh : v27 = _ ∧ r27 = ofKnots (tfV g)).2
  rw [ofKnots_len (tpV g)]
  refine ⟨fun xs => match xs with | [.i i, .s _ rf, .s _ rp] => 0 ≤ i ∧ i ≤ (tpV g).length ∧ rf = ofKnots (liftN off i.toNat (tfV g)) ∧ rp = ofKnots (liftN off i.toNat (tpV g)) | _ => False, fun xs => match xs with | .i i :: _ => (((tpV g).length : Int) - i).toNat | _ => 0, ⟨by omega, by omega, rfl, rfl⟩, ?_⟩
  rintro i _ _ v29 r29 _ _ _ v30 r30 _ _ _ ⟨i0, i1, rfl, rfl⟩
  rw [ofKnots_len, ofKnots_len, liftN_len, liftN_len, knots_of, knots_of]
  refine ⟨fun hlt => ?_, fun hge => ?_⟩
  · rw [liftN_at (by omega), liftN_at (by omega), lift_step i0 hlt, lift_step i0 (by omega)]
    have bp := tp_box g _ (getD_mem (l := tpV g) (i := i.toNat) (by omega) (0, 0))
    have bf := tf_box g _ (getD_mem (l := tfV g) (i := i.toNat) (by omega) (0, 0))
    exact ⟨i0, hlt, ⟨by omega, by omega⟩, hlt, ⟨by omega, by omega⟩, fun _ => ⟨by omega, ⟨by omega, by omega⟩, by omega, ⟨by omega, by omega⟩, fun _ => ⟨⟨by omega, by omega, rfl, rfl⟩, (show (((tpV g).length : Int) - (i + 1)).toNat < (((tpV g).length : Int) - i).toNat by omega)⟩⟩⟩
  rw [liftN_end (off := off) (l := tpV g) (by omega), liftN_end (off := off) (l := tfV g) (by omega), knots_of, knots_of]
  have hE : (⟨bt, tpV g, lift off (tpV g), tfV g, lift off (tfV g), gl, gh, repsOf r17⟩ : Ear) = growE g off := congrArg (fun e : Ear => ({ e with pl := tpV g, ph := lift off (tpV g), fl := tfV g, fh := lift off (tfV g) } : Ear)) hk
  have hB : bt = bottomV g := (congrArg Ear.bottom hk).trans (tp_end g)
  have hG : gh = (growE g off).gh := congrArg Ear.gh hE
  rw [hE]
  have hv := grow_valid g o0 (show off ≤ 30000000 by omega)
  have hc : checkV (growE g off) = 0 := valid_iff.2 hv
  have bb := bottomV_bd g
  have hbot : (growE g off).bottom = bottomV g := tp_end g
  refine ⟨by omega, ?_⟩
  rintro z _ _ hz
  have z0 := Int.emod_nonneg y (b := bt) (by omega)
  have z1 := Int.emod_lt_of_pos y (b := bt) (by omega)
  rw [← hz] at z0 z1
  obtain ⟨g1, g2, g3, g4⟩ := grow_law g o0 (show off ≤ 30000000 by omega) z
  have k1 : okE (growE g off) z = true := okE_iff.2 ⟨hc, z0, by omega⟩
  have k2 : okE (growE g off) (z + 1) = true := okE_iff.2 ⟨hc, by omega, by omega⟩
  have b1 := up_bd hv z0 (by omega)
  have b2 := up_bd hv (z := z + 1) (by omega) (by omega)
  have P1 : poreV (growE g off) z = (plV (growE g off) z, phV (growE g off) z) := by unfold poreV; rw [if_pos k1]
  have P2 : poreV (growE g off) (z + 1) = (plV (growE g off) (z + 1), phV (growE g off) (z + 1)) := by unfold poreV; rw [if_pos k2]
  have F1 : fracV (growE g off) z = (flV (growE g off) z, fhV (growE g off) z) := by unfold fracV; rw [if_pos k1]
  have F2 : fracV (growE g off) (z + 1) = (flV (growE g off) (z + 1), fhV (growE g off) (z + 1)) := by unfold fracV; rw [if_pos k2]
  rw [P1, P2, F1, F2]
  rintro a1 _ _ a2 _ _ ⟨ea1, ea2⟩
  refine ⟨⟨by omega, by omega⟩, ⟨by omega, by omega⟩, ?_⟩
  rintro c1 _ _ c2 _ _ ⟨ec1, ec2⟩ d1 _ _ d2 _ _ ⟨ed1, ed2⟩
  refine ⟨⟨by omega, by omega⟩, ⟨by omega, by omega⟩, ?_⟩
  rintro e1 _ _ e2 _ _ ⟨ee1, ee2⟩ e0 _ _ he0
  have ea1 : a1 = plV (growE g off) z := ea1
  have ea2 : a2 = phV (growE g off) z := ea2
  have ec1 : c1 = plV (growE g off) (z + 1) := ec1
  have ec2 : c2 = phV (growE g off) (z + 1) := ec2
  have ed1 : d1 = flV (growE g off) z := ed1
  have ed2 : d2 = fhV (growE g off) z := ed2
  have ee1 : e1 = flV (growE g off) (z + 1) := ee1
  have ee2 : e2 = fhV (growE g off) (z + 1) := ee2
  exact ⟨fun _ => ⟨⟨by omega, by omega⟩, fun _ => ⟨⟨by omega, by omega⟩, fun _ => ⟨fun _ => ⟨fun _ t ht => ht, fun h => (by exfalso; omega)⟩, fun h => (by exfalso; omega)⟩, fun h => (by exfalso; omega)⟩, fun h => (by exfalso; omega)⟩, fun h => absurd (he0.trans hc) h⟩
end Go.Proofs.Ytcglpbchejkolaa
/- Arguments of any shape that the engine knows, opened: structs, and slices within slices. -/
namespace Go.Proofs.Ytcglpbchejkolaa
open Go.ChangeShapes Go.WideShapes Go.RowKit
set_option linter.unusedVariables false
/-- A type of integers, truth values and slices, without arrays. -/
def flatB (P : Program) : Nat → TypeId → Bool
  | 0, _ => false
  | d + 1, t => match P.underlying t with
    | some (.int .i64) => true
    | some .bool => true
    | some (.slice _) => true
    | some (.struct fs) => fs.toList.all fun f => flatB P d f.type
    | _ => false
/-- What a slice of this kind holds is known, to depth n. -/
def deepB (P : Program) : Nat → Lk → Bool
  | _, .int => true
  | _, .bool => true
  | n + 1, .arr e => match kinds P e with
    | some ks => ks.all (deepB P n) && (P.cellsOf e == ks.length) && flatB P 6 e
    | none => false
  | _, _ => false
def CellN (P : Program) (w : World) (n : Nat) (k : Lk) (u : Value) (c : C) : Prop := (∀ m, c.small m) ∧ match k with
  | .int => ∃ n, u = .int .i64 n ∧ c = .i n
  | .bool => ∃ t, u = .bool t ∧ c = .b t
  | .arr t => ∃ rows', c = .s u rows' ∧ ArrN P (fun b _ => b < w.heap.size) w n t u rows'
  | .vec _ => False
def kStep (P : Program) (d : Nat) (acc : Option (List Lk)) (f : Field) : Option (List Lk) := match acc, kindsF P d f.type with
  | some l, some m => if l.length = f.offset then some (l ++ m) else none
  | _, _ => none
theorem kStep_none {P : Program} {d : Nat} : ∀ {fs : List Field}, fs.foldl (kStep P d) none = none
  | [] => rfl
  | f :: fs => by rw [List.foldl_cons]; exact kStep_none
theorem kStep_at {P : Program} {d : Nat} : ∀ {fs : List Field} {a ks : List Lk}, fs.foldl (kStep P d) (some a) = some ks → ∀ (j : Nat) (k : Lk), ks[j]? = some k →
    a[j]? = some k ∨ ∃ f ∈ fs, ∃ m, kindsF P d f.type = some m ∧ f.offset ≤ j ∧ m[j - f.offset]? = some k
  | [], a, ks, h, j, k, hj => by cases h; exact .inl hj
  | f :: fs, a, ks, h, j, k, hj => by
    rw [List.foldl_cons] at h
    cases hm : kindsF P d f.type with
    | none => rw [show kStep P d (some a) f = none by simp [kStep, hm], kStep_none] at h; cases h
    | some m =>
      by_cases hl : a.length = f.offset
      · rw [show kStep P d (some a) f = some (a ++ m) by simp [kStep, hm, hl]] at h
        rcases kStep_at h j k hj with h1 | ⟨g, hg, m', h2⟩
        · by_cases hja : j < a.length
          · rw [List.getElem?_append_left hja] at h1; exact .inl h1
          · rw [List.getElem?_append_right (by omega), hl] at h1
            exact .inr ⟨f, List.mem_cons_self .., m, hm, by omega, h1⟩
        · exact .inr ⟨g, List.mem_cons_of_mem _ hg, m', h2⟩
      · rw [show kStep P d (some a) f = none by simp [kStep, hm, hl], kStep_none] at h; cases h
theorem kinds_F {P : Program} {t : TypeId} {ks : List Lk} (h : kinds P t = some ks) : kindsF P 6 t = some ks := by
  unfold kinds at h
  split at h
  · rename_i l hl
    split at h
    · cases h; exact hl
    · cases h
  · cases h
section
variable {H : Type} {enc : TypeId × Value → H} {P : Program} {w : World} {base : Nat} {spare : Nat → Bool} {held : Bool}
theorem small_int {n : Int} (h : -9223372036854775808 ≤ n ∧ n ≤ 9223372036854775807) : ∀ m, (C.i n).small m := fun m => by cases m <;> exact h
theorem cells_deep : ∀ (fuel n d : Nat) (t : TypeId) (ks : List Lk) (cs : List Value) (x : DataW H × List MemPlace), kindsF P d t = some ks → flatB P d t = true →
    DataW.trod enc P w base spare held fuel t cs = some x → ∀ (j : Nat) (k : Lk), ks[j]? = some k → deepB P n k = true → ∃ u c, cs[j]? = some u ∧ CellN P w n k u c := by
  intro fuel
  induction fuel with
  | zero => intro n d t ks cs x _ _ hx; simp [DataW.trod] at hx
  | succ fuel ih =>
    intro n d t ks cs x hk hfl hx j k hj hall
    cases d with
    | zero => simp [kindsF] at hk
    | succ d =>
      unfold flatB at hfl
      cases hu : P.underlying t with
      | none => rw [hu] at hfl; cases hfl
      | some ty =>
      rw [hu] at hfl
      unfold kindsF at hk
      rw [hu] at hk
      match ty, hu, hfl, hk with
      | .int .i64, hu, hfl, hk =>
        cases hk
        obtain ⟨z, rfl, -, hwf⟩ := DataW.trod_int hu hx
        match j, hj with
        | 0, hj => cases hj; exact ⟨_, .i z, rfl, small_int (wf_bd hwf), z, rfl, rfl⟩
      | .bool, hu, hfl, hk =>
        cases hk
        obtain ⟨z, rfl, -⟩ := DataW.trod_bool hu hx
        match j, hj with
        | 0, hj => cases hj; exact ⟨_, .b z, rfl, fun m => by cases m <;> trivial, z, rfl, rfl⟩
      | .slice e, hu, hfl, hk =>
        cases hk
        match j, hj with
        | 0, hj =>
        cases hj
        cases n with
        | zero => simp [deepB] at hall
        | succ n =>
        have hd : deepB P (n + 1) (.arr e) = true := hall
        unfold deepB at hd
        cases hke : kinds P e with
        | none => rw [hke] at hd; cases hd
        | some kse =>
        rw [hke] at hd
        simp only [Bool.and_eq_true, beq_iff_eq] at hd
        obtain ⟨⟨hd1, hd2⟩, hd3⟩ := hd
        rcases DataW.trod_slice hu hx with ⟨rfl, -⟩ | ⟨a, len, cap, elems, rest, m, hm, rfl, -, -, hl, hc, hlen, hel, -, -⟩
        · refine ⟨_, .s (.slice none 0 0) [], rfl, fun m => ?_, [], rfl, kse, hke, none, 0, rfl, fun h => absurd rfl h⟩
          cases m with
          | zero => trivial
          | succ m => exact ⟨by simp, fun r hr => by cases hr⟩
        · cases hm
          have each : ∀ i, i < len → ∀ (j : Nat) (k : Lk), kse[j]? = some k → ∃ u c, w.cell? (a.add (i * kse.length + j)) = some u ∧ CellN P w n k u c := by
            intro i hi j k hj
            have h1 := hel i hi
            rw [List.getElem?_eq_getElem (by omega), hd2] at h1
            obtain ⟨cs', h2, h3⟩ := Option.bind_eq_some_iff.1 h1
            obtain ⟨_, hlen', hcell⟩ := World.cells?_some h2
            obtain ⟨u, c, h4, h5⟩ := ih n 6 e kse cs' _ (kinds_F hke) hd3 h3 j k hj (List.all_eq_true.1 hd1 k (List.mem_of_getElem? hj))
            refine ⟨u, c, ?_, h5⟩
            have hjl : j < kse.length := by
              rcases Nat.lt_or_ge j kse.length with h | h
              · exact h
              · rw [List.getElem?_eq_none h] at hj; cases hj
            rw [← h4, ← hcell j hjl, Go.Deep.add_add]
          have each2 : ∀ i j, ∃ c : C, i < len → ∀ k, kse[j]? = some k → ∃ u, w.cell? (a.add (i * kse.length + j)) = some u ∧ CellN P w n k u c := by
            intro i j
            by_cases hi : i < len
            · cases hj : kse[j]? with
              | none => exact ⟨.i 0, fun _ k h => by cases h⟩
              | some k =>
                obtain ⟨u, c, h1, h2⟩ := each i hi j k hj
                exact ⟨c, fun _ k' h => by cases h; exact ⟨u, h1, h2⟩⟩
            · exact ⟨.i 0, fun h => absurd h hi⟩
          let f : Nat → Nat → C := fun i j => (each2 i j).choose
          have hf : ∀ i j, i < len → ∀ k, kse[j]? = some k → ∃ u, w.cell? (a.add (i * kse.length + j)) = some u ∧ CellN P w n k u (f i j) := fun i j => (each2 i j).choose_spec
          let rows : List (List C) := (List.range len).map fun i => (List.range kse.length).map fun j => f i j
          have hrl : rows.length = len := by simp [rows]
          refine ⟨_, .s (.slice (some a) len cap) rows, rfl, fun q => ?_, rows, rfl, kse, hke, some a, cap, by rw [hrl], fun hne => ?_⟩
          · cases q with
            | zero => trivial
            | succ q =>
              refine ⟨by rw [hrl]; unfold maxLen at hc; omega, fun r hr c hcr => ?_⟩
              obtain ⟨i, hi, rfl⟩ := List.mem_map.1 hr
              obtain ⟨j, hj, rfl⟩ := List.mem_map.1 hcr
              rw [List.mem_range] at hi hj
              obtain ⟨u, -, h⟩ := hf i j hi _ (List.getElem?_eq_getElem hj)
              exact h.1 q
          · have hpos : 0 < len := by
              rcases Nat.eq_zero_or_pos len with h | h
              · exact absurd (List.eq_nil_of_length_eq_zero (by rw [hrl]; exact h)) hne
              · exact h
            have hk0 : 0 < kse.length := Nat.pos_of_ne_zero (kinds_size hke).2
            obtain ⟨u0, h0, -⟩ := hf 0 0 hpos _ (List.getElem?_eq_getElem hk0)
            obtain ⟨b, o, s⟩ := a
            have hs : s = none := by simpa [Addr.add] using World.cell?_spot h0
            subst hs
            have hblk : b < w.heap.size := by
              have := World.block_lt_of_cell? _ _ h0
              simpa [Addr.add] using this
            refine ⟨b, o, rfl, by rw [hrl]; exact hl, fun i r hi => ?_⟩
            have hi' : i < len := by
              rcases Nat.lt_or_ge i len with h | h
              · exact h
              · rw [List.getElem?_eq_none (by rw [hrl]; exact h)] at hi; cases hi
            have hr : r = (List.range kse.length).map fun j => f i j := by
              simp only [rows, List.getElem?_map, List.getElem?_range hi', Option.map_some] at hi
              exact (Option.some.inj hi).symm
            subst hr
            refine ⟨by simp, fun j k hj => ⟨hblk, ?_⟩⟩
            have hjl : j < kse.length := by
              rcases Nat.lt_or_ge j kse.length with h | h
              · exact h
              · rw [List.getElem?_eq_none h] at hj; cases hj
            obtain ⟨u, h1, h2⟩ := hf i j hi' k hj
            refine ⟨u, f i j, by rw [← Go.WideShapes.add_plain]; exact h1, by simp [List.getElem?_range hjl], ?_⟩
            exact h2.2
      | .struct fs, hu, hfl, hk =>
        obtain ⟨xs, m, hm, -, -, hxl, hf⟩ := DataW.trod_struct hu hx
        cases hm
        have hk' : fs.toList.foldl (kStep P d) (some []) = some ks := hk
        rcases kStep_at hk' j k hj with h | ⟨f, hfm, m', hm', ho, hmj⟩
        · simp at h
        · obtain ⟨i, hi⟩ := List.mem_iff_getElem?.1 hfm
          have hi' : fs[i]? = some f := by rw [← hi]; simp
          have hil : i < xs.length := by
            rw [hxl]
            rcases Nat.lt_or_ge i fs.size with h | h
            · exact h
            · rw [Array.getElem?_eq_none h] at hi'; cases hi'
          have hg := hf i f hi'
          rw [List.getElem?_eq_getElem hil] at hg
          obtain ⟨u, c, h1, h2⟩ := ih n d f.type m' _ _ hm' (List.all_eq_true.1 hfl f hfm) hg (j - f.offset) k hmj hall
          refine ⟨u, c, ?_, h2⟩
          rw [List.getElem?_take] at h1
          split at h1
          · rw [List.getElem?_drop] at h1
            rw [← h1]; congr 1; omega
          · cases h1
theorem CellN.rep {n : Nat} {k : Lk} {u : Value} {c : C} (h : CellN P w n k u c) : LRep P w (fun _ _ => False) k u c := by
  refine ⟨h.1, ?_⟩
  cases k with
  | int => exact h.2
  | bool => exact h.2
  | arr t =>
    obtain ⟨rows, rfl, hA⟩ := h.2
    exact ⟨rfl, u, rows, rfl, n, _, fun b o hb => ⟨hb, fun h => h⟩, hA⟩
  | vec t => exact h.2.elim
theorem lreps_of : ∀ {ks : List Lk} {us : List Value} {n : Nat}, us.length = ks.length → (∀ (j : Nat) (k : Lk), ks[j]? = some k → ∃ u c, us[j]? = some u ∧ CellN P w n k u c) → ∃ rs, LReps P w (fun _ _ => False) ks us rs
  | [], [], _, _, _ => ⟨[], trivial⟩
  | k :: ks, u :: us, n, hl, h => by
    obtain ⟨u', c, hu, hc⟩ := h 0 k rfl
    cases hu
    obtain ⟨rs, hr⟩ := lreps_of (ks := ks) (us := us) (n := n) (by simpa using hl) fun j k hj => h (j + 1) k hj
    exact ⟨c :: rs, hc.rep, hr⟩
  | [], _ :: _, _, hl, _ => by simp at hl
  | _ :: _, [], _, hl, _ => by simp at hl
/-- A struct of integers, truth values and slices among the arguments. -/
theorem open_agg {r : Reach} {b0 n : Nat} {t : TypeId} {fs : Array Field} {v : Value} {d : DataW H} {p : List MemPlace} {ks : List Lk} (hu : P.underlying t = some (.struct fs)) (hk : kindsF P 6 t = some ks) (hfl : flatB P 6 t = true)
    (hd : ks.all (deepB P n) = true) (hc : P.cellsOf t = ks.length) (hv : Value.okWide P w r b0 t v) (hx : DataW.Trod enc P w base spare held t v d p) :
    ∃ us : List Value, v = .agg us.toArray ∧ ∃ rs, LReps P w (fun _ _ => False) ks us rs := by
  obtain ⟨cs, rfl, hsz⟩ := okWide_struct hu hv
  obtain ⟨fuel, hf⟩ := hx
  have hf : DataW.trod enc P w base spare held fuel t cs.toList = some (d, p) := hf
  obtain ⟨-, -, -, -, hlen, -, -⟩ := DataW.trod_struct hu hf
  exact ⟨cs.toList, by simp, lreps_of (n := n) (hlen.trans hc) fun j k hj => cells_deep fuel n 6 t ks _ _ hk hfl hf j k hj (List.all_eq_true.1 hd k (List.mem_of_getElem? hj))⟩
/-- A slice among the arguments. -/
theorem open_arr {r : Reach} {b0 n : Nat} {t e : TypeId} {v : Value} {d : DataW H} {p : List MemPlace} (hu : P.underlying t = some (.slice e)) (hd : deepB P n (.arr e) = true)
    (hv : Value.okWide P w r b0 t v) (hx : DataW.Trod enc P w base spare held t v d p) :
    ∃ c, LRep P w (fun _ _ => False) (.arr e) v c := by
  obtain ⟨A, m, c, rfl⟩ := okWide_slice hu hv
  obtain ⟨fuel, hf⟩ := hx
  have hf : DataW.trod enc P w base spare held fuel t [.slice A m c] = some (d, p) := hf
  obtain ⟨u, q, h1, h2⟩ := cells_deep fuel n 6 t [.arr e] _ _ (by unfold kindsF; rw [hu]) (by unfold flatB; rw [hu]) hf 0 (.arr e) rfl hd
  cases h1
  exact ⟨q, h2.rep⟩
end
theorem rep_struct {W : World} {O : Nat → Nat → Prop} {ss : List Sh0} {vs : List Value} {cs rs : List C} {us : List Value} {ks : List Lk} {old : Option Nat} (h : LReps Try.prog W O ks us rs) (hr : Reps Try.prog W O old ss vs cs) :
    Reps Try.prog W O old (.agg ks :: ss) (.agg us.toArray :: vs) (rs ++ cs) :=
  ⟨rs, _, rfl, ⟨us, rfl, h⟩, hr⟩
theorem rep_one {W : World} {O : Nat → Nat → Prop} {ss : List Sh0} {vs : List Value} {cs : List C} {t : TypeId} {v : Value} {c : C} {old : Option Nat} (h : LRep Try.prog W O (.arr t) v c) (hr : Reps Try.prog W O old ss vs cs) :
    Reps Try.prog W O old (.lf (.arr t) :: ss) (v :: vs) (c :: cs) :=
  ⟨[_], _, rfl, ⟨_, rfl, h⟩, hr⟩
end Go.Proofs.Ytcglpbchejkolaa
/- The call of EarthGrows. -/
namespace Go.Proofs.Ytcglpbchejkolaa
open Go.RowKit
theorem walk_EarthGrows (V0 : Value) (a1 : Int) (a2 : Int) (W : World) (h0 : ∃ us : List Value, V0 = .agg us.toArray ∧ ∃ rs, LReps Try.prog W (fun _ _ => False) [.int, .arr 2, .arr 2, .arr 2] us rs) (h1 : -9223372036854775808 ≤ a1 ∧ a1 ≤ 9223372036854775807) (h2 : -9223372036854775808 ≤ a2 ∧ a2 ≤ 9223372036854775807) :
    Calls Try.prog 6 #[V0, .int .i64 a1, .int .i64 a2] W fun e w' => e = .returned (.bool true) ∧ Below W.heap.size W w' := by
  obtain ⟨us0, rfl, rs0, h0⟩ := h0
  exact law_walk lgrows_ok rfl (rep_struct h0 (rep_lf h1 (rep_lf h2 rfl)))
end Go.Proofs.Ytcglpbchejkolaa
namespace Go.Proofs.Ytcglpbchejkolaa.lawEarthGrows
open Go.ChangeShapes Go.WideShapes Go.ChangeAt Go.RowKit
set_option linter.unusedVariables false

set_option maxRecDepth 100000 in
theorem lifted (os : Os) (started : os.Started) (H : Type) (enc : TypeId × Value → H) :
    ReturnsInHanded {} Try.checked os 6 .any (Rows.earthGrowsSpec.pre6 enc Try.prog Try.f6 Rows.earthGrowsRow.domain false) (Rows.earthGrowsSpec.post enc Try.prog Try.f6 false true false false) := by
  refine returnsInHanded_of_change (C := Try.checked) own started (by kernel_rfl) Try.func6
    (ChangeSpec.witness6 (enc := enc) (C := Try.checked) false ⟨#[], #[.agg #[.int .i64 0, .slice none 0 0, .slice none 0 0, .slice none 0 0], .int .i64 0, .int .i64 0], []⟩ 8 (by kernel_rfl) (by kernel_rfl) (by kernel_rfl) (by kernel_rfl)) ?_
  intro W base args ds gs before hval0 hW hcnd _
  have hval : ∀ (j : Nat) t v, Try.f6.params[j]? = some t → args[j]? = some v → Value.okWide Try.prog W .any base t v := hval0
  have hW' := hW
  obtain ⟨p, q, hA0, hV, rfl, hfz, hnd⟩ := hW
  have hA : DataW.TrodAll enc Try.prog W 0 (fun _ => true) true Try.f6.params.toList args.toList ds p := hA0
  rw [Try.params6] at hA hval
  obtain ⟨v0, vs0, d0, ds0, p0, q0, hargs, rfl, rfl, h0, r0⟩ := trodAll_cons hA
  obtain ⟨v1, vs1, d1, ds1, p1, q1, rfl, rfl, rfl, h1, r1⟩ := trodAll_cons r0
  obtain ⟨v2, vs2, d2, ds2, p2, q2, rfl, rfl, rfl, h2, r2⟩ := trodAll_cons r1
  obtain ⟨rfl, rfl, rfl⟩ := trodAll_nil r2
  obtain rfl : args = #[v0, v1, v2] := by cases args; simp_all
  obtain ⟨rfl, rfl⟩ := trodVars_none hV
  have k0 := h0
  have lt0 : ∀ x ∈ p0, x.block < W.heap.size := by obtain ⟨m, hm⟩ := k0; exact DataW.trod_lt m _ _ _ hm
  obtain ⟨us0, e0, b0⟩ := open_agg (n := 4) (ks := [.int, .arr 2, .arr 2, .arr 2]) Try.underlying32 (by kernel_rfl) (by kernel_rfl) (by kernel_rfl) (by kernel_rfl) (hval 0 32 v0 rfl rfl) h0
  have k1 := h1
  have lt1 : ∀ x ∈ p1, x.block < W.heap.size := by obtain ⟨m, hm⟩ := k1; exact DataW.trod_lt m _ _ _ hm
  obtain ⟨a1, e1, -, -, wf1⟩ := open_int Try.underlying2 (hval 1 2 v1 rfl rfl) h1
  subst e1
  have b1 := wf_bd wf1
  have k2 := h2
  have lt2 : ∀ x ∈ p2, x.block < W.heap.size := by obtain ⟨m, hm⟩ := k2; exact DataW.trod_lt m _ _ _ hm
  obtain ⟨a2, e2, -, -, wf2⟩ := open_int Try.underlying2 (hval 2 2 v2 rfl rfl) h2
  subst e2
  have b2 := wf_bd wf2
  clear hA0 hval0
  refine (walk_EarthGrows v0 a1 a2 W ⟨us0, e0, b0⟩ b1 b2).mono fun e W' ⟨he, bel⟩ => ?_
  subst he
  exact ⟨_, rfl, _, _, _, [], _, [], hW', trodAll_mk1 (shut_bool Try.underlying4 _), (trodAll_cons_mk (Below.trod laidOut (by kernel_rfl) (of_decide_eq_true (by kernel_rfl)) k0 bel lt0) (trodAll_cons_mk (Below.trod laidOut (by kernel_rfl) (of_decide_eq_true (by kernel_rfl)) k1 bel lt1) (trodAll_cons_mk (Below.trod laidOut (by kernel_rfl) (of_decide_eq_true (by kernel_rfl)) k2 bel lt2) trodAll_mk0))), rfl, bel.frame _, fun h => by cases h⟩

theorem over : Rows.earthGrowsRow.holds Try.pinned (OpenSpec.ofChange Rows.earthGrowsSpec) :=
  OpenClaim.holds_of_wide 6 Try.f6 rfl rfl rfl rfl rfl rfl rfl ⟨rfl, rfl, rfl, rfl, rfl⟩ rfl rfl rfl rfl rfl (by kernel_rfl) Try.func6 (by kernel_rfl)
    (of_decide_eq_true (by kernel_rfl)) (by unfold Func.isWrapper; first | (rw [if_pos (by decide +kernel)]; kernel_rfl) | (rw [if_neg (by decide +kernel)]; exact ⟨rfl, rfl⟩))
    (fun os started H enc _ => lifted os started H enc)

theorem proved : Rows.EarthGrowsSaid := over
#print axioms proved
end Go.Proofs.Ytcglpbchejkolaa.lawEarthGrows
