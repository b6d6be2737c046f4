/- Sensors and sets of kicks made of numbers; the latest alarm. -/
import Derived.Test.YtlbgcjpkegpmlaaX5
import Derived.Test.YtlbgcjpkegpmlaaX4
import Derived.Test.YtlbgcjpkegpmlaaXV
import Derived.Test.YtlbgcjpkegpmlaaXY
namespace Go.Proofs.Ytlbgcjpkegpmlaa
open Go.RowKit
set_option linter.unusedSimpArgs false
set_option linter.unusedVariables false

theorem kicksof_ok : tab.ok 48 := by
  refine Tab.of_ct rfl rfl ⟨_, Try.func48, by decide, rfl⟩ ?_ (fun h => by cases h)
  refine ct_ok (cx := ckicksof) (Tab.cx_ok (all_cons next_ok (all_cons kickof_ok all_nil))) Try.func48 (bds := []) (T := tkicksof) (by kernel_rfl) ?_
  have hn : ckicksof.ct 26 = some ctNext := rfl
  have hk : ckicksof.ct 20 = some ctKickOf := rfl
  unfold tkicksof tkicksof_2 tkicksof_1
  simp only [VC, allC, List.map_cons, List.map_nil, List.length_cons, List.length_nil, List.getElem?_cons_zero, List.getElem?_cons_succ, List.cons.injEq, C.i.injEq, C.b.injEq, and_true, true_and, forall_const, kindsOf_nil, kindsOf_lf, kindsOf_agg, kindsOf_box, boxKinds_nil, boxKinds_lf, boxKinds_agg, boxKinds_box, List.append_nil, List.cons_append, List.nil_append, den_cmp_le, den_cmp_lt, den_cmp_eq, den_cmp_ne, den_cmp_le', den_cmp_lt', den_cmp_eq', den_cmp_ne', den_and, den_and', den_or, den_or', den_not, den_not', den_blit, den_of, ev_var, at_0, at_1, at_2, at_3, at_4, at_5, at_6, at_7, at_skip, c_int, c_bool, c_arr, c_cnt, c_vec, ev_nil, ev_join, ev_sub3, loc_s, int_i, bool_b, rows_s, cs_nil, cs_cons, E.den_lit, E.den_var, E.den_add, E.den_sub, E.den_mul, E.den_quo, E.den_rem, E.den_max, E.den_min, E.den_len, E.den_wr, E.den_cell, hn, hk, ctKicksOf, ctKickOf, ctNext, atPre, ringSh, kicksSh]
  rintro v rows d hty hsm at_ a1 a2 ⟨p1, p2⟩
  refine ⟨bds_nil _, by omega, ?_⟩
  rintro x0 _ _ y0 _ _ v0 rows0 d0 _ _ at0 _ _ ⟨x1, x2, y1, y2, rfl, rfl, rfl⟩
  refine ⟨by omega, ?_⟩
  rintro z0 _ _ v1 rows1 d1 _ _ at1 _ _ ⟨z1, z2, rfl, rfl, rfl⟩
  refine ⟨by omega, by omega, ?_⟩
  rintro u0 _ _ v2 rows2 d2 _ _ at2 _ _ ⟨u1, u2, rfl, rfl, rfl⟩
  repeat (refine And.intro (by omega) ?_)
  exact ⟨rfl, rfl, by omega⟩
theorem sensorof_ok : tab.ok 25 := by
  refine Tab.of_ct rfl rfl ⟨_, Try.func25, by decide, rfl⟩ ?_ (fun h => by cases h)
  refine ct_ok (cx := csensorof) (Tab.cx_ok (all_cons next_ok all_nil)) Try.func25 (bds := []) (T := tsensorof) (by kernel_rfl) ?_
  have hn : csensorof.ct 26 = some ctNext := rfl
  unfold tsensorof
  simp only [VC, allC, List.map_cons, List.map_nil, List.length_cons, List.length_nil, List.getElem?_cons_zero, List.getElem?_cons_succ, List.cons.injEq, C.i.injEq, C.b.injEq, and_true, true_and, forall_const, kindsOf_nil, kindsOf_lf, kindsOf_agg, kindsOf_box, boxKinds_nil, boxKinds_lf, boxKinds_agg, boxKinds_box, List.append_nil, List.cons_append, List.nil_append, den_cmp_le, den_cmp_lt, den_cmp_eq, den_cmp_ne, den_cmp_le', den_cmp_lt', den_cmp_eq', den_cmp_ne', den_and, den_and', den_or, den_or', den_not, den_not', den_blit, den_of, ev_var, at_0, at_1, at_2, at_3, at_4, at_5, at_6, at_7, at_skip, c_int, c_bool, c_arr, c_cnt, c_vec, ev_nil, ev_join, ev_sub3, loc_s, int_i, bool_b, rows_s, cs_nil, cs_cons, E.den_lit, E.den_var, E.den_add, E.den_sub, E.den_mul, E.den_quo, E.den_rem, E.den_max, E.den_min, E.den_len, E.den_wr, E.den_cell, hn, ctSensorOf, ctNext, atPre, ringSh, sensSh, SensGood]
  rintro v rows d hty hsm at_ a1 a2 ⟨p1, p2⟩
  refine ⟨bds_nil _, by omega, ?_⟩
  rintro x1 _ _ v0 rows0 d0 _ _ at0 _ _ ⟨l1, u1, rfl, rfl, rfl⟩
  unfold tsensorof_6
  simp only [VC, allC, List.map_cons, List.map_nil, List.length_cons, List.length_nil, List.getElem?_cons_zero, List.getElem?_cons_succ, List.cons.injEq, C.i.injEq, C.b.injEq, and_true, true_and, forall_const, kindsOf_nil, kindsOf_lf, kindsOf_agg, kindsOf_box, boxKinds_nil, boxKinds_lf, boxKinds_agg, boxKinds_box, List.append_nil, List.cons_append, List.nil_append, den_cmp_le, den_cmp_lt, den_cmp_eq, den_cmp_ne, den_cmp_le', den_cmp_lt', den_cmp_eq', den_cmp_ne', den_and, den_and', den_or, den_or', den_not, den_not', den_blit, den_of, ev_var, at_0, at_1, at_2, at_3, at_4, at_5, at_6, at_7, at_skip, c_int, c_bool, c_arr, c_cnt, c_vec, ev_nil, ev_join, ev_sub3, loc_s, int_i, bool_b, rows_s, cs_nil, cs_cons, E.den_lit, E.den_var, E.den_add, E.den_sub, E.den_mul, E.den_quo, E.den_rem, E.den_max, E.den_min, E.den_len, E.den_wr, E.den_cell, hn, ctNext, ringSh]
  repeat (refine And.intro (by omega) ?_)
  rintro x2 _ _ v0 rows0 d0 _ _ at0 _ _ ⟨l2, u2, rfl, rfl, rfl⟩
  unfold tsensorof_5
  simp only [VC, allC, List.map_cons, List.map_nil, List.length_cons, List.length_nil, List.getElem?_cons_zero, List.getElem?_cons_succ, List.cons.injEq, C.i.injEq, C.b.injEq, and_true, true_and, forall_const, kindsOf_nil, kindsOf_lf, kindsOf_agg, kindsOf_box, boxKinds_nil, boxKinds_lf, boxKinds_agg, boxKinds_box, List.append_nil, List.cons_append, List.nil_append, den_cmp_le, den_cmp_lt, den_cmp_eq, den_cmp_ne, den_cmp_le', den_cmp_lt', den_cmp_eq', den_cmp_ne', den_and, den_and', den_or, den_or', den_not, den_not', den_blit, den_of, ev_var, at_0, at_1, at_2, at_3, at_4, at_5, at_6, at_7, at_skip, c_int, c_bool, c_arr, c_cnt, c_vec, ev_nil, ev_join, ev_sub3, loc_s, int_i, bool_b, rows_s, cs_nil, cs_cons, E.den_lit, E.den_var, E.den_add, E.den_sub, E.den_mul, E.den_quo, E.den_rem, E.den_max, E.den_min, E.den_len, E.den_wr, E.den_cell, hn, ctNext, ringSh]
  repeat (refine And.intro (by omega) ?_)
  rintro x3 _ _ v0 rows0 d0 _ _ at0 _ _ ⟨l3, u3, rfl, rfl, rfl⟩
  repeat (refine And.intro (by omega) ?_)
  rintro x4 _ _ v0 rows0 d0 _ _ at0 _ _ ⟨l4, u4, rfl, rfl, rfl⟩
  have m := mul_bd (a := x3) (b := x4) (A := 2) (B := 19) (by omega) (by omega) (by omega) (by omega)
  unfold tsensorof_4
  simp only [VC, allC, List.map_cons, List.map_nil, List.length_cons, List.length_nil, List.getElem?_cons_zero, List.getElem?_cons_succ, List.cons.injEq, C.i.injEq, C.b.injEq, and_true, true_and, forall_const, kindsOf_nil, kindsOf_lf, kindsOf_agg, kindsOf_box, boxKinds_nil, boxKinds_lf, boxKinds_agg, boxKinds_box, List.append_nil, List.cons_append, List.nil_append, den_cmp_le, den_cmp_lt, den_cmp_eq, den_cmp_ne, den_cmp_le', den_cmp_lt', den_cmp_eq', den_cmp_ne', den_and, den_and', den_or, den_or', den_not, den_not', den_blit, den_of, ev_var, at_0, at_1, at_2, at_3, at_4, at_5, at_6, at_7, at_skip, c_int, c_bool, c_arr, c_cnt, c_vec, ev_nil, ev_join, ev_sub3, loc_s, int_i, bool_b, rows_s, cs_nil, cs_cons, E.den_lit, E.den_var, E.den_add, E.den_sub, E.den_mul, E.den_quo, E.den_rem, E.den_max, E.den_min, E.den_len, E.den_wr, E.den_cell, hn, ctNext, ringSh]
  repeat (refine And.intro (by omega) ?_)
  rintro x5 _ _ v0 rows0 d0 _ _ at0 _ _ ⟨l5, u5, rfl, rfl, rfl⟩
  repeat (refine And.intro (by omega) ?_)
  rintro x6 _ _ v0 rows0 d0 _ _ at0 _ _ ⟨l6, u6, rfl, rfl, rfl⟩
  unfold tsensorof_3
  simp only [VC, allC, List.map_cons, List.map_nil, List.length_cons, List.length_nil, List.getElem?_cons_zero, List.getElem?_cons_succ, List.cons.injEq, C.i.injEq, C.b.injEq, and_true, true_and, forall_const, kindsOf_nil, kindsOf_lf, kindsOf_agg, kindsOf_box, boxKinds_nil, boxKinds_lf, boxKinds_agg, boxKinds_box, List.append_nil, List.cons_append, List.nil_append, den_cmp_le, den_cmp_lt, den_cmp_eq, den_cmp_ne, den_cmp_le', den_cmp_lt', den_cmp_eq', den_cmp_ne', den_and, den_and', den_or, den_or', den_not, den_not', den_blit, den_of, ev_var, at_0, at_1, at_2, at_3, at_4, at_5, at_6, at_7, at_skip, c_int, c_bool, c_arr, c_cnt, c_vec, ev_nil, ev_join, ev_sub3, loc_s, int_i, bool_b, rows_s, cs_nil, cs_cons, E.den_lit, E.den_var, E.den_add, E.den_sub, E.den_mul, E.den_quo, E.den_rem, E.den_max, E.den_min, E.den_len, E.den_wr, E.den_cell, hn, ctNext, ringSh]
  repeat (refine And.intro (by omega) ?_)
  rintro x7 _ _ v0 rows0 d0 _ _ at0 _ _ ⟨l7, u7, rfl, rfl, rfl⟩
  repeat (refine And.intro (by omega) ?_)
  rintro x8 _ _ v0 rows0 d0 _ _ at0 _ _ ⟨l8, u8, rfl, rfl, rfl⟩
  unfold tsensorof_2
  simp only [VC, allC, List.map_cons, List.map_nil, List.length_cons, List.length_nil, List.getElem?_cons_zero, List.getElem?_cons_succ, List.cons.injEq, C.i.injEq, C.b.injEq, and_true, true_and, forall_const, kindsOf_nil, kindsOf_lf, kindsOf_agg, kindsOf_box, boxKinds_nil, boxKinds_lf, boxKinds_agg, boxKinds_box, List.append_nil, List.cons_append, List.nil_append, den_cmp_le, den_cmp_lt, den_cmp_eq, den_cmp_ne, den_cmp_le', den_cmp_lt', den_cmp_eq', den_cmp_ne', den_and, den_and', den_or, den_or', den_not, den_not', den_blit, den_of, ev_var, at_0, at_1, at_2, at_3, at_4, at_5, at_6, at_7, at_skip, c_int, c_bool, c_arr, c_cnt, c_vec, ev_nil, ev_join, ev_sub3, loc_s, int_i, bool_b, rows_s, cs_nil, cs_cons, E.den_lit, E.den_var, E.den_add, E.den_sub, E.den_mul, E.den_quo, E.den_rem, E.den_max, E.den_min, E.den_len, E.den_wr, E.den_cell, hn, ctNext, ringSh]
  repeat (refine And.intro (by omega) ?_)
  rintro x9 _ _ v0 rows0 d0 _ _ at0 _ _ ⟨l9, u9, rfl, rfl, rfl⟩
  unfold tsensorof_1
  simp only [VC, allC, List.map_cons, List.map_nil, List.length_cons, List.length_nil, List.getElem?_cons_zero, List.getElem?_cons_succ, List.cons.injEq, C.i.injEq, C.b.injEq, and_true, true_and, forall_const, kindsOf_nil, kindsOf_lf, kindsOf_agg, kindsOf_box, boxKinds_nil, boxKinds_lf, boxKinds_agg, boxKinds_box, List.append_nil, List.cons_append, List.nil_append, den_cmp_le, den_cmp_lt, den_cmp_eq, den_cmp_ne, den_cmp_le', den_cmp_lt', den_cmp_eq', den_cmp_ne', den_and, den_and', den_or, den_or', den_not, den_not', den_blit, den_of, ev_var, at_0, at_1, at_2, at_3, at_4, at_5, at_6, at_7, at_skip, c_int, c_bool, c_arr, c_cnt, c_vec, ev_nil, ev_join, ev_sub3, loc_s, int_i, bool_b, rows_s, cs_nil, cs_cons, E.den_lit, E.den_var, E.den_add, E.den_sub, E.den_mul, E.den_quo, E.den_rem, E.den_max, E.den_min, E.den_len, E.den_wr, E.den_cell, hn, ctNext, ringSh]
  repeat (refine And.intro (by omega) ?_)
  first | omega | (intro hc; repeat (refine And.intro (by omega) ?_); omega)
theorem skOf_mk {a b c d e f g h r q : Int} {l : List C} : skOf (.i a :: .i b :: .i c :: .i d :: .i e :: .i f :: .i g :: .i h :: .i r :: .i q :: l) = ⟨a, b, c, d, e, f, g, h, r, q⟩ := rfl
theorem cell10 {a b c d e f g h r q : C} {n : Int} {l : List C} : cell_ (a :: b :: c :: d :: e :: f :: g :: h :: r :: q :: .i n :: l) 10 = n := rfl
theorem firA_go {ch pe de no st lo li ho r g f a : Int} (h : a ≤ 10000) : firA ⟨ch, pe, de, no, st, lo, li, ho, r, g⟩ f (10001 - a).toNat a =
    if f + a * pe ≤ 10000 then (if li ≤ saysV ch r g (f + a * pe) - no * st then some a else firA ⟨ch, pe, de, no, st, lo, li, ho, r, g⟩ f (10001 - (a + 1)).toNat (a + 1)) else none := by
  rw [show (10001 - a).toNat = (10001 - (a + 1)).toNat + 1 by omega, firA]
theorem firA_end {ch pe de no st lo li ho r g f a : Int} {n : Nat} (h : 10000 < f + a * pe) : firA ⟨ch, pe, de, no, st, lo, li, ho, r, g⟩ f n a = none := by
  cases n with
  | zero => rfl
  | succ n => rw [firA]; exact if_neg (by simp only []; omega)
theorem latL_go {x : SK} {f o p q : Int} (h : f < x.pe) : latL x (x.pe - f).toNat f o p q = match firA x f 10001 0 with
    | none => none
    | some a => if 10000 < tickV x f a then none else if o < tickV x f a then latL x (x.pe - (f + 1)).toNat (f + 1) (tickV x f a) f a else latL x (x.pe - (f + 1)).toNat (f + 1) o p q := by
  rw [show (x.pe - f).toNat = (x.pe - (f + 1)).toNat + 1 by omega, latL]
  cases firA x f 10001 0 <;> rfl
theorem latek_ok : tab.ok 79 := by
  refine Tab.of_ct rfl rfl ⟨_, Try.func79, by decide, rfl⟩ ?_ ctF_det
  refine ct_ok (cx := clatek) (Tab.cx_ok (all_cons says_ok (all_cons flow1_ok (all_cons gain1_ok all_nil)))) Try.func79 (bds := []) (T := tlatek) (by kernel_rfl) ?_
  have h3 : clatek.ct 67 = some ctFlow1 := rfl
  have h4 : clatek.ct 66 = some ctGain1 := rfl
  unfold tlatek
  simp only [VC, allC, List.map_cons, List.map_nil, List.length_cons, List.length_nil, List.getElem?_cons_zero, List.getElem?_cons_succ, List.cons.injEq, C.i.injEq, C.b.injEq, and_true, true_and, forall_const, kindsOf_nil, kindsOf_lf, kindsOf_agg, kindsOf_box, boxKinds_nil, boxKinds_lf, boxKinds_agg, boxKinds_box, List.append_nil, List.cons_append, List.nil_append, den_cmp_le, den_cmp_lt, den_cmp_eq, den_cmp_ne, den_cmp_le', den_cmp_lt', den_cmp_eq', den_cmp_ne', den_and, den_and', den_or, den_or', den_not, den_not', den_blit, den_of, ev_var, at_0, at_1, at_2, at_3, at_4, at_5, at_6, at_7, at_skip, c_int, c_bool, c_arr, c_cnt, c_vec, ev_nil, ev_join, ev_sub3, loc_s, int_i, bool_b, rows_s, cs_nil, cs_cons, E.den_lit, E.den_var, E.den_add, E.den_sub, E.den_mul, E.den_quo, E.den_rem, E.den_max, E.den_min, E.den_len, E.den_wr, E.den_cell, h3, h4, ctLatek, ctFlow1, ctGain1, ctF, kickSh, sensSh, skOf_mk]
  intro ch _ _ pe _ _ de _ _ no _ _ st _ _ lo _ _ li _ _ ho _ _ r _ _ g _ _ hp
  obtain ⟨hs, hk⟩ := hp
  obtain ⟨hch, hso⟩ := sensE_iff.1 hs
  simp only [] at hch hso hk
  unfold SOk at hso
  have mn := mul_bd (a := no) (b := st) (A := 15) (B := 1048576) (by omega) (by omega) (by omega) (by omega)
  have mh := mul_bd (a := ho) (b := lo + 1) (A := 8) (B := 6) (by omega) (by omega) (by omega) (by omega)
  have mh1 : 0 < ho * (lo + 1) := Int.mul_pos (by omega) (by omega)
  have hgo := fun f a (h : a ≤ 10000) => firA_go (ch := ch) (pe := pe) (de := de) (no := no) (st := st) (lo := lo) (li := li) (ho := ho) (r := r) (g := g) (f := f) h
  have hend := fun f a n (h : 10000 < f + a * pe) => firA_end (ch := ch) (pe := pe) (de := de) (no := no) (st := st) (lo := lo) (li := li) (ho := ho) (r := r) (g := g) (n := n) h
  generalize hX : SK.mk ch pe de no st lo li ho r g = X at *
  have epe : X.pe = pe := by rw [← hX]
  have eV : latV X = latL X pe.toNat 0 (-1) 0 0 := by unfold latV; rw [epe]
  have eT : ∀ f a, tickV X f a = f + (a + ho * (lo + 1) - 1) * pe + de := fun f a => by rw [← hX]; rfl
  have lgo := fun f o p q (h : f < pe) => latL_go (x := X) (f := f) (o := o) (p := p) (q := q) (by omega)
  rw [epe] at lgo
  have bd := fun n => @saysV_bd ch r g n
  refine ⟨bds_nil _, fun h2 => ?_, fun h2 => ?_⟩
  · have he : ∀ n, saysV ch r g n = flowV r g n := fun n => by unfold saysV; rw [if_neg (by omega)]
    simp only [he] at hgo bd
    refine ⟨fun xs => match xs with | [_, .i f, .i o, .i p, .i q] => 0 ≤ f ∧ f ≤ pe ∧ latV X = latL X (pe - f).toNat f o p q ∧ -1 ≤ o ∧ o ≤ 10000 | _ => False, fun xs => match xs with | [_, .i f, _, _, _] => (pe - f).toNat | _ => 0, ⟨by omega, by omega, by rw [eV, Int.sub_zero], by omega, by omega⟩, ?_⟩; rintro b f _ _ o _ _ p _ _ q _ _ ⟨f0, f1, hI, o1, o2⟩; refine ⟨fun hf => ?_, fun hf => ?_⟩; rotate_left; (rw [hI, show (pe - f).toNat = 0 by omega]; rfl); refine ⟨fun xs => match xs with | [_, .i a] => 0 ≤ a ∧ a ≤ 10001 ∧ firA X f (10001 - a).toNat a = firA X f 10001 0 | _ => False, fun xs => match xs with | [_, .i a] => (10001 - a).toNat | _ => 0, ⟨by omega, by omega, rfl⟩, ?_⟩; rintro b' a _ _ ⟨a0, a1, hA⟩; have pm := mul_bd (a := a) (b := pe) (A := 10001) (B := 60) (by omega) (by omega) (by omega) (by omega); have pg : a ≤ a * pe := by { have := Int.mul_le_mul_of_nonneg_left (show 1 ≤ pe by omega) a0; omega }; have pt0 := mul_bd (a := a + ho * (lo + 1) - 1) (b := pe) (A := 10100) (B := 60) (by omega) (by omega) (by omega) (by omega); have pt := mul_abs (a := a + ho * (lo + 1) - 1) (b := pe) (A := 10100) (B := 60) (by omega) (by omega) (by omega) (by omega); refine ⟨by omega, by omega, fun hle => ?_, fun hgt => ?_⟩; rotate_left; (rw [hI, lgo f o p q (by omega), ← hA, hend f a _ (by omega)]; rfl); have hg := hgo f a (by omega); rw [if_pos (by omega), hA] at hg; refine ⟨by omega, by omega, by omega, by omega, ⟨hk, by omega⟩, ?_⟩; rintro v _ _ hv; have hb := bd (f + a * pe); rw [← hv] at hb hg; refine ⟨by omega, fun hlt => ?_, fun hge => ?_⟩; (rw [if_neg (by omega)] at hg; exact ⟨by omega, by omega, ⟨by omega, by omega, hg.symm⟩, show (10001 - (a + 1)).toNat < (10001 - a).toNat by omega⟩); rw [if_pos (by omega)] at hg; have et := eT f a; have hl := lgo f o p q (by omega); rw [hg] at hl; simp only [] at hl; rw [et] at hl; refine ⟨by omega, by omega, by omega, by omega, by omega, by omega, by omega, fun hlt => ?_, fun hge => ⟨fun hlt => ?_, fun hge' => ?_⟩⟩; (rw [hI, hl, if_pos hlt]; rfl); (exact ⟨by omega, ⟨by omega, by omega, by rw [hI, hl, if_neg (by omega), if_pos hlt], by omega, by omega⟩, show (pe - (f + 1)).toNat < (pe - f).toNat by omega⟩); (exact ⟨⟨by omega, by omega, by rw [hI, hl, if_neg (by omega), if_neg (by omega)], by omega, by omega⟩, show (pe - (f + 1)).toNat < (pe - f).toNat by omega⟩)
  · have he : ∀ n, saysV ch r g n = gainV r g n := fun n => by unfold saysV; rw [if_pos (by omega)]
    simp only [he] at hgo bd
    refine ⟨fun xs => match xs with | [_, .i f, .i o, .i p, .i q] => 0 ≤ f ∧ f ≤ pe ∧ latV X = latL X (pe - f).toNat f o p q ∧ -1 ≤ o ∧ o ≤ 10000 | _ => False, fun xs => match xs with | [_, .i f, _, _, _] => (pe - f).toNat | _ => 0, ⟨by omega, by omega, by rw [eV, Int.sub_zero], by omega, by omega⟩, ?_⟩; rintro b f _ _ o _ _ p _ _ q _ _ ⟨f0, f1, hI, o1, o2⟩; refine ⟨fun hf => ?_, fun hf => ?_⟩; rotate_left; (rw [hI, show (pe - f).toNat = 0 by omega]; rfl); refine ⟨fun xs => match xs with | [_, .i a] => 0 ≤ a ∧ a ≤ 10001 ∧ firA X f (10001 - a).toNat a = firA X f 10001 0 | _ => False, fun xs => match xs with | [_, .i a] => (10001 - a).toNat | _ => 0, ⟨by omega, by omega, rfl⟩, ?_⟩; rintro b' a _ _ ⟨a0, a1, hA⟩; have pm := mul_bd (a := a) (b := pe) (A := 10001) (B := 60) (by omega) (by omega) (by omega) (by omega); have pg : a ≤ a * pe := by { have := Int.mul_le_mul_of_nonneg_left (show 1 ≤ pe by omega) a0; omega }; have pt0 := mul_bd (a := a + ho * (lo + 1) - 1) (b := pe) (A := 10100) (B := 60) (by omega) (by omega) (by omega) (by omega); have pt := mul_abs (a := a + ho * (lo + 1) - 1) (b := pe) (A := 10100) (B := 60) (by omega) (by omega) (by omega) (by omega); refine ⟨by omega, by omega, fun hle => ?_, fun hgt => ?_⟩; rotate_left; (rw [hI, lgo f o p q (by omega), ← hA, hend f a _ (by omega)]; rfl); have hg := hgo f a (by omega); rw [if_pos (by omega), hA] at hg; refine ⟨by omega, by omega, by omega, by omega, ⟨hk, by omega⟩, ?_⟩; rintro v _ _ hv; have hb := bd (f + a * pe); rw [← hv] at hb hg; refine ⟨by omega, fun hlt => ?_, fun hge => ?_⟩; (rw [if_neg (by omega)] at hg; exact ⟨by omega, by omega, ⟨by omega, by omega, hg.symm⟩, show (10001 - (a + 1)).toNat < (10001 - a).toNat by omega⟩); rw [if_pos (by omega)] at hg; have et := eT f a; have hl := lgo f o p q (by omega); rw [hg] at hl; simp only [] at hl; rw [et] at hl; refine ⟨by omega, by omega, by omega, by omega, by omega, by omega, by omega, fun hlt => ?_, fun hge => ⟨fun hlt => ?_, fun hge' => ?_⟩⟩; (rw [hI, hl, if_pos hlt]; rfl); (exact ⟨by omega, ⟨by omega, by omega, by rw [hI, hl, if_neg (by omega), if_pos hlt], by omega, by omega⟩, show (pe - (f + 1)).toNat < (pe - f).toNat by omega⟩); (exact ⟨⟨by omega, by omega, by rw [hI, hl, if_neg (by omega), if_neg (by omega)], by omega, by omega⟩, show (pe - (f + 1)).toNat < (pe - f).toNat by omega⟩)
end Go.Proofs.Ytlbgcjpkegpmlaa
