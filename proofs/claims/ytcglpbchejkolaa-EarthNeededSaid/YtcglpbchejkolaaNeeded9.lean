/- The law EarthNeeded: for every input the call returns true, and each argument reads afterwards as it read before. The frame is printed by frame.py. -/
import Derived.Test.YtcglpbchejkolaaNeeded8
import Derived.Test.YtcglpbchejkolaaRows
import Derived.ShutString
import Derived.ChangeOld
/- Earth: the depths, by the table: the program's. -/
namespace Go.Proofs.Ytcglpbchejkolaa
open Go.RowKit
set_option linter.unusedSimpArgs false
set_option linter.unusedVariables false

theorem ints_snoc (rows : List (List C)) (n : Int) : ints (rows ++ [[.i n]]) = ints rows ++ [n] := by rw [ints_app]; rfl
theorem dep_split : bodyOf Try.f86 = pre (heads 4 (bodyOf Try.f86)) (nav [1, 1, 1, 1] (bodyOf Try.f86)) := by kernel_rfl
theorem dep_tree1 : execL cdep1 (heads 4 (bodyOf Try.f86)) { startOf Try.f86 ctDepthsI [] [] with lvl := (startOf Try.f86 ctDepthsI [] []).lvl + 1 } (joinK (startOf Try.f86 ctDepthsI [] []) depSt1 [.slot 3] [.vec 2] (endK cdep1 Try.f86 ctDepthsI)) = some tdep1 := by kernel_rfl
theorem dep_cx : CxOK cdep1 := Tab.cx_ok all_nil fxdep1
theorem dep_vc {R : List C → Prop} {b gl gh : Int} {v1 v2 v3 v4 v7 : Value} {r1 r2 r3 r4 r7 : List (List C)} {I : List C → Prop} (h : checkV ⟨b, knots r1, knots r2, knots r3, knots r4, gl, gh, repsOf r7⟩ = 0) (hI : ∀ v rows, ints rows = rawP ⟨b, knots r1, knots r2, knots r3, knots r4, gl, gh, repsOf r7⟩ → I [.s v rows]) :
    VC cdep1 R tdep1 [.i b, .s v1 r1, .s v2 r2, .s v3 r3, .s v4 r4, .i gl, .i gh, .s v7 r7] [I] := by
  unfold tdep1
  simp only [VC, allC, List.map_cons, List.map_nil, List.length_cons, List.length_nil, List.getElem?_cons_zero, List.getElem?_cons_succ, List.cons.injEq, C.i.injEq, C.b.injEq, and_true, true_and, forall_const, kindsOf_nil, kindsOf_lf, kindsOf_agg, kindsOf_box, boxKinds_nil, boxKinds_lf, boxKinds_agg, boxKinds_box, List.append_nil, List.cons_append, List.nil_append, den_cmp_le, den_cmp_lt, den_cmp_eq, den_cmp_ne, den_cmp_le', den_cmp_lt', den_cmp_eq', den_cmp_ne', den_and, den_and', den_or, den_or', den_not, den_not', den_blit, den_of, ev_var, at_0, at_1, at_2, at_3, at_4, at_5, at_6, at_7, at_skip, c_int, c_bool, c_arr, c_cnt, c_vec, ev_nil, ev_join, ev_sub3, loc_s, int_i, bool_b, rows_s, cs_nil, cs_cons, E.den_lit, E.den_var, E.den_add, E.den_sub, E.den_mul, E.den_quo, E.den_rem, E.den_max, E.den_min, E.den_len, E.den_wr, E.den_cell, ev_cell, kn1]
  have hv := valid h
  have l1 : (knots r1).length ≤ 24 := (lineE_box hv.pl).1
  have l2 : (knots r2).length ≤ 24 := (lineE_box hv.ph).1
  have l3 : (knots r3).length ≤ 24 := (lineE_box hv.fl).1
  have l4 : (knots r4).length ≤ 24 := (lineE_box hv.fh).1
  have l7 : (repsOf r7).length ≤ 24 := hv.reps
  have e7 : (repsOf r7).length = r7.length := by simp [repsOf]
  rw [← knots_len r1, ← knots_len r2, ← knots_len r3, ← knots_len r4, ← e7]
  simp only [rp1 v7 r7]
  generalize knots r1 = q1 at *
  generalize knots r2 = q2 at *
  generalize knots r3 = q3 at *
  generalize knots r4 = q4 at *
  generalize repsOf r7 = q7 at *
  have step : ∀ {A : List Int} {rows : List (List C)} {l : List Kn} {i : Int}, 0 ≤ i → i < l.length → ints rows = A ++ minAt b (l.take i.toNat) → ints (rows ++ [[.i (min (l.getD i.toNat (0, 0)).1 b)]]) = A ++ minAt b (l.take (i + 1).toNat) := fun {A rows l i} i0 i1 hr => by
    rw [ints_snoc, hr, show (i + 1).toNat = i.toNat + 1 by omega, take_snoc (by omega) (0, 0)]
    unfold minAt
    rw [List.map_append, List.append_assoc]; rfl
  have len : ∀ {A : List Int} {rows : List (List C)} {l : List Kn} {n : Nat}, A.length ≤ 200 → l.length ≤ 24 → ints rows = A ++ minAt b (l.take n) → rows.length ≤ 300 := fun {A rows l n} hA hl hr => by
    have := congrArg List.length hr
    rw [ints_len, List.length_append] at this
    unfold minAt at this
    rw [List.length_map, List.length_take] at this
    omega
  have all : ∀ {A : List Int} {rows : List (List C)} {l : List Kn} {i : Int}, (l.length : Int) ≤ i → ints rows = A ++ minAt b (l.take i.toNat) → ints rows = A ++ minAt b l := fun {A rows l i} hi hr => by
    rw [hr, List.take_of_length_le (by omega)]
  have z0 : ∀ {A : List Int} {rows : List (List C)} {l : List Kn}, ints rows = A → ints rows = A ++ minAt b (l.take (0 : Int).toNat) := fun {A rows l} hr => by
    rw [hr]; simp [minAt]
  have m1 : (minAt b q1).length ≤ 24 := by simp [minAt]; omega
  have m2 : (minAt b q2).length ≤ 24 := by simp [minAt]; omega
  have m3 : (minAt b q3).length ≤ 24 := by simp [minAt]; omega
  have m4 : (minAt b q4).length ≤ 24 := by simp [minAt]; omega
  intro v
  refine ⟨fun xs => match xs with | [.s _ rows, .i i] => 0 ≤ i ∧ i ≤ q1.length ∧ ints rows = [0, b] ++ minAt b (q1.take i.toNat) | _ => False, fun xs => match xs with | [_, .i i] => ((q1.length : Int) - i).toNat | _ => 0, ⟨by omega, by omega, z0 rfl⟩, ?_⟩
  rintro _ rows _ _ _ i _ _ ⟨i0, i1, hr⟩
  refine ⟨fun hlt => ⟨i0, hlt, by have := len (A := [0, b]) (by simp) l1 hr; omega, fun _ => ⟨⟨by omega, by omega, step i0 hlt hr⟩, (show ((q1.length : Int) - (i + 1)).toNat < ((q1.length : Int) - i).toNat by omega)⟩⟩, fun hge => ?_⟩
  replace hr := all hge hr
  generalize hA1 : [0, b] ++ minAt b q1 = A1 at hr
  have a1 : A1.length ≤ 26 := by rw [← hA1, List.length_append]; simp; omega
  refine ⟨fun xs => match xs with | [.s _ rows, .i i, _] => 0 ≤ i ∧ i ≤ q2.length ∧ ints rows = A1 ++ minAt b (q2.take i.toNat) | _ => False, fun xs => match xs with | [_, .i i, _] => ((q2.length : Int) - i).toNat | _ => 0, ⟨by omega, by omega, z0 hr⟩, ?_⟩
  rintro _ rows2 _ _ _ j _ _ _ ⟨j0, j1, hr2⟩
  refine ⟨fun hlt => ⟨j0, hlt, fun _ => ⟨by have := len (by omega) l2 hr2; omega, fun _ => ⟨⟨by omega, by omega, step j0 hlt hr2⟩, (show ((q2.length : Int) - (j + 1)).toNat < ((q2.length : Int) - j).toNat by omega)⟩⟩⟩, fun hge2 => ?_⟩
  replace hr2 := all hge2 hr2
  generalize hA2 : A1 ++ minAt b q2 = A2 at hr2
  have a2 : A2.length ≤ 50 := by rw [← hA2, List.length_append]; omega
  refine ⟨fun xs => match xs with | [.s _ rows, .i i, _] => 0 ≤ i ∧ i ≤ q3.length ∧ ints rows = A2 ++ minAt b (q3.take i.toNat) | _ => False, fun xs => match xs with | [_, .i i, _] => ((q3.length : Int) - i).toNat | _ => 0, ⟨by omega, by omega, z0 hr2⟩, ?_⟩
  rintro _ rows3 _ _ _ k _ _ _ ⟨k0, k1, hr3⟩
  refine ⟨fun hlt => ⟨k0, hlt, fun _ => ⟨by have := len (by omega) l3 hr3; omega, fun _ => ⟨⟨by omega, by omega, step k0 hlt hr3⟩, (show ((q3.length : Int) - (k + 1)).toNat < ((q3.length : Int) - k).toNat by omega)⟩⟩⟩, fun hge3 => ?_⟩
  replace hr3 := all hge3 hr3
  generalize hA3 : A2 ++ minAt b q3 = A3 at hr3
  have a3 : A3.length ≤ 74 := by rw [← hA3, List.length_append]; omega
  refine ⟨fun xs => match xs with | [.s _ rows, .i i, _] => 0 ≤ i ∧ i ≤ q4.length ∧ ints rows = A3 ++ minAt b (q4.take i.toNat) | _ => False, fun xs => match xs with | [_, .i i, _] => ((q4.length : Int) - i).toNat | _ => 0, ⟨by omega, by omega, z0 hr3⟩, ?_⟩
  rintro _ rows4 _ _ _ m _ _ _ ⟨m0, m1', hr4⟩
  refine ⟨fun hlt => ⟨m0, hlt, fun _ => ⟨by have := len (by omega) l4 hr4; omega, fun _ => ⟨⟨by omega, by omega, step m0 hlt hr4⟩, (show ((q4.length : Int) - (m + 1)).toNat < ((q4.length : Int) - m).toNat by omega)⟩⟩⟩, fun hge4 => ?_⟩
  replace hr4 := all hge4 hr4
  generalize hA4 : A3 ++ minAt b q4 = A4 at hr4
  have a4 : A4.length ≤ 98 := by rw [← hA4, List.length_append]; omega
  refine ⟨fun xs => match xs with | [.s _ rows, .i i] => 0 ≤ i ∧ i ≤ q7.length ∧ ints rows = A4 ++ (q7.take i.toNat).map (·.z) | _ => False, fun xs => match xs with | [_, .i i] => ((q7.length : Int) - i).toNat | _ => 0, ⟨by omega, by omega, by rw [hr4]; simp⟩, ?_⟩
  rintro v5 rows5 _ _ _ n _ _ ⟨n0, n1, hr5⟩
  refine ⟨fun hlt => ⟨n0, hlt, ?_, fun _ => ⟨⟨by omega, by omega, ?_⟩, (show ((q7.length : Int) - (n + 1)).toNat < ((q7.length : Int) - n).toNat by omega)⟩⟩, fun hge5 => ?_⟩
  · have := congrArg List.length hr5
    rw [ints_len, List.length_append, List.length_map, List.length_take] at this
    omega
  · rw [ints_snoc, hr5, show (n + 1).toNat = n.toNat + 1 by omega, take_snoc (by omega) ⟨0, 0, 0⟩, List.map_append, List.append_assoc]; rfl
  · refine hI v5 rows5 ?_
    rw [hr5, List.take_of_length_le (by omega), ← hA4, ← hA3, ← hA2, ← hA1]
    simp [rawP, minAll, Ear.lines, List.append_assoc]
theorem rawP_len {e : Ear} (h : Valid e) : 2 ≤ (rawP e).length ∧ (rawP e).length ≤ 122 := by
  have l1 := (lineE_box h.pl).1
  have l2 := (lineE_box h.ph).1
  have l3 := (lineE_box h.fl).1
  have l4 := (lineE_box h.fh).1
  have l7 := h.reps
  simp only [rawP, minAll, Ear.lines, minAt, List.flatMap_cons, List.flatMap_nil, List.length_append, List.length_map, List.length_cons, List.length_nil]
  omega
theorem callable_sort : Callable Try.prog 107 := ⟨_, Try.func107, by decide, rfl⟩
theorem callable_compact : Callable Try.prog 108 := ⟨_, Try.func108, by decide, rfl⟩
theorem of_ints {rows : List (List C)} {d : Nat} (h : TyN Try.prog d 2 rows) : rows = intRows (ints rows) := by
  cases d with
  | zero => exact h.elim
  | succ d =>
    obtain ⟨ks, hk, hh⟩ := h
    rw [show kinds Try.prog 2 = some [.int] by kernel_rfl] at hk
    cases hk
    unfold intRows ints
    rw [List.map_map]
    refine (List.map_congr_left (g := id) fun r hr => ?_).trans (List.map_id _) |>.symm
    obtain ⟨hl, hc⟩ := hh r hr
    obtain ⟨c0, h0, n0, rfl⟩ := hc 0 .int rfl
    match r, hl, h0 with
    | [a], _, h0 => simp at h0; subst h0; rfl
theorem ints_intRows (l : List Int) : ints (intRows l) = l := by
  unfold ints intRows
  rw [List.map_map]
  exact (List.map_congr_left (g := id) fun r _ => rfl).trans (List.map_id _)
def depStA : St := { depSt1 with sl := (48, none) :: depSt1.sl }
def depStA' : St := { depStA with nx := depStA.nx + 1, vec := (8, some (2, .var depStA.nx)) :: depStA.vec }
def depStB : St := { depStA' with sl := (49, none) :: depStA'.sl }
def depStC : St := { depStB with sl := (50, none) :: depStB.sl }
def depStC' : St := { depStC with nx := depStC.nx + 1, vec := (depStC.nx, some (2, .var depStC.nx)) :: dropV (some 8) depStC.vec }
def depStD : St := { depStC' with sl := (51, none) :: depStC'.sl }
def depStE : St := { depStD with sl := (2, some (.one (.lf (.vec 2 10)))) :: depStD.sl }
set_option maxRecDepth 100000 in
theorem depths_ok : tab7.ok 86 := by
  refine Tab.of_ct rfl rfl ⟨_, Try.func86, by decide, rfl⟩ ?_ (fun h => by cases h)
  refine ct_ok_open (cx := cdep1) (bds := []) dep_cx Try.func86 (c := bodyOf Try.f86) rfl ⟨by decide, by decide, by decide⟩ fun cs hcs hpre => ⟨bds_nil _, fun F w0 Γ a w Q hρ hs hk => ?_⟩
  obtain ⟨b, v1, r1, v2, r2, v3, r3, v4, r4, gl, gh, v7, r7, rfl⟩ : ∃ b v1 r1 v2 r2 v3 r3 v4 r4 gl gh v7 r7, cs = [.i b, .s v1 r1, .s v2 r2, .s v3 r3, .s v4 r4, .i gl, .i gh, .s v7 r7] := by
    match cs, hcs with
    | [c0, c1, c2, c3, c4, c5, c6, c7], ⟨⟨_, n0, e0⟩, ⟨_, v1, r1, d1, e1, _⟩, ⟨_, v2, r2, d2, e2, _⟩, ⟨_, v3, r3, d3, e3, _⟩, ⟨_, v4, r4, d4, e4, _⟩, ⟨_, n5, e5⟩, ⟨_, n6, e6⟩, ⟨_, v7, r7, d7, e7, _⟩, _⟩ =>
      exact ⟨n0, v1, r1, v2, r2, v3, r3, v4, r4, n5, n6, v7, r7, by rw [e0, e1, e2, e3, e4, e5, e6, e7]⟩
  have hpre : checkV ⟨b, knots r1, knots r2, knots r3, knots r4, gl, gh, repsOf r7⟩ = 0 := hpre
  have hval := valid hpre
  have hlen := rawP_len hval
  have hbot := hval.b
  rw [dep_split]
  refine pre_seg (R := ctDepthsI.post [.i b, .s v1 r1, .s v2 r2, .s v3 r3, .s v4 r4, .i gl, .i gh, .s v7 r7]) dep_cx (Ls := []) dep_tree1 (by kernel_rfl) rfl (I := fun xs => match xs with | [.s _ rows] => ints rows = rawP ⟨b, knots r1, knots r2, knots r3, knots r4, gl, gh, repsOf r7⟩ | _ => False) (by rw [hρ]; exact dep_vc hpre fun v rows hr => hr) hs ?_ ?_
  · intro xs Γx a' wp hxs hI hρ' he hs'
    obtain ⟨v8, r8, d8, rfl, hty⟩ : ∃ v8 r8 d8, xs = [.s v8 r8] ∧ TyN Try.prog d8 2 r8 := by
      match xs, hxs with
      | [c], ⟨⟨_, v8, r8, d8, e8, ht⟩, _⟩ => exact ⟨v8, r8, d8, by rw [e8], ht⟩
    have hI : ints r8 = rawP ⟨b, knots r1, knots r2, knots r3, knots r4, gl, gh, repsOf r7⟩ := hI
    have hr8 := of_ints hty
    rw [hI] at hr8
    generalize hraw : rawP ⟨b, knots r1, knots r2, knots r3, knots r4, gl, gh, repsOf r7⟩ = zs at *
    have hat8 : at_ Γx.ρ 8 = .s v8 r8 := by rw [hρ', hρ]; rfl
    have hlook : look depSt1.vec 8 = some (2, .var 8) := rfl
    have e3 : a'.eval (.tmp 3) = (at_ Γx.ρ 8).loc := by
      have := (hs'.slots 3 (.one (.lf (.vec 2 8))) rfl).1
      unfold slotV at this
      rwa [if_pos (by decide)] at this
    have hsz : a'.tmps.size = 52 := hs'.size
    have hzne : zs ≠ [] := fun e => by rw [e] at hlen; simp at hlen
    have hwf1 : depSt1.wf = true := by decide
    have hev : ((E.var 8).ev Γx.ρ).rows = intRows zs := by rw [ev_var, hat8]; exact hr8
    show (Code.seq (Code.region 16 _ _) (Code.seq (Code.region 17 _ _) Code.ret)).wp _ _ _ _
    refine wp_seq (wp_region_list (list_val rfl (v := (at_ Γx.ρ 8).loc) (w' := wp) (by simp [execOp, e3]) (list_call rfl (f := 107) (args := #[(at_ Γx.ρ 8).loc]) (by
      simp [execOp, resolve, invoke, eval_same, put_size, hsz]
      exact run_callFunc' callable_sort _ _) ?_)))
    have hs1 := hs'.drop (dst := some 48) (st' := depStA) rfl (at_ Γx.ρ 8).loc
    refine Calls.mono (sort_vec (st := depStA) hs1 (by decide) (i := 8) (e := .var 8) rfl hev hzne (by omega)) fun x w2 hx => ?_
    obtain ⟨rfl, hs2⟩ := hx
    refine ⟨_, rfl, ?_⟩
    have hs3 := hs2.drop (dst := some 49) (st' := depStB) rfl (.tuple #[])
    generalize hΓ2 : ({ Γx with ρ := Γx.ρ ++ [C.s (at_ Γx.ρ 8).loc (intRows (zs.mergeSort fun x y => decide (x ≤ y)))] } : Env) = Γ2 at *
    have hρ2 : Γ2.ρ = Γx.ρ ++ [C.s (at_ Γx.ρ 8).loc (intRows (zs.mergeSort fun x y => decide (x ≤ y)))] := by rw [← hΓ2]
    have hat2 : at_ Γ2.ρ 8 = .s v8 r8 := by rw [hρ2, hρ', hρ]; rfl
    have hat9 : at_ Γ2.ρ 9 = C.s (at_ Γx.ρ 8).loc (intRows (zs.mergeSort fun x y => decide (x ≤ y))) := by rw [hρ2, hρ', hρ]; rfl
    have hx2 : Ext Γx Γ2 := by rw [← hΓ2]; exact ⟨⟨_, rfl⟩, fun _ _ => rfl, Nat.le_refl _, rfl, rfl⟩
    generalize hacc : (a'.put (some 48) (at_ Γx.ρ 8).loc).put (some 49) (.tuple #[]) = a2 at *
    have hsz2 : a2.tmps.size = 52 := hs3.size
    have e32 : a2.eval (.tmp 3) = (at_ Γ2.ρ 8).loc := by
      have := (hs3.slots 3 (.one (.lf (.vec 2 8))) rfl).1
      unfold slotV at this
      rwa [if_pos (by decide)] at this
    show (Code.seq (Code.region 17 _ _) Code.ret).wp _ _ _ _
    refine wp_seq (wp_region_list (list_val rfl (v := (at_ Γ2.ρ 8).loc) (w' := w2) (by simp [execOp, e32]) (list_call rfl (f := 108) (args := #[(at_ Γ2.ρ 8).loc]) (by
      simp [execOp, resolve, invoke, eval_same, put_size, hsz2]
      exact run_callFunc' callable_compact _ _) ?_)))
    have hs4 := hs3.drop (dst := some 50) (st' := depStC) rfl (at_ Γ2.ρ 8).loc
    have hml : (zs.mergeSort fun x y => decide (x ≤ y)).length = zs.length := List.length_mergeSort _
    refine Calls.mono (compact_vec (st := depStC) hs4 (by decide) (i := 8) (e := .var 9) rfl (zs := zs.mergeSort fun x y => decide (x ≤ y)) (by rw [ev_var, hat9]; rfl) (fun e => hzne (List.length_eq_zero_iff.1 (by rw [← hml, e]; rfl))) (by omega)) fun x w3 hx => ?_
    obtain ⟨v', rfl, hs5⟩ := hx
    refine ⟨_, rfl, ?_⟩
    have hs6 := hs5.drop (dst := some 51) (st' := depStD) rfl v'
    generalize hΓ3 : ({ Γ2 with ρ := Γ2.ρ ++ [C.s v' (intRows (Lib.compact (zs.mergeSort fun x y => decide (x ≤ y))))] } : Env) = Γ3 at *
    have hat10 : at_ Γ3.ρ 10 = C.s v' (intRows (Lib.compact (zs.mergeSort fun x y => decide (x ≤ y)))) := by rw [← hΓ3]; show at_ (Γ2.ρ ++ _) 10 = _; rw [hρ2, hρ', hρ]; rfl
    have hx3 : Ext Γ2 Γ3 := by rw [← hΓ3]; exact ⟨⟨_, rfl⟩, fun _ _ => rfl, Nat.le_refl _, rfl, rfl⟩
    generalize hacc3 : (a2.put (some 50) (at_ Γ2.ρ 8).loc).put (some 51) v' = a3 at *
    have hsz3 : a3.tmps.size = 52 := hs6.size
    have e51 : a3.eval (.tmp 51) = v' := by rw [← hacc3]; exact eval_same (by rw [put_size, hsz2]; decide)
    refine list_val rfl (v := v') (w' := w3) (by simp [execOp, e51]) ?_
    have hok : (SV.one (.lf (.vec 2 10))).ok Try.prog w3 (Own Γ3 depStD) Γ3 := fun l hl => by
      simp only [S0.cells, List.mem_cons, List.not_mem_nil, or_false] at hl
      subst hl
      obtain ⟨ks, us, -, -, -, -, ho⟩ := (hs6.vec 10 (2, .var 10) rfl).1
      show ∃ a n cap, (at_ Γ3.ρ 10).loc = .slice a n cap
      rcases ho.2 with ⟨h, -⟩ | ⟨g, cap, cur, h, -⟩
      · exact ⟨_, _, _, h⟩
      · exact ⟨_, _, _, h⟩
    have hs7 := hs6.put (dst := some 2) (st' := depStE) rfl hok
    have hden : (SV.one (.lf (.vec 2 10))).den Γ3 = v' := by show (at_ Γ3.ρ 10).loc = v'; rw [hat10]; rfl
    rw [hden] at hs7
    show Code.ret.wp _ _ _ _
    refine wp_ret (hk .ret depStE (.ret [.cnt 2 (.var 10)]) Γ3 [fun _ => True] (show endOf cdep1 Try.f86 ctDepthsI depStE = _ by kernel_rfl) ((he.trans hx2).trans hx3) List.nil_prefix rfl ?_ _ _ hs7)
    show ∃ v rows, [(E.var 10).ev Γ3.ρ] = [.s v rows] ∧ ints rows = depthsV ⟨b, knots r1, knots r2, knots r3, knots r4, gl, gh, repsOf r7⟩
    refine ⟨v', intRows (Lib.compact (zs.mergeSort fun x y => decide (x ≤ y))), by rw [ev_var, hat10], ?_⟩
    rw [ints_intRows]
    unfold depthsV
    refine compact_merge fun y => ?_
    rw [← hraw]
    exact raw_same (by show 0 ≤ b; have : 1 ≤ b ∧ b ≤ 1048576 := hbot; omega) _ y
  · intro x st' T' Γ' Ls' hx hk' he hlen' hv' a' w' hs'
    exact hk x st' T' Γ' Ls' hk' he (List.nil_prefix) hlen' hv' a' w' hs'
end Go.Proofs.Ytcglpbchejkolaa
/- Earth: the depths, by the table: the document's, and both from outside. -/
namespace Go.Proofs.Ytcglpbchejkolaa
open Go.RowKit
set_option linter.unusedSimpArgs false
set_option linter.unusedVariables false

theorem depths2_ok : tab7.ok 51 := by
  refine Tab.of_ct rfl rfl ⟨_, Try.func51, by decide, rfl⟩ ?_ (fun h => by cases h)
  refine ct_ok (cx := cdepths2) (Tab.cx_ok (all_cons (up7_ok (up6_ok (up5_ok (up4_ok (up3_ok check_ok))))) (all_cons depths_ok all_nil))) Try.func51 (bds := []) (T := tdepths2) (by kernel_rfl) ?_
  have h1 : cdepths2.ct 35 = some ctCheck := rfl
  have h2 : cdepths2.ct 86 = some ctDepthsI := rfl
  unfold tdepths2
  simp only [VC, allC, List.map_cons, List.map_nil, List.length_cons, List.length_nil, List.getElem?_cons_zero, List.getElem?_cons_succ, List.cons.injEq, C.i.injEq, C.b.injEq, and_true, true_and, forall_const, kindsOf_nil, kindsOf_lf, kindsOf_agg, kindsOf_box, boxKinds_nil, boxKinds_lf, boxKinds_agg, boxKinds_box, List.append_nil, List.cons_append, List.nil_append, den_cmp_le, den_cmp_lt, den_cmp_eq, den_cmp_ne, den_cmp_le', den_cmp_lt', den_cmp_eq', den_cmp_ne', den_and, den_and', den_or, den_or', den_not, den_not', den_blit, den_of, ev_var, at_0, at_1, at_2, at_3, at_4, at_5, at_6, at_7, at_skip, c_int, c_bool, c_arr, c_cnt, c_vec, ev_nil, ev_join, ev_sub3, loc_s, int_i, bool_b, rows_s, cs_nil, cs_cons, E.den_lit, E.den_var, E.den_add, E.den_sub, E.den_mul, E.den_quo, E.den_rem, E.den_max, E.den_min, E.den_len, E.den_wr, E.den_cell, ev_cell, h1, h2, ctCheck, ctDepthsI, ctDepths, ctF, earthSh, earthKs, n_, k_, earOf]
  intro b _ _ u1 r1 _ _ _ u2 r2 _ _ _ u3 r3 _ _ _ u4 r4 _ _ _ gl _ _ gh _ _ u7 r7 _ _ _; refine ⟨bds_nil _, ?_⟩; rintro n _ _ rfl; refine ⟨fun h => ⟨_, _, rfl, (by unfold depthsE; rw [if_neg h]; rfl)⟩, fun h => ⟨h, ?_⟩⟩; rintro v rows _ _ _ ⟨v', rows', e, hr⟩; cases e; exact ⟨_, _, rfl, (by unfold depthsE; rw [if_pos h]; exact hr)⟩
end Go.Proofs.Ytcglpbchejkolaa
/- Earth: an earth that a truth fits has no conflicts; a true report more: plain laws. -/
namespace Go.Proofs.Ytcglpbchejkolaa
open Go.RowKit
set_option linter.unusedSimpArgs false
set_option linter.unusedVariables false

theorem Valid.only {e : Ear} (h : Valid e) {l : List Rep} (hl : ∀ r ∈ l, r ∈ e.reps) (hn : l.length ≤ 24) : Valid (e.only l) where
  b := h.b
  g := h.g
  pl := h.pl
  ph := h.ph
  fl := h.fl
  fh := h.fh
  ab1 := h.ab1
  ab2 := h.ab2
  ab3 := h.ab3
  reps := hn
  rep := fun r hr => h.rep r (hl r hr)
theorem Fit.only {e : Ear} {tp tf : List Kn} (h : Fit e tp tf) {l : List Rep} (hl : ∀ r ∈ l, r ∈ e.reps) (hn : l.length ≤ 24) : Fit (e.only l) tp tf where
  v := h.v.only hl hn
  ltp := h.ltp
  ltf := h.ltf
  rp := h.rp
  rf := h.rf
  zp := h.zp
  zf := h.zf
  s1 := h.s1
  s2 := h.s2
  s3 := h.s3
  s4 := h.s4
  s5 := h.s5
  reps := fun r hr => h.reps r (hl r hr)
theorem depths_in {e : Ear} (h : Valid e) {z : Int} (hz : z ∈ depthsV e) : 0 ≤ z ∧ z ≤ e.bottom := by
  have hb := h.b
  rcases depths_mem.1 hz with rfl | rfl | ⟨q, hq, k, hk, h1, rfl⟩ | ⟨r, hr, rfl⟩
  · omega
  · omega
  · refine ⟨?_, h1⟩
    unfold Ear.lines at hq
    simp only [List.mem_cons, List.not_mem_nil, or_false] at hq
    rcases hq with rfl | rfl | rfl | rfl
    · exact ((lineE_good h.pl).bd hk).1
    · exact ((lineE_good h.ph).bd hk).1
    · exact ((lineE_good h.fl).bd hk).1
    · exact ((lineE_good h.fh).bd hk).1
  · have := h.rep r hr; omega
theorem Fit.quiet {e : Ear} {tp tf : List Kn} (h : Fit e tp tf) {z : Int} (z0 : 0 ≤ z) (z1 : z ≤ e.bottom) : badAt e z = false := by
  obtain ⟨⟨a1, a2⟩, a3, a4⟩ := h.encl z0 z1
  have gp : (rangeP tp z).1 ≤ (rangeP tp z).2 := by have := ((lineE_good h.ltp).val z).1; unfold rangeP; show (valP tp z).1 ≤ (valP tp z).1 + min _ 1; omega
  have gf : (rangeP tf z).1 ≤ (rangeP tf z).2 := by have := ((lineE_good h.ltf).val z).1; unfold rangeP; show (valP tf z).1 ≤ (valP tf z).1 + min _ 1; omega
  unfold badAt
  rw [decide_eq_false (by omega), decide_eq_false (by omega)]; rfl
theorem Fit.calm {e : Ear} {tp tf : List Kn} (h : Fit e tp tf) : crossV e = false := by
  unfold crossV
  rw [List.any_eq_false]
  intro z hz
  have := depths_in h.v hz
  rw [h.quiet this.1 this.2]; exact Bool.false_ne_true
theorem rep_mem {e : Ear} {i : Nat} (h : i < e.reps.length) : e.reps.getD i rep0 ∈ e.reps := getD_mem h rep0
theorem Fit.alone {e : Ear} {tp tf : List Kn} (h : Fit e tp tf) {i : Nat} (hi : i < e.reps.length) : alone e i = false :=
  (h.only (l := [e.reps.getD i rep0]) (fun r hr => by rw [List.mem_singleton] at hr; subst hr; exact rep_mem hi) (by simp)).calm
theorem Fit.pairX {e : Ear} {tp tf : List Kn} (h : Fit e tp tf) {i k : Nat} (hi : i < e.reps.length) (hk : k < e.reps.length) : pairX e i k = false :=
  (h.only (l := [e.reps.getD i rep0, e.reps.getD k rep0]) (fun r hr => by
    simp only [List.mem_cons, List.not_mem_nil, or_false] at hr
    rcases hr with rfl | rfl
    · exact rep_mem hi
    · exact rep_mem hk) (by simp)).calm
theorem conf_none {e : Ear} (h0 : crossV (e.only []) = false) (h1 : ∀ i, i < e.reps.length → alone e i = false) (h2 : ∀ i k, i < k → k < e.reps.length → pairX e i k = false) : conflictsV e = [] := by
  unfold conflictsV
  split
  · rw [h0, if_neg Bool.false_ne_true]
    have e1 : singles e e.reps.length = [] := by
      unfold singles
      rw [List.map_eq_nil_iff, List.filter_eq_nil_iff]
      intro i hi
      rw [h1 i (List.mem_range.1 hi)]; exact Bool.false_ne_true
    have e2 : pairsOf e e.reps.length = [] := by
      unfold pairsOf
      rw [List.flatMap_eq_nil_iff]
      intro i hi
      have hi := List.mem_range.1 hi
      rw [h1 i hi, if_neg Bool.false_ne_true]
      unfold pairsAt
      rw [List.map_eq_nil_iff, List.filter_eq_nil_iff]
      intro k hk
      have hk := List.mem_range.1 hk
      by_cases hik : i < k
      · rw [h2 i k hik hk, Bool.and_false]; exact Bool.false_ne_true
      · rw [decide_eq_false hik]; exact Bool.false_ne_true
    rw [e1, e2]; rfl
  · rfl
/-! A report more -/
theorem loV_self {gl gh z : Int} : ∀ (l : List Kn) (s : Int), s ≤ loV gl gh l z s
  | [], s => Int.le_refl _
  | k :: l, s => Int.le_trans (Int.le_max_left s (loP gl gh z k)) (loV_self l _)
theorem upV_self {gl gh z : Int} : ∀ (l : List Kn) (s : Int), upV gl gh l z s ≤ s
  | [], s => Int.le_refl _
  | k :: l, s => Int.le_trans (upV_self l _) (Int.min_le_left s (upP gl gh z k))
theorem known_reps (g : Gr) : (knownV g).reps.length ≤ 8 := by
  show ((g.marks.take 8).map (repV (tpV g) (tfV g))).length ≤ 8
  rw [List.length_map, List.length_take]; omega
end Go.Proofs.Ytcglpbchejkolaa
/- Earth: an earth of whose reports no two conflict has none that do: plain laws. -/
namespace Go.Proofs.Ytcglpbchejkolaa
open Go.RowKit
set_option linter.unusedSimpArgs false
set_option linter.unusedVariables false

/-- Straight on a part; the floor, the ceiling of what is straight. -/
def Str (f : Int → Int) (a b : Int) : Prop := ∃ A M : Int, ∀ x, a ≤ x → x ≤ b → f x = A + M * x
def FlS (f : Int → Int) (a b : Int) : Prop := ∃ A M D : Int, 0 < D ∧ ∀ x, a ≤ x → x ≤ b → D * f x ≤ A + M * x ∧ A + M * x < D * (f x + 1)
def CeS (f : Int → Int) (a b : Int) : Prop := ∃ A M D : Int, 0 < D ∧ ∀ x, a ≤ x → x ≤ b → D * (f x - 1) < A + M * x ∧ A + M * x ≤ D * f x
theorem Str.fl {f : Int → Int} {a b : Int} (h : Str f a b) : FlS f a b := by
  obtain ⟨A, M, h⟩ := h
  exact ⟨A, M, 1, by decide, fun x h1 h2 => by have := h x h1 h2; omega⟩
theorem Str.part {f : Int → Int} {a b a' b' : Int} (h : Str f a b) (h1 : a ≤ a') (h2 : b' ≤ b) : Str f a' b' := by
  obtain ⟨A, M, h⟩ := h
  exact ⟨A, M, fun x k1 k2 => h x (by omega) (by omega)⟩
theorem FlS.part {f : Int → Int} {a b a' b' : Int} (h : FlS f a b) (h1 : a ≤ a') (h2 : b' ≤ b) : FlS f a' b' := by
  obtain ⟨A, M, D, d0, h⟩ := h
  exact ⟨A, M, D, d0, fun x k1 k2 => h x (by omega) (by omega)⟩
theorem lin_pos {F S a b x : Int} (h1 : a ≤ x) (h2 : x ≤ b) (ha : 0 < F + S * a) (hb : 0 < F + S * b) : 0 < F + S * x := by
  rcases Int.le_total 0 S with hs | hs
  · have := Int.mul_le_mul_of_nonneg_left h1 hs
    omega
  · have := Int.mul_le_mul_of_nonpos_left hs h2
    omega
theorem between1 {f g : Int → Int} {a b x : Int} (hf : FlS f a b) (hg : Str g a b) (h1 : a ≤ x) (h2 : x ≤ b) (ha : f a ≤ g a) (hb : f b ≤ g b) : f x ≤ g x := by
  obtain ⟨A, M, D, d0, hf⟩ := hf
  obtain ⟨B, N, hg⟩ := hg
  have key : ∀ y, a ≤ y → y ≤ b → (f y ≤ g y ↔ 0 < (D * (B + 1) - A) + (D * N - M) * y) := fun y k1 k2 => by
    obtain ⟨e1, e2⟩ := hf y k1 k2
    have e3 := hg y k1 k2
    have e4 : (D * (B + 1) - A) + (D * N - M) * y = D * (g y + 1) - (A + M * y) := by
      rw [e3, Int.sub_mul, show D * (B + N * y + 1) = D * (B + 1) + D * N * y by rw [show B + N * y + 1 = (B + 1) + N * y by omega, Int.mul_add, Int.mul_assoc]]; omega
    rw [e4]
    constructor
    · intro h
      have := Int.mul_le_mul_of_nonneg_left (show f y + 1 ≤ g y + 1 by omega) (Int.le_of_lt d0)
      omega
    · intro h
      have h3 : D * f y < D * (g y + 1) := by omega
      have := Int.lt_of_mul_lt_mul_left h3 (Int.le_of_lt d0)
      omega
  rw [key x h1 h2]
  exact lin_pos h1 h2 ((key a (Int.le_refl _) (by omega)).1 ha) ((key b (by omega) (Int.le_refl _)).1 hb)
theorem between2 {f g : Int → Int} {a b x : Int} (hf : Str f a b) (hg : CeS g a b) (h1 : a ≤ x) (h2 : x ≤ b) (ha : f a ≤ g a) (hb : f b ≤ g b) : f x ≤ g x := by
  obtain ⟨A, M, D, d0, hg⟩ := hg
  obtain ⟨B, N, hf⟩ := hf
  have key : ∀ y, a ≤ y → y ≤ b → (f y ≤ g y ↔ 0 < (A - D * (B - 1)) + (M - D * N) * y) := fun y k1 k2 => by
    obtain ⟨e1, e2⟩ := hg y k1 k2
    have e3 := hf y k1 k2
    have e4 : (A - D * (B - 1)) + (M - D * N) * y = (A + M * y) - D * (f y - 1) := by
      rw [e3, Int.sub_mul, show D * (B + N * y - 1) = D * (B - 1) + D * N * y by rw [show B + N * y - 1 = (B - 1) + N * y by omega, Int.mul_add, Int.mul_assoc]]; omega
    rw [e4]
    constructor
    · intro h
      have := Int.mul_le_mul_of_nonneg_left (show f y - 1 ≤ g y - 1 by omega) (Int.le_of_lt d0)
      omega
    · intro h
      have h3 : D * (f y - 1) < D * g y := by omega
      have := Int.lt_of_mul_lt_mul_left h3 (Int.le_of_lt d0)
      omega
  rw [key x h1 h2]
  exact lin_pos h1 h2 ((key a (Int.le_refl _) (by omega)).1 ha) ((key b (by omega) (Int.le_refl _)).1 hb)
/-- Piece by piece; the pieces end at places. -/
def Pw (S : Int → Int → Prop) (pl : Int → Prop) : Prop := ∀ u w x : Int, u ≤ x → x ≤ w → ∃ a b, u ≤ a ∧ a ≤ x ∧ x ≤ b ∧ b ≤ w ∧ S a b ∧ (a = u ∨ pl a) ∧ (b = w ∨ pl b)
theorem meet {S T : Int → Int → Prop} {pl : Int → Prop} {f g : Int → Int} (hS : ∀ a b a' b', S a b → a ≤ a' → b' ≤ b → S a' b') (hf : Pw S pl) (hg : Pw T pl)
    (bt : ∀ a b x, S a b → T a b → a ≤ x → x ≤ b → f a ≤ g a → f b ≤ g b → f x ≤ g x) {u w x : Int} (h1 : u ≤ x) (h2 : x ≤ w) (hx : g x < f x) : ∃ p, u ≤ p ∧ p ≤ w ∧ (p = u ∨ p = w ∨ pl p) ∧ g p < f p := by
  obtain ⟨a, b, a1, a2, b1, b2, hA, ea, eb⟩ := hf u w x h1 h2
  obtain ⟨a', b', a3, a4, b3, b4, hB, ea', eb'⟩ := hg a b x a2 b1
  have pa : a' = u ∨ a' = w ∨ pl a' := by
    rcases ea' with rfl | h
    · rcases ea with h | h
      · exact .inl h
      · exact .inr (.inr h)
    · exact .inr (.inr h)
  have pb : b' = u ∨ b' = w ∨ pl b' := by
    rcases eb' with rfl | h
    · rcases eb with h | h
      · exact .inr (.inl h)
      · exact .inr (.inr h)
    · exact .inr (.inr h)
  by_cases g1 : g a' < f a'
  · exact ⟨a', by omega, by omega, pa, g1⟩
  by_cases g2 : g b' < f b'
  · exact ⟨b', by omega, by omega, pb, g2⟩
  have := bt a' b' x (hS _ _ _ _ hA a3 b4) hB a4 b3 (by omega) (by omega)
  omega
theorem pw_const {pl : Int → Prop} : Pw (Str fun _ => 0) pl := fun u w x h1 h2 => ⟨u, w, Int.le_refl _, h1, h2, Int.le_refl _, ⟨0, 0, fun y _ _ => by show (0 : Int) = _; omega⟩, .inl rfl, .inl rfl⟩
theorem pw_two {f : Int → Int} {k v m n : Int} {pl : Int → Prop} (hp : pl k) (h1 : ∀ y, y ≤ k → f y = v + m * (y - k)) (h2 : ∀ y, k ≤ y → f y = v + n * (y - k)) : Pw (Str f) pl := by
  have e1 : ∀ c y : Int, v + c * (y - k) = (v - c * k) + c * y := fun c y => by rw [Int.mul_sub]; omega
  intro u w x hu hw
  by_cases hx : x ≤ k
  · by_cases hk : k ≤ w
    · exact ⟨u, k, Int.le_refl _, hu, hx, hk, ⟨_, _, fun y _ hy => by rw [h1 y hy, e1]⟩, .inl rfl, .inr hp⟩
    · exact ⟨u, w, Int.le_refl _, hu, hw, Int.le_refl _, ⟨_, _, fun y _ hy => by rw [h1 y (by omega), e1]⟩, .inl rfl, .inl rfl⟩
  · by_cases hk : u ≤ k
    · exact ⟨k, w, hk, by omega, hw, Int.le_refl _, ⟨_, _, fun y hy _ => by rw [h2 y hy, e1]⟩, .inr hp, .inl rfl⟩
    · exact ⟨u, w, Int.le_refl _, hu, hw, Int.le_refl _, ⟨_, _, fun y hy _ => by rw [h2 y (by omega), e1]⟩, .inl rfl, .inl rfl⟩
theorem pw_loP {gl gh : Int} {k : Kn} {pl : Int → Prop} (hp : pl k.1) : Pw (Str fun z => loP gl gh z k) pl :=
  pw_two (k := k.1) (v := k.2) (m := gh) (n := gl) hp (fun y hy => by
    by_cases h : y < k.1
    · exact loP_lt h
    · have : y = k.1 := by omega
      subst this
      show loP gl gh k.1 k = _
      rw [loP_ge (Int.le_refl _), Int.sub_self, Int.mul_zero, Int.mul_zero]) fun y hy => loP_ge hy
theorem pw_upP {gl gh : Int} {k : Kn} {pl : Int → Prop} (hp : pl k.1) : Pw (Str fun z => upP gl gh z k) pl :=
  pw_two (k := k.1) (v := k.2) (m := gl) (n := gh) hp (fun y hy => by
    by_cases h : y < k.1
    · exact upP_lt h
    · have : y = k.1 := by omega
      subst this
      show upP gl gh k.1 k = _
      rw [upP_ge (Int.le_refl _), Int.sub_self, Int.mul_zero, Int.mul_zero]) fun y hy => upP_ge hy
theorem is_fl {t : Int × Int × Int} {X D : Int} (h : Is t X D) : 0 < D ∧ D * t.1 ≤ X ∧ X < D * (t.1 + 1) ∧ D * (t.1 + min t.2.1 1 - 1) < X ∧ X ≤ D * (t.1 + min t.2.1 1) := by
  obtain ⟨d0, n0, n1, e⟩ := h
  obtain ⟨q, n, d⟩ := t
  simp only [] at *
  have e1 : (X - D * q) * d = n * D := by
    have e2 : (q * d + n) * D = D * q * d + n * D := by rw [Int.add_mul, show q * d * D = D * q * d by ac_rfl]
    rw [Int.sub_mul]; omega
  have d1 : 0 < d := by omega
  have hnD : n * D < D * d := by rw [Int.mul_comm D d]; exact Int.mul_lt_mul_of_pos_right n1 d0
  have g1 : 0 ≤ X - D * q := by
    refine Int.not_lt.1 fun h => ?_
    have h2 : (X - D * q) * d < 0 := Int.mul_neg_of_neg_of_pos h d1
    have h3 : 0 ≤ n * D := Int.mul_nonneg n0 (Int.le_of_lt d0)
    omega
  have g2 : X - D * q < D := by
    refine Int.lt_of_mul_lt_mul_right (a := d) ?_ (Int.le_of_lt d1)
    omega
  have g3 : D * (q + 1) = D * q + D := by rw [Int.mul_add, Int.mul_one]
  refine ⟨d0, by omega, by omega, ?_⟩
  by_cases hn : n = 0
  · subst hn
    have g4 : X - D * q = 0 := by
      have : (X - D * q) * d = 0 := by omega
      rcases Int.mul_eq_zero.1 this with h | h
      · exact h
      · omega
    rw [show q + min (0 : Int) 1 - 1 = q - 1 by omega, show q + min (0 : Int) 1 = q by omega, Int.mul_sub, Int.mul_one]
    omega
  · have g4 : 0 < X - D * q := by
      rcases Int.lt_or_eq_of_le g1 with h | h
      · exact h
      · rw [← h, Int.zero_mul] at e1
        have : 0 < n * D := Int.mul_pos (by omega) d0
        omega
    rw [show q + min n 1 - 1 = q by omega, show q + min n 1 = q + 1 by omega]
    omega
theorem pw_lo {ks : List Kn} (h : Good ks) {pl : Int → Prop} (hp : ∀ k ∈ ks, pl k.1) : Pw (FlS fun z => (rangeP ks z).1) pl := fun u w x h1 h2 => by
  obtain ⟨a, b, a1, a2, b1, b2, ⟨A, M, D, hA⟩, ea, eb⟩ := pieceA h.asc h.pos h1 h2
  refine ⟨a, b, a1, a2, b1, b2, ⟨A, M, D, (hA a (Int.le_refl _) (by omega)).1, fun y k1 k2 => ?_⟩, ?_, ?_⟩
  · have := is_fl (hA y k1 k2)
    exact ⟨this.2.1, this.2.2.1⟩
  · rcases ea with h | ⟨k, hk, rfl⟩
    · exact .inl h
    · exact .inr (hp k hk)
  · rcases eb with h | ⟨k, hk, rfl⟩
    · exact .inl h
    · exact .inr (hp k hk)
theorem pw_up {ks : List Kn} (h : Good ks) {pl : Int → Prop} (hp : ∀ k ∈ ks, pl k.1) : Pw (CeS fun z => (rangeP ks z).2) pl := fun u w x h1 h2 => by
  obtain ⟨a, b, a1, a2, b1, b2, ⟨A, M, D, hA⟩, ea, eb⟩ := pieceA h.asc h.pos h1 h2
  refine ⟨a, b, a1, a2, b1, b2, ⟨A, M, D, (hA a (Int.le_refl _) (by omega)).1, fun y k1 k2 => ?_⟩, ?_, ?_⟩
  · have := is_fl (hA y k1 k2)
    exact ⟨this.2.2.2.1, this.2.2.2.2⟩
  · rcases ea with h | ⟨k, hk, rfl⟩
    · exact .inl h
    · exact .inr (hp k hk)
  · rcases eb with h | ⟨k, hk, rfl⟩
    · exact .inl h
    · exact .inr (hp k hk)
/-! What the ends of the ranges are made of -/
inductive LT (e : Ear) : Bool → List Rep → (Int → Int) → Prop
  | zero (s) : LT e s [] fun _ => 0
  | pl (s) : LT e s [] fun z => (rangeP e.pl z).1
  | plk (s) {k : Kn} (h : k ∈ e.pl) (hb : k.1 ≤ e.bottom) : LT e s [] fun z => loP e.gl e.gh z k
  | plr (s) {r : Rep} (h : r.kind = 1) : LT e s [r] fun z => loP e.gl e.gh z (r.z, r.p)
  | fl : LT e true [] fun z => (rangeP e.fl z).1
  | flk {k : Kn} (h : k ∈ e.fl) (hb : k.1 ≤ e.bottom) : LT e true [] fun z => loP e.gl e.gh z k
  | flr {r : Rep} (h : r.kind = 3) : LT e true [r] fun z => loP e.gl e.gh z (r.z, r.p)
inductive UT (e : Ear) : Bool → List Rep → (Int → Int) → Prop
  | fh (s) : UT e s [] fun z => (rangeP e.fh z).2
  | fhk (s) {k : Kn} (h : k ∈ e.fh) (hb : k.1 ≤ e.bottom) : UT e s [] fun z => upP e.gl e.gh z k
  | fhr (s) {r : Rep} (h : r.kind = 4) : UT e s [r] fun z => upP e.gl e.gh z (r.z, r.p)
  | ph : UT e false [] fun z => (rangeP e.ph z).2
  | phk {k : Kn} (h : k ∈ e.ph) (hb : k.1 ≤ e.bottom) : UT e false [] fun z => upP e.gl e.gh z k
  | phr {r : Rep} (h : r.kind = 2) : UT e false [r] fun z => upP e.gl e.gh z (r.z, r.p)
def lowE (e : Ear) (s : Bool) (z : Int) : Int := if s = true then flV e z else plV e z
def upE (e : Ear) (s : Bool) (z : Int) : Int := if s = true then fhV e z else phV e z
theorem loV_is {gl gh z : Int} : ∀ (l : List Kn) (s : Int), loV gl gh l z s = s ∨ ∃ k ∈ l, loV gl gh l z s = loP gl gh z k
  | [], s => .inl rfl
  | k :: l, s => by
    show loV gl gh l z (max s (loP gl gh z k)) = s ∨ ∃ k' ∈ k :: l, loV gl gh l z (max s (loP gl gh z k)) = loP gl gh z k'
    rcases loV_is (gl := gl) (gh := gh) (z := z) l (max s (loP gl gh z k)) with h | ⟨k', hk, h⟩
    · by_cases hs : loP gl gh z k ≤ s
      · exact .inl (by rw [h]; omega)
      · exact .inr ⟨k, by simp, by rw [h]; omega⟩
    · exact .inr ⟨k', by simp [hk], h⟩
theorem upV_is {gl gh z : Int} : ∀ (l : List Kn) (s : Int), upV gl gh l z s = s ∨ ∃ k ∈ l, upV gl gh l z s = upP gl gh z k
  | [], s => .inl rfl
  | k :: l, s => by
    show upV gl gh l z (min s (upP gl gh z k)) = s ∨ ∃ k' ∈ k :: l, upV gl gh l z (min s (upP gl gh z k)) = upP gl gh z k'
    rcases upV_is (gl := gl) (gh := gh) (z := z) l (min s (upP gl gh z k)) with h | ⟨k', hk, h⟩
    · by_cases hs : s ≤ upP gl gh z k
      · exact .inl (by rw [h]; omega)
      · exact .inr ⟨k, by simp, by rw [h]; omega⟩
    · exact .inr ⟨k', by simp [hk], h⟩
theorem loV_ge {gl gh z : Int} : ∀ (l : List Kn) (s : Int) {k : Kn}, k ∈ l → loP gl gh z k ≤ loV gl gh l z s
  | k' :: l, s, k, hk => by
    rcases List.mem_cons.1 hk with rfl | hk
    · exact Int.le_trans (Int.le_max_right s _) (loV_self l _)
    · exact loV_ge l _ hk
theorem upV_le {gl gh z : Int} : ∀ (l : List Kn) (s : Int) {k : Kn}, k ∈ l → upV gl gh l z s ≤ upP gl gh z k
  | k' :: l, s, k, hk => by
    rcases List.mem_cons.1 hk with rfl | hk
    · exact Int.le_trans (upV_self l _) (Int.min_le_right s _)
    · exact upV_le l _ hk
theorem mem_points {b : Int} {reps : List Rep} {l : List Kn} {kind : Int} {k : Kn} (h : k ∈ l) (hb : k.1 ≤ b) : k ∈ pointsV b reps l kind :=
  List.mem_append.2 (.inl (List.mem_filter.2 ⟨h, decide_eq_true hb⟩))
theorem rep_points {b : Int} {reps : List Rep} {l : List Kn} {kind : Int} {r : Rep} (h : r ∈ reps) (hk : r.kind = kind) : (r.z, r.p) ∈ pointsV b reps l kind :=
  List.mem_append.2 (.inr (List.mem_map.2 ⟨r, List.mem_filter.2 ⟨h, by simp [hk]⟩, rfl⟩))
theorem lo_of (e : Ear) {s : Int} (z : Int) (l : List Kn) (kind : Int) : loV e.gl e.gh (pointsV e.bottom e.reps l kind) z s = s ∨ (∃ k ∈ l, k.1 ≤ e.bottom ∧ loV e.gl e.gh (pointsV e.bottom e.reps l kind) z s = loP e.gl e.gh z k) ∨ ∃ r ∈ e.reps, r.kind = kind ∧ loV e.gl e.gh (pointsV e.bottom e.reps l kind) z s = loP e.gl e.gh z (r.z, r.p) := by
  rcases loV_is (gl := e.gl) (gh := e.gh) (z := z) (pointsV e.bottom e.reps l kind) s with h | ⟨k, hk, h⟩
  · exact .inl h
  · rcases points_mem hk with ⟨h1, h2⟩ | ⟨r, hr, h1, rfl⟩
    · exact .inr (.inl ⟨k, h1, h2, h⟩)
    · exact .inr (.inr ⟨r, hr, h1, h⟩)
theorem up_of (e : Ear) {s : Int} (z : Int) (l : List Kn) (kind : Int) : upV e.gl e.gh (pointsV e.bottom e.reps l kind) z s = s ∨ (∃ k ∈ l, k.1 ≤ e.bottom ∧ upV e.gl e.gh (pointsV e.bottom e.reps l kind) z s = upP e.gl e.gh z k) ∨ ∃ r ∈ e.reps, r.kind = kind ∧ upV e.gl e.gh (pointsV e.bottom e.reps l kind) z s = upP e.gl e.gh z (r.z, r.p) := by
  rcases upV_is (gl := e.gl) (gh := e.gh) (z := z) (pointsV e.bottom e.reps l kind) s with h | ⟨k, hk, h⟩
  · exact .inl h
  · rcases points_mem hk with ⟨h1, h2⟩ | ⟨r, hr, h1, rfl⟩
    · exact .inr (.inl ⟨k, h1, h2, h⟩)
    · exact .inr (.inr ⟨r, hr, h1, h⟩)
theorem low_pl (e : Ear) (s : Bool) (z : Int) : ∃ l f, LT e s l f ∧ f z = plV e z ∧ ∀ r ∈ l, r ∈ e.reps := by
  unfold plV
  rcases lo_of e (s := (rangeP e.pl z).1) z e.pl 1 with h | ⟨k, hk, hb, h⟩ | ⟨r, hr, hk, h⟩
  all_goals
    by_cases h0 : loV e.gl e.gh (pointsV e.bottom e.reps e.pl 1) z (rangeP e.pl z).1 ≤ 0
    · exact ⟨[], _, .zero s, by show (0 : Int) = _; omega, fun r hr => nomatch hr⟩
  · exact ⟨[], _, .pl s, by show (rangeP e.pl z).1 = _; omega, fun r hr => nomatch hr⟩
  · exact ⟨[], _, .plk s hk hb, by show loP e.gl e.gh z k = _; omega, fun r hr => nomatch hr⟩
  · exact ⟨[r], _, .plr s hk, by show loP e.gl e.gh z (r.z, r.p) = _; omega, fun x hx => by rw [List.mem_singleton] at hx; subst hx; exact hr⟩
theorem low_is (e : Ear) (s : Bool) (z : Int) : ∃ l f, LT e s l f ∧ f z = lowE e s z ∧ ∀ r ∈ l, r ∈ e.reps := by
  cases s with
  | false => exact low_pl e false z
  | true =>
    show ∃ l f, LT e true l f ∧ f z = flV e z ∧ ∀ r ∈ l, r ∈ e.reps
    unfold flV
    by_cases h0 : loV e.gl e.gh (pointsV e.bottom e.reps e.fl 3) z (rangeP e.fl z).1 ≤ plV e z
    · obtain ⟨l, f, h1, h2, h3⟩ := low_pl e true z
      exact ⟨l, f, h1, by omega, h3⟩
    · rcases lo_of e (s := (rangeP e.fl z).1) z e.fl 3 with h | ⟨k, hk, hb, h⟩ | ⟨r, hr, hk, h⟩
      · exact ⟨[], _, .fl, by show (rangeP e.fl z).1 = _; omega, fun r hr => nomatch hr⟩
      · exact ⟨[], _, .flk hk hb, by show loP e.gl e.gh z k = _; omega, fun r hr => nomatch hr⟩
      · exact ⟨[r], _, .flr hk, by show loP e.gl e.gh z (r.z, r.p) = _; omega, fun x hx => by rw [List.mem_singleton] at hx; subst hx; exact hr⟩
theorem up_fh (e : Ear) (s : Bool) (z : Int) : ∃ l f, UT e s l f ∧ f z = fhV e z ∧ ∀ r ∈ l, r ∈ e.reps := by
  unfold fhV
  rcases up_of e (s := (rangeP e.fh z).2) z e.fh 4 with h | ⟨k, hk, hb, h⟩ | ⟨r, hr, hk, h⟩
  · exact ⟨[], _, .fh s, by show (rangeP e.fh z).2 = _; omega, fun r hr => nomatch hr⟩
  · exact ⟨[], _, .fhk s hk hb, by show upP e.gl e.gh z k = _; omega, fun r hr => nomatch hr⟩
  · exact ⟨[r], _, .fhr s hk, by show upP e.gl e.gh z (r.z, r.p) = _; omega, fun x hx => by rw [List.mem_singleton] at hx; subst hx; exact hr⟩
theorem up_is (e : Ear) (s : Bool) (z : Int) : ∃ l f, UT e s l f ∧ f z = upE e s z ∧ ∀ r ∈ l, r ∈ e.reps := by
  cases s with
  | true => exact up_fh e true z
  | false =>
    show ∃ l f, UT e false l f ∧ f z = phV e z ∧ ∀ r ∈ l, r ∈ e.reps
    unfold phV
    by_cases h0 : fhV e z ≤ upV e.gl e.gh (pointsV e.bottom e.reps e.ph 2) z (rangeP e.ph z).2
    · obtain ⟨l, f, h1, h2, h3⟩ := up_fh e false z
      exact ⟨l, f, h1, by omega, h3⟩
    · rcases up_of e (s := (rangeP e.ph z).2) z e.ph 2 with h | ⟨k, hk, hb, h⟩ | ⟨r, hr, hk, h⟩
      · exact ⟨[], _, .ph, by show (rangeP e.ph z).2 = _; omega, fun r hr => nomatch hr⟩
      · exact ⟨[], _, .phk hk hb, by show upP e.gl e.gh z k = _; omega, fun r hr => nomatch hr⟩
      · exact ⟨[r], _, .phr hk, by show upP e.gl e.gh z (r.z, r.p) = _; omega, fun x hx => by rw [List.mem_singleton] at hx; subst hx; exact hr⟩
theorem LT.le {e : Ear} {s : Bool} {l : List Rep} {f : Int → Int} (h : LT e s l f) {m : List Rep} (hm : ∀ r ∈ l, r ∈ m) (z : Int) : f z ≤ lowE (e.only m) s z := by
  have p1 : ∀ {v : Int}, v ≤ plV (e.only m) z → v ≤ lowE (e.only m) s z := fun {v} hv => by
    unfold lowE
    split
    · unfold flV; omega
    · exact hv
  have self1 := loV_self (gl := e.gl) (gh := e.gh) (z := z) (pointsV e.bottom m e.pl 1) (rangeP e.pl z).1
  have self2 := loV_self (gl := e.gl) (gh := e.gh) (z := z) (pointsV e.bottom m e.fl 3) (rangeP e.fl z).1
  cases h with
  | zero => exact p1 (Int.le_max_left _ _)
  | pl => exact p1 (Int.le_trans self1 (Int.le_max_right _ _))
  | plk _ hk hb => exact p1 (Int.le_trans (loV_ge _ _ (mem_points hk hb)) (Int.le_max_right _ _))
  | plr _ hk => exact p1 (Int.le_trans (loV_ge _ _ (rep_points (hm _ (by simp)) hk)) (Int.le_max_right _ _))
  | fl => exact Int.le_trans self2 (Int.le_max_right _ _)
  | flk hk hb => exact Int.le_trans (loV_ge _ _ (mem_points hk hb)) (Int.le_max_right _ _)
  | flr hk => exact Int.le_trans (loV_ge _ _ (rep_points (hm _ (by simp)) hk)) (Int.le_max_right _ _)
theorem UT.ge {e : Ear} {s : Bool} {l : List Rep} {f : Int → Int} (h : UT e s l f) {m : List Rep} (hm : ∀ r ∈ l, r ∈ m) (z : Int) : upE (e.only m) s z ≤ f z := by
  have p1 : ∀ {v : Int}, fhV (e.only m) z ≤ v → upE (e.only m) s z ≤ v := fun {v} hv => by
    unfold upE
    split
    · exact hv
    · unfold phV; omega
  have self1 := upV_self (gl := e.gl) (gh := e.gh) (z := z) (pointsV e.bottom m e.fh 4) (rangeP e.fh z).2
  have self2 := upV_self (gl := e.gl) (gh := e.gh) (z := z) (pointsV e.bottom m e.ph 2) (rangeP e.ph z).2
  cases h with
  | fh => exact p1 self1
  | fhk _ hk hb => exact p1 (upV_le _ _ (mem_points hk hb))
  | fhr _ hk => exact p1 (upV_le _ _ (rep_points (hm _ (by simp)) hk))
  | ph => exact Int.le_trans (Int.min_le_right _ _) self2
  | phk hk hb => exact Int.le_trans (Int.min_le_right _ _) (upV_le _ _ (mem_points hk hb))
  | phr hk => exact Int.le_trans (Int.min_le_right _ _) (upV_le _ _ (rep_points (hm _ (by simp)) hk))
/-- A place of an earth with some reports. -/
def Place (e : Ear) (m : List Rep) (p : Int) : Prop := (∃ q ∈ e.lines, ∃ k ∈ q, p = k.1) ∨ ∃ r ∈ m, p = r.z
theorem place_in {e : Ear} {m : List Rep} {p : Int} (h : p = 0 ∨ p = e.bottom ∨ Place e m p) (hb : p ≤ e.bottom) : p ∈ depthsV (e.only m) := by
  refine depths_mem.2 ?_
  rcases h with h | h | ⟨q, hq, k, hk, rfl⟩ | ⟨r, hr, rfl⟩
  · exact .inl h
  · exact .inr (.inl h)
  · exact .inr (.inr (.inl ⟨q, hq, k, hk, hb, rfl⟩))
  · exact .inr (.inr (.inr ⟨r, hr, rfl⟩))
theorem LT.pw {e : Ear} (hv : Valid e) {s : Bool} {l : List Rep} {f : Int → Int} (h : LT e s l f) {m : List Rep} (hm : ∀ r ∈ l, r ∈ m) : Pw (Str f) (Place e m) ∨ (Pw (FlS f) (Place e m) ∧ (f = (fun z => (rangeP e.pl z).1) ∨ s = true ∧ f = fun z => (rangeP e.fl z).1)) := by
  have i1 : e.pl ∈ e.lines := by simp [Ear.lines]
  have i3 : e.fl ∈ e.lines := by simp [Ear.lines]
  cases h with
  | zero => exact .inl pw_const
  | pl => exact .inr ⟨pw_lo (lineE_good hv.pl) fun k hk => .inl ⟨_, i1, k, hk, rfl⟩, .inl rfl⟩
  | plk _ hk hb => exact .inl (pw_loP (.inl ⟨_, i1, _, hk, rfl⟩))
  | plr _ hk => exact .inl (pw_loP (.inr ⟨_, hm _ (by simp), rfl⟩))
  | fl => exact .inr ⟨pw_lo (lineE_good hv.fl) fun k hk => .inl ⟨_, i3, k, hk, rfl⟩, .inr ⟨rfl, rfl⟩⟩
  | flk hk hb => exact .inl (pw_loP (.inl ⟨_, i3, _, hk, rfl⟩))
  | flr hk => exact .inl (pw_loP (.inr ⟨_, hm _ (by simp), rfl⟩))
theorem UT.pw {e : Ear} (hv : Valid e) {s : Bool} {l : List Rep} {f : Int → Int} (h : UT e s l f) {m : List Rep} (hm : ∀ r ∈ l, r ∈ m) : Pw (Str f) (Place e m) ∨ (Pw (CeS f) (Place e m) ∧ (f = (fun z => (rangeP e.fh z).2) ∨ s = false ∧ f = fun z => (rangeP e.ph z).2)) := by
  have i2 : e.ph ∈ e.lines := by simp [Ear.lines]
  have i4 : e.fh ∈ e.lines := by simp [Ear.lines]
  cases h with
  | fh => exact .inr ⟨pw_up (lineE_good hv.fh) fun k hk => .inl ⟨_, i4, k, hk, rfl⟩, .inl rfl⟩
  | fhk _ hk hb => exact .inl (pw_upP (.inl ⟨_, i4, _, hk, rfl⟩))
  | fhr _ hk => exact .inl (pw_upP (.inr ⟨_, hm _ (by simp), rfl⟩))
  | ph => exact .inr ⟨pw_up (lineE_good hv.ph) fun k hk => .inl ⟨_, i2, k, hk, rfl⟩, .inr ⟨rfl, rfl⟩⟩
  | phk hk hb => exact .inl (pw_upP (.inl ⟨_, i2, _, hk, rfl⟩))
  | phr hk => exact .inl (pw_upP (.inr ⟨_, hm _ (by simp), rfl⟩))
theorem line_range {u l : List Kn} (hu : lineE u = 0) (hl : lineE l = 0) (h : ab u l = true) (z : Int) : (rangeP l z).1 ≤ (rangeP u z).2 := by
  have a := (above_range (lineE_good hu) (lineE_good hl) (above_all (lineE_good hu) (lineE_good hl) h z)).1
  have b : (rangeP u z).1 ≤ (rangeP u z).2 := by have := ((lineE_good hu).val z).1; show (valP u z).1 ≤ (valP u z).1 + min _ 1; omega
  omega
theorem clash {e : Ear} (hv : Valid e) {s : Bool} {l1 l2 m : List Rep} {f g : Int → Int} (hf : LT e s l1 f) (hg : UT e s l2 g) (m1 : ∀ r ∈ l1, r ∈ m) (m2 : ∀ r ∈ l2, r ∈ m) {z : Int} (z0 : 0 ≤ z) (z1 : z ≤ e.bottom) (hz : g z < f z) : crossV (e.only m) = true := by
  have fin : (∃ p, 0 ≤ p ∧ p ≤ e.bottom ∧ (p = 0 ∨ p = e.bottom ∨ Place e m p) ∧ g p < f p) → crossV (e.only m) = true := by
    rintro ⟨p, p0, p1, hp, hlt⟩
    unfold crossV
    rw [List.any_eq_true]
    refine ⟨p, place_in hp p1, ?_⟩
    have h1 := hf.le m1 p
    have h2 := hg.ge m2 p
    unfold lowE at h1
    unfold upE at h2
    unfold badAt
    rw [Bool.or_eq_true, decide_eq_true_eq, decide_eq_true_eq]
    cases s with
    | true => simp only [if_true] at h1 h2; exact .inr (by omega)
    | false => simp only [Bool.false_eq_true, if_false] at h1 h2; exact .inl (by omega)
  rcases hf.pw hv m1 with a | ⟨a, ea⟩ <;> rcases hg.pw hv m2 with b | ⟨b, eb⟩
  · exact fin (meet (fun _ _ _ _ h h1 h2 => h.part h1 h2) a b (fun _ _ _ h1 h2 => between1 h1.fl h2) z0 z1 hz)
  · exact fin (meet (fun _ _ _ _ h h1 h2 => h.part h1 h2) a b (fun _ _ _ h1 h2 => between2 h1 h2) z0 z1 hz)
  · exact fin (meet (fun _ _ _ _ h h1 h2 => h.part h1 h2) a b (fun _ _ _ h1 h2 => between1 h1 h2) z0 z1 hz)
  · exfalso
    have q1 := line_range hv.fh hv.pl hv.ab3 z
    have q2 := line_range hv.ph hv.pl hv.ab1 z
    have q3 := line_range hv.fh hv.fl hv.ab2 z
    rcases ea with rfl | ⟨es, rfl⟩ <;> rcases eb with rfl | ⟨es', rfl⟩
    · simp only [] at hz; omega
    · simp only [] at hz; omega
    · simp only [] at hz; omega
    · rw [es] at es'; cases es'
theorem LT.few {e : Ear} {s : Bool} {l : List Rep} {f : Int → Int} (h : LT e s l f) : l = [] ∨ ∃ r, l = [r] ∧ (r.kind = 1 ∨ r.kind = 3) := by
  cases h with
  | zero | pl | plk | fl | flk => exact .inl rfl
  | plr _ hk => exact .inr ⟨_, rfl, .inl hk⟩
  | flr hk => exact .inr ⟨_, rfl, .inr hk⟩
theorem UT.few {e : Ear} {s : Bool} {l : List Rep} {f : Int → Int} (h : UT e s l f) : l = [] ∨ ∃ r, l = [r] ∧ (r.kind = 2 ∨ r.kind = 4) := by
  cases h with
  | fh | fhk | ph | phk => exact .inl rfl
  | fhr _ hk => exact .inr ⟨_, rfl, .inr hk⟩
  | phr hk => exact .inr ⟨_, rfl, .inl hk⟩
theorem rep_at {e : Ear} {r : Rep} (h : r ∈ e.reps) : ∃ i, i < e.reps.length ∧ e.reps.getD i rep0 = r := by
  obtain ⟨i, hi, e1⟩ := List.getElem_of_mem h
  exact ⟨i, hi, by rw [List.getD_eq_getElem?_getD, List.getElem?_eq_getElem hi]; exact e1⟩
/-- No two conflict: then the ranges are not empty anywhere. -/
theorem helly {e : Ear} (hv : Valid e) (h0 : crossV (e.only []) = false) (h1 : ∀ i, i < e.reps.length → alone e i = false) (h2 : ∀ i k, i < k → k < e.reps.length → pairX e i k = false) {z : Int} (z0 : 0 ≤ z) (z1 : z ≤ e.bottom) : badAt e z = false := by
  rw [Bool.eq_false_iff]
  intro hbad
  have key : ∀ s, ¬ upE e s z < lowE e s z := fun s hlt => by
    obtain ⟨l, f, hf, ef, ml⟩ := low_is e s z
    obtain ⟨m, g, hg, eg, mm⟩ := up_is e s z
    rw [← ef, ← eg] at hlt
    rcases hf.few with rfl | ⟨r, rfl, kr⟩ <;> rcases hg.few with rfl | ⟨r', rfl, kr'⟩
    · have := clash hv hf hg (m := []) (fun r hr => nomatch hr) (fun r hr => nomatch hr) z0 z1 hlt
      rw [h0] at this; cases this
    · obtain ⟨k, hk, ek⟩ := rep_at (mm r' (by simp))
      have := clash hv hf hg (m := [e.reps.getD k rep0]) (fun r hr => nomatch hr) (fun r hr => by rw [List.mem_singleton] at hr; rw [hr, ek]; simp) z0 z1 hlt
      have h3 : alone e k = true := this
      rw [h1 k hk] at h3; cases h3
    · obtain ⟨i, hi, ei⟩ := rep_at (ml r (by simp))
      have := clash hv hf hg (m := [e.reps.getD i rep0]) (fun r hr => by rw [List.mem_singleton] at hr; rw [hr, ei]; simp) (fun r hr => nomatch hr) z0 z1 hlt
      have h3 : alone e i = true := this
      rw [h1 i hi] at h3; cases h3
    · obtain ⟨i, hi, ei⟩ := rep_at (ml r (by simp))
      obtain ⟨k, hk, ek⟩ := rep_at (mm r' (by simp))
      have hne : i ≠ k := fun h => by
        subst h
        rw [ei] at ek; subst ek; omega
      rcases Nat.lt_or_gt_of_ne hne with hlt2 | hlt2
      · have := clash hv hf hg (m := [e.reps.getD i rep0, e.reps.getD k rep0]) (fun r hr => by rw [List.mem_singleton] at hr; rw [hr, ei]; simp) (fun r hr => by rw [List.mem_singleton] at hr; rw [hr, ek]; simp) z0 z1 hlt
        have h3 : pairX e i k = true := this
        rw [h2 i k hlt2 hk] at h3; cases h3
      · have := clash hv hf hg (m := [e.reps.getD k rep0, e.reps.getD i rep0]) (fun r hr => by rw [List.mem_singleton] at hr; rw [hr, ei]; simp) (fun r hr => by rw [List.mem_singleton] at hr; rw [hr, ek]; simp) z0 z1 hlt
        have h3 : pairX e k i = true := this
        rw [h2 k i hlt2 hi] at h3; cases h3
  unfold badAt at hbad
  rw [Bool.or_eq_true, decide_eq_true_eq, decide_eq_true_eq] at hbad
  rcases hbad with h | h
  · exact key false h
  · exact key true h
end Go.Proofs.Ytcglpbchejkolaa
/- Earth: each report of a conflict is needed; without one of each none is left: plain laws. -/
namespace Go.Proofs.Ytcglpbchejkolaa
open Go.RowKit
set_option linter.unusedSimpArgs false
set_option linter.unusedVariables false

theorem conf_eq {e : Ear} (hv : Valid e) (h0 : crossV (e.only []) = false) : conflictsV e = singles e e.reps.length ++ pairsOf e e.reps.length := by
  unfold conflictsV
  rw [if_pos (valid_iff.2 hv), h0, if_neg Bool.false_ne_true]
theorem conf_cases {e : Ear} (hv : Valid e) (h0 : crossV (e.only []) = false) {c : List Int} (hc : c ∈ conflictsV e) :
    (∃ i, i < e.reps.length ∧ alone e i = true ∧ c = [(i : Int)]) ∨ ∃ i k, i < k ∧ k < e.reps.length ∧ alone e i = false ∧ alone e k = false ∧ pairX e i k = true ∧ c = [(i : Int), (k : Int)] := by
  rw [conf_eq hv h0] at hc
  rcases List.mem_append.1 hc with hc | hc
  · unfold singles at hc
    obtain ⟨i, hi, rfl⟩ := List.mem_map.1 hc
    obtain ⟨h1, h2⟩ := List.mem_filter.1 hi
    exact .inl ⟨i, List.mem_range.1 h1, h2, rfl⟩
  · unfold pairsOf at hc
    obtain ⟨i, hi, hc⟩ := List.mem_flatMap.1 hc
    split at hc
    · cases hc
    · rename_i ha
      unfold pairsAt at hc
      obtain ⟨k, hk, rfl⟩ := List.mem_map.1 hc
      obtain ⟨h1, h2⟩ := List.mem_filter.1 hk
      simp only [Bool.and_eq_true, decide_eq_true_eq, Bool.not_eq_true'] at h2
      exact .inr ⟨i, k, h2.1.1, List.mem_range.1 h1, by simpa using ha, h2.1.2, h2.2, rfl⟩
theorem conf_one {e : Ear} (hv : Valid e) (h0 : crossV (e.only []) = false) {i : Nat} (hi : i < e.reps.length) (ha : alone e i = true) : [(i : Int)] ∈ conflictsV e := by
  rw [conf_eq hv h0]
  exact List.mem_append.2 (.inl (List.mem_map.2 ⟨i, List.mem_filter.2 ⟨List.mem_range.2 hi, ha⟩, rfl⟩))
theorem conf_two {e : Ear} (hv : Valid e) (h0 : crossV (e.only []) = false) {i k : Nat} (hik : i < k) (hk : k < e.reps.length) (hi : alone e i = false) (hk2 : alone e k = false) (hp : pairX e i k = true) : [(i : Int), (k : Int)] ∈ conflictsV e := by
  rw [conf_eq hv h0]
  refine List.mem_append.2 (.inr (List.mem_flatMap.2 ⟨i, List.mem_range.2 (by omega), ?_⟩))
  rw [hi, if_neg Bool.false_ne_true]
  exact List.mem_map.2 ⟨k, List.mem_filter.2 ⟨List.mem_range.2 hk, by simp [hik, hk2, hp]⟩, rfl⟩
/-- The earth with a conflict's reports alone. -/
def someOf (e : Ear) (c : List Int) : Ear := e.only (c.map fun i => e.reps.getD i.toNat rep0)
theorem someOf_valid {e : Ear} (hv : Valid e) (h0 : crossV (e.only []) = false) {c : List Int} (hc : c ∈ conflictsV e) : Valid (someOf e c) := by
  rcases conf_cases hv h0 hc with ⟨i, hi, ha, rfl⟩ | ⟨i, k, hik, hk, hi, hk2, hp, rfl⟩
  · refine hv.only (fun r hr => ?_) (by simp)
    simp only [List.map_cons, List.map_nil, List.mem_cons, List.not_mem_nil, or_false] at hr
    subst hr
    exact rep_mem (by omega)
  · refine hv.only (fun r hr => ?_) (by simp)
    simp only [List.map_cons, List.map_nil, List.mem_cons, List.not_mem_nil, or_false] at hr
    rcases hr with rfl | rfl
    · exact rep_mem (by omega)
    · exact rep_mem (by omega)
theorem conf_some {e : Ear} (hv : Valid e) (h0 : crossV (e.only []) = false) {c : List Int} (hc : c ∈ conflictsV e) : (conflictsV (someOf e c)).length = 1 := by
  have hs := someOf_valid hv h0 hc
  rw [conf_eq hs h0]
  rcases conf_cases hv h0 hc with ⟨i, hi, ha, rfl⟩ | ⟨i, k, hik, hk, hi, hk2, hp, rfl⟩
  · have hlen : (someOf e [(i : Int)]).reps.length = 1 := rfl
    have h1 : alone (someOf e [(i : Int)]) 0 = true := ha
    rw [hlen]
    unfold singles pairsOf
    simp [List.range_succ, h1]
  · have hlen : (someOf e [(i : Int), (k : Int)]).reps.length = 2 := rfl
    have h1 : alone (someOf e [(i : Int), (k : Int)]) 0 = false := hi
    have h2 : alone (someOf e [(i : Int), (k : Int)]) 1 = false := hk2
    have h3 : pairX (someOf e [(i : Int), (k : Int)]) 0 1 = true := hp
    rw [hlen]
    unfold singles pairsOf pairsAt
    simp [List.range_succ, h1, h2, h3, hlen]
/-- Which reports are the first of a conflict. -/
def firstV (l : List (List Int)) (j : Nat) : Bool := l.any fun c => c.getD 0 (-1) == (j : Int)
def keptOf (e : Ear) : List Nat := (List.range e.reps.length).filter fun j => !firstV (conflictsV e) j
def leftOf (e : Ear) : Ear := e.only ((keptOf e).map fun j => e.reps.getD j rep0)
theorem kept_lt {e : Ear} {a b : Nat} (hab : a < b) (hb : b < (keptOf e).length) : (keptOf e).getD a 0 < (keptOf e).getD b 0 := by
  have hp : (keptOf e).Pairwise (· < ·) := List.Pairwise.filter _ List.pairwise_lt_range
  have := List.pairwise_iff_getElem.1 hp a b (by omega) hb hab
  rw [List.getD_eq_getElem?_getD, List.getD_eq_getElem?_getD, List.getElem?_eq_getElem (show a < (keptOf e).length by omega), List.getElem?_eq_getElem hb]
  exact this
theorem kept_mem {e : Ear} {a : Nat} (ha : a < (keptOf e).length) : (keptOf e).getD a 0 < e.reps.length ∧ firstV (conflictsV e) ((keptOf e).getD a 0) = false := by
  have := getD_mem ha 0
  obtain ⟨h1, h2⟩ := List.mem_filter.1 this
  exact ⟨List.mem_range.1 h1, by simpa using h2⟩
theorem left_rep {e : Ear} {a : Nat} (ha : a < (keptOf e).length) : (leftOf e).reps.getD a rep0 = e.reps.getD ((keptOf e).getD a 0) rep0 := by
  show ((keptOf e).map fun j => e.reps.getD j rep0).getD a rep0 = _
  rw [List.getD_eq_getElem?_getD, List.getElem?_map, List.getElem?_eq_getElem ha, List.getD_eq_getElem?_getD (l := keptOf e), List.getElem?_eq_getElem ha]
  rfl
theorem left_len (e : Ear) : (leftOf e).reps.length = (keptOf e).length := List.length_map _
theorem left_valid {e : Ear} (hv : Valid e) : Valid (leftOf e) := by
  refine hv.only (fun r hr => ?_) ?_
  · obtain ⟨j, hj, rfl⟩ := List.mem_map.1 hr
    exact rep_mem (List.mem_range.1 (List.mem_filter.1 hj).1)
  · rw [List.length_map]
    have : (keptOf e).length ≤ e.reps.length := by
      have := List.length_filter_le (fun j => !firstV (conflictsV e) j) (List.range e.reps.length)
      rw [List.length_range] at this
      exact this
    have := hv.reps
    omega
theorem left_alone {e : Ear} (hv : Valid e) (h0 : crossV (e.only []) = false) {a : Nat} (ha : a < (leftOf e).reps.length) : alone (leftOf e) a = false := by
  rw [left_len] at ha
  obtain ⟨h1, h2⟩ := kept_mem ha
  have e1 : alone (leftOf e) a = alone e ((keptOf e).getD a 0) := by
    show crossV ((leftOf e).only [(leftOf e).reps.getD a rep0]) = _
    rw [left_rep ha]; rfl
  rw [e1, Bool.eq_false_iff]
  intro h3
  have h4 := conf_one hv h0 h1 h3
  have : firstV (conflictsV e) ((keptOf e).getD a 0) = true := List.any_eq_true.2 ⟨_, h4, by simp⟩
  rw [h2] at this; cases this
theorem left_pair {e : Ear} (hv : Valid e) (h0 : crossV (e.only []) = false) {a b : Nat} (hab : a < b) (hb : b < (leftOf e).reps.length) : pairX (leftOf e) a b = false := by
  have a1 := left_alone hv h0 (a := a) (by omega)
  have a2 := left_alone hv h0 (a := b) hb
  rw [left_len] at hb
  obtain ⟨h1, h2⟩ := kept_mem (e := e) (a := a) (by omega)
  obtain ⟨h3, h4⟩ := kept_mem hb
  have e1 : alone (leftOf e) a = alone e ((keptOf e).getD a 0) := by
    show crossV ((leftOf e).only [(leftOf e).reps.getD a rep0]) = _
    rw [left_rep (by omega)]; rfl
  have e2 : alone (leftOf e) b = alone e ((keptOf e).getD b 0) := by
    show crossV ((leftOf e).only [(leftOf e).reps.getD b rep0]) = _
    rw [left_rep hb]; rfl
  have e3 : pairX (leftOf e) a b = pairX e ((keptOf e).getD a 0) ((keptOf e).getD b 0) := by
    show crossV ((leftOf e).only [(leftOf e).reps.getD a rep0, (leftOf e).reps.getD b rep0]) = _
    rw [left_rep (by omega), left_rep hb]; rfl
  rw [e1] at a1
  rw [e2] at a2
  rw [e3, Bool.eq_false_iff]
  intro h5
  have h6 := conf_two hv h0 (kept_lt hab hb) h3 a1 a2 h5
  have : firstV (conflictsV e) ((keptOf e).getD a 0) = true := List.any_eq_true.2 ⟨_, h6, by simp⟩
  rw [h2] at this; cases this
theorem left_calm {e : Ear} (hv : Valid e) (h0 : crossV (e.only []) = false) : conflictsV (leftOf e) = [] :=
  conf_none h0 (fun _ => left_alone hv h0) fun _ _ => left_pair hv h0
theorem left_quiet {e : Ear} (hv : Valid e) (h0 : crossV (e.only []) = false) {z : Int} (z0 : 0 ≤ z) (z1 : z ≤ e.bottom) : badAt (leftOf e) z = false :=
  helly (left_valid hv) h0 (fun _ => left_alone hv h0) (fun _ _ => left_pair hv h0) z0 z1
theorem depths_two {e : Ear} (hv : Valid e) : 2 ≤ (depthsV e).length := by
  have hb := hv.b
  have h1 : (0 : Int) ∈ depthsV e := depths_mem.2 (.inl rfl)
  have h2 : e.bottom ∈ depthsV e := depths_mem.2 (.inr (.inl rfl))
  match h : depthsV e with
  | [] => rw [h] at h1; cases h1
  | [x] =>
    rw [h] at h1 h2
    rw [List.mem_singleton] at h1 h2
    omega
  | x :: y :: l => simp
/-- The earth of some numbers with more reports. -/
theorem known_calm (g : Gr) : crossV ((knownV g).only []) = false := ((fit (known_fits g)).only (l := []) (fun r hr => nomatch hr) (by simp)).calm
end Go.Proofs.Ytcglpbchejkolaa
/- Earth: which reports conflict, by the table: the program's. -/
namespace Go.Proofs.Ytcglpbchejkolaa
open Go.RowKit
set_option linter.unusedSimpArgs false
set_option linter.unusedVariables false

theorem crosses_ok : tab7.ok 88 := by
  refine Tab.of_ct rfl rfl ⟨_, Try.func88, by decide, rfl⟩ ?_ ctF_det
  refine ct_ok (cx := ccrosses) (Tab.cx_ok (all_cons depths_ok (all_cons (up7_ok (up6_ok (up5_ok (up4_ok (up3_ok both_ok))))) all_nil)) fxcrosses) Try.func88 (bds := []) (T := tcrosses) (by kernel_rfl) ?_
  have h1 : ccrosses.ct 86 = some ctDepthsI := rfl
  have h2 : ccrosses.ct 95 = some ctBoth := rfl
  unfold tcrosses
  simp only [VC, allC, List.map_cons, List.map_nil, List.length_cons, List.length_nil, List.getElem?_cons_zero, List.getElem?_cons_succ, List.cons.injEq, C.i.injEq, C.b.injEq, and_true, true_and, forall_const, kindsOf_nil, kindsOf_lf, kindsOf_agg, kindsOf_box, boxKinds_nil, boxKinds_lf, boxKinds_agg, boxKinds_box, List.append_nil, List.cons_append, List.nil_append, den_cmp_le, den_cmp_lt, den_cmp_eq, den_cmp_ne, den_cmp_le', den_cmp_lt', den_cmp_eq', den_cmp_ne', den_and, den_and', den_or, den_or', den_not, den_not', den_blit, den_of, ev_var, at_0, at_1, at_2, at_3, at_4, at_5, at_6, at_7, at_skip, c_int, c_bool, c_arr, c_cnt, c_vec, ev_nil, ev_join, ev_sub3, loc_s, int_i, bool_b, rows_s, cs_nil, cs_cons, E.den_lit, E.den_var, E.den_add, E.den_sub, E.den_mul, E.den_quo, E.den_rem, E.den_max, E.den_min, E.den_len, E.den_wr, E.den_cell, ev_cell, in1, h1, h2, ctDepthsI, ctBoth, ctCrosses, ctF, earthSh, earthKs, rangeSh, n_, k_, earOf, Ear.only]
  intro b _ _ u1 r1 _ _ _ u2 r2 _ _ _ u3 r3 _ _ _ u4 r4 _ _ _ gl _ _ gh _ _ u7 r7 _ _ _ u8 r8 _ _ _ hp
  have hv := valid hp
  generalize hE : (⟨b, knots r1, knots r2, knots r3, knots r4, gl, gh, repsOf r8⟩ : Ear) = E at *
  refine ⟨bds_nil _, hp, ?_⟩
  rintro v rows _ _ _ ⟨_, _, e, hr⟩
  cases e
  rw [← ints_len rows, hr]
  have hin : ∀ j, j < (depthsV E).length → 0 ≤ (depthsV E).getD j 0 ∧ (depthsV E).getD j 0 ≤ E.bottom := fun j hj => depths_in hv (getD_mem hj 0)
  generalize hL : depthsV E = L at *
  refine ⟨fun xs => match xs with | [.i _, .i i] => 0 ≤ i ∧ i ≤ L.length ∧ ∀ j : Nat, j < i.toNat → badAt E (L.getD j 0) = false | _ => False, fun xs => match xs with | [_, .i i] => ((L.length : Int) - i).toNat | _ => 0, ⟨by omega, by omega, fun j hj => by omega⟩, ?_⟩
  rintro m _ _ i _ _ ⟨i0, i1, hI⟩
  refine ⟨fun hlt => ?_, fun hge => ?_⟩
  · obtain ⟨z0, z1⟩ := hin i.toNat (by omega)
    have hz := getD_mem (l := L) (i := i.toNat) (by omega) 0
    refine ⟨i0, hlt, okE_iff.2 ⟨hp, z0, z1⟩, ?_⟩
    rintro n2 _ _ n3 _ _ n4 _ _ n5 _ _ ⟨rfl, rfl, rfl, rfl⟩
    have bad : (phV E (L.getD i.toNat 0) < plV E (L.getD i.toNat 0) ∨ fhV E (L.getD i.toNat 0) < flV E (L.getD i.toNat 0)) → true = crossV E := fun h => by
      symm
      unfold crossV
      rw [hL, List.any_eq_true]
      exact ⟨_, hz, by unfold badAt; rw [Bool.or_eq_true, decide_eq_true_eq, decide_eq_true_eq]; exact h⟩
    refine ⟨fun h => bad (.inl h), fun h => ⟨fun h' => bad (.inr h'), fun h' => ⟨⟨by omega, by omega, fun j hj => ?_⟩, ?_⟩⟩⟩
    · by_cases e : j = i.toNat
      · subst e; unfold badAt; rw [decide_eq_false (by omega), decide_eq_false (by omega)]; rfl
      · exact hI j (by omega)
    · show ((L.length : Int) - (i + 1)).toNat < ((L.length : Int) - i).toNat
      omega
  · symm
    unfold crossV
    rw [hL, List.any_eq_false]
    intro z hz
    obtain ⟨j, hj, e⟩ := List.getElem_of_mem hz
    have := hI j (by omega)
    rw [List.getD_eq_getElem?_getD, List.getElem?_eq_getElem hj] at this
    rw [← e]
    simpa using this
/-- A list of truth values, by place. -/
def bl (rows : List (List C)) (j : Nat) : Bool := ((C.s (.slice none 0 0) rows).at j 0).bool
theorem bl_at (v : Value) (rows : List (List C)) (j : Nat) : ((C.s v rows).at j 0).bool = bl rows j := by
  unfold bl; simp only [cell_at]
theorem bl_rep {n j : Nat} : bl (List.replicate n [C.b false]) j = false := by
  unfold bl
  simp only [cell_at, List.getD_eq_getElem?_getD, List.getElem?_replicate]
  split <;> rfl
theorem bl_upd {rows : List (List C)} {i j : Nat} {t : Bool} (hi : i < rows.length) : bl (updRow rows i 0 [C.b t]) j = if j = i then t else bl rows j := by
  unfold bl updRow
  simp only [cell_at, List.getD_eq_getElem?_getD, List.getElem?_set]
  by_cases h : j = i
  · subst h; rw [if_pos rfl, if_pos hi, if_pos rfl]; rfl
  · rw [if_neg (fun e => h e.symm), if_neg h]
theorem upd_len (rows : List (List C)) (i o : Nat) (l : List C) : (updRow rows i o l).length = rows.length := by simp [updRow]
theorem lists_snoc (rows : List (List C)) (v : Value) (l : List (List C)) : lists (rows ++ [[C.s v l]]) = lists rows ++ [ints l] := by simp [lists, C.rows]
theorem lists_len (rows : List (List C)) : (lists rows).length = rows.length := by simp [lists]
theorem singles_succ (e : Ear) (i : Nat) : singles e (i + 1) = singles e i ++ (if alone e i = true then [[(i : Int)]] else []) := by
  unfold singles
  rw [List.range_succ, List.filter_append, List.map_append]
  split
  · rename_i h; rw [List.filter_cons_of_pos h]; rfl
  · rename_i h; rw [List.filter_cons_of_neg h]; rfl
theorem pairsAt_succ (e : Ear) (i k : Nat) : pairsAt e i (k + 1) = pairsAt e i k ++ (if i < k ∧ alone e k = false ∧ pairX e i k = true then [[(i : Int), (k : Int)]] else []) := by
  unfold pairsAt
  rw [List.range_succ, List.filter_append, List.map_append]
  split
  · rename_i h; rw [List.filter_cons_of_pos (by simp [h.1, h.2.1, h.2.2])]; rfl
  · rename_i h
    rw [List.filter_cons_of_neg]
    · rfl
    · intro h2
      simp only [Bool.and_eq_true, decide_eq_true_eq, Bool.not_eq_true'] at h2
      exact h ⟨h2.1.1, h2.1.2, h2.2⟩
theorem pairsOf_succ (e : Ear) (i : Nat) : pairsOf e (i + 1) = pairsOf e i ++ (if alone e i = true then [] else pairsAt e i e.reps.length) := by
  unfold pairsOf
  rw [List.range_succ, List.flatMap_append]; simp
theorem pairsAt_start (e : Ear) (i : Nat) : ∀ k, k ≤ i + 1 → pairsAt e i k = []
  | 0, _ => rfl
  | k + 1, h => by rw [pairsAt_succ, pairsAt_start e i k (by omega), if_neg (by omega)]; rfl
theorem singles_len (e : Ear) (n : Nat) : (singles e n).length ≤ n := by
  unfold singles
  rw [List.length_map]
  have := List.length_filter_le (alone e) (List.range n)
  rwa [List.length_range] at this
theorem pairsAt_len (e : Ear) (i n : Nat) : (pairsAt e i n).length ≤ n := by
  unfold pairsAt
  rw [List.length_map]
  refine Nat.le_trans (List.length_filter_le _ _) ?_
  rw [List.length_range]; exact Nat.le_refl _
theorem pairsOf_len (e : Ear) : ∀ n, (pairsOf e n).length ≤ n * e.reps.length
  | 0 => by simp [pairsOf]
  | n + 1 => by
    have h1 := pairsOf_len e n
    have h2 := pairsAt_len e n e.reps.length
    rw [pairsOf_succ, List.length_append, Nat.add_mul]
    split
    · simp; omega
    · omega
theorem repl_one (x : Rep) : repsOf [[.i x.kind, .i x.z, .i x.p]] = [x] := rfl
theorem repl_two (x y : Rep) : repsOf [[.i x.kind, .i x.z, .i x.p], [.i y.kind, .i y.z, .i y.p]] = [x, y] := rfl
theorem repl_none : repsOf [] = [] := rfl
set_option maxRecDepth 100000 in
theorem conflicts_ok : tab7.ok 54 := by
  refine Tab.of_ct rfl rfl ⟨_, Try.func54, by decide, rfl⟩ ?_ (fun h => by cases h)
  refine ct_ok (cx := cconflicts) (Tab.cx_ok (all_cons (up7_ok (up6_ok (up5_ok (up4_ok (up3_ok check_ok))))) (all_cons crosses_ok all_nil))) Try.func54 (bds := []) (T := tconflicts) (by kernel_rfl) ?_
  have h1 : cconflicts.ct 35 = some ctCheck := rfl
  have h2 : cconflicts.ct 88 = some ctCrosses := rfl
  unfold tconflicts
  simp only [VC, allC, List.map_cons, List.map_nil, List.length_cons, List.length_nil, List.getElem?_cons_zero, List.getElem?_cons_succ, List.cons.injEq, C.i.injEq, C.b.injEq, and_true, true_and, forall_const, kindsOf_nil, kindsOf_lf, kindsOf_agg, kindsOf_box, boxKinds_nil, boxKinds_lf, boxKinds_agg, boxKinds_box, List.append_nil, List.cons_append, List.nil_append, den_cmp_le, den_cmp_lt, den_cmp_eq, den_cmp_ne, den_cmp_le', den_cmp_lt', den_cmp_eq', den_cmp_ne', den_and, den_and', den_or, den_or', den_not, den_not', den_blit, den_of, ev_var, at_0, at_1, at_2, at_3, at_4, at_5, at_6, at_7, at_skip, c_int, c_bool, c_arr, c_cnt, c_vec, ev_nil, ev_join, ev_sub3, loc_s, int_i, bool_b, rows_s, cs_nil, cs_cons, E.den_lit, E.den_var, E.den_add, E.den_sub, E.den_mul, E.den_quo, E.den_rem, E.den_max, E.den_min, E.den_len, E.den_wr, E.den_cell, ev_cell, rp0, rp1, rp2, h1, h2, ctCheck, ctCrosses, ctConflicts, ctF, earthSh, earthKs, n_, k_, earOf, Ear.only]
  intro b _ _ u1 r1 _ _ _ u2 r2 _ _ _ u3 r3 _ _ _ u4 r4 _ _ _ gl _ _ gh _ _ u7 r7 _ _ _
  refine ⟨bds_nil _, ?_⟩
  rintro n _ _ hn
  refine ⟨fun h => ⟨_, _, rfl, ?_⟩, fun h => ?_⟩
  · show [] = conflictsV _
    symm
    unfold conflictsV
    rw [if_neg (by rw [← hn]; exact h)]
  rw [h] at hn
  have hv := valid hn.symm
  have e7 : (r7.length : Int) = ((repsOf r7).length : Int) := by simp [repsOf]
  have e7' : (r7.length : Int).toNat = (repsOf r7).length := by rw [e7]; omega
  rw [e7', e7]
  clear e7 e7'
  have hr0 : repsOf r7 = (⟨b, knots r1, knots r2, knots r3, knots r4, gl, gh, repsOf r7⟩ : Ear).reps := rfl
  generalize hE : (⟨b, knots r1, knots r2, knots r3, knots r4, gl, gh, repsOf r7⟩ : Ear) = E at *
  have hA : ∀ l : List Rep, (⟨b, knots r1, knots r2, knots r3, knots r4, gl, gh, l⟩ : Ear) = E.only l := fun l => by rw [← hE]; rfl
  simp only [hA, hr0, repl_one, repl_two, repl_none, bl_at]
  have hN : E.reps.length ≤ 24 := hv.reps
  refine ⟨valid_iff.2 (hv.only (fun r hr => nomatch hr) (by simp)), ?_⟩
  rintro t ht
  refine ⟨fun e => ?_, fun e => ?_⟩
  · intro v v1
    refine ⟨_, _, rfl, ?_⟩
    rw [e] at ht
    unfold conflictsV
    rw [if_pos hn.symm, if_pos ht.symm]; rfl
  rw [e] at ht
  have hC : conflictsV E = singles E E.reps.length ++ pairsOf E E.reps.length := conf_eq hv ht.symm
  rw [hC]
  refine ⟨by omega, fun v => ⟨fun xs => match xs with | [.s _ out, .i i, .s _ al] => 0 ≤ i ∧ i ≤ E.reps.length ∧ lists out = singles E i.toNat ∧ al.length = E.reps.length ∧ ∀ j : Nat, bl al j = (decide (j < i.toNat) && alone E j) | _ => False, fun xs => match xs with | [_, .i i, _] => ((E.reps.length : Int) - i).toNat | _ => 0, ⟨by omega, by omega, rfl, by simp, fun j => by rw [bl_rep]; simp⟩, ?_⟩⟩
  rintro v1 out _ _ _ i _ _ v2 al _ _ _ ⟨i0, i1, hout, hal, hbl⟩
  refine ⟨fun hlt => ?_, fun hge => ?_⟩
  · have hmem := rep_mem (e := E) (i := i.toNat) (by omega)
    have hol : out.length ≤ 24 := by
      have := singles_len E i.toNat
      rw [← hout, lists_len] at this; omega
    refine ⟨i0, hlt, valid_iff.2 (hv.only (fun r hr => by rw [List.mem_singleton] at hr; subst hr; exact hmem) (by simp)), ?_⟩
    rintro t ht
    have ht : t = alone E i.toNat := ht
    have hbl' : ∀ j, bl (updRow al i.toNat 0 [C.b t]) j = (decide (j < (i + 1).toNat) && alone E j) := fun j => by
      rw [bl_upd (by omega), hbl]
      by_cases hj : j = i.toNat
      · subst hj; rw [if_pos rfl, ht, decide_eq_true (by omega)]; rfl
      · rw [if_neg hj]
        congr 1
        exact decide_eq_decide.2 (by omega)
    have hii : (i.toNat : Int) = i := by omega
    have hs := singles_succ E i.toNat
    rw [← ht] at hs
    rw [bl_upd (by omega), if_pos rfl]
    refine ⟨by omega, fun v3 => ⟨by rw [upd_len]; omega, fun h => fun v4 => ⟨by simp only [Nat.zero_add]; omega, fun v5 => ⟨⟨by omega, by omega, ?_, by rw [upd_len]; exact hal, hbl'⟩, ?_⟩⟩, fun h => ⟨⟨by omega, by omega, ?_, by rw [upd_len]; exact hal, hbl'⟩, ?_⟩⟩⟩
    · rw [lists_snoc, hout, show (i + 1).toNat = i.toNat + 1 by omega, hs, if_pos h, hii]; rfl
    · show ((E.reps.length : Int) - (i + 1)).toNat < ((E.reps.length : Int) - i).toNat
      omega
    · rw [hout, show (i + 1).toNat = i.toNat + 1 by omega, hs, if_neg (by rw [h]; exact Bool.false_ne_true), List.append_nil]
    · show ((E.reps.length : Int) - (i + 1)).toNat < ((E.reps.length : Int) - i).toNat
      omega
  have hin : i.toNat = E.reps.length := by omega
  rw [hin] at hout hbl
  have hbl : ∀ j, j < E.reps.length → bl al j = alone E j := fun j hj => by rw [hbl, decide_eq_true hj, Bool.true_and]
  generalize hNN : E.reps.length = N at *
  have hsl := singles_len E N
  have hpl : ∀ j, j ≤ N → (pairsOf E j).length ≤ 576 := fun j hj => by
    have h1 := pairsOf_len E j
    rw [hNN] at h1
    have h2 : j * N ≤ 24 * 24 := Nat.mul_le_mul (by omega) hN
    omega
  refine ⟨fun xs => match xs with | [.s _ out, .i i] => 0 ≤ i ∧ i ≤ N ∧ lists out = singles E N ++ pairsOf E i.toNat | _ => False, fun xs => match xs with | [_, .i i] => ((N : Int) - i).toNat | _ => 0, ⟨by omega, by omega, by rw [hout]; simp [pairsOf]⟩, ?_⟩
  rintro v3 out3 _ _ _ k _ _ ⟨k0, k1, hout3⟩
  refine ⟨fun hlt => ?_, fun hge => ⟨_, _, rfl, by rw [hout3, show k.toNat = N by omega]⟩⟩
  have hps := pairsOf_succ E k.toNat
  rw [hbl k.toNat (by omega)]
  refine ⟨k0, hlt, by omega, fun h => ⟨⟨by omega, by omega, ?_⟩, ?_⟩, fun h => ?_⟩
  · rw [hout3, show (k + 1).toNat = k.toNat + 1 by omega, hps, if_pos h, List.append_nil]
  · show ((N : Int) - (k + 1)).toNat < ((N : Int) - k).toNat
    omega
  rw [if_neg (by rw [h]; exact Bool.false_ne_true), hNN] at hps
  refine ⟨fun xs => match xs with | [.s _ out, .i m] => k + 1 ≤ m ∧ m ≤ N ∧ lists out = singles E N ++ pairsOf E k.toNat ++ pairsAt E k.toNat m.toNat | _ => False, fun xs => match xs with | [_, .i m] => ((N : Int) - m).toNat | _ => 0, ⟨by omega, by omega, by rw [hout3, pairsAt_start E k.toNat _ (by omega), List.append_nil]⟩, ?_⟩
  rintro v4 out4 _ _ _ m _ _ ⟨m0, m1, hout4⟩
  have hol : out4.length ≤ 700 := by
    have h1 := congrArg List.length hout4
    have h2 := pairsAt_len E k.toNat m.toNat
    have h3 := hpl k.toNat (by omega)
    rw [lists_len, List.length_append, List.length_append] at h1
    omega
  refine ⟨fun hlt2 => ?_, fun hge2 => ⟨⟨by omega, by omega, ?_⟩, ?_⟩⟩
  rotate_left
  · rw [hout4, show (k + 1).toNat = k.toNat + 1 by omega, hps, show m.toNat = N by omega, List.append_assoc]
  · show ((N : Int) - (k + 1)).toNat < ((N : Int) - k).toNat
    omega
  have hpa := pairsAt_succ E k.toNat m.toNat
  have hmm : (m.toNat : Int) = m := by omega
  have hkk : (k.toNat : Int) = k := by omega
  have hmu : ((N : Int) - (m + 1)).toNat < ((N : Int) - m).toNat := by omega
  rw [hbl m.toNat (by omega)]
  refine ⟨by omega, by omega, fun hm => ⟨hlt2, ?_⟩, fun hm => ⟨⟨by omega, by omega, ?_⟩, hmu⟩⟩
  rotate_left
  · rw [hout4, show (m + 1).toNat = m.toNat + 1 by omega, hpa, if_neg (fun hx => by rw [hm] at hx; cases hx.2.1), List.append_nil]
  refine ⟨valid_iff.2 (hv.only (fun r hr => by
    simp only [List.mem_cons, List.not_mem_nil, or_false] at hr
    rcases hr with rfl | rfl
    · exact rep_mem (by omega)
    · exact rep_mem (by omega)) (by simp)), ?_⟩
  rintro t ht
  have ht : t = pairX E k.toNat m.toNat := ht
  refine ⟨fun ht1 => fun v7 => ⟨by simp only [Nat.zero_add]; omega, fun v8 => ⟨⟨by omega, by omega, ?_⟩, hmu⟩⟩, fun ht1 => ⟨⟨by omega, by omega, ?_⟩, hmu⟩⟩
  · rw [lists_snoc, hout4, show (m + 1).toNat = m.toNat + 1 by omega, hpa, if_pos ⟨by omega, hm, ht.symm.trans ht1⟩, hmm, hkk, List.append_assoc _ _ [_]]; rfl
  · rw [hout4, show (m + 1).toNat = m.toNat + 1 by omega, hpa, if_neg (fun hx => by rw [← ht, ht1] at hx; cases hx.2.2), List.append_nil]
end Go.Proofs.Ytcglpbchejkolaa
/- Earth: contracts, more of them: an earth made of numbers whose lists are one's own. -/
namespace Go.Proofs.Ytcglpbchejkolaa
set_option linter.unusedVariables false

def tab8 : Tab where
  ct := fun f => match f with
    | 20 => some ctKnown
    | f => tab7.ct f
  inl := tab7.inl
  sel := tab7.sel
theorem up8_ok {f : Nat} (h : tab7.ok f) (he : tab8.ct f = tab7.ct f := by rfl) : tab8.ok f :=
  ⟨h.1, fun ct hc => h.2.1 ct (he ▸ hc), h.2.2.1, h.2.2.2⟩
theorem known8_ok : tab8.ok 20 :=
  ⟨known_ok.1, fun ct hc => by cases hc; exact known_ok.2.1 ctKnown rfl, known_ok.2.2.1, known_ok.2.2.2⟩
end Go.Proofs.Ytcglpbchejkolaa
/- What is to be shown of each function, as the executor has it. Printed by trees.py. -/
namespace Go.Proofs.Ytcglpbchejkolaa
noncomputable def clneeded : Cx := tab8.only [20, 53, 22, 54, 26, 51, 27, 29, 17] (fun r => match r with
  | 5 => [.blk 1]
  | 50007 => [.blk 1, .vec 26]
  | 24 => [.blk 2]
  | 50026 => [.blk 2, .vec 62]
  | 32 => [.blk 2]
  | 50035 => [.blk 2, .vec 59]
  | 11 => [.vec 33]
  | _ => []) [] 0 [47] (fun _ => none)
def tlneeded_1 : Tree :=
  (.ob (.and (.cmp .le (.lit (-9223372036854775808)) (.add (.lit 1) (.var 27))) (.cmp .le (.add (.lit 1) (.var 27)) (.lit 9223372036854775807))) (.arr [[(.int (.add (.lit 1) (.var 27))), (.int (.var 28)), (.int (.var 29))]] (.ob (.cmp .le (.mul (.add (.len (.var 26)) (.len (.var 30))) (.lit 24)) (.lit 140737488355328)) (.cat (.var 26) (.var 30) (.back 0 [(.int (.add (.var 18) (.lit 1))), (.int (.var 19)), (.cnt 44 (.var 20)), (.cnt 44 (.var 21)), (.cnt 44 (.var 22)), (.cnt 44 (.var 23)), (.int (.var 24)), (.int (.var 25)), (.cnt 57 (.var 31))])))))
def tlneeded_2 : Tree :=
  (.ob (.and (.cmp .le (.lit (-9223372036854775808)) (.add (.lit 1) (.var 27))) (.cmp .le (.add (.lit 1) (.var 27)) (.lit 9223372036854775807))) (.call 22 [(.int (.cell (.var 4) (.var 18) 1)), (.int (.wr (.add (.var 19) (.lit 1))))] (.call 22 [(.int (.cell (.var 4) (.var 18) 2)), (.int (.lit 20000000000))] tlneeded_1)))
def tlneeded_3 : Tree :=
  (.dfn .nil (.dfn .nil (.dfn .nil (.dfn .nil (.dfn .nil (.dfn .nil (.loop [.int, .int, (.vec 44), (.vec 44), (.vec 44), (.vec 44), .int, .int, (.vec 57)] [(.int (.lit 0)), (.int (.var 40)), (.cnt 44 (.var 41)), (.cnt 44 (.var 42)), (.cnt 44 (.var 43)), (.cnt 44 (.var 44)), (.int (.var 45)), (.int (.var 46)), (.cnt 57 (.var 53))] (.ob (.cmp .lt (.var 35) (.len (.var 32))) (.split (.cmp .lt (.var 54) (.len (.cell (.var 32) (.var 35) 0))) (.ob (.cmp .lt (.var 35) (.len (.var 32))) (.ob (.cmp .le (.lit 0) (.var 54)) (.ob (.cmp .lt (.var 54) (.len (.cell (.var 32) (.var 35) 0))) (.ob (.cmp .le (.lit 0) (.cell (.cell (.var 32) (.var 35) 0) (.var 54) 0)) (.ob (.cmp .lt (.cell (.cell (.var 32) (.var 35) 0) (.var 54) 0) (.len (.var 31))) (.arr [[(.int (.cell (.var 31) (.cell (.cell (.var 32) (.var 35) 0) (.var 54) 0) 0)), (.int (.cell (.var 31) (.cell (.cell (.var 32) (.var 35) 0) (.var 54) 0) 1)), (.int (.cell (.var 31) (.cell (.cell (.var 32) (.var 35) 0) (.var 54) 0) 2))]] (.ob (.cmp .le (.mul (.add (.len (.var 62)) (.len (.var 63))) (.lit 24)) (.lit 140737488355328)) (.cat (.var 62) (.var 63) (.back 3 [(.int (.add (.var 54) (.lit 1))), (.int (.var 55)), (.cnt 44 (.var 56)), (.cnt 44 (.var 57)), (.cnt 44 (.var 58)), (.cnt 44 (.var 59)), (.int (.var 60)), (.int (.var 61)), (.cnt 57 (.var 64))]))))))))) (.dfn (.var 56) (.dfn (.var 57) (.dfn (.var 58) (.dfn (.var 59) (.dfn (.var 62) (.call 54 [(.int (.var 55)), (.arr 44 (.var 63)), (.arr 44 (.var 64)), (.arr 44 (.var 65)), (.arr 44 (.var 66)), (.int (.var 60)), (.int (.var 61)), (.arr 57 (.var 67))] (.split (.cmp .ne (.len (.var 68)) (.lit 1)) (.ret [(.bool (.lit false))]) (.back 1 [(.bool (.of (.var 37))), (.int (.add (.var 35) (.lit 1))), (.cnt 4 (.var 39))])))))))))))))))))
def tlneeded_4 : Tree :=
  (.split (.cmp .lt (.var 70) (.var 69)) (.ret [(.bool (.lit false))]) (.split (.cmp .lt (.var 72) (.var 71)) (.ret [(.bool (.lit false))]) (.back 3 [(.bool (.of (.var 67))), (.int (.add (.var 68) (.lit 1)))])))
def tlneeded_5 : Tree :=
  (.ob (.cmp .lt (.var 68) (.len (.var 66))) (.call 29 [(.int (.var 52)), (.arr 44 (.var 60)), (.arr 44 (.var 61)), (.arr 44 (.var 62)), (.arr 44 (.var 63)), (.int (.var 57)), (.int (.var 58)), (.arr 57 (.var 64)), (.int (.cell (.var 66) (.var 68) 0))] tlneeded_4))
def tlneeded_6 : Tree :=
  (.loop [.bool, .int] [(.bool (.of (.var 34))), (.int (.lit 0))] (.split (.cmp .lt (.var 68) (.len (.var 66))) (.ob (.cmp .le (.lit 0) (.var 68)) (.ob (.cmp .lt (.var 68) (.len (.var 66))) (.call 27 [(.int (.var 52)), (.arr 44 (.var 60)), (.arr 44 (.var 61)), (.arr 44 (.var 62)), (.arr 44 (.var 63)), (.int (.var 57)), (.int (.var 58)), (.arr 57 (.var 64)), (.int (.cell (.var 66) (.var 68) 0))] tlneeded_5))) (.split (.cmp .lt (.lit 1) (.len (.var 66))) (.call 17 [] (.ret [(.bool (.of (.var 69)))])) (.ret [(.bool (.lit false))]))))
def tlneeded_7 : Tree :=
  (.split (.cmp .ne (.len (.var 65)) (.lit 0)) (.ret [(.bool (.lit false))]) (.call 51 [(.int (.var 52)), (.arr 44 (.var 60)), (.arr 44 (.var 61)), (.arr 44 (.var 62)), (.arr 44 (.var 63)), (.int (.var 57)), (.int (.var 58)), (.arr 57 (.var 64))] tlneeded_6))
def tlneeded_8 : Tree :=
  (.dfn .nil (.dfn .nil (.dfn .nil (.dfn .nil (.dfn .nil (.dfn .nil (.loop [.int, .int, (.vec 44), (.vec 44), (.vec 44), (.vec 44), .int, .int, (.vec 57)] [(.int (.lit 0)), (.int (.var 37)), (.cnt 44 (.var 38)), (.cnt 44 (.var 39)), (.cnt 44 (.var 40)), (.cnt 44 (.var 41)), (.int (.var 42)), (.int (.var 43)), (.cnt 57 (.var 50))] (.split (.cmp .lt (.var 51) (.len (.var 36))) (.ob (.cmp .le (.lit 0) (.var 51)) (.ob (.cmp .lt (.var 51) (.len (.var 36))) (.split (.not (.of (.cell (.var 36) (.var 51) 0))) (.ob (.cmp .lt (.var 51) (.len (.var 31))) (.arr [[(.int (.cell (.var 31) (.var 51) 0)), (.int (.cell (.var 31) (.var 51) 1)), (.int (.cell (.var 31) (.var 51) 2))]] (.ob (.cmp .le (.mul (.add (.len (.var 59)) (.len (.var 60))) (.lit 24)) (.lit 140737488355328)) (.cat (.var 59) (.var 60) (.back 2 [(.int (.add (.var 51) (.lit 1))), (.int (.var 52)), (.cnt 44 (.var 53)), (.cnt 44 (.var 54)), (.cnt 44 (.var 55)), (.cnt 44 (.var 56)), (.int (.var 57)), (.int (.var 58)), (.cnt 57 (.var 61))]))))) (.back 2 [(.int (.add (.var 51) (.lit 1))), (.int (.var 52)), (.cnt 44 (.var 53)), (.cnt 44 (.var 54)), (.cnt 44 (.var 55)), (.cnt 44 (.var 56)), (.int (.var 57)), (.int (.var 58)), (.cnt 57 (.var 59))])))) (.dfn (.var 53) (.dfn (.var 54) (.dfn (.var 55) (.dfn (.var 56) (.dfn (.var 59) (.call 54 [(.int (.var 52)), (.arr 44 (.var 60)), (.arr 44 (.var 61)), (.arr 44 (.var 62)), (.arr 44 (.var 63)), (.int (.var 57)), (.int (.var 58)), (.arr 57 (.var 64))] tlneeded_7))))))))))))))
def tlneeded_9 : Tree :=
  (.ob (.cmp .le (.mul (.lit 1) (.len (.var 31))) (.lit 281474976710656)) (.mk (.len (.var 31)) [(.bool (.lit false))] (.loop [.bool, .int, (.vec 4)] [(.bool (.lit false)), (.int (.lit 0)), (.cnt 4 (.var 33))] (.split (.cmp .lt (.var 35) (.len (.var 32))) (.ob (.cmp .le (.lit 0) (.var 35)) (.ob (.cmp .lt (.var 35) (.len (.var 32))) (.split (.cmp .eq (.len (.cell (.var 32) (.var 35) 0)) (.lit 0)) (.ret [(.bool (.lit false))]) (.ob (.cmp .lt (.var 35) (.len (.var 32))) (.split (.cmp .lt (.lit 2) (.len (.cell (.var 32) (.var 35) 0))) (.ret [(.bool (.lit false))]) (.loop [.bool, .int] [(.bool (.of (.var 34))), (.int (.lit 0))] (.ob (.cmp .lt (.var 35) (.len (.var 32))) (.split (.cmp .lt (.var 38) (.len (.cell (.var 32) (.var 35) 0))) (.ob (.cmp .lt (.var 35) (.len (.var 32))) (.ob (.cmp .le (.lit 0) (.var 38)) (.ob (.cmp .lt (.var 38) (.len (.cell (.var 32) (.var 35) 0))) (.split (.cmp .lt (.cell (.cell (.var 32) (.var 35) 0) (.var 38) 0) (.lit 0)) (.ret [(.bool (.lit false))]) (.ob (.cmp .lt (.var 35) (.len (.var 32))) (.ob (.cmp .lt (.var 38) (.len (.cell (.var 32) (.var 35) 0))) (.split (.cmp .le (.len (.var 36)) (.cell (.cell (.var 32) (.var 35) 0) (.var 38) 0)) (.ret [(.bool (.lit false))]) (.back 2 [(.bool (.of (.var 37))), (.int (.add (.var 38) (.lit 1)))])))))))) (.ob (.cmp .lt (.var 35) (.len (.var 32))) (.ob (.cmp .lt (.lit 0) (.len (.cell (.var 32) (.var 35) 0))) (.ob (.cmp .le (.lit 0) (.cell (.cell (.var 32) (.var 35) 0) (.lit 0) 0)) (.ob (.cmp .lt (.cell (.cell (.var 32) (.var 35) 0) (.lit 0) 0) (.len (.var 36))) (.upd (.var 36) (.cell (.cell (.var 32) (.var 35) 0) (.lit 0) 0) 0 [(.bool (.lit true))] (.call 26 [(.int (.var 19)), (.arr 44 (.var 27)), (.arr 44 (.var 28)), (.arr 44 (.var 29)), (.arr 44 (.var 30)), (.int (.var 24)), (.int (.var 25)), (.arr 57 (.var 31))] tlneeded_3)))))))))))))) (.call 26 [(.int (.var 19)), (.arr 44 (.var 27)), (.arr 44 (.var 28)), (.arr 44 (.var 29)), (.arr 44 (.var 30)), (.int (.var 24)), (.int (.var 25)), (.arr 57 (.var 31))] tlneeded_8)))))
def tlneeded_10 : Tree :=
  (.dfn .nil (.dfn .nil (.dfn .nil (.dfn .nil (.dfn .nil (.loop [.int, .int, (.vec 44), (.vec 44), (.vec 44), (.vec 44), .int, .int, (.vec 57)] [(.int (.lit 0)), (.int (.var 5)), (.cnt 44 (.var 6)), (.cnt 44 (.var 7)), (.cnt 44 (.var 8)), (.cnt 44 (.var 9)), (.int (.var 10)), (.int (.var 11)), (.cnt 57 (.var 12))] (.split (.cmp .lt (.var 18) (.len (.var 4))) (.ob (.cmp .le (.lit 0) (.var 18)) (.ob (.cmp .lt (.var 18) (.len (.var 4))) (.ob (.cmp .lt (.var 18) (.len (.var 4))) (.ob (.cmp .lt (.var 18) (.len (.var 4))) (.call 53 [(.int (.cell (.var 4) (.var 18) 0)), (.int (.lit 4))] tlneeded_2))))) (.dfn (.var 20) (.dfn (.var 21) (.dfn (.var 22) (.dfn (.var 23) (.dfn (.var 26) (.call 54 [(.int (.var 19)), (.arr 44 (.var 27)), (.arr 44 (.var 28)), (.arr 44 (.var 29)), (.arr 44 (.var 30)), (.int (.var 24)), (.int (.var 25)), (.arr 57 (.var 31))] tlneeded_9)))))))))))))
def tlneeded : Tree :=
  (.split (.cmp .lt (.lit 6) (.len (.var 4))) (.call 17 [] (.ret [(.bool (.of (.var 5)))])) (.call 20 [(.int (.var 0)), (.arr 2 (.var 1)), (.arr 2 (.var 2)), (.arr 2 (.var 3))] tlneeded_10))
end Go.Proofs.Ytcglpbchejkolaa
/- Earth: EarthNeeded's tree. -/
namespace Go.Proofs.Ytcglpbchejkolaa
theorem lneeded_tree : execFn clneeded Try.f13 (ctLaw [groundSh, .lf (.arr 57)]) [] = some tlneeded := by kernel_rfl
end Go.Proofs.Ytcglpbchejkolaa
/- Earth: EarthNeeded by the table. -/
namespace Go.Proofs.Ytcglpbchejkolaa
open Go.RowKit
set_option linter.unusedSimpArgs false
set_option linter.unusedVariables false

/-- A report that may stand in an earth of some numbers. -/
def OkR (g : Gr) (r : Rep) : Prop := 1 ≤ r.kind ∧ r.kind ≤ 4 ∧ 0 ≤ r.z ∧ r.z ≤ (knownV g).bottom ∧ 0 ≤ r.p ∧ r.p ≤ 68719476736
theorem ext_valid (g : Gr) {R : List Rep} (hn : R.length ≤ 24) (hR : ∀ r ∈ R, OkR g r) : Valid ((knownV g).only R) where
  b := (known_valid g).b
  g := (known_valid g).g
  pl := (known_valid g).pl
  ph := (known_valid g).ph
  fl := (known_valid g).fl
  fh := (known_valid g).fh
  ab1 := (known_valid g).ab1
  ab2 := (known_valid g).ab2
  ab3 := (known_valid g).ab3
  reps := hn
  rep := hR
theorem at_int (x : C) (k : Nat) : (x.at k 0).int = (ints x.rows).getD k 0 := by
  unfold C.at ints
  simp only [List.getD_eq_getElem?_getD, List.getElem?_map]
  cases x.rows[k]? <;> rfl
theorem li1 (v : Value) (c : List (List C)) (n : Nat) : ints ((C.s v c).at n 0).rows = (lists c).getD n [] := by
  simp only [cell_at, lists, List.getD_eq_getElem?_getD, List.getElem?_map]
  cases c[n]? <;> rfl
theorem li2 (v : Value) (c : List (List C)) (n k : Nat) : (((C.s v c).at n 0).at k 0).int = ((lists c).getD n []).getD k 0 := by rw [at_int, li1]
theorem li3 (v : Value) (c : List (List C)) (n : Nat) : ((C.s v c).at n 0).rows.length = ((lists c).getD n []).length := by rw [← li1 v, ints_len]
theorem conf_facts {e : Ear} (hv : Valid e) (h0 : crossV (e.only []) = false) {c : List Int} (hc : c ∈ conflictsV e) : 1 ≤ c.length ∧ c.length ≤ 2 ∧ ∀ x ∈ c, 0 ≤ x ∧ x < e.reps.length := by
  rcases conf_cases hv h0 hc with ⟨i, hi, ha, rfl⟩ | ⟨i, k, hik, hk, hi, hk2, hp, rfl⟩
  · refine ⟨by simp, by simp, fun x hx => ?_⟩
    rw [List.mem_singleton] at hx; subst hx; omega
  · refine ⟨by simp, by simp, fun x hx => ?_⟩
    simp only [List.mem_cons, List.not_mem_nil, or_false] at hx
    rcases hx with rfl | rfl <;> omega
theorem first_take {l : List (List Int)} {n : Nat} (h : n < l.length) (j : Nat) : firstV (l.take (n + 1)) j = (firstV (l.take n) j || ((l.getD n []).getD 0 (-1) == (j : Int))) := by
  unfold firstV
  rw [take_snoc h [], List.any_append]; simp
theorem kept_take (p : Nat → Bool) (R : List Rep) (j : Nat) : (((List.range (j + 1)).filter p).map fun i => R.getD i rep0) = (((List.range j).filter p).map fun i => R.getD i rep0) ++ (if p j = true then [R.getD j rep0] else []) := by
  rw [List.range_succ, List.filter_append, List.map_append]
  split
  · rename_i h; rw [List.filter_cons_of_pos h]; rfl
  · rename_i h; rw [List.filter_cons_of_neg h]; rfl
set_option maxRecDepth 100000 in
theorem lneeded_ok : CtOK Try.prog 13 (ctLaw [groundSh, .lf (.arr 57)]) := by
  refine ct_ok (cx := clneeded) (Tab.cx_ok (all_cons known8_ok (all_cons (up8_ok (up7_ok (up6_ok (up5_ok (up4_ok mod_ok))))) (all_cons (up8_ok (up7_ok (up6_ok (up5_ok (up4_ok mod64_ok))))) (all_cons (up8_ok conflicts_ok) (all_cons (up8_ok (up7_ok (up6_ok (up5_ok (up4_ok rcopy_ok))))) (all_cons (up8_ok depths2_ok) (all_cons (up8_ok (up7_ok (up6_ok (up5_ok (up4_ok (up3_ok pore_ok)))))) (all_cons (up8_ok (up7_ok (up6_ok (up5_ok (up4_ok (up3_ok frac_ok)))))) (all_cons (up8_ok (up7_ok (up6_ok (up5_ok (up4_ok (up3_ok awake_ok)))))) all_nil)))))))))) Try.func13 (bds := []) (T := tlneeded) lneeded_tree ?_
  have h1 : clneeded.ct 20 = some ctKnown := rfl
  have h2 : clneeded.ct 53 = some ctMod := rfl
  have h3 : clneeded.ct 22 = some ctMod := rfl
  have h4 : clneeded.ct 54 = some ctConflicts := rfl
  have h5 : clneeded.ct 26 = some ctCopy := rfl
  have h6 : clneeded.ct 51 = some ctDepths := rfl
  have h7 : clneeded.ct 27 = some (ctRange poreV) := rfl
  have h8 : clneeded.ct 29 = some (ctRange fracV) := rfl
  have h9 : clneeded.ct 17 = some ctAwake := rfl
  unfold tlneeded
  simp (maxSteps := 10000000) only [VC, allC, List.map_cons, List.map_nil, List.length_cons, List.length_nil, List.getElem?_cons_zero, List.getElem?_cons_succ, List.cons.injEq, C.i.injEq, C.b.injEq, and_true, true_and, forall_const, kindsOf_nil, kindsOf_lf, kindsOf_agg, kindsOf_box, boxKinds_nil, boxKinds_lf, boxKinds_agg, boxKinds_box, List.append_nil, List.cons_append, List.nil_append, den_cmp_le, den_cmp_lt, den_cmp_eq, den_cmp_ne, den_cmp_le', den_cmp_lt', den_cmp_eq', den_cmp_ne', den_and, den_and', den_or, den_or', den_not, den_not', den_blit, den_of, ev_var, at_0, at_1, at_2, at_3, at_4, at_5, at_6, at_7, at_skip, c_int, c_bool, c_arr, c_cnt, c_vec, ev_nil, ev_join, ev_sub3, loc_s, int_i, bool_b, rows_s, cs_nil, cs_cons, E.den_lit, E.den_var, E.den_add, E.den_sub, E.den_mul, E.den_quo, E.den_rem, E.den_max, E.den_min, E.den_len, E.den_wr, E.den_cell, ev_cell, h1, h9, ctKnown, ctAwake, ctLaw, ctF, groundSh, vecEarth, n_, k_, earOf, grOf]
  intro b _ _ u1 r1 _ _ _ u2 r2 _ _ _ u3 r3 _ _ _ u4 r4 _ _ _
  generalize hg : (⟨b, ints r1, ints r2, ints r3⟩ : Gr) = g at *
  refine ⟨bds_nil _, fun _ _ h => h, fun hlen => ?_⟩
  rintro bt _ _ v11 r11 _ _ _ v12 r12 _ _ _ v13 r13 _ _ _ v14 r14 _ _ _ gl _ _ gh _ _ v17 r17 _ _ _ hk
  unfold tlneeded_10
  simp (maxSteps := 10000000) only [VC, allC, List.map_cons, List.map_nil, List.length_cons, List.length_nil, List.getElem?_cons_zero, List.getElem?_cons_succ, List.cons.injEq, C.i.injEq, C.b.injEq, and_true, true_and, forall_const, kindsOf_nil, kindsOf_lf, kindsOf_agg, kindsOf_box, boxKinds_nil, boxKinds_lf, boxKinds_agg, boxKinds_box, List.append_nil, List.cons_append, List.nil_append, den_cmp_le, den_cmp_lt, den_cmp_eq, den_cmp_ne, den_cmp_le', den_cmp_lt', den_cmp_eq', den_cmp_ne', den_and, den_and', den_or, den_or', den_not, den_not', den_blit, den_of, ev_var, at_0, at_1, at_2, at_3, at_4, at_5, at_6, at_7, at_skip, c_int, c_bool, c_arr, c_cnt, c_vec, ev_nil, ev_join, ev_sub3, loc_s, int_i, bool_b, rows_s, cs_nil, cs_cons, E.den_lit, E.den_var, E.den_add, E.den_sub, E.den_mul, E.den_quo, E.den_rem, E.den_max, E.den_min, E.den_len, E.den_wr, E.den_cell, ev_cell, h2, h4, ctMod, ctConflicts, ctF, earthSh, earthKs, n_, k_, earOf]
  refine ⟨fun xs => match xs with | [.i i, .i bt, .s _ a1, .s _ a2, .s _ a3, .s _ a4, .i gl, .i gh, .s _ rr] => 0 ≤ i ∧ i ≤ r4.length ∧ (∀ r ∈ repsOf rr, OkR g r) ∧ (repsOf rr).length ≤ 8 + i.toNat ∧ (⟨bt, knots a1, knots a2, knots a3, knots a4, gl, gh, repsOf rr⟩ : Ear) = (knownV g).only (repsOf rr) | _ => False, fun xs => match xs with | [.i i, _, _, _, _, _, _, _, _] => ((r4.length : Int) - i).toNat | _ => 0, ⟨by omega, by omega, ?_, ?_, ?_⟩, ?_⟩
  · intro r hr
    rw [show repsOf r17 = (knownV g).reps from congrArg Ear.reps hk] at hr
    exact (known_valid g).rep r hr
  · rw [show repsOf r17 = (knownV g).reps from congrArg Ear.reps hk]
    have := known_reps g; omega
  · rw [show repsOf r17 = (knownV g).reps from congrArg Ear.reps hk]
    rw [show repsOf r17 = (knownV g).reps from congrArg Ear.reps hk] at hk
    exact hk
  rintro i _ _ bt' _ _ w1 q1 _ _ _ w2 q2 _ _ _ w3 q3 _ _ _ w4 q4 _ _ _ gl' _ _ gh' _ _ w7 q7 _ _ _ ⟨i0, i1, hR, hRl, hE⟩
  have hB : bt' = (knownV g).bottom := congrArg Ear.bottom hE
  have hbb : 1000 ≤ (knownV g).bottom ∧ (knownV g).bottom ≤ 500000 := by rw [show (knownV g).bottom = bottomV g from tp_end g]; exact bottomV_bd g
  have hql : q7.length = (repsOf q7).length := by simp [repsOf]
  have hA : ∀ L : List Rep, (⟨bt', knots q1, knots q2, knots q3, knots q4, gl', gh', L⟩ : Ear) = (knownV g).only L := fun L => congrArg (fun e : Ear => { e with reps := L }) hE
  refine ⟨fun hlt => ⟨i0, hlt, hlt, hlt, by decide, ?_⟩, fun hge => ?_⟩
  · rintro n1 _ _ hn1
    unfold tlneeded_2
    simp (maxSteps := 10000000) only [VC, allC, List.map_cons, List.map_nil, List.length_cons, List.length_nil, List.getElem?_cons_zero, List.getElem?_cons_succ, List.cons.injEq, C.i.injEq, C.b.injEq, and_true, true_and, forall_const, kindsOf_nil, kindsOf_lf, kindsOf_agg, kindsOf_box, boxKinds_nil, boxKinds_lf, boxKinds_agg, boxKinds_box, List.append_nil, List.cons_append, List.nil_append, den_cmp_le, den_cmp_lt, den_cmp_eq, den_cmp_ne, den_cmp_le', den_cmp_lt', den_cmp_eq', den_cmp_ne', den_and, den_and', den_or, den_or', den_not, den_not', den_blit, den_of, ev_var, at_0, at_1, at_2, at_3, at_4, at_5, at_6, at_7, at_skip, c_int, c_bool, c_arr, c_cnt, c_vec, ev_nil, ev_join, ev_sub3, loc_s, int_i, bool_b, rows_s, cs_nil, cs_cons, E.den_lit, E.den_var, E.den_add, E.den_sub, E.den_mul, E.den_quo, E.den_rem, E.den_max, E.den_min, E.den_len, E.den_wr, E.den_cell, ev_cell, h3, ctMod, ctF, n_]
    have a0 := Int.emod_nonneg ((C.s u4 r4).at i.toNat 0).int (b := 4) (by decide)
    have a1 := Int.emod_lt_of_pos ((C.s u4 r4).at i.toNat 0).int (b := 4) (by decide)
    rw [← hn1] at a0 a1
    have hw : IntKind.i64.wrap (bt' + 1) = bt' + 1 := by rw [IntKind.wrap_i64]; omega
    rw [hw]
    refine ⟨⟨by omega, by omega⟩, by omega, ?_⟩
    rintro n2 _ _ hn2
    have b0 := Int.emod_nonneg ((C.s u4 r4).at i.toNat 1).int (b := bt' + 1) (by omega)
    have b1 := Int.emod_lt_of_pos ((C.s u4 r4).at i.toNat 1).int (b := bt' + 1) (by omega)
    rw [← hn2] at b0 b1
    refine ⟨by decide, ?_⟩
    rintro n3 _ _ hn3
    have c0 := Int.emod_nonneg ((C.s u4 r4).at i.toNat 2).int (b := 20000000000) (by decide)
    have c1 := Int.emod_lt_of_pos ((C.s u4 r4).at i.toNat 2).int (b := 20000000000) (by decide)
    rw [← hn3] at c0 c1
    unfold tlneeded_1
    simp (maxSteps := 10000000) only [VC, allC, List.map_cons, List.map_nil, List.length_cons, List.length_nil, List.getElem?_cons_zero, List.getElem?_cons_succ, List.cons.injEq, C.i.injEq, C.b.injEq, and_true, true_and, forall_const, kindsOf_nil, kindsOf_lf, kindsOf_agg, kindsOf_box, boxKinds_nil, boxKinds_lf, boxKinds_agg, boxKinds_box, List.append_nil, List.cons_append, List.nil_append, den_cmp_le, den_cmp_lt, den_cmp_eq, den_cmp_ne, den_cmp_le', den_cmp_lt', den_cmp_eq', den_cmp_ne', den_and, den_and', den_or, den_or', den_not, den_not', den_blit, den_of, ev_var, at_0, at_1, at_2, at_3, at_4, at_5, at_6, at_7, at_skip, c_int, c_bool, c_arr, c_cnt, c_vec, ev_nil, ev_join, ev_sub3, loc_s, int_i, bool_b, rows_s, cs_nil, cs_cons, E.den_lit, E.den_var, E.den_add, E.den_sub, E.den_mul, E.den_quo, E.den_rem, E.den_max, E.den_min, E.den_len, E.den_wr, E.den_cell, ev_cell]
    refine ⟨⟨by omega, by omega⟩, by omega, ⟨by omega, by omega, ?_, ?_, hA _⟩, ?_⟩
    · rw [reps_snoc]
      intro r hr
      rcases List.mem_append.1 hr with hr | hr
      · exact hR r hr
      · rw [List.mem_singleton] at hr
        subst hr
        exact ⟨by show 1 ≤ 1 + n1; omega, by show 1 + n1 ≤ 4; omega, b0, by show n2 ≤ _; omega, c0, by show n3 ≤ _; omega⟩
    · rw [reps_snoc, List.length_append, List.length_singleton]; omega
    · omega
  rintro v32 c _ _ _ ⟨_, _, e, hc⟩
  cases e
  have hV : Valid ((knownV g).only (repsOf q7)) := ext_valid g (by omega) hR
  have hCalm : crossV (((knownV g).only (repsOf q7)).only []) = false := known_calm g
  rw [hE] at hc
  unfold tlneeded_9
  simp (maxSteps := 10000000) only [VC, allC, List.map_cons, List.map_nil, List.length_cons, List.length_nil, List.getElem?_cons_zero, List.getElem?_cons_succ, List.cons.injEq, C.i.injEq, C.b.injEq, and_true, true_and, forall_const, kindsOf_nil, kindsOf_lf, kindsOf_agg, kindsOf_box, boxKinds_nil, boxKinds_lf, boxKinds_agg, boxKinds_box, List.append_nil, List.cons_append, List.nil_append, den_cmp_le, den_cmp_lt, den_cmp_eq, den_cmp_ne, den_cmp_le', den_cmp_lt', den_cmp_eq', den_cmp_ne', den_and, den_and', den_or, den_or', den_not, den_not', den_blit, den_of, ev_var, at_0, at_1, at_2, at_3, at_4, at_5, at_6, at_7, at_skip, c_int, c_bool, c_arr, c_cnt, c_vec, ev_nil, ev_join, ev_sub3, loc_s, int_i, bool_b, rows_s, cs_nil, cs_cons, E.den_lit, E.den_var, E.den_add, E.den_sub, E.den_mul, E.den_quo, E.den_rem, E.den_max, E.den_min, E.den_len, E.den_wr, E.den_cell, ev_cell, h5, ctCopy, earthSh, earthKs, shortE, li2, li3]
  have hcl : (c.length : Int) = ((lists c).length : Int) := by rw [lists_len]
  rw [hcl]
  have hli : ∀ (n : Nat), (lists c).getD n [] = (conflictsV ((knownV g).only (repsOf q7))).getD n [] := fun n => by rw [hc]
  simp only [hli]
  rw [hc]
  generalize hCs : conflictsV ((knownV g).only (repsOf q7)) = Cs at *
  generalize hRR : repsOf q7 = R at *
  have hfacts : ∀ n : Nat, n < Cs.length → 1 ≤ (Cs.getD n []).length ∧ (Cs.getD n []).length ≤ 2 ∧ ∀ x ∈ Cs.getD n [], 0 ≤ x ∧ x < R.length := fun n hn => by
    have hm := getD_mem hn ([] : List Int)
    rw [← hCs] at hm ⊢
    rw [hCs] at hm ⊢
    exact conf_facts hV hCalm (by rw [hCs]; exact hm)
  have q1l : q1.length ≤ 24 := by rw [← knots_len, show knots q1 = (knownV g).pl from congrArg Ear.pl hE]; exact (lineE_box (known_valid g).pl).1
  have q2l : q2.length ≤ 24 := by rw [← knots_len, show knots q2 = (knownV g).ph from congrArg Ear.ph hE]; exact (lineE_box (known_valid g).ph).1
  have q3l : q3.length ≤ 24 := by rw [← knots_len, show knots q3 = (knownV g).fl from congrArg Ear.fl hE]; exact (lineE_box (known_valid g).fl).1
  have q4l : q4.length ≤ 24 := by rw [← knots_len, show knots q4 = (knownV g).fh from congrArg Ear.fh hE]; exact (lineE_box (known_valid g).fh).1
  refine ⟨by omega, fun v33 => ⟨fun xs => match xs with | [.b _, .i n, .s _ dr] => 0 ≤ n ∧ n ≤ Cs.length ∧ dr.length = R.length ∧ ∀ j : Nat, bl dr j = firstV (Cs.take n.toNat) j | _ => False, fun xs => match xs with | [.b _, .i n, _] => ((Cs.length : Int) - n).toNat | _ => 0, ⟨by omega, by omega, by rw [List.length_replicate]; omega, fun j => by rw [bl_rep]; rfl⟩, ?_⟩⟩
  rintro t n _ _ v36 dr _ _ _ ⟨n0, n1, hdl, hdr⟩
  refine ⟨fun hlt => ?_, fun hge => ?_⟩
  · obtain ⟨f1, f2, f3⟩ := hfacts n.toNat (by omega)
    have hmem : Cs.getD n.toNat [] ∈ Cs := getD_mem (by omega) []
    generalize hci : Cs.getD n.toNat [] = ci at *
    refine ⟨n0, hlt, fun h => (by exfalso; omega), fun _ => ⟨hlt, fun h => (by exfalso; omega), fun _ => ?_⟩⟩
    refine ⟨fun xs => match xs with | [.b _, .i k] => 0 ≤ k ∧ k ≤ ci.length | _ => False, fun xs => match xs with | [.b _, .i k] => ((ci.length : Int) - k).toNat | _ => 0, ⟨by omega, by omega⟩, ?_⟩
    rintro t1 k _ _ ⟨k0, k1⟩
    refine ⟨hlt, fun hk => ?_, fun hk => ?_⟩
    · obtain ⟨x0, x1⟩ := f3 _ (getD_mem (l := ci) (i := k.toNat) (by omega) 0)
      exact ⟨hlt, k0, hk, fun h => (by exfalso; omega), fun _ => ⟨hlt, hk, fun h => (by exfalso; omega), fun _ => ⟨⟨by omega, by omega⟩, (show ((ci.length : Int) - (k + 1)).toNat < ((ci.length : Int) - k).toNat by omega)⟩⟩⟩
    obtain ⟨x0, x1⟩ := f3 _ (getD_mem (l := ci) (i := 0) (by omega) 0)
    refine ⟨hlt, by omega, x0, by show ci.getD 0 0 < (dr.length : Int); omega, fun v39 => ⟨⟨by omega, by omega, by omega, by omega, by omega⟩, ?_⟩⟩
    rintro bs _ _ y1 s1 _ _ _ y2 s2 _ _ _ y3 s3 _ _ _ y4 s4 _ _ _ gls _ _ ghs _ _ y7 s7 _ _ _ ⟨⟨rfl, rfl, rfl⟩, hrows⟩
    obtain rfl : s1 = q1 := hrows 1 (by decide)
    obtain rfl : s2 = q2 := hrows 2 (by decide)
    obtain rfl : s3 = q3 := hrows 3 (by decide)
    obtain rfl : s4 = q4 := hrows 4 (by decide)
    have hlc : (lists c).getD n.toNat [] = ci := by rw [hc]; exact hci
    have hcl2 : (c.length : Int) = (Cs.length : Int) := by rw [hcl, hc]
    unfold tlneeded_3
    simp (maxSteps := 10000000) only [VC, allC, List.map_cons, List.map_nil, List.length_cons, List.length_nil, List.getElem?_cons_zero, List.getElem?_cons_succ, List.cons.injEq, C.i.injEq, C.b.injEq, and_true, true_and, forall_const, kindsOf_nil, kindsOf_lf, kindsOf_agg, kindsOf_box, boxKinds_nil, boxKinds_lf, boxKinds_agg, boxKinds_box, List.append_nil, List.cons_append, List.nil_append, den_cmp_le, den_cmp_lt, den_cmp_eq, den_cmp_ne, den_cmp_le', den_cmp_lt', den_cmp_eq', den_cmp_ne', den_and, den_and', den_or, den_or', den_not, den_not', den_blit, den_of, ev_var, at_0, at_1, at_2, at_3, at_4, at_5, at_6, at_7, at_skip, c_int, c_bool, c_arr, c_cnt, c_vec, ev_nil, ev_join, ev_sub3, loc_s, int_i, bool_b, rows_s, cs_nil, cs_cons, E.den_lit, E.den_var, E.den_add, E.den_sub, E.den_mul, E.den_quo, E.den_rem, E.den_max, E.den_min, E.den_len, E.den_wr, E.den_cell, ev_cell, h4, ctConflicts, earthSh, earthKs, n_, k_, earOf, li2, li3, rp0, rp1, rp2, hlc, hRR]
    refine ⟨fun xs => match xs with | [.i k, .i bt, .s _ a1, .s _ a2, .s _ a3, .s _ a4, .i gl, .i gh, .s _ rr] => 0 ≤ k ∧ k ≤ ci.length ∧ repsOf rr = (ci.take k.toNat).map (fun x => R.getD x.toNat rep0) ∧ (⟨bt, knots a1, knots a2, knots a3, knots a4, gl, gh, []⟩ : Ear) = (knownV g).only [] | _ => False, fun xs => match xs with | [.i k, _, _, _, _, _, _, _, _] => ((ci.length : Int) - k).toNat | _ => 0, ⟨by omega, by omega, rfl, hA []⟩, ?_⟩
    rintro k3 _ _ bt3 _ _ z1 t1 _ _ _ z2 t2 _ _ _ z3 t3 _ _ _ z4 t4 _ _ _ gl3 _ _ gh3 _ _ z7 t7 _ _ _ ⟨k30, k31, hrr, hE3⟩
    have hA3 : ∀ L : List Rep, (⟨bt3, knots t1, knots t2, knots t3, knots t4, gl3, gh3, L⟩ : Ear) = (knownV g).only L := fun L => congrArg (fun e : Ear => { e with reps := L }) hE3
    have t7l : t7.length ≤ 2 := by
      have h1 : (repsOf t7).length = t7.length := by simp [repsOf]
      rw [← h1, hrr, List.length_map, List.length_take]; omega
    refine ⟨by omega, fun hlt3 => ?_, fun hge3 => ?_⟩
    · obtain ⟨x0', x1'⟩ := f3 _ (getD_mem (l := ci) (i := k3.toNat) (by omega) 0)
      refine ⟨by omega, k30, hlt3, x0', by omega, by omega, fun v => ⟨⟨by omega, by omega, ?_, hE3⟩, ?_⟩⟩
      · rw [reps_snoc, hrr, show (k3 + 1).toNat = k3.toNat + 1 by omega, take_snoc (by omega) 0, List.map_append]; rfl
      · show ((ci.length : Int) - (k3 + 1)).toNat < ((ci.length : Int) - k3).toNat
        omega
    · rintro v cc _ _ _ ⟨_, _, e, hcc⟩
      cases e
      rw [hA3, hrr, List.take_of_length_le (by omega)] at hcc
      have h1c : (conflictsV (someOf ((knownV g).only R) ci)).length = 1 := conf_some hV hCalm (by rw [hCs]; exact hmem)
      have hcc0 : lists cc = conflictsV (someOf ((knownV g).only R) ci) := hcc
      have hcc1 : (cc.length : Int) = 1 := by rw [← lists_len, hcc0, h1c]; rfl
      refine ⟨fun h => absurd hcc1 h, fun _ => ⟨⟨by omega, by omega, by rw [upd_len]; exact hdl, fun j => ?_⟩, by omega⟩⟩
      have hfst : ci.getD 0 (-1) = ci.getD 0 0 := by
        rw [List.getD_eq_getElem?_getD, List.getD_eq_getElem?_getD, List.getElem?_eq_getElem (show 0 < ci.length by omega)]; rfl
      show bl (updRow dr (ci.getD 0 0).toNat 0 [C.b true]) j = _
      rw [bl_upd (by omega), hdr, show (n + 1).toNat = n.toNat + 1 by omega, first_take (by omega), hci, hfst]
      by_cases hj : j = (ci.getD 0 0).toNat
      · rw [if_pos hj, show (ci.getD 0 0 == (j : Int)) = true by rw [beq_iff_eq]; omega, Bool.or_true]
      · rw [if_neg hj, show (ci.getD 0 0 == (j : Int)) = false by rw [beq_eq_false_iff_ne]; omega, Bool.or_false]
  refine ⟨⟨by omega, by omega, by omega, by omega, by omega⟩, ?_⟩
  rintro bs _ _ y1 s1 _ _ _ y2 s2 _ _ _ y3 s3 _ _ _ y4 s4 _ _ _ gls _ _ ghs _ _ y7 s7 _ _ _ ⟨⟨rfl, rfl, rfl⟩, hrows⟩
  obtain rfl : s1 = q1 := hrows 1 (by decide)
  obtain rfl : s2 = q2 := hrows 2 (by decide)
  obtain rfl : s3 = q3 := hrows 3 (by decide)
  obtain rfl : s4 = q4 := hrows 4 (by decide)
  rw [List.take_of_length_le (by omega)] at hdr
  unfold tlneeded_8
  simp (maxSteps := 10000000) only [VC, allC, List.map_cons, List.map_nil, List.length_cons, List.length_nil, List.getElem?_cons_zero, List.getElem?_cons_succ, List.cons.injEq, C.i.injEq, C.b.injEq, and_true, true_and, forall_const, kindsOf_nil, kindsOf_lf, kindsOf_agg, kindsOf_box, boxKinds_nil, boxKinds_lf, boxKinds_agg, boxKinds_box, List.append_nil, List.cons_append, List.nil_append, den_cmp_le, den_cmp_lt, den_cmp_eq, den_cmp_ne, den_cmp_le', den_cmp_lt', den_cmp_eq', den_cmp_ne', den_and, den_and', den_or, den_or', den_not, den_not', den_blit, den_of, ev_var, at_0, at_1, at_2, at_3, at_4, at_5, at_6, at_7, at_skip, c_int, c_bool, c_arr, c_cnt, c_vec, ev_nil, ev_join, ev_sub3, loc_s, int_i, bool_b, rows_s, cs_nil, cs_cons, E.den_lit, E.den_var, E.den_add, E.den_sub, E.den_mul, E.den_quo, E.den_rem, E.den_max, E.den_min, E.den_len, E.den_wr, E.den_cell, ev_cell, h4, ctConflicts, earthSh, earthKs, n_, k_, earOf, rp0, rp1, rp2, hRR, bl_at, hdr]
  have hleft : leftOf ((knownV g).only R) = (knownV g).only (((List.range R.length).filter fun j => !firstV Cs j).map fun j => R.getD j rep0) := by
    unfold leftOf keptOf
    rw [hCs]; rfl
  have hkl : ∀ j : Nat, (((List.range j).filter fun j => !firstV Cs j).map fun j => R.getD j rep0).length ≤ j := fun j => by
    rw [List.length_map]
    refine Nat.le_trans (List.length_filter_le _ _) ?_
    rw [List.length_range]; exact Nat.le_refl _
  refine ⟨fun xs => match xs with | [.i j, .i bt, .s _ a1, .s _ a2, .s _ a3, .s _ a4, .i gl, .i gh, .s _ rr] => 0 ≤ j ∧ j ≤ R.length ∧ repsOf rr = ((List.range j.toNat).filter fun i => !firstV Cs i).map (fun i => R.getD i rep0) ∧ (⟨bt, knots a1, knots a2, knots a3, knots a4, gl, gh, []⟩ : Ear) = (knownV g).only [] | _ => False, fun xs => match xs with | [.i j, _, _, _, _, _, _, _, _] => ((R.length : Int) - j).toNat | _ => 0, ⟨by omega, by omega, rfl, hA []⟩, ?_⟩
  rintro j _ _ bt3 _ _ z1 t1 _ _ _ z2 t2 _ _ _ z3 t3 _ _ _ z4 t4 _ _ _ gl3 _ _ gh3 _ _ z7 t7 _ _ _ ⟨j0, j1, hrr, hE3⟩
  have hA3 : ∀ L : List Rep, (⟨bt3, knots t1, knots t2, knots t3, knots t4, gl3, gh3, L⟩ : Ear) = (knownV g).only L := fun L => congrArg (fun e : Ear => { e with reps := L }) hE3
  have t7l : t7.length ≤ 24 := by
    have h1 : (repsOf t7).length = t7.length := by simp [repsOf]
    have h2 := hkl j.toNat
    rw [← hrr] at h2
    omega
  have hkt := kept_take (fun i => !firstV Cs i) R j.toNat
  refine ⟨fun hlt3 => ⟨j0, hlt3, fun hf => ⟨by omega, by omega, fun v => ⟨⟨by omega, by omega, ?_, hE3⟩, ?_⟩⟩, fun hf => ⟨⟨by omega, by omega, ?_, hE3⟩, ?_⟩⟩, fun hge3 => ?_⟩
  · rw [reps_snoc, hrr, show (j + 1).toNat = j.toNat + 1 by omega, hkt, if_pos (by rw [hf]; rfl)]; rfl
  · show ((R.length : Int) - (j + 1)).toNat < ((R.length : Int) - j).toNat
    omega
  · rw [hrr, show (j + 1).toNat = j.toNat + 1 by omega, hkt, if_neg (by rw [hf]; exact Bool.false_ne_true), List.append_nil]
  · show ((R.length : Int) - (j + 1)).toNat < ((R.length : Int) - j).toNat
    omega
  have hfin : (⟨bt3, knots t1, knots t2, knots t3, knots t4, gl3, gh3, repsOf t7⟩ : Ear) = leftOf ((knownV g).only R) := by
    rw [hA3, hrr, hleft, show j.toNat = R.length by omega]
  have hLV := left_valid hV
  have hLB : (leftOf ((knownV g).only R)).bottom = (knownV g).bottom := rfl
  rintro v5 cc _ _ _ ⟨_, _, e, hcc⟩
  cases e
  rw [hfin, left_calm hV hCalm] at hcc
  have hcc0 : (cc.length : Int) = 0 := by rw [← lists_len, hcc]; rfl
  unfold tlneeded_7
  simp (maxSteps := 10000000) only [VC, allC, List.map_cons, List.map_nil, List.length_cons, List.length_nil, List.getElem?_cons_zero, List.getElem?_cons_succ, List.cons.injEq, C.i.injEq, C.b.injEq, and_true, true_and, forall_const, kindsOf_nil, kindsOf_lf, kindsOf_agg, kindsOf_box, boxKinds_nil, boxKinds_lf, boxKinds_agg, boxKinds_box, List.append_nil, List.cons_append, List.nil_append, den_cmp_le, den_cmp_lt, den_cmp_eq, den_cmp_ne, den_cmp_le', den_cmp_lt', den_cmp_eq', den_cmp_ne', den_and, den_and', den_or, den_or', den_not, den_not', den_blit, den_of, ev_var, at_0, at_1, at_2, at_3, at_4, at_5, at_6, at_7, at_skip, c_int, c_bool, c_arr, c_cnt, c_vec, ev_nil, ev_join, ev_sub3, loc_s, int_i, bool_b, rows_s, cs_nil, cs_cons, E.den_lit, E.den_var, E.den_add, E.den_sub, E.den_mul, E.den_quo, E.den_rem, E.den_max, E.den_min, E.den_len, E.den_wr, E.den_cell, ev_cell, h6, ctDepths, earthSh, earthKs, n_, k_, earOf, hfin]
  refine ⟨fun h => absurd hcc0 h, fun _ => ?_⟩
  rintro v6 dd _ _ _ ⟨_, _, e, hdd⟩
  cases e
  have hdd2 : ints dd = depthsV (leftOf ((knownV g).only R)) := by
    rw [hdd]
    unfold depthsE
    rw [if_pos (valid_iff.2 hLV)]
  have hDl : (dd.length : Int) = ((ints dd).length : Int) := by rw [ints_len]
  have hD2 := depths_two hLV
  have hDin : ∀ k : Nat, k < (depthsV (leftOf ((knownV g).only R))).length → 0 ≤ (depthsV (leftOf ((knownV g).only R))).getD k 0 ∧ (depthsV (leftOf ((knownV g).only R))).getD k 0 ≤ (leftOf ((knownV g).only R)).bottom := fun k hk => depths_in hLV (getD_mem hk 0)
  unfold tlneeded_6
  simp (maxSteps := 10000000) only [VC, allC, List.map_cons, List.map_nil, List.length_cons, List.length_nil, List.getElem?_cons_zero, List.getElem?_cons_succ, List.cons.injEq, C.i.injEq, C.b.injEq, and_true, true_and, forall_const, kindsOf_nil, kindsOf_lf, kindsOf_agg, kindsOf_box, boxKinds_nil, boxKinds_lf, boxKinds_agg, boxKinds_box, List.append_nil, List.cons_append, List.nil_append, den_cmp_le, den_cmp_lt, den_cmp_eq, den_cmp_ne, den_cmp_le', den_cmp_lt', den_cmp_eq', den_cmp_ne', den_and, den_and', den_or, den_or', den_not, den_not', den_blit, den_of, ev_var, at_0, at_1, at_2, at_3, at_4, at_5, at_6, at_7, at_skip, c_int, c_bool, c_arr, c_cnt, c_vec, ev_nil, ev_join, ev_sub3, loc_s, int_i, bool_b, rows_s, cs_nil, cs_cons, E.den_lit, E.den_var, E.den_add, E.den_sub, E.den_mul, E.den_quo, E.den_rem, E.den_max, E.den_min, E.den_len, E.den_wr, E.den_cell, ev_cell, h7, h9, ctRange, ctAwake, ctF, rangeSh, ofKn, earthSh, earthKs, n_, k_, earOf, hfin, in1, hdd2]
  rw [hDl, hdd2]
  generalize depthsV (leftOf ((knownV g).only R)) = D at *
  refine ⟨fun xs => match xs with | [.b _, .i k] => 0 ≤ k ∧ k ≤ D.length | _ => False, fun xs => match xs with | [.b _, .i k] => ((D.length : Int) - k).toNat | _ => 0, ⟨by omega, by omega⟩, ?_⟩
  rintro t9 k _ _ ⟨k0, k1⟩
  refine ⟨fun hlt4 => ⟨k0, hlt4, ?_⟩, fun hge4 => ⟨fun _ _ h => h, fun h => (by exfalso; omega)⟩⟩
  obtain ⟨y0, y1⟩ := hDin k.toNat (by omega)
  have hok : okE (leftOf ((knownV g).only R)) (D.getD k.toNat 0) = true := okE_iff.2 ⟨valid_iff.2 hLV, y0, y1⟩
  have hbad := left_quiet hV hCalm y0 y1
  unfold badAt at hbad
  rw [Bool.or_eq_false_iff] at hbad
  have hb1 := of_decide_eq_false hbad.1
  have hb2 := of_decide_eq_false hbad.2
  have hP : poreV (leftOf ((knownV g).only R)) (D.getD k.toNat 0) = (plV (leftOf ((knownV g).only R)) (D.getD k.toNat 0), phV (leftOf ((knownV g).only R)) (D.getD k.toNat 0)) := by unfold poreV; rw [if_pos hok]
  have hF : fracV (leftOf ((knownV g).only R)) (D.getD k.toNat 0) = (flV (leftOf ((knownV g).only R)) (D.getD k.toNat 0), fhV (leftOf ((knownV g).only R)) (D.getD k.toNat 0)) := by unfold fracV; rw [if_pos hok]
  rw [hP]
  rintro p1 _ _ p2 _ _ ⟨ep1, ep2⟩
  have ep1 : p1 = plV (leftOf ((knownV g).only R)) (D.getD k.toNat 0) := ep1
  have ep2 : p2 = phV (leftOf ((knownV g).only R)) (D.getD k.toNat 0) := ep2
  unfold tlneeded_5
  simp (maxSteps := 10000000) only [VC, allC, List.map_cons, List.map_nil, List.length_cons, List.length_nil, List.getElem?_cons_zero, List.getElem?_cons_succ, List.cons.injEq, C.i.injEq, C.b.injEq, and_true, true_and, forall_const, kindsOf_nil, kindsOf_lf, kindsOf_agg, kindsOf_box, boxKinds_nil, boxKinds_lf, boxKinds_agg, boxKinds_box, List.append_nil, List.cons_append, List.nil_append, den_cmp_le, den_cmp_lt, den_cmp_eq, den_cmp_ne, den_cmp_le', den_cmp_lt', den_cmp_eq', den_cmp_ne', den_and, den_and', den_or, den_or', den_not, den_not', den_blit, den_of, ev_var, at_0, at_1, at_2, at_3, at_4, at_5, at_6, at_7, at_skip, c_int, c_bool, c_arr, c_cnt, c_vec, ev_nil, ev_join, ev_sub3, loc_s, int_i, bool_b, rows_s, cs_nil, cs_cons, E.den_lit, E.den_var, E.den_add, E.den_sub, E.den_mul, E.den_quo, E.den_rem, E.den_max, E.den_min, E.den_len, E.den_wr, E.den_cell, ev_cell, h8, ctRange, ctF, rangeSh, ofKn, earthSh, earthKs, n_, k_, earOf, hfin, in1, hdd2]
  rw [hF]
  refine ⟨by rw [hDl, hdd2]; exact hlt4, ?_⟩
  rintro m1 _ _ m2 _ _ ⟨em1, em2⟩
  have em1 : m1 = flV (leftOf ((knownV g).only R)) (D.getD k.toNat 0) := em1
  have em2 : m2 = fhV (leftOf ((knownV g).only R)) (D.getD k.toNat 0) := em2
  unfold tlneeded_4
  simp (maxSteps := 10000000) only [VC, allC, List.map_cons, List.map_nil, List.length_cons, List.length_nil, List.getElem?_cons_zero, List.getElem?_cons_succ, List.cons.injEq, C.i.injEq, C.b.injEq, and_true, true_and, forall_const, kindsOf_nil, kindsOf_lf, kindsOf_agg, kindsOf_box, boxKinds_nil, boxKinds_lf, boxKinds_agg, boxKinds_box, List.append_nil, List.cons_append, List.nil_append, den_cmp_le, den_cmp_lt, den_cmp_eq, den_cmp_ne, den_cmp_le', den_cmp_lt', den_cmp_eq', den_cmp_ne', den_and, den_and', den_or, den_or', den_not, den_not', den_blit, den_of, ev_var, at_0, at_1, at_2, at_3, at_4, at_5, at_6, at_7, at_skip, c_int, c_bool, c_arr, c_cnt, c_vec, ev_nil, ev_join, ev_sub3, loc_s, int_i, bool_b, rows_s, cs_nil, cs_cons, E.den_lit, E.den_var, E.den_add, E.den_sub, E.den_mul, E.den_quo, E.den_rem, E.den_max, E.den_min, E.den_len, E.den_wr, E.den_cell, ev_cell]
  exact ⟨fun h => (by exfalso; omega), fun _ => ⟨fun h => (by exfalso; omega), fun _ => ⟨⟨by omega, by omega⟩, (show ((D.length : Int) - (k + 1)).toNat < ((D.length : Int) - k).toNat by omega)⟩⟩⟩
end Go.Proofs.Ytcglpbchejkolaa
/- Arguments of any shape that the engine knows, opened: structs, and slices within slices. -/
namespace Go.Proofs.Ytcglpbchejkolaa
open Go.ChangeShapes Go.WideShapes Go.RowKit
set_option linter.unusedVariables false
/-- A type of integers, truth values and slices, without arrays. -/
def flatB (P : Program) : Nat → TypeId → Bool
  | 0, _ => false
  | d + 1, t => match P.underlying t with
    | some (.int .i64) => true
    | some .bool => true
    | some (.slice _) => true
    | some (.struct fs) => fs.toList.all fun f => flatB P d f.type
    | _ => false
/-- What a slice of this kind holds is known, to depth n. -/
def deepB (P : Program) : Nat → Lk → Bool
  | _, .int => true
  | _, .bool => true
  | n + 1, .arr e => match kinds P e with
    | some ks => ks.all (deepB P n) && (P.cellsOf e == ks.length) && flatB P 6 e
    | none => false
  | _, _ => false
def CellN (P : Program) (w : World) (n : Nat) (k : Lk) (u : Value) (c : C) : Prop := (∀ m, c.small m) ∧ match k with
  | .int => ∃ n, u = .int .i64 n ∧ c = .i n
  | .bool => ∃ t, u = .bool t ∧ c = .b t
  | .arr t => ∃ rows', c = .s u rows' ∧ ArrN P (fun b _ => b < w.heap.size) w n t u rows'
  | .vec _ => False
def kStep (P : Program) (d : Nat) (acc : Option (List Lk)) (f : Field) : Option (List Lk) := match acc, kindsF P d f.type with
  | some l, some m => if l.length = f.offset then some (l ++ m) else none
  | _, _ => none
theorem kStep_none {P : Program} {d : Nat} : ∀ {fs : List Field}, fs.foldl (kStep P d) none = none
  | [] => rfl
  | f :: fs => by rw [List.foldl_cons]; exact kStep_none
theorem kStep_at {P : Program} {d : Nat} : ∀ {fs : List Field} {a ks : List Lk}, fs.foldl (kStep P d) (some a) = some ks → ∀ (j : Nat) (k : Lk), ks[j]? = some k →
    a[j]? = some k ∨ ∃ f ∈ fs, ∃ m, kindsF P d f.type = some m ∧ f.offset ≤ j ∧ m[j - f.offset]? = some k
  | [], a, ks, h, j, k, hj => by cases h; exact .inl hj
  | f :: fs, a, ks, h, j, k, hj => by
    rw [List.foldl_cons] at h
    cases hm : kindsF P d f.type with
    | none => rw [show kStep P d (some a) f = none by simp [kStep, hm], kStep_none] at h; cases h
    | some m =>
      by_cases hl : a.length = f.offset
      · rw [show kStep P d (some a) f = some (a ++ m) by simp [kStep, hm, hl]] at h
        rcases kStep_at h j k hj with h1 | ⟨g, hg, m', h2⟩
        · by_cases hja : j < a.length
          · rw [List.getElem?_append_left hja] at h1; exact .inl h1
          · rw [List.getElem?_append_right (by omega), hl] at h1
            exact .inr ⟨f, List.mem_cons_self .., m, hm, by omega, h1⟩
        · exact .inr ⟨g, List.mem_cons_of_mem _ hg, m', h2⟩
      · rw [show kStep P d (some a) f = none by simp [kStep, hm, hl], kStep_none] at h; cases h
theorem kinds_F {P : Program} {t : TypeId} {ks : List Lk} (h : kinds P t = some ks) : kindsF P 6 t = some ks := by
  unfold kinds at h
  split at h
  · rename_i l hl
    split at h
    · cases h; exact hl
    · cases h
  · cases h
section
variable {H : Type} {enc : TypeId × Value → H} {P : Program} {w : World} {base : Nat} {spare : Nat → Bool} {held : Bool}
theorem small_int {n : Int} (h : -9223372036854775808 ≤ n ∧ n ≤ 9223372036854775807) : ∀ m, (C.i n).small m := fun m => by cases m <;> exact h
theorem cells_deep : ∀ (fuel n d : Nat) (t : TypeId) (ks : List Lk) (cs : List Value) (x : DataW H × List MemPlace), kindsF P d t = some ks → flatB P d t = true →
    DataW.trod enc P w base spare held fuel t cs = some x → ∀ (j : Nat) (k : Lk), ks[j]? = some k → deepB P n k = true → ∃ u c, cs[j]? = some u ∧ CellN P w n k u c := by
  intro fuel
  induction fuel with
  | zero => intro n d t ks cs x _ _ hx; simp [DataW.trod] at hx
  | succ fuel ih =>
    intro n d t ks cs x hk hfl hx j k hj hall
    cases d with
    | zero => simp [kindsF] at hk
    | succ d =>
      unfold flatB at hfl
      cases hu : P.underlying t with
      | none => rw [hu] at hfl; cases hfl
      | some ty =>
      rw [hu] at hfl
      unfold kindsF at hk
      rw [hu] at hk
      match ty, hu, hfl, hk with
      | .int .i64, hu, hfl, hk =>
        cases hk
        obtain ⟨z, rfl, -, hwf⟩ := DataW.trod_int hu hx
        match j, hj with
        | 0, hj => cases hj; exact ⟨_, .i z, rfl, small_int (wf_bd hwf), z, rfl, rfl⟩
      | .bool, hu, hfl, hk =>
        cases hk
        obtain ⟨z, rfl, -⟩ := DataW.trod_bool hu hx
        match j, hj with
        | 0, hj => cases hj; exact ⟨_, .b z, rfl, fun m => by cases m <;> trivial, z, rfl, rfl⟩
      | .slice e, hu, hfl, hk =>
        cases hk
        match j, hj with
        | 0, hj =>
        cases hj
        cases n with
        | zero => simp [deepB] at hall
        | succ n =>
        have hd : deepB P (n + 1) (.arr e) = true := hall
        unfold deepB at hd
        cases hke : kinds P e with
        | none => rw [hke] at hd; cases hd
        | some kse =>
        rw [hke] at hd
        simp only [Bool.and_eq_true, beq_iff_eq] at hd
        obtain ⟨⟨hd1, hd2⟩, hd3⟩ := hd
        rcases DataW.trod_slice hu hx with ⟨rfl, -⟩ | ⟨a, len, cap, elems, rest, m, hm, rfl, -, -, hl, hc, hlen, hel, -, -⟩
        · refine ⟨_, .s (.slice none 0 0) [], rfl, fun m => ?_, [], rfl, kse, hke, none, 0, rfl, fun h => absurd rfl h⟩
          cases m with
          | zero => trivial
          | succ m => exact ⟨by simp, fun r hr => by cases hr⟩
        · cases hm
          have each : ∀ i, i < len → ∀ (j : Nat) (k : Lk), kse[j]? = some k → ∃ u c, w.cell? (a.add (i * kse.length + j)) = some u ∧ CellN P w n k u c := by
            intro i hi j k hj
            have h1 := hel i hi
            rw [List.getElem?_eq_getElem (by omega), hd2] at h1
            obtain ⟨cs', h2, h3⟩ := Option.bind_eq_some_iff.1 h1
            obtain ⟨_, hlen', hcell⟩ := World.cells?_some h2
            obtain ⟨u, c, h4, h5⟩ := ih n 6 e kse cs' _ (kinds_F hke) hd3 h3 j k hj (List.all_eq_true.1 hd1 k (List.mem_of_getElem? hj))
            refine ⟨u, c, ?_, h5⟩
            have hjl : j < kse.length := by
              rcases Nat.lt_or_ge j kse.length with h | h
              · exact h
              · rw [List.getElem?_eq_none h] at hj; cases hj
            rw [← h4, ← hcell j hjl, Go.Deep.add_add]
          have each2 : ∀ i j, ∃ c : C, i < len → ∀ k, kse[j]? = some k → ∃ u, w.cell? (a.add (i * kse.length + j)) = some u ∧ CellN P w n k u c := by
            intro i j
            by_cases hi : i < len
            · cases hj : kse[j]? with
              | none => exact ⟨.i 0, fun _ k h => by cases h⟩
              | some k =>
                obtain ⟨u, c, h1, h2⟩ := each i hi j k hj
                exact ⟨c, fun _ k' h => by cases h; exact ⟨u, h1, h2⟩⟩
            · exact ⟨.i 0, fun h => absurd h hi⟩
          let f : Nat → Nat → C := fun i j => (each2 i j).choose
          have hf : ∀ i j, i < len → ∀ k, kse[j]? = some k → ∃ u, w.cell? (a.add (i * kse.length + j)) = some u ∧ CellN P w n k u (f i j) := fun i j => (each2 i j).choose_spec
          let rows : List (List C) := (List.range len).map fun i => (List.range kse.length).map fun j => f i j
          have hrl : rows.length = len := by simp [rows]
          refine ⟨_, .s (.slice (some a) len cap) rows, rfl, fun q => ?_, rows, rfl, kse, hke, some a, cap, by rw [hrl], fun hne => ?_⟩
          · cases q with
            | zero => trivial
            | succ q =>
              refine ⟨by rw [hrl]; unfold maxLen at hc; omega, fun r hr c hcr => ?_⟩
              obtain ⟨i, hi, rfl⟩ := List.mem_map.1 hr
              obtain ⟨j, hj, rfl⟩ := List.mem_map.1 hcr
              rw [List.mem_range] at hi hj
              obtain ⟨u, -, h⟩ := hf i j hi _ (List.getElem?_eq_getElem hj)
              exact h.1 q
          · have hpos : 0 < len := by
              rcases Nat.eq_zero_or_pos len with h | h
              · exact absurd (List.eq_nil_of_length_eq_zero (by rw [hrl]; exact h)) hne
              · exact h
            have hk0 : 0 < kse.length := Nat.pos_of_ne_zero (kinds_size hke).2
            obtain ⟨u0, h0, -⟩ := hf 0 0 hpos _ (List.getElem?_eq_getElem hk0)
            obtain ⟨b, o, s⟩ := a
            have hs : s = none := by simpa [Addr.add] using World.cell?_spot h0
            subst hs
            have hblk : b < w.heap.size := by
              have := World.block_lt_of_cell? _ _ h0
              simpa [Addr.add] using this
            refine ⟨b, o, rfl, by rw [hrl]; exact hl, fun i r hi => ?_⟩
            have hi' : i < len := by
              rcases Nat.lt_or_ge i len with h | h
              · exact h
              · rw [List.getElem?_eq_none (by rw [hrl]; exact h)] at hi; cases hi
            have hr : r = (List.range kse.length).map fun j => f i j := by
              simp only [rows, List.getElem?_map, List.getElem?_range hi', Option.map_some] at hi
              exact (Option.some.inj hi).symm
            subst hr
            refine ⟨by simp, fun j k hj => ⟨hblk, ?_⟩⟩
            have hjl : j < kse.length := by
              rcases Nat.lt_or_ge j kse.length with h | h
              · exact h
              · rw [List.getElem?_eq_none h] at hj; cases hj
            obtain ⟨u, h1, h2⟩ := hf i j hi' k hj
            refine ⟨u, f i j, by rw [← Go.WideShapes.add_plain]; exact h1, by simp [List.getElem?_range hjl], ?_⟩
            exact h2.2
      | .struct fs, hu, hfl, hk =>
        obtain ⟨xs, m, hm, -, -, hxl, hf⟩ := DataW.trod_struct hu hx
        cases hm
        have hk' : fs.toList.foldl (kStep P d) (some []) = some ks := hk
        rcases kStep_at hk' j k hj with h | ⟨f, hfm, m', hm', ho, hmj⟩
        · simp at h
        · obtain ⟨i, hi⟩ := List.mem_iff_getElem?.1 hfm
          have hi' : fs[i]? = some f := by rw [← hi]; simp
          have hil : i < xs.length := by
            rw [hxl]
            rcases Nat.lt_or_ge i fs.size with h | h
            · exact h
            · rw [Array.getElem?_eq_none h] at hi'; cases hi'
          have hg := hf i f hi'
          rw [List.getElem?_eq_getElem hil] at hg
          obtain ⟨u, c, h1, h2⟩ := ih n d f.type m' _ _ hm' (List.all_eq_true.1 hfl f hfm) hg (j - f.offset) k hmj hall
          refine ⟨u, c, ?_, h2⟩
          rw [List.getElem?_take] at h1
          split at h1
          · rw [List.getElem?_drop] at h1
            rw [← h1]; congr 1; omega
          · cases h1
theorem CellN.rep {n : Nat} {k : Lk} {u : Value} {c : C} (h : CellN P w n k u c) : LRep P w (fun _ _ => False) k u c := by
  refine ⟨h.1, ?_⟩
  cases k with
  | int => exact h.2
  | bool => exact h.2
  | arr t =>
    obtain ⟨rows, rfl, hA⟩ := h.2
    exact ⟨rfl, u, rows, rfl, n, _, fun b o hb => ⟨hb, fun h => h⟩, hA⟩
  | vec t => exact h.2.elim
theorem lreps_of : ∀ {ks : List Lk} {us : List Value} {n : Nat}, us.length = ks.length → (∀ (j : Nat) (k : Lk), ks[j]? = some k → ∃ u c, us[j]? = some u ∧ CellN P w n k u c) → ∃ rs, LReps P w (fun _ _ => False) ks us rs
  | [], [], _, _, _ => ⟨[], trivial⟩
  | k :: ks, u :: us, n, hl, h => by
    obtain ⟨u', c, hu, hc⟩ := h 0 k rfl
    cases hu
    obtain ⟨rs, hr⟩ := lreps_of (ks := ks) (us := us) (n := n) (by simpa using hl) fun j k hj => h (j + 1) k hj
    exact ⟨c :: rs, hc.rep, hr⟩
  | [], _ :: _, _, hl, _ => by simp at hl
  | _ :: _, [], _, hl, _ => by simp at hl
/-- A struct of integers, truth values and slices among the arguments. -/
theorem open_agg {r : Reach} {b0 n : Nat} {t : TypeId} {fs : Array Field} {v : Value} {d : DataW H} {p : List MemPlace} {ks : List Lk} (hu : P.underlying t = some (.struct fs)) (hk : kindsF P 6 t = some ks) (hfl : flatB P 6 t = true)
    (hd : ks.all (deepB P n) = true) (hc : P.cellsOf t = ks.length) (hv : Value.okWide P w r b0 t v) (hx : DataW.Trod enc P w base spare held t v d p) :
    ∃ us : List Value, v = .agg us.toArray ∧ ∃ rs, LReps P w (fun _ _ => False) ks us rs := by
  obtain ⟨cs, rfl, hsz⟩ := okWide_struct hu hv
  obtain ⟨fuel, hf⟩ := hx
  have hf : DataW.trod enc P w base spare held fuel t cs.toList = some (d, p) := hf
  obtain ⟨-, -, -, -, hlen, -, -⟩ := DataW.trod_struct hu hf
  exact ⟨cs.toList, by simp, lreps_of (n := n) (hlen.trans hc) fun j k hj => cells_deep fuel n 6 t ks _ _ hk hfl hf j k hj (List.all_eq_true.1 hd k (List.mem_of_getElem? hj))⟩
/-- A slice among the arguments. -/
theorem open_arr {r : Reach} {b0 n : Nat} {t e : TypeId} {v : Value} {d : DataW H} {p : List MemPlace} (hu : P.underlying t = some (.slice e)) (hd : deepB P n (.arr e) = true)
    (hv : Value.okWide P w r b0 t v) (hx : DataW.Trod enc P w base spare held t v d p) :
    ∃ c, LRep P w (fun _ _ => False) (.arr e) v c := by
  obtain ⟨A, m, c, rfl⟩ := okWide_slice hu hv
  obtain ⟨fuel, hf⟩ := hx
  have hf : DataW.trod enc P w base spare held fuel t [.slice A m c] = some (d, p) := hf
  obtain ⟨u, q, h1, h2⟩ := cells_deep fuel n 6 t [.arr e] _ _ (by unfold kindsF; rw [hu]) (by unfold flatB; rw [hu]) hf 0 (.arr e) rfl hd
  cases h1
  exact ⟨q, h2.rep⟩
end
theorem rep_struct {W : World} {O : Nat → Nat → Prop} {ss : List Sh0} {vs : List Value} {cs rs : List C} {us : List Value} {ks : List Lk} {old : Option Nat} (h : LReps Try.prog W O ks us rs) (hr : Reps Try.prog W O old ss vs cs) :
    Reps Try.prog W O old (.agg ks :: ss) (.agg us.toArray :: vs) (rs ++ cs) :=
  ⟨rs, _, rfl, ⟨us, rfl, h⟩, hr⟩
theorem rep_one {W : World} {O : Nat → Nat → Prop} {ss : List Sh0} {vs : List Value} {cs : List C} {t : TypeId} {v : Value} {c : C} {old : Option Nat} (h : LRep Try.prog W O (.arr t) v c) (hr : Reps Try.prog W O old ss vs cs) :
    Reps Try.prog W O old (.lf (.arr t) :: ss) (v :: vs) (c :: cs) :=
  ⟨[_], _, rfl, ⟨_, rfl, h⟩, hr⟩
end Go.Proofs.Ytcglpbchejkolaa
/- The call of EarthNeeded. -/
namespace Go.Proofs.Ytcglpbchejkolaa
open Go.RowKit
theorem walk_EarthNeeded (V0 : Value) (V1 : Value) (W : World) (h0 : ∃ us : List Value, V0 = .agg us.toArray ∧ ∃ rs, LReps Try.prog W (fun _ _ => False) [.int, .arr 2, .arr 2, .arr 2] us rs) (h1 : ∃ c, LRep Try.prog W (fun _ _ => False) (.arr 57) V1 c) :
    Calls Try.prog 13 #[V0, V1] W fun e w' => e = .returned (.bool true) ∧ Below W.heap.size W w' := by
  obtain ⟨us0, rfl, rs0, h0⟩ := h0
  obtain ⟨c1, h1⟩ := h1
  exact law_walk lneeded_ok rfl (rep_struct h0 (rep_one h1 rfl))
end Go.Proofs.Ytcglpbchejkolaa
namespace Go.Proofs.Ytcglpbchejkolaa.lawEarthNeeded
open Go.ChangeShapes Go.WideShapes Go.ChangeAt Go.RowKit
set_option linter.unusedVariables false

set_option maxRecDepth 100000 in
theorem lifted (os : Os) (started : os.Started) (H : Type) (enc : TypeId × Value → H) :
    ReturnsInHanded {} Try.checked os 13 .any (Rows.earthNeededSpec.pre6 enc Try.prog Try.f13 Rows.earthNeededRow.domain false) (Rows.earthNeededSpec.post enc Try.prog Try.f13 false true false false) := by
  refine returnsInHanded_of_change (C := Try.checked) own started (by kernel_rfl) Try.func13
    (ChangeSpec.witness6 (enc := enc) (C := Try.checked) false ⟨#[], #[.agg #[.int .i64 0, .slice none 0 0, .slice none 0 0, .slice none 0 0], .slice none 0 0], []⟩ 8 (by kernel_rfl) (by kernel_rfl) (by kernel_rfl) (by kernel_rfl)) ?_
  intro W base args ds gs before hval0 hW hcnd _
  have hval : ∀ (j : Nat) t v, Try.f13.params[j]? = some t → args[j]? = some v → Value.okWide Try.prog W .any base t v := hval0
  have hW' := hW
  obtain ⟨p, q, hA0, hV, rfl, hfz, hnd⟩ := hW
  have hA : DataW.TrodAll enc Try.prog W 0 (fun _ => true) true Try.f13.params.toList args.toList ds p := hA0
  rw [Try.params13] at hA hval
  obtain ⟨v0, vs0, d0, ds0, p0, q0, hargs, rfl, rfl, h0, r0⟩ := trodAll_cons hA
  obtain ⟨v1, vs1, d1, ds1, p1, q1, rfl, rfl, rfl, h1, r1⟩ := trodAll_cons r0
  obtain ⟨rfl, rfl, rfl⟩ := trodAll_nil r1
  obtain rfl : args = #[v0, v1] := by cases args; simp_all
  obtain ⟨rfl, rfl⟩ := trodVars_none hV
  have k0 := h0
  have lt0 : ∀ x ∈ p0, x.block < W.heap.size := by obtain ⟨m, hm⟩ := k0; exact DataW.trod_lt m _ _ _ hm
  obtain ⟨us0, e0, b0⟩ := open_agg (n := 4) (ks := [.int, .arr 2, .arr 2, .arr 2]) Try.underlying32 (by kernel_rfl) (by kernel_rfl) (by kernel_rfl) (by kernel_rfl) (hval 0 32 v0 rfl rfl) h0
  have k1 := h1
  have lt1 : ∀ x ∈ p1, x.block < W.heap.size := by obtain ⟨m, hm⟩ := k1; exact DataW.trod_lt m _ _ _ hm
  have b1 := open_arr (n := 4) Try.underlying33 (by kernel_rfl) (hval 1 33 v1 rfl rfl) h1
  clear hA0 hval0
  refine (walk_EarthNeeded v0 v1 W ⟨us0, e0, b0⟩ b1).mono fun e W' ⟨he, bel⟩ => ?_
  subst he
  exact ⟨_, rfl, _, _, _, [], _, [], hW', trodAll_mk1 (shut_bool Try.underlying4 _), (trodAll_cons_mk (Below.trod laidOut (by kernel_rfl) (of_decide_eq_true (by kernel_rfl)) k0 bel lt0) (trodAll_cons_mk (Below.trod laidOut (by kernel_rfl) (of_decide_eq_true (by kernel_rfl)) k1 bel lt1) trodAll_mk0)), rfl, bel.frame _, fun h => by cases h⟩

theorem over : Rows.earthNeededRow.holds Try.pinned (OpenSpec.ofChange Rows.earthNeededSpec) :=
  OpenClaim.holds_of_wide 13 Try.f13 rfl rfl rfl rfl rfl rfl rfl ⟨rfl, rfl, rfl, rfl, rfl⟩ rfl rfl rfl rfl rfl (by kernel_rfl) Try.func13 (by kernel_rfl)
    (of_decide_eq_true (by kernel_rfl)) (by unfold Func.isWrapper; first | (rw [if_pos (by decide +kernel)]; kernel_rfl) | (rw [if_neg (by decide +kernel)]; exact ⟨rfl, rfl⟩))
    (fun os started H enc _ => lifted os started H enc)

theorem proved : Rows.EarthNeededSaid := over
#print axioms proved
end Go.Proofs.Ytcglpbchejkolaa.lawEarthNeeded
