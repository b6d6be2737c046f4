/- Texts laid into one: XD8 X10 XD9 XDA XDB XN XR XDD S A C B D E F T N G H XA WLater. -/
import Derived.Test.YtlbgcjpkegpmlaaLater8
import Derived.Below
import Derived.Test.YtlbgcjpkegpmlaaProg
import Derived.WalkKit
import Derived.WalkLawsBesides
import Derived.Lib.Hide
import Derived.Deep.QuietTactic
import Derived.BigQuiet
import Derived.Handy
import Derived.Deep.LoopGhost
import Derived.Deep.RegionHeld3
import Derived.Deep.OwnRows
import Derived.KernelRfl
/- kick.Watch: its states; the sensors' alarms by kick. -/
namespace Go.Proofs.Ytlbgcjpkegpmlaa
open Go.RowKit
set_option linter.unusedSimpArgs false
set_option linter.unusedVariables false

def watSt1 : St := { sl := [(0, some (.one (.lf (.arr 23 (.var 0))))), (1, some (.one (.lf (.arr 40 (.var 1))))), (4, some (.one (.lf (.ptr 0 0)))), (9, some (.one (.lf (.ptr 1 0)))), (10, some (.one (.lf (.bool (.lit false)))))], mem := [(1, some (81, [.int (.lit 0), .int (.lit 0)])), (0, some (81, [.int (.lit 0), .int (.lit 0)]))], nt := 74, nb := 2, nx := 2, lvl := 1, bds := [] }
def watStI : St := { sl := [(0, some (.one (.lf (.arr 23 (.var 0))))), (4, some (.one (.lf (.ptr 0 0)))), (9, some (.one (.lf (.ptr 1 0)))), (10, some (.one (.lf (.bool (.of (.var 2)))))), (11, some (.one (.lf (.int (.var 5))))), (12, some (.one (.lf (.arr 40 (.var 6))))), (31, some (.one (.lf (.clo 7))))], mem := [(1, some (81, [.int (.var 3), .int (.var 4)])), (0, some (81, [.int (.lit 0), .int (.lit 0)]))], nt := 74, nb := 2, nx := 8, lvl := 0, bds := [] }
def watStE : St := { sl := [(0, some (.one (.lf (.arr 23 (.var 0))))), (4, some (.one (.lf (.ptr 0 0)))), (9, some (.one (.lf (.ptr 1 0)))), (10, some (.one (.lf (.bool (.of (.var 8)))))), (31, some (.one (.lf (.clo 7))))], mem := [(1, some (81, [.int (.var 9), .int (.var 10)])), (0, some (81, [.int (.lit 0), .int (.lit 0)]))], nt := 74, nb := 2, nx := 11, lvl := 1, bds := [] }
def watStF : St := { sl := [(4, some (.one (.lf (.ptr 0 0)))), (9, some (.one (.lf (.ptr 1 0)))), (10, some (.one (.lf (.bool (.of (.var 2))))))], mem := [(1, some (81, [.int (.var 3), .int (.var 4)])), (0, some (81, [.int (.lit 0), .int (.lit 0)]))], nt := 74, nb := 2, nx := 5, lvl := 0, bds := [] }
end Go.Proofs.Ytlbgcjpkegpmlaa
/- What is to be shown of each function, as the executor has it. Printed by trees.py. -/
namespace Go.Proofs.Ytlbgcjpkegpmlaa
noncomputable def cwat1 : Cx := tab3.only [42, 81, 83] (fun _ => []) [] 0 [] (fun _ => none)
def twat1 : Tree :=
  (.call 42 [(.arr 23 (.var 0))] (.split (.cmp .ne (.var 2) (.lit 0)) (.ret [(.int (.lit 0)), (.int (.lit 0)), (.bool (.lit false)), (.int (.var 2))]) (.call 81 [(.int (.len (.var 0))), (.arr 40 (.var 1))] (.split (.cmp .ne (.var 3) (.lit 0)) (.ret [(.int (.lit 0)), (.int (.lit 0)), (.bool (.lit false)), (.int (.var 3))]) (.back 0 [])))))
noncomputable def cwat2 : Cx := tab3.only [42, 81, 83] (fun _ => []) [] 0 [] (fun _ => none)
def twat2 : Tree :=
  (.ob (.cmp .le (.lit 0) (.var 5)) (.ob (.cmp .lt (.var 5) (.len (.var 0))) (.call 83 [(.int (.cell (.var 0) (.var 5) 0)), (.int (.cell (.var 0) (.var 5) 1)), (.int (.cell (.var 0) (.var 5) 2)), (.int (.cell (.var 0) (.var 5) 3)), (.int (.cell (.var 0) (.var 5) 4)), (.int (.cell (.var 0) (.var 5) 5)), (.int (.cell (.var 0) (.var 5) 6)), (.int (.cell (.var 0) (.var 5) 7)), (.arr 40 (.var 6))] (.split (.of (.var 9)) (.split (.not (.of (.var 2))) (.back 0 [(.bool (.lit true)), (.int (.var 5)), (.int (.var 8))]) (.split (.cmp .lt (.var 8) (.var 4)) (.back 0 [(.bool (.lit true)), (.int (.var 5)), (.int (.var 8))]) (.split (.cmp .eq (.var 8) (.var 4)) (.split (.cmp .lt (.var 5) (.var 3)) (.back 0 [(.bool (.lit true)), (.int (.var 5)), (.int (.var 8))]) (.back 0 [(.bool (.of (.var 2))), (.int (.var 3)), (.int (.var 4))])) (.back 0 [(.bool (.of (.var 2))), (.int (.var 3)), (.int (.var 4))])))) (.back 0 [(.bool (.of (.var 2))), (.int (.var 3)), (.int (.var 4))])))))
noncomputable def cwat3 : Cx := tab3.only [42, 81, 83] (fun _ => []) [] 0 [] (fun _ => none)
def twat3 : Tree :=
  (.ret [(.int (.var 3)), (.int (.var 4)), (.bool (.of (.var 2))), (.int (.lit 0))])
end Go.Proofs.Ytlbgcjpkegpmlaa
/- kick.alarms in the table; kick.Watch's parts. -/
namespace Go.Proofs.Ytlbgcjpkegpmlaa
open Go.RowKit
set_option linter.unusedSimpArgs false
set_option linter.unusedVariables false

theorem wat_split : bodyOf Try.f54 = pre (heads 5 (bodyOf Try.f54)) (nav [1, 1, 1, 1, 1] (bodyOf Try.f54)) := by kernel_rfl
theorem wat_tree1 : execL cwat1 (heads 5 (bodyOf Try.f54)) { startOf Try.f54 ctWatch [] [] with lvl := (startOf Try.f54 ctWatch [] []).lvl + 1 } (joinK (startOf Try.f54 ctWatch [] []) watSt1 [] [] (endK cwat1 Try.f54 ctWatch)) = some twat1 := by kernel_rfl
theorem wat_tree2 : exec cwat1 (nav [1, 1, 1, 1, 1, 0, 1, 0, 0, 1, 1, 0, 1] (bodyOf Try.f54)) { watStI with lvl := watStI.lvl + 1 } (joinK watStI watStE [.slot 10, .blk 1] [.bool, .int, .int] fun _ _ => none) = some twat2 := by kernel_rfl
theorem wat_tree3 : exec cwat1 (nav [1, 1, 1, 1, 1, 1] (bodyOf Try.f54)) watStF (endK cwat1 Try.f54 ctWatch) = some twat3 := by kernel_rfl
theorem wat_cx : CxOK cwat1 := Tab.cx_ok (all_cons (up3_ok (up_ok sensors_ok)) (all_cons check_ok (all_cons alarms_ok all_nil)))
theorem wat_vc1 {R : List C → Prop} {sv v : Value} {sens rows : List (List C)} (hR : ∀ e, sensorsE sens ≠ 0 ∨ checkV sens.length rows ≠ 0 → [C.i 0, .i 0, .b false, .i e] = watchV sens rows → R [.i 0, .i 0, .b false, .i e]) :
    VC cwat1 R twat1 [.s sv sens, .s v rows] [fun _ => sensorsE sens = 0 ∧ checkV sens.length rows = 0] := by
  have h1 : cwat1.ct 42 = some ctSensors := rfl
  have h2 : cwat1.ct 81 = some ctCheckS := rfl
  unfold twat1
  simp only [VC, allC, List.map_cons, List.map_nil, List.length_cons, List.length_nil, List.getElem?_cons_zero, List.getElem?_cons_succ, List.cons.injEq, C.i.injEq, C.b.injEq, and_true, true_and, forall_const, kindsOf_nil, kindsOf_lf, kindsOf_agg, kindsOf_box, boxKinds_nil, boxKinds_lf, boxKinds_agg, boxKinds_box, List.append_nil, List.cons_append, List.nil_append, den_cmp_le, den_cmp_lt, den_cmp_eq, den_cmp_ne, den_cmp_le', den_cmp_lt', den_cmp_eq', den_cmp_ne', den_and, den_and', den_or, den_or', den_not, den_not', den_blit, den_of, ev_var, at_0, at_1, at_2, at_3, at_4, at_5, at_6, at_7, at_skip, c_int, c_bool, c_arr, c_cnt, c_vec, ev_nil, ev_join, ev_sub3, loc_s, int_i, bool_b, rows_s, cs_nil, cs_cons, E.den_lit, E.den_var, E.den_add, E.den_sub, E.den_mul, E.den_quo, E.den_rem, E.den_max, E.den_min, E.den_len, E.den_wr, E.den_cell, h1, h2, ctSensors, ctCheckS, ctF]
  rintro e _ _ rfl
  refine ⟨fun h => hR _ (.inl h) (by unfold watchV; rw [if_neg h]), fun hs => ?_⟩
  rintro e _ _ rfl
  exact ⟨fun h => hR _ (.inr h) (by unfold watchV; rw [if_pos hs, if_neg h]), fun hc => ⟨hs, hc⟩⟩
def WatI (o : Option (Int × Int)) (xs : List C) : Prop := match xs with
  | [.b f, .i s, .i t] => watchC o = [.i s, .i t, .b f, .i 0]
  | _ => False
theorem wat_vc2 {R : List C → Prop} {sv v gv : Value} {sens rows : List (List C)} {f : Bool} {s t k : Int} {p : C} {o : Option (Int × Int)} (hs : sensorsE sens = 0) (hl : rows.length ≤ 200) (hir : rows.all inR = true) (k0 : 0 ≤ k) (k1 : k < sens.length) (ho : WatI o [.b f, .i s, .i t]) :
    VC cwat1 R twat2 [.s sv sens, .s v rows, .b f, .i s, .i t, .i k, .s gv (fltS rows k), p] [WatI (better o k (alarmAt sens rows k))] := by
  have h1 : cwat1.ct 83 = some ctAlarms := rfl
  unfold twat2
  simp only [VC, allC, List.map_cons, List.map_nil, List.length_cons, List.length_nil, List.getElem?_cons_zero, List.getElem?_cons_succ, List.cons.injEq, C.i.injEq, C.b.injEq, and_true, true_and, forall_const, kindsOf_nil, kindsOf_lf, kindsOf_agg, kindsOf_box, boxKinds_nil, boxKinds_lf, boxKinds_agg, boxKinds_box, List.append_nil, List.cons_append, List.nil_append, den_cmp_le, den_cmp_lt, den_cmp_eq, den_cmp_ne, den_cmp_le', den_cmp_lt', den_cmp_eq', den_cmp_ne', den_and, den_and', den_or, den_or', den_not, den_not', den_blit, den_of, ev_var, at_0, at_1, at_2, at_3, at_4, at_5, at_6, at_7, at_skip, c_int, c_bool, c_arr, c_cnt, c_vec, ev_nil, ev_join, ev_sub3, loc_s, int_i, bool_b, rows_s, cs_nil, cs_cons, E.den_lit, E.den_var, E.den_add, E.den_sub, E.den_mul, E.den_quo, E.den_rem, E.den_max, E.den_min, E.den_len, E.den_wr, E.den_cell, h1, ctAlarms, ctF, sensSh]
  have e2 : ∀ v k o (l : List (List C)), ((C.s v l).at k o).int = cell_ (l.getD k []) o := fun _ _ _ _ => rfl
  simp only [e2]
  have hz : k.toNat < sens.length := by omega
  have hsa := sens_at hs hz
  have hfl := @fltS_len rows k
  refine ⟨k0, k1, ⟨by omega, by omega, by omega, by omega, fltS_in hir⟩, ?_⟩
  rintro u _ _ is hal
  have hal' : [C.i u, C.b is] = alarmC (alarmAt sens rows k) := hal
  cases ha : alarmAt sens rows k with
  | none =>
    rw [ha] at hal'
    cases hal'
    exact ⟨fun h => (by cases h), fun _ => ho⟩
  | some u' =>
    rw [ha] at hal'
    cases hal'
    cases o with
    | none =>
      have ho' : watchC none = [.i s, .i t, .b f, .i 0] := ho
      cases ho'
      exact ⟨fun _ => ⟨fun _ => rfl, fun h => (by cases h)⟩, fun h => (by cases h)⟩
    | some x =>
      obtain ⟨s', t'⟩ := x
      have ho' : watchC (some (s', t')) = [.i s, .i t, .b f, .i 0] := ho
      cases ho'
      have yes : (u < t ∨ (u = t ∧ k < s)) → WatI (better (some (s, t)) k (some u)) [.b true, .i k, .i u] := fun h => by simp only [better]; rw [if_pos h]; exact rfl
      have no : ¬ (u < t ∨ (u = t ∧ k < s)) → WatI (better (some (s, t)) k (some u)) [.b true, .i s, .i t] := fun h => by simp only [better]; rw [if_neg h]; exact rfl
      exact ⟨fun _ => ⟨fun h => (by cases h), fun _ => ⟨fun hl => yes (.inl hl), fun hl => ⟨fun he => ⟨fun hks => yes (.inr ⟨he, hks⟩), fun hks => no (by omega)⟩, fun he => no (by omega)⟩⟩⟩, fun h => (by cases h)⟩
end Go.Proofs.Ytlbgcjpkegpmlaa
/- kick.Watch: a round. -/
namespace Go.Proofs.Ytlbgcjpkegpmlaa
open Go.RowKit
set_option linter.unusedSimpArgs false
set_option linter.unusedVariables false

abbrev I64 (n : Int) : Prop := -9223372036854775808 ≤ n ∧ n ≤ 9223372036854775807
structure WatIn (wg : World) (bm b4 b9 : Nat) (sv : Value) (sens rows : List (List C)) (G : Prs) (seen : List Int) (a : Act) (w : World) : Prop where
  it : IterAt w wg.heap.size bm G seen
  s31 : a.eval (.tmp 31) = .pointer (some ⟨wg.heap.size, 0, none⟩)
  s0 : a.eval (.tmp 0) = sv
  s4 : a.eval (.tmp 4) = .pointer (some ⟨b4, 0, none⟩)
  s9 : a.eval (.tmp 9) = .pointer (some ⟨b9, 0, none⟩)
  size : a.tmps.size = 74
  defers : a.defers = []
  os : w.os = wg.os
  tape : w.tape = wg.tape
  output : w.output = wg.output
  lt : wg.heap.size < w.heap.size
  blk : ∀ i, i < wg.heap.size → i ≠ b4 → i ≠ b9 → w.heap[i]? = wg.heap[i]?
  blk4 : Blk w b4 81 #[.int .i64 0, .int .i64 0]
  sub : ∀ k ∈ seen, ∃ g ∈ G, g.1 = k
  best : ∃ o f s t, a.eval (.tmp 10) = .bool f ∧ Blk w b9 81 #[.int .i64 s, .int .i64 t] ∧ WatI o [.b f, .i s, .i t] ∧ Best sens rows (fun k => k ∈ seen) o ∧ I64 s ∧ I64 t
/-- What is kept of what was there: all but the two alarms. -/
structure WatKeep (wg w : World) (b4 b9 : Nat) : Prop where
  os : w.os = wg.os
  tape : w.tape = wg.tape
  output : w.output = wg.output
  size : wg.heap.size ≤ w.heap.size
  blk : ∀ i, i < wg.heap.size → i ≠ b4 → i ≠ b9 → w.heap[i]? = wg.heap[i]?
theorem WatKeep.arr {wg w : World} {b4 b9 : Nat} (h : WatKeep wg w b4 b9) {O O' : Nat → Nat → Prop} {t : TypeId} {c : C} (ha : ArrOK Try.prog wg O t c) (h4 : ∀ o, O b4 o) (h9 : ∀ o, O b9 o) (hO : ∀ b o, b < wg.heap.size → O' b o → O b o) : ArrOK Try.prog w O' t c :=
  ha.keep h.size fun b o hb hno => ⟨World.cell?_of_block (h.blk b hb (fun e => hno (e ▸ h4 o)) fun e => hno (e ▸ h9 o)), fun h' => hno (hO b o hb h')⟩
theorem WatKeep.keeps {wg w : World} {b4 b9 : Nat} (h : WatKeep wg w b4 b9) {F : Nat → Prop} (hF : ∀ i, F i → i < wg.heap.size) (h4 : ¬ F b4) (h9 : ¬ F b9) : Keeps F wg w :=
  ⟨h.os, h.tape, h.output, h.size, fun i hi => h.blk i (hF i hi) (fun e => h4 (e ▸ hi)) fun e => h9 (e ▸ hi)⟩
theorem Groups.keepW {B : Nat} {wg w : World} {b b4 b9 : Nat} {l : List (List C)} {G : Prs} (h : Groups B wg b l G) (hk : WatKeep wg w b4 b9) (hb : B ≤ b) (h4 : b4 < B) (h9 : b9 < B) : Groups B w b l G := by
  refine ⟨h.map.kept (hk.blk b h.map.lt (by omega) (by omega)), h.keys, h.len, fun g hg => ?_, h.apart, h.all, h.has⟩
  obtain ⟨h1, x, h2, h3, h4', h5⟩ := h.rows g hg
  refine ⟨⟨h1.1, h1.2.imp id fun ⟨g', cap, cur, e, hB, hc, rest⟩ => ⟨g', cap, cur, e, hB, ?_, rest⟩⟩, x, h2, h3, Nat.lt_of_lt_of_le h4' hk.size, h5⟩
  rw [hk.blk g' (Array.getElem?_eq_some_iff.1 hc).1 (by omega) (by omega)]
  exact hc
theorem wat_round {wp wg : World} {Γ : Env} {sv v : Value} {sens rows : List (List C)} {d bm b4 b9 : Nat} {G : Prs} {Q : Exit → Act → World → Prop} 
    (hnb : Γ.nb = 2) (hb4 : Γ.blk 0 = b4) (hb9 : Γ.blk 1 = b9) (h49 : b4 ≠ b9) (l4 : b4 < wp.heap.size) (l9 : b9 < wp.heap.size) (hsv : ∀ k, (C.s sv sens).small k) (hsm : ∀ k, (C.s v rows).small k) (hty : TyN Try.prog d 40 rows) (hb : ∀ b o, Γ.base b o → b < wp.heap.size)
    (hpg : Below wp.heap.size wp wg) (hbm : wp.heap.size ≤ bm) (hG : Groups wp.heap.size wg bm rows G) (hS : ArrOK Try.prog wg (fun b o => Γ.base b o ∨ b = b4 ∨ b = b9) 23 (.s sv sens))
    (hs0 : sensorsE sens = 0) (hl : rows.length ≤ 200) (hib : rows.all (inB sens.length) = true) (hir : rows.all inR = true)
    {seen : List Int} {a : Act} {w w' : World} {g : Int × Value} {u : Value} (hin : WatIn wg bm b4 b9 sv sens rows G seen a w) (hg : g ∈ G) (hit : IterAt w' wg.heap.size bm G (g.1 :: seen)) (hs : w'.heap.size = w.heap.size) (hbl : ∀ i, i ≠ wg.heap.size → w'.heap[i]? = w.heap[i]?) (ho : w'.os = w.os) (ht : w'.tape = w.tape) (hu : w'.output = w.output)
    (hent : ∀ u, u.heap[bm]? = w'.heap[bm]? → u.heap[wg.heap.size]? = w'.heap[wg.heap.size]? → (Instr.entry (.pointer (some ⟨wg.heap.size, 0, none⟩))).run Try.prog u = .ok (.tuple #[.int .i64 g.1, g.2]) u) :
    (nav [1, 1, 1, 1, 1, 0, 1, 0, 0, 1, 1, 0] (bodyOf Try.f54)).wp Try.prog (roundQ (WatIn wg bm b4 b9 sv sens rows G (g.1 :: seen)) Q) ((a.put (some 32) u).put (some 33) (.bool true)) w' := by
  have hpgs := hpg.size
  have hkw : WatKeep wg w' b4 b9 := ⟨ho.trans hin.os, ht.trans hin.tape, hu.trans hin.output, by have := hin.lt; omega, fun i hi h4 h9 => (hbl i (by omega)).trans (hin.blk i hi h4 h9)⟩
  obtain ⟨o, f, s, t, e10, hB9, hW, hBest, hbs, hbt⟩ := hin.best
  have hB9' : Blk w' b9 81 #[.int .i64 s, .int .i64 t] := (hbl b9 (by omega)).trans hB9
  have hB4' : Blk w' b4 81 #[.int .i64 0, .int .i64 0] := (hbl b4 (by omega)).trans hin.blk4
  generalize hb1 : Value.bool true = b1
  have q : ∀ x, x ≠ 32 → x ≠ 33 → ((a.put (some 32) u).put (some 33) b1).eval (.tmp x) = a.eval (.tmp x) := fun x h1 h2 => by rw [eval_other h2, eval_other h1]
  have h31 := (q 31 (by decide) (by decide)).trans hin.s31
  have h0 := (q 0 (by decide) (by decide)).trans hin.s0
  have h4 := (q 4 (by decide) (by decide)).trans hin.s4
  have h9 := (q 9 (by decide) (by decide)).trans hin.s9
  have h10 := (q 10 (by decide) (by decide)).trans e10
  have hsz : ((a.put (some 32) u).put (some 33) b1).tmps.size = 74 := by rw [put_size, put_size]; exact hin.size
  have hdf : ((a.put (some 32) u).put (some 33) b1).defers = [] := by rw [put_defers, put_defers]; exact hin.defers
  clear q
  generalize (a.put (some 32) u).put (some 33) b1 = a2 at *
  show (Code.seq (Code.region 11 _ _) (nav [1, 1, 1, 1, 1, 0, 1, 0, 0, 1, 1, 0, 1] (bodyOf Try.f54))).wp _ _ _ _
  refine wp_seq (wp_region_list (list_val rfl (v := .tuple #[.int .i64 g.1, g.2]) (w' := w') (by simp [execOp, h31, hent w' rfl rfl]) (list_val rfl (v := .int .i64 g.1) (w' := w') (by simp [execOp, eval_same (show 34 < a2.tmps.size by omega), Instr.extract]) (list_val rfl (v := g.2) (w' := w') (by
    have e : ((a2.put (some 34) (.tuple #[.int .i64 g.1, g.2])).put (some 35) (.int .i64 g.1)).eval (.tmp 34) = .tuple #[.int .i64 g.1, g.2] := by rw [eval_other (by decide)]; exact eval_same (by omega)
    simp [execOp, e, Instr.extract]) (list_val rfl (v := .int .i64 g.1) (w' := w') (by
    have e : (((a2.put (some 34) (.tuple #[.int .i64 g.1, g.2])).put (some 35) (.int .i64 g.1)).put (some 36) g.2).eval (.tmp 35) = .int .i64 g.1 := by rw [eval_other (by decide)]; exact eval_same (by rw [put_size]; omega)
    simp [execOp, e]) (list_val rfl (v := g.2) (w' := w') (by
    have e : ((((a2.put (some 34) (.tuple #[.int .i64 g.1, g.2])).put (some 35) (.int .i64 g.1)).put (some 36) g.2).put (some 11) (.int .i64 g.1)).eval (.tmp 36) = g.2 := by rw [eval_other (by decide)]; exact eval_same (by rw [put_size, put_size]; omega)
    simp [execOp, e]) ?_))))))
  show Code.wp _ _ _ _ _
  have q : ∀ x, x ≠ 34 → x ≠ 35 → x ≠ 36 → x ≠ 11 → x ≠ 12 → (((((a2.put (some 34) (.tuple #[.int .i64 g.1, g.2])).put (some 35) (.int .i64 g.1)).put (some 36) g.2).put (some 11) (.int .i64 g.1)).put (some 12) g.2).eval (.tmp x) = a2.eval (.tmp x) := fun x h1 h2 h3 h4 h5 => by rw [eval_other h5, eval_other h4, eval_other h3, eval_other h2, eval_other h1]
  have g31 := (q 31 (by decide) (by decide) (by decide) (by decide) (by decide)).trans h31
  have g0 := (q 0 (by decide) (by decide) (by decide) (by decide) (by decide)).trans h0
  have g4 := (q 4 (by decide) (by decide) (by decide) (by decide) (by decide)).trans h4
  have g9 := (q 9 (by decide) (by decide) (by decide) (by decide) (by decide)).trans h9
  have g10 := (q 10 (by decide) (by decide) (by decide) (by decide) (by decide)).trans h10
  have g12 : (((((a2.put (some 34) (.tuple #[.int .i64 g.1, g.2])).put (some 35) (.int .i64 g.1)).put (some 36) g.2).put (some 11) (.int .i64 g.1)).put (some 12) g.2).eval (.tmp 12) = g.2 := eval_same (by simp only [put_size]; omega)
  have g11 : (((((a2.put (some 34) (.tuple #[.int .i64 g.1, g.2])).put (some 35) (.int .i64 g.1)).put (some 36) g.2).put (some 11) (.int .i64 g.1)).put (some 12) g.2).eval (.tmp 11) = .int .i64 g.1 := by rw [eval_other (by decide)]; exact eval_same (by simp only [put_size]; omega)
  have hsz' : (((((a2.put (some 34) (.tuple #[.int .i64 g.1, g.2])).put (some 35) (.int .i64 g.1)).put (some 36) g.2).put (some 11) (.int .i64 g.1)).put (some 12) g.2).tmps.size = 74 := by simp only [put_size]; exact hsz
  have hdf' : (((((a2.put (some 34) (.tuple #[.int .i64 g.1, g.2])).put (some 35) (.int .i64 g.1)).put (some 36) g.2).put (some 11) (.int .i64 g.1)).put (some 12) g.2).defers = [] := by simp only [put_defers]; exact hdf
  clear q
  generalize ((((a2.put (some 34) (.tuple #[.int .i64 g.1, g.2])).put (some 35) (.int .i64 g.1)).put (some 36) g.2).put (some 11) (.int .i64 g.1)).put (some 12) g.2 = a3 at *
  have hGk := hG.keepW hkw hbm l4 l9
  obtain ⟨hga, hgs⟩ := hGk.arr hty hsm hg (O := fun b o => Γ.base b o ∨ b = b4 ∨ b = b9) fun x hx o hxo => by
    rcases hxo with h | h | h
    · have := hb x o h; omega
    · omega
    · omega
  have hSk := hkw.arr (O' := fun b o => Γ.base b o ∨ b = b4 ∨ b = b9) hS (fun _ => .inr (.inl rfl)) (fun _ => .inr (.inr rfl)) fun _ _ _ h => h
  have hk : I64 g.1 := hG.keys g hg
  have hkr : 0 ≤ g.1 ∧ g.1 < sens.length := by
    obtain ⟨r, hr, e⟩ := hG.has g hg
    have := List.all_eq_true.1 hib r hr
    rw [e]
    simpa [inB] using this
  have hmem : ∀ b mb, look watStI.mem b = some mb → (b = 1 ∧ mb = (81, [.int (.var 3), .int (.var 4)])) ∨ (b = 0 ∧ mb = (81, [.int (.lit 0), .int (.lit 0)])) := fun b mb h => by
    simp only [watStI, look] at h
    split at h
    · rename_i e; subst e; cases h; exact .inl ⟨rfl, rfl⟩
    split at h
    · rename_i e; subst e; cases h; exact .inr ⟨rfl, rfl⟩
    cases h
  have hw'lt := hin.lt
  have hsat : Sat Try.prog (fun i => i < w'.heap.size ∧ i ≠ b4 ∧ i ≠ b9) w' { Γ with ρ := [.s sv sens, .s v rows, .b f, .i s, .i t, .i g.1, .s g.2 (fltS rows g.1), .s (.pointer (some ⟨wg.heap.size, 0, none⟩)) []] } watStI a3 w' := by
    refine Sat.bare rfl rfl (fun b mb h => ?_) (fun i j x y h1 h2 e => ?_) (fun t sv ht => ?_) hsz' (Keeps.refl _ _) (fun _ h => h.1) (fun b o h => by have := hb b o h; omega) hdf' rfl hnb rfl ?_
    · rcases hmem b mb h with ⟨rfl, rfl⟩ | ⟨rfl, rfl⟩
      · refine ⟨?_, fun l hl O => ?_, fun h => h.2.2 hb9, by decide⟩
        · show Blk w' (Γ.blk 1) _ _
          rw [hb9]; exact hB9'
        · simp only [List.mem_cons, List.not_mem_nil, or_false] at hl
          rcases hl with rfl | rfl <;> trivial
      · refine ⟨?_, fun l hl O => ?_, fun h => h.2.1 hb4, by decide⟩
        · show Blk w' (Γ.blk 0) _ _
          rw [hb4]; exact hB4'
        · simp only [List.mem_cons, List.not_mem_nil, or_false] at hl
          rcases hl with rfl | rfl <;> trivial
    · have e' : Γ.blk i = Γ.blk j := e
      rcases hmem i x h1 with ⟨rfl, -⟩ | ⟨rfl, -⟩ <;> rcases hmem j y h2 with ⟨rfl, -⟩ | ⟨rfl, -⟩
      · rfl
      · exact absurd (hb4.symm.trans (e'.symm.trans hb9)) h49
      · exact absurd (hb4.symm.trans (e'.trans hb9)) h49
      · rfl
    · have hO : ∀ b o, (Γ.base b o ∨ ∃ j mb, look watStI.mem j = some mb ∧ Γ.blk j = b) → (Γ.base b o ∨ b = b4 ∨ b = b9) := fun b o h => by
        rcases h with h | ⟨j, mb, h, e⟩
        · exact .inl h
        · rcases hmem j mb h with ⟨rfl, -⟩ | ⟨rfl, -⟩
          · exact .inr (.inr (e.symm.trans hb9))
          · exact .inr (.inl (e.symm.trans hb4))
      simp only [watStI, look] at ht
      split at ht
      · rename_i e; subst e; cases ht; exact ⟨g0, fun l hl => by
          simp only [S0.cells, List.mem_cons, List.not_mem_nil, or_false] at hl; subst hl
          exact hSk.keep (Nat.le_refl _) fun b o _ hno => ⟨rfl, fun h => hno (hO b o h)⟩⟩
      split at ht
      · rename_i e; subst e; cases ht; exact ⟨by show a3.eval (.tmp 4) = .pointer (some ⟨Γ.blk 0, 0, none⟩); rw [hb4]; exact g4, fun l hl => by simp only [S0.cells, List.mem_cons, List.not_mem_nil, or_false] at hl; subst hl; trivial⟩
      split at ht
      · rename_i e; subst e; cases ht; exact ⟨by show a3.eval (.tmp 9) = .pointer (some ⟨Γ.blk 1, 0, none⟩); rw [hb9]; exact g9, fun l hl => by simp only [S0.cells, List.mem_cons, List.not_mem_nil, or_false] at hl; subst hl; trivial⟩
      split at ht
      · rename_i e; subst e; cases ht; exact ⟨g10, fun l hl => by simp only [S0.cells, List.mem_cons, List.not_mem_nil, or_false] at hl; subst hl; trivial⟩
      split at ht
      · rename_i e; subst e; cases ht; exact ⟨g11, fun l hl => by simp only [S0.cells, List.mem_cons, List.not_mem_nil, or_false] at hl; subst hl; trivial⟩
      split at ht
      · rename_i e; subst e; cases ht; exact ⟨g12, fun l hl => by
          simp only [S0.cells, List.mem_cons, List.not_mem_nil, or_false] at hl; subst hl
          exact hga.keep (Nat.le_refl _) fun b o _ hno => ⟨rfl, fun h => hno (hO b o h)⟩⟩
      split at ht
      · rename_i e; subst e; cases ht; exact ⟨g31, fun l hl => by simp only [S0.cells, List.mem_cons, List.not_mem_nil, or_false] at hl; subst hl; rfl⟩
      cases ht
    · have := Smalls.nil.app (cs := [.s sv sens, .s v rows, .b f, .i s, .i t, .i g.1, .s g.2 (fltS rows g.1), .s (.pointer (some ⟨wg.heap.size, 0, none⟩)) []]) (fun c hc => by
        simp only [List.mem_cons, List.not_mem_nil, or_false] at hc
        rcases hc with rfl | rfl | rfl | rfl | rfl | rfl | rfl | rfl
        · exact hsv
        · exact hsm
        · intro n; cases n <;> simp [C.small]
        · intro n; cases n <;> exact hbs
        · intro n; cases n <;> exact hbt
        · intro n; cases n <;> exact hk
        · exact hgs
        · intro n; cases n <;> simp [C.small])
      simpa using this
  refine seg_sound (R := fun _ => True) wat_cx (Ls := []) (I := WatI (better o g.1 (alarmAt sens rows g.1))) wat_tree2 (by kernel_rfl) rfl (wat_vc2 hs0 hl hir hkr.1 hkr.2 hW) hsat ?_ ?_
  · intro xs Γx a' w2 hxs hI hρ' he hs'
    obtain ⟨f', s', t', rfl, is', it'⟩ : ∃ f' s' t', xs = [.b f', .i s', .i t'] ∧ I64 s' ∧ I64 t' := by
      match xs, hxs with
      | [c1, c2, c3], ⟨⟨_, f', e1⟩, ⟨h2, s', e2⟩, ⟨h3, t', e3⟩, _⟩ => 
        subst e1 e2 e3
        exact ⟨f', s', t', rfl, h2 0, h3 0⟩
    have hkp := hs'.keeps
    have ev : ∀ t sv, t < 1000 → look watStE.sl t = some sv → a'.eval (.tmp t) = sv.den Γx := fun t sv ht hl => by
      have := (hs'.slots t sv hl).1
      unfold slotV at this
      rwa [if_pos ht] at this
    have eb : ∀ j, j < 2 → Γx.blk j = Γ.blk j := fun j hj => he.blk j (by show j < Γ.nb; omega)
    have m1 := (hs'.mem 1 _ (rfl : look watStE.mem 1 = some (81, [.int (.var 9), .int (.var 10)]))).1
    have m0 := (hs'.mem 0 _ (rfl : look watStE.mem 0 = some (81, [.int (.lit 0), .int (.lit 0)]))).1
    rw [eb 1 (by omega), hb9] at m1
    rw [eb 0 (by omega), hb4] at m0
    have hm := hGk.map.lt
    have hbmg := hG.map.lt
    have hks := hkp.size
    refine ⟨hit.kept (hkp.block _ ⟨hm, by omega, by omega⟩) (hkp.block _ ⟨by omega, by omega, by omega⟩), ?_, ?_, ?_, ?_, hs'.size, hs'.defers, hkp.os.trans hkw.os, hkp.tape.trans hkw.tape, hkp.output.trans hkw.output, by omega, fun i hi h4 h9 => (hkp.block i ⟨by omega, h4, h9⟩).trans (hkw.blk i hi h4 h9), m0, fun k hk => ?_, better o g.1 (alarmAt sens rows g.1), f', s', t', ?_, ?_, hI, (hBest.add g.1).congr fun j => by simp, is', it'⟩
    · refine (ev 31 _ (by decide) rfl).trans ?_
      simp only [SV.den, S0.den, Lf.den, hρ']; rfl
    · refine (ev 0 _ (by decide) rfl).trans ?_
      simp only [SV.den, S0.den, Lf.den, ev_var, hρ']
      obtain ⟨v1, r1, e, -⟩ := hS
      cases e; rfl
    · refine (ev 4 _ (by decide) rfl).trans ?_
      simp only [SV.den, S0.den, Lf.den, eb 0 (by omega), hb4]
    · refine (ev 9 _ (by decide) rfl).trans ?_
      simp only [SV.den, S0.den, Lf.den, eb 1 (by omega), hb9]
    · rcases List.mem_cons.1 hk with rfl | hk
      · exact ⟨g, hg, rfl⟩
      · exact hin.sub k hk
    · refine (ev 10 _ (by decide) rfl).trans ?_
      simp only [SV.den, S0.den, Lf.den, hρ']; rfl
    · have : dens Γx [.int (.var 9), .int (.var 10)] = #[.int .i64 s', .int .i64 t'] := by
        unfold dens
        simp only [List.map_cons, List.map_nil, Lf.den, E.den_var, hρ']
        rfl
      rw [this] at m1
      exact m1
  · intro x st' T' Γ' Ls' hx hk' he hlen' hv' a' w2 hs'
    cases hk'
end Go.Proofs.Ytlbgcjpkegpmlaa
/- kick.Watch: its contract. -/
namespace Go.Proofs.Ytlbgcjpkegpmlaa
open Go.RowKit
set_option linter.unusedSimpArgs false
set_option linter.unusedVariables false

theorem alarmAt_none {sens rows : List (List C)} {k : Int} (h : ∀ r ∈ rows, cell_ r 0 ≠ k) : alarmAt sens rows k = none := by
  unfold alarmAt
  rw [fltS_none h]; rfl
theorem wat_rest {F : Nat → Prop} {w0 wp : World} {Γ : Env} {sv v : Value} {sens rows : List (List C)} {d b4 b9 : Nat} {Q : Exit → Act → World → Prop} {R : List C → Prop}
    (hρ : Γ.ρ = [.s sv sens, .s v rows]) (hnb : Γ.nb = 2) (hb4 : Γ.blk 0 = b4) (hb9 : Γ.blk 1 = b9) (h49 : b4 ≠ b9) (l4 : b4 < wp.heap.size) (l9 : b9 < wp.heap.size) (f4 : ¬ F b4) (f9 : ¬ F b9) (hsv : ∀ k, (C.s sv sens).small k) (hsm : ∀ k, (C.s v rows).small k) (hty : TyN Try.prog d 40 rows) (hF : ∀ i, F i → i < w0.heap.size) (hb : ∀ b o, Γ.base b o → b < wp.heap.size)
    (hk0 : Keeps F w0 wp) (hS : ArrOK Try.prog wp (fun b o => Γ.base b o ∨ b = b4 ∨ b = b9) 23 (.s sv sens)) (hA : ArrOK Try.prog wp (fun b o => Γ.base b o ∨ b = b4 ∨ b = b9) 40 (.s v rows)) (hB4 : Blk wp b4 81 #[.int .i64 0, .int .i64 0]) (hB9 : Blk wp b9 81 #[.int .i64 0, .int .i64 0])
    (hs0 : sensorsE sens = 0) (hc0 : checkV sens.length rows = 0) (hR : ∀ s t f, watchC (watchL sens rows sens.length) = [.i s, .i t, .b f, .i 0] → R [.i s, .i t, .b f, .i 0])
    (hk : KOK cwat1 R F w0 (endK cwat1 Try.f54 ctWatch) Γ [] Q) {a : Act} (hsz : a.tmps.size = 74) (hdf : a.defers = []) (h0 : a.eval (.tmp 0) = sv) (h1 : a.eval (.tmp 1) = v) (h4 : a.eval (.tmp 4) = .pointer (some ⟨b4, 0, none⟩)) (h9 : a.eval (.tmp 9) = .pointer (some ⟨b9, 0, none⟩)) (h10 : a.eval (.tmp 10) = .bool false) :
    (nav [1, 1, 1, 1, 1] (bodyOf Try.f54)).wp Try.prog Q a wp := by
  obtain ⟨hl, hib, hir, -⟩ := checkV_ok hc0
  have hloc : v = (C.s v rows).loc := by
    obtain ⟨v', rows', e, d', S, hS, hN⟩ := hA
    cases e
    rfl
  show (Code.seq (Code.seq (Code.region 9 _ _) (Code.block 0 (Code.loop (Code.seq (Code.region 10 _ _) (Code.seq (Code.cond (.tmp 33) .skip (.exit 0)) (Code.block 1 (nav [1, 1, 1, 1, 1, 0, 1, 0, 0, 1, 1, 0] (bodyOf Try.f54)))))))) (nav [1, 1, 1, 1, 1, 1] (bodyOf Try.f54))).wp _ _ _ _
  refine wp_seq (wp_seq (wp_region_list (list_val rfl (v := v) (w' := wp) (by simp [execOp, h1]) (list_call rfl (f := 82) (args := #[v]) (by
    simp [execOp, resolve, invoke, eval_same, put_size, hsz, eval_const]
    exact run_callFunc' callable_bySensor _ _) ?_))))
  refine Calls.mono (bySensor_ok (Base := fun b o => Γ.base b o ∨ b = b4 ∨ b = b9) (fun b o h => by rcases h with h | h | h <;> first | exact hb b o h | omega) ⟨hsm, hloc, hA⟩ (by omega)) fun e wg he => ?_
  obtain ⟨bm, G, rfl, hpg, hbm, hG⟩ := he
  refine ⟨_, rfl, ?_⟩
  obtain ⟨o, hrg, hit⟩ := IterAt.start (P := Try.prog) (t := 115) Try.underlying115 hG.map
  refine list_val rfl (v := .pointer (some ⟨wg.heap.size, 0, none⟩)) (w' := wg.alloc o) (by simp [execOp, eval_same, put_size, hsz, hrg]) ?_
  show Code.wp _ _ _ _ _
  have hpgs := hpg.size
  have hSg : ArrOK Try.prog wg (fun b o => Γ.base b o ∨ b = b4 ∨ b = b9) 23 (.s sv sens) := hS.keep hpg.size fun b o hb' hno => ⟨World.cell?_of_block (hpg.block b hb'), hno⟩
  have hltr : wg.heap.size < (wg.alloc o).heap.size := by
    obtain ⟨es, clock, since, sn, c0, h1, h2, h3, h4, h5⟩ := hit
    exact (Array.getElem?_eq_some_iff.1 h4).1
  have hal : Below wg.heap.size wg (wg.alloc o) := below_alloc _ _
  refine range_loop (nt := 74) (tI := 31) (tN := 32) (cN := 33) (bm := bm) (r := wg.heap.size) (G := G) (J := WatIn wg bm b4 b9 sv sens rows G) rfl rfl rfl rfl rfl rfl (by decide) (by decide) (by decide) (by have := hG.map.lt; omega) (fun seen a w h => ⟨h.it, h.s31, h.size⟩) ?_ ?_ ?_
  · intro seen a2 w2 g w3 u hin hg hns hit' hs hbl ho ht hu hent
    exact wp_mono (wat_round (Q := Q) hnb hb4 hb9 h49 l4 l9 hsv hsm hty hb hpg hbm hG hSg hs0 hl hib hir hin hg hit' hs hbl ho ht hu hent) fun e a w h => by cases e <;> exact h
  · intro seen a2 w2 u hin hall
    show (nav [1, 1, 1, 1, 1, 1] (bodyOf Try.f54)).wp _ _ _ _
    obtain ⟨o2, f, s, t, e10, hBs, hW, hBest, hbs, hbt⟩ := hin.best
    have hbest : o2 = watchL sens rows sens.length := by
      refine Best.uniq (P := fun k => 0 ≤ k ∧ k < (sens.length : Int)) (hBest.more (fun k hk => ?_) fun k hk => ?_) (watchL_best sens.length)
      · obtain ⟨g, hg, rfl⟩ := hin.sub k hk
        obtain ⟨r, hr, e⟩ := hG.has g hg
        have := List.all_eq_true.1 hib r hr
        rw [e]
        simpa [inB] using this
      · by_cases he : ∃ r ∈ rows, cell_ r 0 = k
        · obtain ⟨r, hr, e⟩ := he
          obtain ⟨g, hg, e'⟩ := hG.all r hr
          have := hall g hg
          rw [e', e] at this
          exact .inl this
        · exact .inr (alarmAt_none fun r hr e => he ⟨r, hr, e⟩)
    subst hbest
    have q : ∀ x, x ≠ 32 → x ≠ 33 → ((a2.put (some 32) u).put (some 33) (.bool false)).eval (.tmp x) = a2.eval (.tmp x) := fun x h1 h2 => by rw [eval_other h2, eval_other h1]
    have g4 := (q 4 (by decide) (by decide)).trans hin.s4
    have g9 := (q 9 (by decide) (by decide)).trans hin.s9
    have g10 := (q 10 (by decide) (by decide)).trans e10
    have hsz2 : ((a2.put (some 32) u).put (some 33) (.bool false)).tmps.size = 74 := by rw [put_size, put_size]; exact hin.size
    have hdf2 : ((a2.put (some 32) u).put (some 33) (.bool false)).defers = [] := by rw [put_defers, put_defers]; exact hin.defers
    clear q
    generalize (a2.put (some 32) u).put (some 33) (.bool false) = a4 at *
    have hlt := hin.lt
    have hkw : WatKeep wg w2 b4 b9 := ⟨hin.os, hin.tape, hin.output, by omega, hin.blk⟩
    have hmem : ∀ b mb, look watStF.mem b = some mb → (b = 1 ∧ mb = (81, [.int (.var 3), .int (.var 4)])) ∨ (b = 0 ∧ mb = (81, [.int (.lit 0), .int (.lit 0)])) := fun b mb h => by
      simp only [watStF, look] at h
      split at h
      · rename_i e; subst e; cases h; exact .inl ⟨rfl, rfl⟩
      split at h
      · rename_i e; subst e; cases h; exact .inr ⟨rfl, rfl⟩
      cases h
    have hkF : Keeps F w0 w2 := (hk0.trans (Keeps.of_below hpg fun i hi => by have := hF i hi; have := hk0.size; omega)).trans (hkw.keeps (fun i hi => by have := hF i hi; have := hk0.size; omega) f4 f9)
    have hsat : Sat Try.prog F w0 { Γ with ρ := [.s sv sens, .s v rows, .b f, .i s, .i t] } watStF a4 w2 := by
      refine Sat.bare rfl rfl (fun b mb h => ?_) (fun i j x y h1 h2 e => ?_) (fun t sv ht => ?_) hsz2 hkF hF (fun b o h => by have := hb b o h; omega) hdf2 rfl hnb rfl ?_
      · rcases hmem b mb h with ⟨rfl, rfl⟩ | ⟨rfl, rfl⟩
        · refine ⟨?_, fun l hl O => ?_, ?_, by decide⟩
          · show Blk w2 (Γ.blk 1) _ _
            rw [hb9]; exact hBs
          · simp only [List.mem_cons, List.not_mem_nil, or_false] at hl
            rcases hl with rfl | rfl <;> trivial
          · show ¬ F (Γ.blk 1)
            rw [hb9]; exact f9
        · refine ⟨?_, fun l hl O => ?_, ?_, by decide⟩
          · show Blk w2 (Γ.blk 0) _ _
            rw [hb4]; exact hin.blk4
          · simp only [List.mem_cons, List.not_mem_nil, or_false] at hl
            rcases hl with rfl | rfl <;> trivial
          · show ¬ F (Γ.blk 0)
            rw [hb4]; exact f4
      · have e' : Γ.blk i = Γ.blk j := e
        rcases hmem i x h1 with ⟨rfl, -⟩ | ⟨rfl, -⟩ <;> rcases hmem j y h2 with ⟨rfl, -⟩ | ⟨rfl, -⟩
        · rfl
        · exact absurd (hb4.symm.trans (e'.symm.trans hb9)) h49
        · exact absurd (hb4.symm.trans (e'.trans hb9)) h49
        · rfl
      · simp only [watStF, look] at ht
        split at ht
        · rename_i e; subst e; cases ht; exact ⟨by show a4.eval (.tmp 4) = .pointer (some ⟨Γ.blk 0, 0, none⟩); rw [hb4]; exact g4, fun l hl => by simp only [S0.cells, List.mem_cons, List.not_mem_nil, or_false] at hl; subst hl; trivial⟩
        split at ht
        · rename_i e; subst e; cases ht; exact ⟨by show a4.eval (.tmp 9) = .pointer (some ⟨Γ.blk 1, 0, none⟩); rw [hb9]; exact g9, fun l hl => by simp only [S0.cells, List.mem_cons, List.not_mem_nil, or_false] at hl; subst hl; trivial⟩
        split at ht
        · rename_i e; subst e; cases ht; exact ⟨g10, fun l hl => by simp only [S0.cells, List.mem_cons, List.not_mem_nil, or_false] at hl; subst hl; trivial⟩
        cases ht
      · have := Smalls.nil.app (cs := [.s sv sens, .s v rows, .b f, .i s, .i t]) (fun c hc => by
          simp only [List.mem_cons, List.not_mem_nil, or_false] at hc
          rcases hc with rfl | rfl | rfl | rfl | rfl
          · exact hsv
          · exact hsm
          · intro n; cases n <;> simp [C.small]
          · intro n; cases n <;> exact hbs
          · intro n; cases n <;> exact hbt)
        simpa using this
    have hext : Ext Γ { Γ with ρ := [.s sv sens, .s v rows, .b f, .i s, .i t] } := ⟨⟨[.b f, .i s, .i t], by rw [hρ]; rfl⟩, fun _ _ => rfl, Nat.le_refl _, rfl, rfl⟩
    exact exec_sound (R := R) (F := F) (w0 := w0) wat_cx _ _ _ _ wat_tree3 _ [] _ (hk.mono hext (List.prefix_refl _)) rfl (hR s t f hW) _ _ hsat
  · have hsz1 : ((a.put (some 29) v).put (some 30) (.map (some bm))).tmps.size = 74 := by rw [put_size, put_size]; exact hsz
    have q : ∀ x, x ≠ 29 → x ≠ 30 → x ≠ 31 → (((a.put (some 29) v).put (some 30) (.map (some bm))).put (some 31) (.pointer (some ⟨wg.heap.size, 0, none⟩))).eval (.tmp x) = a.eval (.tmp x) := fun x h1 h2 h3 => by rw [eval_other h3, eval_other h2, eval_other h1]
    have ha : ∀ i, i < wp.heap.size → (wg.alloc o).heap[i]? = wp.heap[i]? := fun i hi => (hal.block i (by omega)).trans (hpg.block i hi)
    exact ⟨hit, eval_same (Nat.lt_of_lt_of_eq (by decide : 31 < 74) hsz1.symm), (q 0 (by decide) (by decide) (by decide)).trans h0, (q 4 (by decide) (by decide) (by decide)).trans h4, (q 9 (by decide) (by decide) (by decide)).trans h9, by rw [put_size]; exact hsz1, by simp only [put_defers]; exact hdf, rfl, rfl, rfl, hltr, fun i hi _ _ => hal.block i hi, (ha b4 l4).trans hB4, fun k hk => by (cases hk),
      none, false, 0, 0, (q 10 (by decide) (by decide) (by decide)).trans h10, (ha b9 l9).trans hB9, rfl, fun k hk => by (cases hk), by decide, by decide⟩
theorem watch_ok : tab3.ok 54 := by
  refine Tab.of_ct rfl rfl ⟨_, Try.func54, by decide, rfl⟩ ?_ ctF_det
  refine ct_ok_open (cx := cwat1) (bds := []) wat_cx Try.func54 (c := bodyOf Try.f54) rfl ⟨by decide, by decide, by decide⟩ fun cs hcs _ => ⟨bds_nil _, fun F w0 Γ a w Q hρ hs hk => ?_⟩
  obtain ⟨sv, sens, v, rows, d, rfl, hty⟩ : ∃ sv sens v rows d, cs = [.s sv sens, .s v rows] ∧ TyN Try.prog d 40 rows := by
    match cs, hcs with
    | [c1, c2], ⟨⟨_, sv, sens, d', e1, _⟩, ⟨_, v, rows, d, e2, hty⟩, _⟩ => exact ⟨sv, sens, v, rows, d, by rw [e1, e2], hty⟩
  have hsmall := fun c hc => CTy.small hcs (c := c) hc
  rw [wat_split]
  refine pre_seg (R := ctWatch.post [.s sv sens, .s v rows]) wat_cx (Ls := []) wat_tree1 (by kernel_rfl) rfl (I := fun _ => sensorsE sens = 0 ∧ checkV sens.length rows = 0) (by rw [hρ]; exact wat_vc1 fun e _ he => he) hs ?_ ?_
  · intro xs Γx a' wp hxs hI hρ' he hs'
    obtain ⟨hs0, hc0⟩ := hI
    have hx : xs = [] := by cases xs with | nil => rfl | cons x xs => exact hxs.elim
    subst hx
    rw [List.append_nil, hρ] at hρ'
    have ev : ∀ t sv, t < 1000 → look watSt1.sl t = some sv → a'.eval (.tmp t) = sv.den Γx := fun t sv ht hl => by
      have := (hs'.slots t sv hl).1
      unfold slotV at this
      rwa [if_pos ht] at this
    have hO : ∀ b o, (Γx.base b o ∨ b = Γx.blk 0 ∨ b = Γx.blk 1) → Own Γx watSt1 b o := fun b o h => by
      rcases h with h | h | h
      · exact .inl h
      · exact .inr (.inl ⟨0, _, rfl, h.symm⟩)
      · exact .inr (.inl ⟨1, _, rfl, h.symm⟩)
    have hS : ArrOK Try.prog wp (fun b o => Γx.base b o ∨ b = Γx.blk 0 ∨ b = Γx.blk 1) 23 (.s sv sens) := by
      have h2 : ArrOK Try.prog wp (Own Γx watSt1) 23 ((E.var 0).ev Γx.ρ) := (hs'.slots 0 _ (rfl : look watSt1.sl 0 = some (.one (.lf (.arr 23 (.var 0)))))).2 (.arr 23 (.var 0)) (by simp [S0.cells])
      rw [show (E.var 0).ev Γx.ρ = .s sv sens by rw [ev_var, hρ']; rfl] at h2
      exact h2.keep (Nat.le_refl _) fun b o _ hno => ⟨rfl, fun h => hno (hO b o h)⟩
    have hA : ArrOK Try.prog wp (fun b o => Γx.base b o ∨ b = Γx.blk 0 ∨ b = Γx.blk 1) 40 (.s v rows) := by
      have h2 : ArrOK Try.prog wp (Own Γx watSt1) 40 ((E.var 1).ev Γx.ρ) := (hs'.slots 1 _ (rfl : look watSt1.sl 1 = some (.one (.lf (.arr 40 (.var 1)))))).2 (.arr 40 (.var 1)) (by simp [S0.cells])
      rw [show (E.var 1).ev Γx.ρ = .s v rows by rw [ev_var, hρ']; rfl] at h2
      exact h2.keep (Nat.le_refl _) fun b o _ hno => ⟨rfl, fun h => hno (hO b o h)⟩
    obtain ⟨m1, -, m1F, -⟩ := hs'.mem 1 _ (rfl : look watSt1.mem 1 = some (81, [.int (.lit 0), .int (.lit 0)]))
    obtain ⟨m0, -, m0F, -⟩ := hs'.mem 0 _ (rfl : look watSt1.mem 0 = some (81, [.int (.lit 0), .int (.lit 0)]))
    have h49 : Γx.blk 0 ≠ Γx.blk 1 := fun e => by
      have := (hs'.inj true 0 true 1 _ (Hold.mem (Γ := Γx) (st := watSt1) (j := 0) rfl) (e ▸ Hold.mem (Γ := Γx) (st := watSt1) (j := 1) rfl)).2
      cases this
    refine wat_rest (Γ := Γx) (R := ctWatch.post [.s sv sens, .s v rows]) hρ' hs'.nb rfl rfl h49 m0.lt m1.lt m0F m1F (hsmall _ (by simp)) (hsmall _ (by simp)) hty hs'.fold (fun b o h => hs'.base b o h) hs'.keeps hS hA m0 m1 hs0 hc0 (fun s t f h => ?_) (hk.mono he (List.prefix_refl _)) hs'.size hs'.defers ?_ ?_ (ev 4 _ (by decide) rfl) (ev 9 _ (by decide) rfl) (ev 10 _ (by decide) rfl)
    · show [C.i s, .i t, .b f, .i 0] = watchV sens rows
      unfold watchV
      rw [if_pos hs0, if_pos hc0, h]
    · refine (ev 0 _ (by decide) rfl).trans ?_
      simp only [SV.den, S0.den, Lf.den, ev_var, hρ']
      obtain ⟨v1, r1, e, -⟩ := hS
      cases e; rfl
    · refine (ev 1 _ (by decide) rfl).trans ?_
      simp only [SV.den, S0.den, Lf.den, ev_var, hρ']
      obtain ⟨v1, r1, e, -⟩ := hA
      cases e; rfl
  · intro x st' T' Γ' Ls' hx hk' he hlen' hv' a' w' hs'
    exact hk x st' T' Γ' Ls' hk' he (List.nil_prefix) hlen' hv' a' w' hs'
end Go.Proofs.Ytlbgcjpkegpmlaa
/- A slice of integers among the arguments. -/
namespace Go.Proofs.Ytlbgcjpkegpmlaa
open Go.RowKit
theorem kinds_int : kinds Try.prog 3 = some [.int] := by kernel_rfl
theorem rep_nums {W : World} {A : Option Addr} {n c : Nat} (h : NumsAt W W.heap.size A n) : ∃ rows, LRep Try.prog W (fun _ _ => False) (.arr 3) (.slice A n c) (.s (.slice A n c) rows) := by
  obtain ⟨h1, h2⟩ := h
  by_cases hn : n = 0
  · subst hn
    refine ⟨[], fun m => ?_, rfl, .slice A 0 c, [], rfl, 1, fun _ _ => False, fun _ _ h => h.elim, [.int], kinds_int, A, c, rfl, fun h => absurd rfl h⟩
    cases m with
    | zero => trivial
    | succ m => exact ⟨by simp, fun r hr => by cases hr⟩
  · obtain ⟨d, o, rfl, hd, hx⟩ := h2 (by omega)
    let xs : Nat → Int := fun i => if h : i < n then (hx i h).choose else 0
    have hxs : ∀ i, i < n → W.cell? ⟨d, o + i, none⟩ = some (.int .i64 (xs i)) ∧ -9223372036854775808 ≤ xs i ∧ xs i ≤ 9223372036854775807 := fun i hi => by
      have := (hx i hi).choose_spec
      simp only [xs, dif_pos hi]; exact this
    let rows : List (List C) := (List.range n).map fun i => [.i (xs i)]
    have hlen : rows.length = n := by simp [rows]
    refine ⟨rows, fun m => ?_, rfl, .slice (some ⟨d, o, none⟩) n c, rows, rfl, 1, fun b _ => b < W.heap.size, fun b o h => ⟨h, fun h => h⟩, [.int], kinds_int, some ⟨d, o, none⟩, c, by rw [hlen], fun _ => ⟨d, o, rfl, fun i r hi => ?_⟩⟩
    · cases m with
      | zero => trivial
      | succ m =>
        refine ⟨by rw [hlen]; omega, fun r hr c hc => ?_⟩
        obtain ⟨i, hi, rfl⟩ := List.mem_map.1 hr
        rw [List.mem_singleton] at hc
        subst hc
        have := hxs i (List.mem_range.1 hi)
        cases m <;> exact ⟨this.2.1, this.2.2⟩
    · simp only [rows, List.getElem?_map, Option.map_eq_some_iff] at hi
      obtain ⟨k, hk, rfl⟩ := hi
      have hi' : i < n := by
        rcases Nat.lt_or_ge i n with h | h
        · exact h
        · rw [List.getElem?_eq_none (by simpa using h)] at hk; cases hk
      rw [List.getElem?_range hi'] at hk
      cases hk
      refine ⟨rfl, fun j k hj => ?_⟩
      match j, hj with
      | 0, hj =>
        cases hj
        refine ⟨hd, .int .i64 (xs i), .i (xs i), ?_, rfl, xs i, rfl, rfl⟩
        simpa using (hxs i hi').1
theorem rep_arr {W : World} {O : Nat → Nat → Prop} {ss : List Sh0} {vs : List Value} {cs : List C} {t : TypeId} {v : Value} {c : C} {old : Option Nat} (h : LRep Try.prog W O (.arr t) v c) (hr : Reps Try.prog W O old ss vs cs) :
    Reps Try.prog W O old (.lf (.arr t) :: ss) (v :: vs) (c :: cs) :=
  ⟨[_], _, rfl, ⟨_, rfl, h⟩, hr⟩
end Go.Proofs.Ytlbgcjpkegpmlaa
/- A slice of structs of integers among the arguments, opened. -/
namespace Go.Proofs.Ytlbgcjpkegpmlaa
open Go.ChangeShapes Go.WideShapes Go.RowKit Go.Deep
/-- n rows of m integers each, in blocks below b. -/
def RowsIn (w : World) (b : Nat) (A : Option Addr) (n m : Nat) : Prop :=
  n ≤ 9223372036854775807 ∧ (0 < n → ∃ d o, A = some ⟨d, o, none⟩ ∧ d < b ∧ ∀ i, i < n → ∀ j, j < m → ∃ x : Int, w.cell? ⟨d, o + (i * m + j), none⟩ = some (.int .i64 x) ∧ -9223372036854775808 ≤ x ∧ x ≤ 9223372036854775807)
section
variable {H : Type} {enc : TypeId × Value → H} {P : Program} {base : Nat} {spare : Nat → Bool} {held : Bool}
theorem open_rows {r : Reach} {b0 k : Nat} {t e : TypeId} {v : Value} {d : DataW H} {p : List MemPlace} {W : World} (hu : P.underlying t = some (.slice e)) (he : intsB P k e = true) (hc : 0 < P.cellsOf e)
    (hv : Value.okWide P W r b0 t v) (hx : DataW.Trod enc P W base spare held t v d p) :
    ∃ A n c, v = .slice A n c ∧ RowsIn W W.heap.size A n (P.cellsOf e) := by
  obtain ⟨A, n, c, rfl⟩ := okWide_slice hu hv
  refine ⟨A, n, c, rfl, ?_⟩
  obtain ⟨fuel, hf⟩ := hx
  rcases open_slice hu hf with ⟨hcs, _⟩ | ⟨a, len, cap, m, nn, D, Pl, hcs, hb, hl, hm, hmm, _, hx⟩
  · simp [Value.cells] at hcs
    obtain ⟨rfl, rfl, rfl⟩ := hcs
    exact ⟨by omega, fun h => absurd h (by omega)⟩
  · simp [Value.cells] at hcs
    obtain ⟨rfl, rfl, rfl⟩ := hcs
    have hlm : n ≤ m := by rw [hmm]; split <;> omega
    refine ⟨by unfold maxLen at hm; omega, fun hn => ?_⟩
    have each : ∀ i, i < n → ∀ j, j < P.cellsOf e → ∃ x : Int, W.cell? (a.add (i * P.cellsOf e + j)) = some (.int .i64 x) ∧ -9223372036854775808 ≤ x ∧ x ≤ 9223372036854775807 := by
      intro i hi j hj
      obtain ⟨cs', h1, h2⟩ := hx i (by omega)
      obtain ⟨_, hlen, hcell⟩ := World.cells?_some h1
      obtain ⟨_, hints⟩ := ints_of k e nn cs' _ he h2
      obtain ⟨x, hx1, hx2⟩ := hints j (by omega)
      refine ⟨x, ?_, wf_bd hx2⟩
      rw [← hx1, ← hcell j hj, add_add]
    obtain ⟨d, o, s⟩ := a
    obtain ⟨x0, h0, -⟩ := each 0 hn 0 hc
    have hs : s = none := by simpa [Addr.add] using World.cell?_spot h0
    subst hs
    refine ⟨d, o, rfl, ?_, fun i hi j hj => ?_⟩
    · have := World.block_lt_of_cell? _ _ h0
      simpa [Addr.add] using this
    · obtain ⟨x, h1, h2⟩ := each i hi j hj
      exact ⟨x, by rw [← Go.WideShapes.add_plain]; exact h1, h2⟩
end
theorem rep_rows {W : World} {A : Option Addr} {n c m : Nat} {te : TypeId} (hk : kinds Try.prog te = some (List.replicate m .int)) (h : RowsIn W W.heap.size A n m) :
    ∃ rows, LRep Try.prog W (fun _ _ => False) (.arr te) (.slice A n c) (.s (.slice A n c) rows) := by
  obtain ⟨h1, h2⟩ := h
  by_cases hn : n = 0
  · subst hn
    refine ⟨[], fun m => ?_, rfl, .slice A 0 c, [], rfl, 1, fun _ _ => False, fun _ _ h => h.elim, _, hk, A, c, rfl, fun h => absurd rfl h⟩
    cases m with
    | zero => trivial
    | succ m => exact ⟨by simp, fun r hr => by cases hr⟩
  · obtain ⟨d, o, rfl, hd, hx⟩ := h2 (by omega)
    let xs : Nat → Nat → Int := fun i j => if h : i < n ∧ j < m then (hx i h.1 j h.2).choose else 0
    have hxs : ∀ i j, i < n → j < m → W.cell? ⟨d, o + (i * m + j), none⟩ = some (.int .i64 (xs i j)) ∧ -9223372036854775808 ≤ xs i j ∧ xs i j ≤ 9223372036854775807 := fun i j hi hj => by
      have := (hx i hi j hj).choose_spec
      simp only [xs, dif_pos (And.intro hi hj)]; exact this
    let rows : List (List C) := (List.range n).map fun i => (List.range m).map fun j => .i (xs i j)
    have hlen : rows.length = n := by simp [rows]
    refine ⟨rows, fun q => ?_, rfl, .slice (some ⟨d, o, none⟩) n c, rows, rfl, 1, fun b _ => b < W.heap.size, fun b o h => ⟨h, fun h => h⟩, _, hk, some ⟨d, o, none⟩, c, by rw [hlen], fun _ => ⟨d, o, rfl, fun i r hi => ?_⟩⟩
    · cases q with
      | zero => trivial
      | succ q =>
        refine ⟨by rw [hlen]; omega, fun r hr c hc => ?_⟩
        obtain ⟨i, hi, rfl⟩ := List.mem_map.1 hr
        obtain ⟨j, hj, rfl⟩ := List.mem_map.1 hc
        have := hxs i j (List.mem_range.1 hi) (List.mem_range.1 hj)
        cases q <;> exact ⟨this.2.1, this.2.2⟩
    · simp only [rows, List.getElem?_map, Option.map_eq_some_iff] at hi
      obtain ⟨k, hk', rfl⟩ := hi
      have hi' : i < n := by
        rcases Nat.lt_or_ge i n with h | h
        · exact h
        · rw [List.getElem?_eq_none (by simpa using h)] at hk'; cases hk'
      rw [List.getElem?_range hi'] at hk'
      cases hk'
      refine ⟨by simp, fun j k hj => ?_⟩
      have hj' : j < m := by
        rcases Nat.lt_or_ge j m with h | h
        · exact h
        · rw [List.getElem?_eq_none (by simpa using h)] at hj; cases hj
      have hkk : k = .int := by
        have := List.mem_of_getElem? hj
        exact (List.mem_replicate.1 this).2
      subst hkk
      rw [List.length_replicate]
      exact ⟨hd, .int .i64 (xs i j), .i (xs i j), (hxs i j hi' hj').1, by simp [hj'], xs i j, rfl, rfl⟩
end Go.Proofs.Ytlbgcjpkegpmlaa
/- KickLater, by the table. -/
namespace Go.Proofs.Ytlbgcjpkegpmlaa
open Go.RowKit
set_option linter.unusedSimpArgs false
set_option linter.unusedVariables false

theorem later_ok (awake_ok : tab3.ok 19) : CtOK Try.prog 11 (ctLaw [.lf (.arr 3)]) := by
  refine ct_ok (cx := clater) (Tab.cx_ok (all_cons (up3_ok (up_ok newring_ok)) (all_cons (up3_ok (up_ok kickof_ok)) (all_cons (up3_ok (up_ok sensorof_ok)) (all_cons (up3_ok (up_ok samples_ok)) (all_cons watch_ok (all_cons awake_ok all_nil))))))) Try.func11 (bds := []) (T := tlater) (by kernel_rfl) ?_
  have h1 : clater.ct 21 = some ctNewRing := rfl
  have h3 : clater.ct 25 = some ctSensorOf := rfl
  have h4 : clater.ct 20 = some ctKickOf := rfl
  have h5 : clater.ct 27 = some ctSamples := rfl
  have h7 : clater.ct 54 = some ctWatch := rfl
  have h9 : clater.ct 19 = some ctAwake := rfl
  unfold tlater
  simp (config := { maxSteps := 1000000 }) only [VC, allC, List.map_cons, List.map_nil, List.length_cons, List.length_nil, List.getElem?_cons_zero, List.getElem?_cons_succ, List.cons.injEq, C.i.injEq, C.b.injEq, and_true, true_and, forall_const, kindsOf_nil, kindsOf_lf, kindsOf_agg, kindsOf_box, boxKinds_nil, boxKinds_lf, boxKinds_agg, boxKinds_box, List.append_nil, List.cons_append, List.nil_append, den_cmp_le, den_cmp_lt, den_cmp_eq, den_cmp_ne, den_cmp_le', den_cmp_lt', den_cmp_eq', den_cmp_ne', den_and, den_and', den_or, den_or', den_not, den_not', den_blit, den_of, ev_var, at_0, at_1, at_2, at_3, at_4, at_5, at_6, at_7, at_skip, c_int, c_bool, c_arr, c_cnt, c_vec, ev_nil, ev_join, ev_sub3, loc_s, int_i, bool_b, rows_s, cs_nil, cs_cons, E.den_lit, E.den_var, E.den_add, E.den_sub, E.den_mul, E.den_quo, E.den_rem, E.den_max, E.den_min, E.den_len, E.den_wr, E.den_cell, h1, h3, h4, ctLaw, ctNewRing, ctSensorOf, ctKickOf, atPre, ctF, kickSh, sensSh, ringSh]
  intro v1 nums d1 hty1 hsm1
  refine ⟨bds_nil _, ?_⟩
  rintro v0 rows0 d0 _ _ at0 _ _ ⟨hc, rfl⟩
  cases hc
  refine ⟨by omega, ?_⟩
  rintro r1 _ _ g1 _ _ v0 rows0 d0 _ _ x _ _ ⟨r10, r11, g10, g11, rfl, rfl, rfl⟩
  refine ⟨by omega, ?_⟩
  rintro q0 _ _ q1 _ _ q2 _ _ q3 _ _ q4 _ _ q5 _ _ q6 _ _ q7 _ _ v0 rows0 d0 _ _ x _ _ ⟨sq, rfl, rfl, rfl⟩
  refine ⟨by omega, ?_⟩
  rintro p0 _ _ p1 _ _ p2 _ _ p3 _ _ p4 _ _ p5 _ _ p6 _ _ p7 _ _ v0 rows0 d0 _ _ x _ _ ⟨sp, rfl, rfl, rfl⟩
  have hkk : KOk r1 g1 := by unfold KOk; omega
  have sokq := sok_of sq hkk
  have sokp := sok_of sp hkk
  unfold tlater_5
  simp only [VC, allC, List.map_cons, List.map_nil, List.length_cons, List.length_nil, List.getElem?_cons_zero, List.getElem?_cons_succ, List.cons.injEq, C.i.injEq, C.b.injEq, and_true, true_and, forall_const, kindsOf_nil, kindsOf_lf, kindsOf_agg, kindsOf_box, boxKinds_nil, boxKinds_lf, boxKinds_agg, boxKinds_box, List.append_nil, List.cons_append, List.nil_append, den_cmp_le, den_cmp_lt, den_cmp_eq, den_cmp_ne, den_cmp_le', den_cmp_lt', den_cmp_eq', den_cmp_ne', den_and, den_and', den_or, den_or', den_not, den_not', den_blit, den_of, ev_var, at_0, at_1, at_2, at_3, at_4, at_5, at_6, at_7, at_skip, c_int, c_bool, c_arr, c_cnt, c_vec, ev_nil, ev_join, ev_sub3, loc_s, int_i, bool_b, rows_s, cs_nil, cs_cons, E.den_lit, E.den_var, E.den_add, E.den_sub, E.den_mul, E.den_quo, E.den_rem, E.den_max, E.den_min, E.den_len, E.den_wr, E.den_cell, h5, h7, ctSamples, ctWatch, ctF, kickSh, sensSh, ringSh]
  intro vs
  refine ⟨fun xs => match xs with | [.s _ a, .s _ b, .s _ _, .i _] => SampsOf ⟨q0, q1, q2, q3, q4, q5, q6, q7, r1, g1⟩ 10 0 90 a ∧ SampsOf ⟨p0, p1, p2, p3, p4, p5, p6, p7, r1, g1⟩ 10 1 90 b | _ => False, ?_, ?_⟩
  · refine ⟨by decide, by decide, ⟨by omega, by omega, sokq, by omega, by omega, by omega, by omega⟩, ?_⟩
    rintro va a da _ _ v0 rows0 d0 _ _ x _ _ ⟨hS, rfl, rfl, x0, x1⟩
    unfold tlater_1
    simp only [VC, allC, List.map_cons, List.map_nil, List.length_cons, List.length_nil, List.getElem?_cons_zero, List.getElem?_cons_succ, List.cons.injEq, C.i.injEq, C.b.injEq, and_true, true_and, forall_const, kindsOf_nil, kindsOf_lf, kindsOf_agg, kindsOf_box, boxKinds_nil, boxKinds_lf, boxKinds_agg, boxKinds_box, List.append_nil, List.cons_append, List.nil_append, den_cmp_le, den_cmp_lt, den_cmp_eq, den_cmp_ne, den_cmp_le', den_cmp_lt', den_cmp_eq', den_cmp_ne', den_and, den_and', den_or, den_or', den_not, den_not', den_blit, den_of, ev_var, at_0, at_1, at_2, at_3, at_4, at_5, at_6, at_7, at_skip, c_int, c_bool, c_arr, c_cnt, c_vec, ev_nil, ev_join, ev_sub3, loc_s, int_i, bool_b, rows_s, cs_nil, cs_cons, E.den_lit, E.den_var, E.den_add, E.den_sub, E.den_mul, E.den_quo, E.den_rem, E.den_max, E.den_min, E.den_len, E.den_wr, E.den_cell, h5, ctSamples, sensSh, kickSh, ringSh]
    refine ⟨⟨by omega, by omega, sokp, by omega, by omega, by omega, by omega⟩, ?_⟩
    rintro vb b db _ _ v0 rows0 d0 _ _ x _ _ ⟨hS2, rfl, rfl, x0, x1⟩
    exact ⟨hS, hS2⟩
  · rintro va a da hta _ vb b db htb _ vr rr dr _ _ x _ _ ⟨ha, hb⟩
    have hs0 : sensorsE [[C.i q0, C.i q1, C.i q2, C.i q3, C.i q4, C.i q5, C.i q6, C.i q7], [C.i p0, C.i p1, C.i p2, C.i p3, C.i p4, C.i p5, C.i p6, C.i p7]] = 0 := by exact two_sens (show sensRow [C.i q0, C.i q1, C.i q2, C.i q3, C.i q4, C.i q5, C.i q6, C.i q7] = 0 from sokq.1) (show sensRow [C.i p0, C.i p1, C.i p2, C.i p3, C.i p4, C.i p5, C.i p6, C.i p7] = 0 from sokp.1)
    have hdl : 0 ≤ q2 ∧ q2 ≤ 38 ∧ 0 ≤ p2 ∧ p2 ≤ 38 := by unfold SensGood at sq sp; omega
    have hsl : ([[C.i q0, C.i q1, C.i q2, C.i q3, C.i q4, C.i q5, C.i q6, C.i q7], [C.i p0, C.i p1, C.i p2, C.i p3, C.i p4, C.i p5, C.i p6, C.i p7]] : List (List C)).length = 2 := rfl
    have hc2 : ∀ k : Int, 0 ≤ k → k < 2 → 0 ≤ cell_ (([[C.i q0, C.i q1, C.i q2, C.i q3, C.i q4, C.i q5, C.i q6, C.i q7], [C.i p0, C.i p1, C.i p2, C.i p3, C.i p4, C.i p5, C.i p6, C.i p7]] : List (List C)).getD k.toNat []) 2 ∧ cell_ (([[C.i q0, C.i q1, C.i q2, C.i q3, C.i q4, C.i q5, C.i q6, C.i q7], [C.i p0, C.i p1, C.i p2, C.i p3, C.i p4, C.i p5, C.i p6, C.i p7]] : List (List C)).getD k.toNat []) 2 ≤ 38 := fun k k0 k1 => by
      rcases (show k = 0 ∨ k = 1 by omega) with rfl | rfl
      · exact ⟨hdl.1, hdl.2.1⟩
      · exact ⟨hdl.2.2.1, hdl.2.2.2⟩
    generalize [[C.i q0, C.i q1, C.i q2, C.i q3, C.i q4, C.i q5, C.i q6, C.i q7], [C.i p0, C.i p1, C.i p2, C.i p3, C.i p4, C.i p5, C.i p6, C.i p7]] = sens at *
    have ga := ha.good sokq
    have gb := hb.good sokp
    obtain ⟨c1, c2, hk⟩ := two_check ga gb
    have hw : watchL sens (a ++ b) 2 = watchL sens (b ++ a) 2 := watch_same fun k k0 k1 => (hk k k0 k1).1
    have hv : ∀ l, checkV 2 l = 0 → watchV sens l = watchC (watchL sens l 2) := fun l hl => by unfold watchV; rw [if_pos hs0, hsl, if_pos (show checkV ((2 : Nat) : Int) l = 0 from hl)]
    have l1 := ga.len
    have l2 := gb.len
    intro v10
    refine ⟨by omega, fun v11 => ⟨by omega, fun v12 => ?_⟩⟩
    rintro s _ _ t _ _ f e _ _ hw1
    rw [hv _ c1] at hw1
    unfold tlater_4
    simp only [VC, allC, List.map_cons, List.map_nil, List.length_cons, List.length_nil, List.getElem?_cons_zero, List.getElem?_cons_succ, List.cons.injEq, C.i.injEq, C.b.injEq, and_true, true_and, forall_const, kindsOf_nil, kindsOf_lf, kindsOf_agg, kindsOf_box, boxKinds_nil, boxKinds_lf, boxKinds_agg, boxKinds_box, List.append_nil, List.cons_append, List.nil_append, den_cmp_le, den_cmp_lt, den_cmp_eq, den_cmp_ne, den_cmp_le', den_cmp_lt', den_cmp_eq', den_cmp_ne', den_and, den_and', den_or, den_or', den_not, den_not', den_blit, den_of, ev_var, at_0, at_1, at_2, at_3, at_4, at_5, at_6, at_7, at_skip, c_int, c_bool, c_arr, c_cnt, c_vec, ev_nil, ev_join, ev_sub3, loc_s, int_i, bool_b, rows_s, cs_nil, cs_cons, E.den_lit, E.den_var, E.den_add, E.den_sub, E.den_mul, E.den_quo, E.den_rem, E.den_max, E.den_min, E.den_len, E.den_wr, E.den_cell, h7, ctWatch, ctF]
    intro v13
    refine ⟨by omega, fun v14 => ⟨by omega, fun v15 => ?_⟩⟩
    rintro s' _ _ t' _ _ f' e' _ _ hw2
    rw [hv _ c2, ← hw, ← hw1] at hw2
    cases hw2
    unfold tlater_3
    simp only [VC, allC, List.map_cons, List.map_nil, List.length_cons, List.length_nil, List.getElem?_cons_zero, List.getElem?_cons_succ, List.cons.injEq, C.i.injEq, C.b.injEq, and_true, true_and, forall_const, kindsOf_nil, kindsOf_lf, kindsOf_agg, kindsOf_box, boxKinds_nil, boxKinds_lf, boxKinds_agg, boxKinds_box, List.append_nil, List.cons_append, List.nil_append, den_cmp_le, den_cmp_lt, den_cmp_eq, den_cmp_ne, den_cmp_le', den_cmp_lt', den_cmp_eq', den_cmp_ne', den_and, den_and', den_or, den_or', den_not, den_not', den_blit, den_of, ev_var, at_0, at_1, at_2, at_3, at_4, at_5, at_6, at_7, at_skip, c_int, c_bool, c_arr, c_cnt, c_vec, ev_nil, ev_join, ev_sub3, loc_s, int_i, bool_b, rows_s, cs_nil, cs_cons, E.den_lit, E.den_var, E.den_add, E.den_sub, E.den_mul, E.den_quo, E.den_rem, E.den_max, E.den_min, E.den_len, E.den_wr, E.den_cell, h7, h9, ctWatch, ctAwake, ctF]
    have e0 : e = 0 := by
      cases hq : watchL sens (a ++ b) 2 with
      | none => rw [hq] at hw1; cases hw1; rfl
      | some y => rw [hq] at hw1; cases hw1; rfl
    subst e0
    have e2 : ∀ v k o (l : List (List C)), ((C.s v l).at k o).int = cell_ (l.getD k []) o := fun _ _ _ _ => rfl
    simp only [e2]
    refine ⟨fun h => absurd rfl h, fun _ => ⟨fun h => absurd rfl h, fun _ => ⟨fun h => (by simp at h), ⟨fun h => absurd h (show ¬ (f == f) = false by simp), fun _ => ⟨fun h z hz => hz, fun hf => ?_⟩⟩⟩⟩⟩
    subst hf
    obtain ⟨s0, T, hwl⟩ : ∃ s0 T, watchL sens (a ++ b) 2 = some (s0, T) := by
      cases hq : watchL sens (a ++ b) 2 with
      | none => rw [hq] at hw1; cases hw1
      | some y => exact ⟨y.1, y.2, rfl⟩
    rw [hwl] at hw1
    cases hw1
    have hcut := watch_cut (T := t) (fun k k0 k1 => (hk k k0 k1).2) hwl
    have hcc := checkV_filter (p := upTo sens t) c1
    obtain ⟨-, hin, hir, -⟩ := checkV_ok c1
    have hlen : (a ++ b).length ≤ 182 := by rw [List.length_append]; omega
    obtain ⟨dA, htA⟩ : ∃ dA, TyN Try.prog dA 40 (a ++ b) := by
      cases da with
      | zero => exact hta.elim
      | succ da =>
        cases db with
        | zero => exact htb.elim
        | succ db =>
          obtain ⟨ks, k1, k2⟩ := hta
          obtain ⟨ks', k1', k2'⟩ := htb
          have : (some ks : Option (List Lk)) = some ks' := k1.symm.trans k1'
          cases this
          refine ⟨max da db + 1, ks, k1, fun r hr => ?_⟩
          have k3 : ks = [.int, .int, .int] := Option.some.inj (k1.symm.trans kinds_sam)
          subst k3
          rcases List.mem_append.1 hr with h | h
          · refine ⟨(k2 r h).1, fun j k hj => ?_⟩
            obtain ⟨c, hc, hh⟩ := (k2 r h).2 j k hj
            refine ⟨c, hc, ?_⟩
            cases k with
            | int => exact hh
            | bool => exact hh
            | arr t => rcases j with _ | _ | _ | j <;> simp at hj
            | vec t => exact hh
          · refine ⟨(k2' r h).1, fun j k hj => ?_⟩
            obtain ⟨c, hc, hh⟩ := (k2' r h).2 j k hj
            refine ⟨c, hc, ?_⟩
            cases k with
            | int => exact hh
            | bool => exact hh
            | arr t => rcases j with _ | _ | _ | j <;> simp at hj
            | vec t => exact hh
    intro v16
    refine ⟨by omega, fun v17 => ⟨by omega, fun v18 => ?_⟩⟩
    generalize a ++ b = all at *
    refine ⟨fun xs => match xs with | [.s _ out, .i i] => 0 ≤ i ∧ i ≤ all.length ∧ out = (all.take i.toNat).filter (upTo sens t) | _ => False, fun xs => match xs with | [_, .i i] => ((all.length : Int) - i).toNat | _ => 0, ⟨by omega, by omega, rfl⟩, ?_⟩
    rintro v19 out do_ _ _ i _ _ ⟨i0, i1, hI⟩
    refine ⟨fun hlt => ?_, fun hge => ?_⟩
    · have hz : i.toNat < all.length := by omega
      have hft := filter_take (p := upTo sens t) hz
      have hr3 := row3 htA hz
      have hmu : ((all.length : Int) - (i + 1)).toNat < ((all.length : Int) - i).toNat := by omega
      have e3 : (i + 1).toNat = i.toNat + 1 := by omega
      have hl : out.length ≤ 182 := by
        have := List.length_filter_le (upTo sens t) (all.take i.toNat)
        have := List.length_take_le i.toNat all
        rw [hI]; omega
      have hmem : all.getD i.toNat [] ∈ all := by simp [List.getD_eq_getElem?_getD, hz]
      have hb1 : 0 ≤ cell_ (all.getD i.toNat []) 0 ∧ cell_ (all.getD i.toNat []) 0 < 2 := by simpa [inB] using List.all_eq_true.1 hin _ hmem
      have hb2 := inR_at (List.all_eq_true.1 hir) hz
      generalize hrow : all.getD i.toNat [] = row at *
      have hb3 := hc2 _ hb1.1 hb1.2
      refine ⟨i0, hlt, hlt, hb1.1, by omega, by omega, fun hle => ?_, fun hgt => ?_⟩
      · have hu : upTo sens t row = true := decide_eq_true hle
        refine ⟨hlt, by omega, fun v20 => ⟨⟨by omega, by omega, ?_⟩, hmu⟩⟩
        rw [e3, hft, hu, if_pos rfl, hI, ← hr3]
      · have hu : upTo sens t row = false := decide_eq_false (by omega)
        refine ⟨⟨by omega, by omega, ?_⟩, hmu⟩
        rw [e3, hft, hu, hI]
        simp
    · rw [List.take_of_length_le (by omega)] at hI
      subst hI
      rintro s3 _ _ t3 _ _ f3 e3 _ _ hw3
      rw [hv _ hcc, hcut] at hw3
      cases hw3
      unfold tlater_2
      simp only [VC, allC, List.map_cons, List.map_nil, List.length_cons, List.length_nil, List.getElem?_cons_zero, List.getElem?_cons_succ, List.cons.injEq, C.i.injEq, C.b.injEq, and_true, true_and, forall_const, kindsOf_nil, kindsOf_lf, kindsOf_agg, kindsOf_box, boxKinds_nil, boxKinds_lf, boxKinds_agg, boxKinds_box, List.append_nil, List.cons_append, List.nil_append, den_cmp_le, den_cmp_lt, den_cmp_eq, den_cmp_ne, den_cmp_le', den_cmp_lt', den_cmp_eq', den_cmp_ne', den_and, den_and', den_or, den_or', den_not, den_not', den_blit, den_of, ev_var, at_0, at_1, at_2, at_3, at_4, at_5, at_6, at_7, at_skip, c_int, c_bool, c_arr, c_cnt, c_vec, ev_nil, ev_join, ev_sub3, loc_s, int_i, bool_b, rows_s, cs_nil, cs_cons, E.den_lit, E.den_var, E.den_add, E.den_sub, E.den_mul, E.den_quo, E.den_rem, E.den_max, E.den_min, E.den_len, E.den_wr, E.den_cell, h9, ctAwake, ctF]
      exact ⟨⟨⟨fun z hz => hz, fun h => absurd rfl h⟩, fun h => (by cases h)⟩, fun h => absurd rfl h⟩
end Go.Proofs.Ytlbgcjpkegpmlaa
/- Plain definitions of what the functions of layer 6 compute. No program in sight. -/
namespace Go.Proofs.Ytlbgcjpkegpmlaa

def KickOK (r g : Int) : Prop := 0 ≤ r ∧ r ≤ 16777216 ∧ 0 ≤ g ∧ g ≤ 4096
instance (r g : Int) : Decidable (KickOK r g) := by unfold KickOK; exact inferInstance

structure Sen where
  ch : Int
  pe : Int
  de : Int
  no : Int
  st : Int
  lo : Int
  li : Int
  ho : Int

def KindOK (s : Sen) : Prop := s.ch = 1 ∨ s.ch = 2
def RangeOK (s : Sen) : Prop := 1 ≤ s.pe ∧ s.pe ≤ 60 ∧ 0 ≤ s.de ∧ s.de ≤ 600 ∧ 0 ≤ s.no ∧ s.no ≤ 15 ∧ 1 ≤ s.st ∧ s.st ≤ 1048576 ∧ 0 ≤ s.lo ∧ s.lo ≤ 5 ∧ 1 ≤ s.li ∧ s.li ≤ 1099511627776 ∧ 1 ≤ s.ho ∧ s.ho ≤ 8
def SenOK (s : Sen) : Prop := KindOK s ∧ RangeOK s
instance (s : Sen) : Decidable (KindOK s) := by unfold KindOK; exact inferInstance
instance (s : Sen) : Decidable (RangeOK s) := by unfold RangeOK; exact inferInstance
instance (s : Sen) : Decidable (SenOK s) := by unfold SenOK; exact inferInstance

def checkSensor (s : Sen) : Int := if KindOK s then (if RangeOK s then 0 else 2) else 4

/-- what flows n ticks after the beginning -/
def flowAt (r g n : Int) : Int := if n < 0 then 0 else r + n * g
/-- what has flowed in n ticks after the beginning -/
def gainAt (r g n : Int) : Int := if n < 0 then 0 else n * r + g * (n * (n - 1) / 2)
def flowF (r g n : Int) : Int := if KickOK r g ∧ n ≤ 20000 then flowAt r g n else 0
def gainF (r g n : Int) : Int := if KickOK r g ∧ n ≤ 20000 then gainAt r g n else 0
def saysAt (s : Sen) (r g n : Int) : Int := if s.ch = 2 then flowAt r g n else gainAt r g n
def valueF (s : Sen) (r g n e : Int) : Int := if SenOK s ∧ KickOK r g ∧ -s.no ≤ e ∧ e ≤ s.no ∧ n ≤ 20000 then saysAt s r g n + e * s.st else 0

theorem mul_one_le {a b : Int} (h0 : 1 ≤ a) (h1 : 1 ≤ b) : 1 ≤ a * b := by
  have := Int.mul_le_mul h0 h1 (by omega) (by omega)
  omega
theorem tri_bd (n : Int) (h0 : 0 ≤ n) (h1 : n ≤ 20000) : 0 ≤ n * (n - 1) ∧ n * (n - 1) ≤ 400000000 ∧ 0 ≤ n * (n - 1) / 2 ∧ n * (n - 1) / 2 ≤ 200000000 := by
  rcases Int.lt_or_le 0 n with h | h
  · have := mul_bd (a := n) (b := n - 1) (A := 20000) (B := 20000) h0 h1 (by omega) (by omega)
    omega
  · obtain rfl : n = 0 := by omega
    simp
theorem gain_bd {r g n : Int} (h : KickOK r g) (hn : n ≤ 20000) : 0 ≤ gainAt r g n ∧ gainAt r g n ≤ 1154744320000 := by
  obtain ⟨h1, h2, h3, h4⟩ := h
  unfold gainAt
  split
  · omega
  · obtain ⟨t1, t2, t3, t4⟩ := tri_bd n (by omega) hn
    obtain ⟨b1, b2⟩ := mul_bd (by omega : 0 ≤ n) hn h1 h2
    obtain ⟨b3, b4⟩ := mul_bd h3 h4 t3 t4
    omega
theorem flow_bd {r g n : Int} (h : KickOK r g) (hn : n ≤ 20000) : 0 ≤ flowAt r g n ∧ flowAt r g n ≤ 98697216 := by
  obtain ⟨h1, h2, h3, h4⟩ := h
  unfold flowAt
  split
  · omega
  · obtain ⟨b1, b2⟩ := mul_bd (by omega : 0 ≤ n) hn h3 h4
    omega
theorem says_bd {s : Sen} {r g n : Int} (h : KickOK r g) (hn : n ≤ 20000) : 0 ≤ saysAt s r g n ∧ saysAt s r g n ≤ 1154744320000 := by
  unfold saysAt
  split
  · have := flow_bd h hn; omega
  · exact gain_bd h hn

/-- The least number of a sample, from a on and within so many tries, that is at least the limit in spite of all noise. -/
def findA (s : Sen) (r g f : Int) : Nat → Nat → Option Nat
  | 0, _ => none
  | k + 1, a => if f + a * s.pe ≤ 10000 then (if s.li ≤ saysAt s r g (f + a * s.pe) - s.no * s.st then some a else findA s r g f k (a + 1)) else none
def firstA (s : Sen) (r g f : Int) : Option Nat := findA s r g f 10001 0
def alarmT (s : Sen) (f a : Int) : Int := f + (a + s.ho * (s.lo + 1) - 1) * s.pe + s.de
/-- The latest alarm over the phases from f on, so many of them. -/
def lateGo (s : Sen) (r g : Int) : Nat → Nat → Int × Int × Int → Option (Int × Int × Int)
  | 0, _, o => some o
  | k + 1, f, o => match firstA s r g f with
    | none => none
    | some a => if 10000 < alarmT s f a then none else lateGo s r g k (f + 1) (if o.1 < alarmT s f a then (alarmT s f a, (f : Int), (a : Int)) else o)
def lateF (s : Sen) (r g : Int) : Option (Int × Int × Int) := lateGo s r g s.pe.toNat 0 (-1, 0, 0)

end Go.Proofs.Ytlbgcjpkegpmlaa
/- Contracts of small functions: kick.within, moonpoolref06.between, CheckKick, flows and gains. -/
namespace Go.Proofs.Ytlbgcjpkegpmlaa
open Go.RowKit

/-- kick.within -/
theorem within_any (n lo hi : Int) (w : World) :
    Calls Try.prog 68 #[.int .i64 n, .int .i64 lo, .int .i64 hi] w fun e w' => e = .returned (.bool (decide (lo ≤ n ∧ n ≤ hi))) ∧ w = w' := by
  go_enter Try.func68, Try.ntmps68
  go_wp2
  all_goals go_ret
  all_goals (refine ⟨ret_bool ?_, rfl⟩; simp; omega)
/-- moonpoolref06.between -/
theorem between_any (n lo hi : Int) (w : World) :
    Calls Try.prog 69 #[.int .i64 n, .int .i64 lo, .int .i64 hi] w fun e w' => e = .returned (.bool (decide (lo ≤ n ∧ n ≤ hi))) ∧ w = w' := by
  go_enter Try.func69, Try.ntmps69
  go_wp2
  all_goals go_ret
  all_goals (refine ⟨ret_bool ?_, rfl⟩; simp; omega)
theorem within_yes (n lo hi : Int) (w : World) (h : lo ≤ n) (h' : n ≤ hi) :
    Calls Try.prog 68 #[.int .i64 n, .int .i64 lo, .int .i64 hi] w fun e w' => e = .returned (.bool true) ∧ w = w' :=
  (within_any n lo hi w).mono fun _ _ ⟨he, hw⟩ => ⟨he.trans (ret_bool (by simp [h, h'])), hw⟩
theorem within_no (n lo hi : Int) (w : World) (h : n < lo ∨ hi < n) :
    Calls Try.prog 68 #[.int .i64 n, .int .i64 lo, .int .i64 hi] w fun e w' => e = .returned (.bool false) ∧ w = w' :=
  (within_any n lo hi w).mono fun _ _ ⟨he, hw⟩ => ⟨he.trans (ret_bool (by simp; omega)), hw⟩
theorem between_yes (n lo hi : Int) (w : World) (h : lo ≤ n) (h' : n ≤ hi) :
    Calls Try.prog 69 #[.int .i64 n, .int .i64 lo, .int .i64 hi] w fun e w' => e = .returned (.bool true) ∧ w = w' :=
  (between_any n lo hi w).mono fun _ _ ⟨he, hw⟩ => ⟨he.trans (ret_bool (by simp [h, h'])), hw⟩
theorem between_no (n lo hi : Int) (w : World) (h : n < lo ∨ hi < n) :
    Calls Try.prog 69 #[.int .i64 n, .int .i64 lo, .int .i64 hi] w fun e w' => e = .returned (.bool false) ∧ w = w' :=
  (between_any n lo hi w).mono fun _ _ ⟨he, hw⟩ => ⟨he.trans (ret_bool (by simp; omega)), hw⟩



abbrev kickV (r g : Int) : Value := .agg #[.int .i64 r, .int .i64 g]
abbrev Sen.v (s : Sen) : Value := .agg #[.int .i64 s.ch, .int .i64 s.pe, .int .i64 s.de, .int .i64 s.no, .int .i64 s.st, .int .i64 s.lo, .int .i64 s.li, .int .i64 s.ho]

theorem notKick {r g : Int} (h : ¬ KickOK r g) : r < 0 ∨ (0 ≤ r ∧ 16777216 < r) ∨ (0 ≤ r ∧ r ≤ 16777216 ∧ g < 0) ∨ (0 ≤ r ∧ r ≤ 16777216 ∧ 0 ≤ g ∧ 4096 < g) := by unfold KickOK at h; omega
theorem checkKick_yes (r g : Int) (w : World) (h : KickOK r g) :
    Calls Try.prog 36 #[kickV r g] w fun e w' => e = .returned (.int .i64 0) ∧ Below w.heap.size w w' := by
  obtain ⟨h1, h2, h3, h4⟩ := h
  go_enter Try.func36, Try.ntmps36
  go_wp2
  all_goals go_returns
  all_goals (refine ⟨rfl, ?_⟩; go_grown)
theorem checkKick_no (r g : Int) (w : World) (h : ¬ KickOK r g) :
    Calls Try.prog 36 #[kickV r g] w fun e w' => e = .returned (.int .i64 2) ∧ Below w.heap.size w w' := by
  rcases notKick h with h1 | ⟨h1, h2⟩ | ⟨h1, h2, h3⟩ | ⟨h1, h2, h3, h4⟩
  all_goals
    clear h
    go_enter Try.func36, Try.ntmps36
    go_wp2
    go_returns
    refine ⟨rfl, ?_⟩
    go_grown
theorem rcheckKick_yes (r g : Int) (w : World) (h : KickOK r g) :
    Calls Try.prog 37 #[kickV r g] w fun e w' => e = .returned (.int .i64 0) ∧ Below w.heap.size w w' := by
  obtain ⟨h1, h2, h3, h4⟩ := h
  go_enter Try.func37, Try.ntmps37
  go_wp2
  all_goals go_returns
  all_goals (refine ⟨rfl, ?_⟩; go_grown)
theorem rcheckKick_no (r g : Int) (w : World) (h : ¬ KickOK r g) :
    Calls Try.prog 37 #[kickV r g] w fun e w' => e = .returned (.int .i64 2) ∧ Below w.heap.size w w' := by
  rcases notKick h with h1 | ⟨h1, h2⟩ | ⟨h1, h2, h3⟩ | ⟨h1, h2, h3, h4⟩
  all_goals
    clear h
    go_enter Try.func37, Try.ntmps37
    go_wp2_with (go_at_call 69; first | (refine (between_yes _ _ _ _ (by omega) (by omega)).mono ?_; rintro e w' ⟨rfl, rfl⟩) | (refine (between_no _ _ _ _ (by omega)).mono ?_; rintro e w' ⟨rfl, rfl⟩))
    go_returns
    refine ⟨rfl, ?_⟩
    go_grown

end Go.Proofs.Ytlbgcjpkegpmlaa
/- Contracts of CheckSensor, of the program and of the reference. -/
namespace Go.Proofs.Ytlbgcjpkegpmlaa
open Go.RowKit

theorem checkSensor_yes (s : Sen) (w : World) (h : SenOK s) :
    Calls Try.prog 40 #[s.v] w fun e w' => e = .returned (.int .i64 0) ∧ Below w.heap.size w w' := by
  obtain ⟨hk, h1, h2, h3, h4, h5, h6, h7, h8, h9, h10, h11, h12, h13, h14⟩ := h
  obtain ⟨ch, pe, de, no, st, lo, li, ho⟩ := s
  unfold KindOK at hk
  simp only at hk h1 h2 h3 h4 h5 h6 h7 h8 h9 h10 h11 h12 h13 h14
  rcases hk with rfl | rfl
  all_goals
    go_enter Try.func40, Try.ntmps40
    go_wp2_with (go_at_call 68; refine (within_yes _ _ _ _ (by omega) (by omega)).mono ?_; rintro e w' ⟨rfl, rfl⟩)
    all_goals go_returns
    all_goals (refine ⟨rfl, ?_⟩; go_grown)
theorem checkSensor_kind (s : Sen) (w : World) (h : ¬ KindOK s) :
    Calls Try.prog 40 #[s.v] w fun e w' => e = .returned (.int .i64 4) ∧ Below w.heap.size w w' := by
  obtain ⟨ch, pe, de, no, st, lo, li, ho⟩ := s
  unfold KindOK at h
  simp only at h
  have h1 : (ch != 1) = true := by rw [bne_iff_ne]; omega
  have h2 : (ch != 2) = true := by rw [bne_iff_ne]; omega
  clear h
  go_enter Try.func40, Try.ntmps40
  go_wp2
  all_goals go_returns
  all_goals (refine ⟨rfl, ?_⟩; go_grown)
theorem checkSensor_range (s : Sen) (w : World) (hk : KindOK s) (h : ¬ RangeOK s) :
    Calls Try.prog 40 #[s.v] w fun e w' => e = .returned (.int .i64 2) ∧ Below w.heap.size w w' := by
  obtain ⟨ch, pe, de, no, st, lo, li, ho⟩ := s
  have H := Lib.hid h
  clear h
  unfold KindOK at hk
  simp only at hk
  rcases hk with rfl | rfl
  all_goals
    go_enter Try.func40, Try.ntmps40
    go_wp2_with (go_at_call 68; refine (within_any _ _ _ _).mono ?_; rintro e w' ⟨rfl, rfl⟩)
    all_goals first
      | (exfalso; apply H.out; unfold RangeOK; (try simp at *); omega)
      | (go_returns; refine ⟨rfl, ?_⟩; go_grown)
theorem rcheckSensor_yes (s : Sen) (w : World) (h : SenOK s) :
    Calls Try.prog 41 #[s.v] w fun e w' => e = .returned (.int .i64 0) ∧ Below w.heap.size w w' := by
  obtain ⟨hk, h1, h2, h3, h4, h5, h6, h7, h8, h9, h10, h11, h12, h13, h14⟩ := h
  obtain ⟨ch, pe, de, no, st, lo, li, ho⟩ := s
  unfold KindOK at hk
  simp only at hk h1 h2 h3 h4 h5 h6 h7 h8 h9 h10 h11 h12 h13 h14
  rcases hk with rfl | rfl
  all_goals
    go_enter Try.func41, Try.ntmps41
    go_wp2_with (go_at_call 69; refine (between_yes _ _ _ _ (by omega) (by omega)).mono ?_; rintro e w' ⟨rfl, rfl⟩)
    all_goals go_returns
    all_goals (refine ⟨rfl, ?_⟩; go_grown)
theorem rcheckSensor_kind (s : Sen) (w : World) (h : ¬ KindOK s) :
    Calls Try.prog 41 #[s.v] w fun e w' => e = .returned (.int .i64 4) ∧ Below w.heap.size w w' := by
  obtain ⟨ch, pe, de, no, st, lo, li, ho⟩ := s
  unfold KindOK at h
  simp only at h
  have h1 : (ch != 1) = true := by rw [bne_iff_ne]; omega
  have h2 : (ch != 2) = true := by rw [bne_iff_ne]; omega
  clear h
  go_enter Try.func41, Try.ntmps41
  go_wp2
  all_goals go_returns
  all_goals (refine ⟨rfl, ?_⟩; go_grown)
theorem rcheckSensor_range (s : Sen) (w : World) (hk : KindOK s) (h : ¬ RangeOK s) :
    Calls Try.prog 41 #[s.v] w fun e w' => e = .returned (.int .i64 2) ∧ Below w.heap.size w w' := by
  obtain ⟨ch, pe, de, no, st, lo, li, ho⟩ := s
  have H := Lib.hid h
  clear h
  unfold KindOK at hk
  simp only at hk
  rcases hk with rfl | rfl
  all_goals
    go_enter Try.func41, Try.ntmps41
    go_wp2_with (go_at_call 69; refine (between_any _ _ _ _).mono ?_; rintro e w' ⟨rfl, rfl⟩)
    all_goals first
      | (exfalso; apply H.out; unfold RangeOK; (try simp at *); omega)
      | (go_returns; refine ⟨rfl, ?_⟩; go_grown)

end Go.Proofs.Ytlbgcjpkegpmlaa
/- Contracts of the flows and gains (kick.influx), of kick.Gain, kick.Flow and of the reference's Gain, Flow. -/
namespace Go.Proofs.Ytlbgcjpkegpmlaa
open Go.RowKit

theorem gain_any (r g n : Int) (w : World) (h : KickOK r g) (hn : n ≤ 20000) :
    Calls Try.prog 66 #[kickV r g, .int .i64 n] w fun e w' => e = .returned (.int .i64 (gainAt r g n)) ∧ Below w.heap.size w w' := by
  obtain ⟨h1, h2, h3, h4⟩ := h
  by_cases h0 : n < 0
  · have hv : gainAt r g n = 0 := by simp [gainAt, h0]
    rw [hv]
    clear hv
    go_enter Try.func66, Try.ntmps66
    go_wp2
    go_returns
    refine ⟨rfl, ?_⟩
    repeat' (first | with_reducible exact Below.refl _ _ | with_reducible refine bstep ?_ (by with_reducible assumption) | with_reducible refine balloc ?_ | with_reducible refine bdrew ?_ | with_reducible refine bdrewN ?_ _ | with_reducible refine bset ?_ (by go_size))
  · have hv : gainAt r g n = n * r + g * (n * (n - 1) / 2) := by simp [gainAt, h0]
    rw [hv]
    clear hv
    have hn0 : 0 ≤ n := by omega
    clear h0
    obtain ⟨t1, t2, t3, t4⟩ := tri_bd n hn0 hn
    obtain ⟨b1, b2⟩ := mul_bd hn0 hn h1 h2
    obtain ⟨b3, b4⟩ := mul_bd h3 h4 t3 t4
    go_enter Try.func66, Try.ntmps66
    go_wp2
    go_returns
    refine ⟨rfl, ?_⟩
    repeat' (first | with_reducible exact Below.refl _ _ | with_reducible refine bstep ?_ (by with_reducible assumption) | with_reducible refine balloc ?_ | with_reducible refine bdrew ?_ | with_reducible refine bdrewN ?_ _ | with_reducible refine bset ?_ (by go_size))
theorem flow_any (r g n : Int) (w : World) (h : KickOK r g) (hn : n ≤ 20000) :
    Calls Try.prog 67 #[kickV r g, .int .i64 n] w fun e w' => e = .returned (.int .i64 (flowAt r g n)) ∧ Below w.heap.size w w' := by
  obtain ⟨h1, h2, h3, h4⟩ := h
  by_cases h0 : n < 0
  · have hv : flowAt r g n = 0 := by simp [flowAt, h0]
    rw [hv]
    clear hv
    go_enter Try.func67, Try.ntmps67
    go_wp2
    go_returns
    refine ⟨rfl, ?_⟩
    repeat' (first | with_reducible exact Below.refl _ _ | with_reducible refine bstep ?_ (by with_reducible assumption) | with_reducible refine balloc ?_ | with_reducible refine bdrew ?_ | with_reducible refine bdrewN ?_ _ | with_reducible refine bset ?_ (by go_size))
  · have hv : flowAt r g n = r + n * g := by simp [flowAt, h0]
    rw [hv]
    clear hv
    have hn0 : 0 ≤ n := by omega
    clear h0
    obtain ⟨b3, b4⟩ := mul_bd hn0 hn h3 h4
    go_enter Try.func67, Try.ntmps67
    go_wp2
    go_returns
    refine ⟨rfl, ?_⟩
    repeat' (first | with_reducible exact Below.refl _ _ | with_reducible refine bstep ?_ (by with_reducible assumption) | with_reducible refine balloc ?_ | with_reducible refine bdrew ?_ | with_reducible refine bdrewN ?_ _ | with_reducible refine bset ?_ (by go_size))

theorem Gain_any (r g n : Int) (w : World) :
    Calls Try.prog 23 #[kickV r g, .int .i64 n] w fun e w' => e = .returned (.int .i64 (gainF r g n)) ∧ Below w.heap.size w w' := by
  by_cases hk : KickOK r g
  · by_cases hn : n ≤ 20000
    · have hv : gainF r g n = gainAt r g n := by simp [gainF, hk, hn]
      rw [hv]
      clear hv
      have HK := Lib.hid hk
      clear hk
      go_enter Try.func23, Try.ntmps23
      go_wp2_with (first
        | (go_at_call 36; refine (checkKick_yes _ _ _ HK.out).mono ?_; rintro e w1 ⟨rfl, hb⟩; obtain ⟨hc, hf⟩ := bcell hb)
        | (go_at_call 66; refine (gain_any _ _ _ _ HK.out hn).mono ?_; rintro e w2 ⟨rfl, hb2⟩))
      go_returns
      refine ⟨rfl, ?_⟩
      repeat' (first | with_reducible exact Below.refl _ _ | with_reducible refine bstep ?_ (by with_reducible assumption) | with_reducible refine balloc ?_ | with_reducible refine bdrew ?_ | with_reducible refine bdrewN ?_ _ | with_reducible refine bset ?_ (by go_size))
    · have hv : gainF r g n = 0 := by simp [gainF, hn]
      rw [hv]
      clear hv
      have HK := Lib.hid hk
      clear hk
      have hn' : 20000 < n := by omega
      clear hn
      go_enter Try.func23, Try.ntmps23
      go_wp2_with (first
        | (go_at_call 36; refine (checkKick_yes _ _ _ HK.out).mono ?_; rintro e w1 ⟨rfl, hb⟩; obtain ⟨hc, hf⟩ := bcell hb))
      go_returns
      refine ⟨rfl, ?_⟩
      repeat' (first | with_reducible exact Below.refl _ _ | with_reducible refine bstep ?_ (by with_reducible assumption) | with_reducible refine balloc ?_ | with_reducible refine bdrew ?_ | with_reducible refine bdrewN ?_ _ | with_reducible refine bset ?_ (by go_size))
  · have hv : gainF r g n = 0 := by simp [gainF, hk]
    rw [hv]
    clear hv
    have HK := Lib.hid hk
    clear hk
    go_enter Try.func23, Try.ntmps23
    go_wp2_with (first
      | (go_at_call 36; refine (checkKick_no _ _ _ HK.out).mono ?_; rintro e w1 ⟨rfl, hb⟩; obtain ⟨hc, hf⟩ := bcell hb))
    go_returns
    refine ⟨rfl, ?_⟩
    repeat' (first | with_reducible exact Below.refl _ _ | with_reducible refine bstep ?_ (by with_reducible assumption) | with_reducible refine balloc ?_ | with_reducible refine bdrew ?_ | with_reducible refine bdrewN ?_ _ | with_reducible refine bset ?_ (by go_size))

theorem Flow_any (r g n : Int) (w : World) :
    Calls Try.prog 24 #[kickV r g, .int .i64 n] w fun e w' => e = .returned (.int .i64 (flowF r g n)) ∧ Below w.heap.size w w' := by
  by_cases hk : KickOK r g
  · by_cases hn : n ≤ 20000
    · have hv : flowF r g n = flowAt r g n := by simp [flowF, hk, hn]
      rw [hv]
      clear hv
      have HK := Lib.hid hk
      clear hk
      go_enter Try.func24, Try.ntmps24
      go_wp2_with (first
        | (go_at_call 36; refine (checkKick_yes _ _ _ HK.out).mono ?_; rintro e w1 ⟨rfl, hb⟩; obtain ⟨hc, hf⟩ := bcell hb)
        | (go_at_call 67; refine (flow_any _ _ _ _ HK.out hn).mono ?_; rintro e w2 ⟨rfl, hb2⟩))
      go_returns
      refine ⟨rfl, ?_⟩
      repeat' (first | with_reducible exact Below.refl _ _ | with_reducible refine bstep ?_ (by with_reducible assumption) | with_reducible refine balloc ?_ | with_reducible refine bdrew ?_ | with_reducible refine bdrewN ?_ _ | with_reducible refine bset ?_ (by go_size))
    · have hv : flowF r g n = 0 := by simp [flowF, hn]
      rw [hv]
      clear hv
      have HK := Lib.hid hk
      clear hk
      have hn' : 20000 < n := by omega
      clear hn
      go_enter Try.func24, Try.ntmps24
      go_wp2_with (first
        | (go_at_call 36; refine (checkKick_yes _ _ _ HK.out).mono ?_; rintro e w1 ⟨rfl, hb⟩; obtain ⟨hc, hf⟩ := bcell hb))
      go_returns
      refine ⟨rfl, ?_⟩
      repeat' (first | with_reducible exact Below.refl _ _ | with_reducible refine bstep ?_ (by with_reducible assumption) | with_reducible refine balloc ?_ | with_reducible refine bdrew ?_ | with_reducible refine bdrewN ?_ _ | with_reducible refine bset ?_ (by go_size))
  · have hv : flowF r g n = 0 := by simp [flowF, hk]
    rw [hv]
    clear hv
    have HK := Lib.hid hk
    clear hk
    go_enter Try.func24, Try.ntmps24
    go_wp2_with (first
      | (go_at_call 36; refine (checkKick_no _ _ _ HK.out).mono ?_; rintro e w1 ⟨rfl, hb⟩; obtain ⟨hc, hf⟩ := bcell hb))
    go_returns
    refine ⟨rfl, ?_⟩
    repeat' (first | with_reducible exact Below.refl _ _ | with_reducible refine bstep ?_ (by with_reducible assumption) | with_reducible refine balloc ?_ | with_reducible refine bdrew ?_ | with_reducible refine bdrewN ?_ _ | with_reducible refine bset ?_ (by go_size))

end Go.Proofs.Ytlbgcjpkegpmlaa
/- The contract of kick.late: the search for the first sample that counts, for each phase. Printed by genD.py. -/
namespace Go.Proofs.Ytlbgcjpkegpmlaa
open Go.RowKit

def lateV (s : Sen) (r g : Int) : Value := match lateF s r g with
  | some (t, f, a) => .tuple #[.agg #[.int .i64 t, .int .i64 f, .int .i64 a], .bool true]
  | none => .tuple #[.agg #[.int .i64 0, .int .i64 0, .int .i64 0], .bool false]
theorem lateV_some {s : Sen} {r g t f a : Int} (h : lateF s r g = some (t, f, a)) : lateV s r g = .tuple #[.agg #[.int .i64 t, .int .i64 f, .int .i64 a], .bool true] := by simp [lateV, h]
theorem lateV_none {s : Sen} {r g : Int} (h : lateF s r g = none) : lateV s r g = .tuple #[.agg #[.int .i64 0, .int .i64 0, .int .i64 0], .bool false] := by simp [lateV, h]

def senCells (ch pe de no st lo li ho : Int) : Array Value := #[.int .i64 ch, .int .i64 pe, .int .i64 de, .int .i64 no, .int .i64 st, .int .i64 lo, .int .i64 li, .int .i64 ho]
def outCells (o : Int × Int × Int) : Array Value := #[.int .i64 o.1, .int .i64 o.2.1, .int .i64 o.2.2]
theorem sen_cells {w : World} {b : Nat} {ch pe de no st lo li ho : Int} (h : Blk w b 23 (senCells ch pe de no st lo li ho)) :
    w.cell? ⟨b, 1, none⟩ = some (.int .i64 pe) ∧ w.cell? ⟨b, 2, none⟩ = some (.int .i64 de) ∧ w.cell? ⟨b, 3, none⟩ = some (.int .i64 no) ∧ w.cell? ⟨b, 4, none⟩ = some (.int .i64 st) ∧ w.cell? ⟨b, 5, none⟩ = some (.int .i64 lo) ∧ w.cell? ⟨b, 6, none⟩ = some (.int .i64 li) ∧ w.cell? ⟨b, 7, none⟩ = some (.int .i64 ho) :=
  ⟨h.cell 1 rfl, h.cell 2 rfl, h.cell 3 rfl, h.cell 4 rfl, h.cell 5 rfl, h.cell 6 rfl, h.cell 7 rfl⟩
theorem out_cells {w : World} {b : Nat} {x y z : Int} (h : Blk w b 110 (outCells (x, y, z))) :
    w.cell? ⟨b, 0, none⟩ = some (.int .i64 x) ∧ w.cell? ⟨b, 1, none⟩ = some (.int .i64 y) ∧ w.cell? ⟨b, 2, none⟩ = some (.int .i64 z) ∧ w.frozen? ⟨b, 0, none⟩ = false ∧ w.frozen? ⟨b, 1, none⟩ = false ∧ w.frozen? ⟨b, 2, none⟩ = false :=
  ⟨h.cell 0 rfl, h.cell 1 rfl, h.cell 2 rfl, h.froz 0, h.froz 1, h.froz 2⟩
theorem out_put {w : World} {b : Nat} {o x : Int × Int × Int} (h : Blk w b 110 (outCells o)) :
    Blk (((w.setCell ⟨b, 0, none⟩ (.int .i64 x.1)).setCell ⟨b, 1, none⟩ (.int .i64 x.2.1)).setCell ⟨b, 2, none⟩ (.int .i64 x.2.2)) b 110 (outCells x) := by
  have := ((h.put 0 (.int .i64 x.1)).put 1 (.int .i64 x.2.1)).put 2 (.int .i64 x.2.2)
  simpa [outCells] using this

theorem out_far {w : World} {b c : Nat} {t : TypeId} {cs : Array Value} {x y z : Value} (h : Blk w b t cs) (hc : b ≠ c) :
    Blk (((w.setCell ⟨c, 0, none⟩ x).setCell ⟨c, 1, none⟩ y).setCell ⟨c, 2, none⟩ z) b t cs := ((h.far hc _).far hc _).far hc _
theorem out_below {w w1 : World} {c : Nat} {x y z : Value} (h : Below w.heap.size w w1) (hc : w.heap.size ≤ c) :
    Below w.heap.size w (((w1.setCell ⟨c, 0, none⟩ x).setCell ⟨c, 1, none⟩ y).setCell ⟨c, 2, none⟩ z) := ((h.setCell hc _).setCell hc _).setCell hc _

theorem says_pit (s : Sen) (r g : Int) (w : World) (h : s.ch = 1) :
    Calls Try.prog 77 #[s.v, kickV r g] w fun e w' => e = .returned (.func (Fn.func 66) #[kickV r g] #[]) ∧ Below w.heap.size w w' := by
  obtain ⟨ch, pe, de, no, st, lo, li, ho⟩ := s
  subst h
  go_enter Try.func77, Try.ntmps77
  go_wp2
  go_returns
  refine ⟨rfl, ?_⟩
  repeat' (first | with_reducible exact Below.refl _ _ | with_reducible refine bstep ?_ (by with_reducible assumption) | with_reducible refine balloc ?_ | with_reducible refine bdrew ?_ | with_reducible refine bdrewN ?_ _ | with_reducible refine bset ?_ (by go_size))
theorem says_flow (s : Sen) (r g : Int) (w : World) (h : s.ch = 2) :
    Calls Try.prog 77 #[s.v, kickV r g] w fun e w' => e = .returned (.func (Fn.func 67) #[kickV r g] #[]) ∧ Below w.heap.size w w' := by
  obtain ⟨ch, pe, de, no, st, lo, li, ho⟩ := s
  subst h
  go_enter Try.func77, Try.ntmps77
  go_wp2
  go_returns
  refine ⟨rfl, ?_⟩
  repeat' (first | with_reducible exact Below.refl _ _ | with_reducible refine bstep ?_ (by with_reducible assumption) | with_reducible refine balloc ?_ | with_reducible refine bdrew ?_ | with_reducible refine bdrewN ?_ _ | with_reducible refine bset ?_ (by go_size))


set_option maxHeartbeats 2000000 in
set_option maxRecDepth 100000 in
theorem late_pit (pe de no st lo li ho r g : Int) (w : World) (hs : RangeOK ⟨1, pe, de, no, st, lo, li, ho⟩) (hk : KickOK r g) :
    Calls Try.prog 79 #[.agg #[.int .i64 1, .int .i64 pe, .int .i64 de, .int .i64 no, .int .i64 st, .int .i64 lo, .int .i64 li, .int .i64 ho], kickV r g] w fun e w' => e = .returned (lateV ⟨1, pe, de, no, st, lo, li, ho⟩ r g) ∧ Below w.heap.size w w' := by
  obtain ⟨h1, h2, h3, h4, h5, h6, h7, h8, h9, h10, h11, h12, h13, h14⟩ := hs
  simp only at h1 h2 h3 h4 h5 h6 h7 h8 h9 h10 h11 h12 h13 h14
  obtain ⟨n1, n2⟩ := mul_bd h5 h6 (by omega : 0 ≤ st) h8
  obtain ⟨q1, q2⟩ := mul_bd (by omega : 0 ≤ ho) h14 (by omega : 0 ≤ lo + 1) (by omega : lo + 1 ≤ 6)
  have q0 := mul_one_le h13 (by omega : 1 ≤ lo + 1)
  have HK := Lib.hid hk
  clear hk
  go_enter Try.func79, Try.ntmps79
  go_wp2_with fail
  go_step3
  go_wp2_with (go_at_call 77; refine (says_pit ⟨1, pe, de, no, st, lo, li, ho⟩ r g _ rfl).mono ?_; rintro e w1 ⟨rfl, hb⟩)
  go_step3
  have B0 : Blk w1 w.heap.size 23 (senCells 1 pe de no st lo li ho) := ((((Blk.new w _ _).alloc _).alloc _).alloc _).below hb
  have B2 : Blk w1 (w.heap.size + 1 + 1) 110 (outCells (0, 0, 0)) := by
    have h := ((Blk.new ((w.alloc (.cells #[.int .i64 1, .int .i64 pe, .int .i64 de, .int .i64 no, .int .i64 st, .int .i64 lo, .int .i64 li, .int .i64 ho] 23)).alloc (.cells #[.int .i64 r, .int .i64 g] 31)) 110 (outCells (0, 0, 0))).alloc (.cells (outCells (-1, 0, 0)) 110)).below hb
    simpa using h
  have B3 : Blk w1 (w.heap.size + 1 + 1 + 1) 110 (outCells (-1, 0, 0)) := by
    have h := (Blk.new (((w.alloc (.cells #[.int .i64 1, .int .i64 pe, .int .i64 de, .int .i64 no, .int .i64 st, .int .i64 lo, .int .i64 li, .int .i64 ho] 23)).alloc (.cells #[.int .i64 r, .int .i64 g] 31)).alloc (.cells (outCells (0, 0, 0)) 110)) 110 (outCells (-1, 0, 0))).below hb
    simpa using h
  have hbw : Below w.heap.size w w1 := by
    repeat' (first | with_reducible exact Below.refl _ _ | with_reducible refine bstep ?_ (by with_reducible assumption) | with_reducible refine balloc ?_ | with_reducible refine bdrew ?_ | with_reducible refine bdrewN ?_ _ | with_reducible refine bset ?_ (by go_size))
  obtain ⟨c1, -⟩ := sen_cells B0
  clear hb
  go_wp2_with fail
  go_loopg [17] (pe.toNat) (fun k v17 wx => ∃ (f : Nat) (o : Int × Int × Int), k + f = pe.toNat ∧ v17 = .int .i64 f ∧ Hid (lateGo ⟨1, pe, de, no, st, lo, li, ho⟩ r g k f o = lateF ⟨1, pe, de, no, st, lo, li, ho⟩ r g) ∧
    Blk wx w.heap.size 23 (senCells 1 pe de no st lo li ho) ∧ Blk wx (w.heap.size + 1 + 1) 110 (outCells (0, 0, 0)) ∧ Blk wx (w.heap.size + 1 + 1 + 1) 110 (outCells o) ∧ Below w.heap.size w wx)
  case atStart => exact ⟨0, (-1, 0, 0), rfl, rfl, rfl, B0, B2, B3, hbw⟩
  case round =>
    clear c1 B0 B2 B3 hbw
    obtain ⟨f, ⟨oa, ob, oc⟩, hkf, rfl, HG, B0, B2, B3, hbw⟩ := hrel
    cases gk with
    | zero =>
      have hlt : ¬ ((f : Int) < pe) := by omega
      obtain ⟨k0, k1, k2, -⟩ := out_cells B3
      obtain ⟨e0, e1, e2, f0, f1, f2⟩ := out_cells B2
      have hz := B3.lt
      have HV := Lib.hid (lateV_some (show lateF ⟨1, pe, de, no, st, lo, li, ho⟩ r g = some (oa, ob, oc) from HG.out.symm))
      clear HG
      go_wp2_with fail
      refine bodyPost_ret (v := .tuple #[.agg #[.int .i64 oa, .int .i64 ob, .int .i64 oc], .bool true]) (by simp [results, Try.results79, go_sem, cell_put_same, e0, e1, e2]) rfl ?_
      refine ⟨by rw [HV.out], ?_⟩
      repeat' (first | with_reducible exact Below.refl _ _ | with_reducible refine bstep ?_ (by with_reducible assumption) | with_reducible refine balloc ?_ | with_reducible refine bdrew ?_ | with_reducible refine bdrewN ?_ _ | with_reducible refine bset ?_ (by go_size))
    | succ k =>
      have hlt : (f : Int) < pe := by omega
      go_wp2_with fail
      go_loopg [9] 10001 (fun j v9 wy => ∃ a : Nat, j + a = 10001 ∧ v9 = .int .i64 a ∧ Hid (findA ⟨1, pe, de, no, st, lo, li, ho⟩ r g f j a = firstA ⟨1, pe, de, no, st, lo, li, ho⟩ r g f) ∧
        Blk wy w.heap.size 23 (senCells 1 pe de no st lo li ho) ∧ Blk wy (w.heap.size + 1 + 1) 110 (outCells (0, 0, 0)) ∧ Blk wy (w.heap.size + 1 + 1 + 1) 110 (outCells (oa, ob, oc)) ∧ Below w.heap.size w wy)
      case atStart => exact ⟨0, rfl, rfl, rfl, B0, B2, B3, hbw⟩
      case round =>
        clear B0 B2 B3 hbw
        rename_i wo _ _ _ _ _ _ _
        obtain ⟨a, hja, rfl, HF, B0, B2, B3, hbw⟩ := hrel
        obtain ⟨s1, s2, s3, s4, s5, s6, s7⟩ := sen_cells B0
        obtain ⟨k0, k1, k2, g0, g1, g2⟩ := out_cells B3
        obtain ⟨e0, e1, e2, f0, f1, f2⟩ := out_cells B2
        have hz0 := B0.lt
        have hz := B3.lt
        obtain ⟨p1, p2⟩ := mul_bd (by omega : (0 : Int) ≤ a) (by omega : (a : Int) ≤ 10001) (by omega : 0 ≤ pe) h2
        by_cases hr : (f : Int) + a * pe ≤ 10000
        · have ha1 : (a : Int) * 1 ≤ a * pe := Int.mul_le_mul_of_nonneg_left h1 (by omega)
          have ha2 : (a : Int) ≤ 10000 := by omega
          clear ha1
          have hj : ∃ j', gk = j' + 1 := ⟨gk - 1, by omega⟩
          obtain ⟨j, rfl⟩ := hj
          have hgb := says_bd (s := ⟨1, pe, de, no, st, lo, li, ho⟩) (n := (f : Int) + a * pe) HK.out (by omega)
          have hsay : saysAt ⟨1, pe, de, no, st, lo, li, ho⟩ r g ((f : Int) + a * pe) = gainAt r g ((f : Int) + a * pe) := by simp [saysAt]
          rw [hsay] at hgb
          obtain ⟨hg1, hg2⟩ := hgb
          by_cases hv : li ≤ gainAt r g ((f : Int) + a * pe) - no * st
          · have hfa : firstA ⟨1, pe, de, no, st, lo, li, ho⟩ r g f = some a := by rw [← HF.out]; simp [findA, hr, hsay, hv]
            obtain ⟨m1, m2⟩ := mul_bd (by omega : (0 : Int) ≤ a + ho * (lo + 1) - 1) (by omega : (a : Int) + ho * (lo + 1) - 1 ≤ 10049) (by omega : 0 ≤ pe) h2
            by_cases ht : 10000 < (f : Int) + (a + ho * (lo + 1) - 1) * pe + de
            · have HV := Lib.hid (lateV_none (show lateF ⟨1, pe, de, no, st, lo, li, ho⟩ r g = none by rw [← HG.out]; simp [lateGo, hfa, alarmT, ht]))
              clear HG hfa HF
              go_wp2_with fail
              have hn2 : (f : Int) + a * pe ≤ 20000 := by omega
              have W3 : IntKind.i64.wrap (no * st) = no * st := IntWalk.i64_in _ (by omega)
              have W4 : IntKind.i64.wrap (gainAt r g ((f : Int) + a * pe) - no * st) = gainAt r g ((f : Int) + a * pe) - no * st := IntWalk.i64_in _ (by omega)
              have W1 : IntKind.i64.wrap ((a : Int) * pe) = (a : Int) * pe := IntWalk.i64_in _ (by omega)
              have W2 : IntKind.i64.wrap ((f : Int) + (a : Int) * pe) = (f : Int) + (a : Int) * pe := IntWalk.i64_in _ (by omega)
              go_region_held3 (fun w' => w'.cell? ⟨w.heap.size, 1, none⟩ = some (.int .i64 pe) ∧ w'.cell? ⟨w.heap.size, 3, none⟩ = some (.int .i64 no) ∧ w'.cell? ⟨w.heap.size, 4, none⟩ = some (.int .i64 st) ∧ w'.cell? ⟨w.heap.size, 6, none⟩ = some (.int .i64 li)) (first | exact ⟨s1, s3, s4, s6⟩ | exact ⟨(hc _ _ hz0).trans s1, (hc _ _ hz0).trans s3, (hc _ _ hz0).trans s4, (hc _ _ hz0).trans s6⟩) (first | (go_at_call 66; (with_reducible refine (gain_any r g ((f : Int) + a * pe) _ HK.out hn2).mono ?_); rintro e w2 ⟨rfl, hb⟩; obtain ⟨hc, hf⟩ := bcell hb))
              clear W1 W2 W3 W4
              have B0' := B0.drew.below hb
              have B2' := B2.drew.below hb
              have B3' := B3.drew.below hb
              have hbw' : Below w.heap.size w w2 := by
                repeat' (first | with_reducible exact Below.refl _ _ | with_reducible refine bstep ?_ (by with_reducible assumption) | with_reducible refine balloc ?_ | with_reducible refine bdrew ?_ | with_reducible refine bdrewN ?_ _ | with_reducible refine bset ?_ (by go_size))
              clear s1 s2 s3 s4 s5 s6 s7 k0 k1 k2 g0 g1 g2 e0 e1 e2 f0 f1 f2 hz0 hz B0 B2 B3 hbw hc hf hb
              obtain ⟨s1, s2, s3, s4, s5, s6, s7⟩ := sen_cells B0'
              obtain ⟨k0, k1, k2, g0, g1, g2⟩ := out_cells B3'
              obtain ⟨e0, e1, e2, f0, f1, f2⟩ := out_cells B2'
              have hz0 := B0'.lt
              have hz := B3'.lt
              go_wp2_with fail
              rw [Exit.noGoto_ret]
              refine bodyPost_ret (v := .tuple #[.agg #[.int .i64 0, .int .i64 0, .int .i64 0], .bool false]) (by simp [results, Try.results79, go_sem, cell_put_same, e0, e1, e2]) rfl ?_
              refine ⟨by rw [HV.out], ?_⟩
              repeat' (first | with_reducible exact Below.refl _ _ | with_reducible refine bstep ?_ (by with_reducible assumption) | with_reducible refine balloc ?_ | with_reducible refine bdrew ?_ | with_reducible refine bdrewN ?_ _ | with_reducible refine bset ?_ (by go_size))
            · by_cases hgt : oa < (f : Int) + (a + ho * (lo + 1) - 1) * pe + de
              · have HG2 : Hid (lateGo ⟨1, pe, de, no, st, lo, li, ho⟩ r g k (f + 1) ((f : Int) + (a + ho * (lo + 1) - 1) * pe + de, (f : Int), (a : Int)) = lateF ⟨1, pe, de, no, st, lo, li, ho⟩ r g) := by
                  show _ = _
                  rw [← HG.out]; simp [lateGo, hfa, alarmT, ht, hgt]
                clear HG hfa HF
                go_wp2_with fail
                have hn2 : (f : Int) + a * pe ≤ 20000 := by omega
                have W3 : IntKind.i64.wrap (no * st) = no * st := IntWalk.i64_in _ (by omega)
                have W4 : IntKind.i64.wrap (gainAt r g ((f : Int) + a * pe) - no * st) = gainAt r g ((f : Int) + a * pe) - no * st := IntWalk.i64_in _ (by omega)
                have W1 : IntKind.i64.wrap ((a : Int) * pe) = (a : Int) * pe := IntWalk.i64_in _ (by omega)
                have W2 : IntKind.i64.wrap ((f : Int) + (a : Int) * pe) = (f : Int) + (a : Int) * pe := IntWalk.i64_in _ (by omega)
                go_region_held3 (fun w' => w'.cell? ⟨w.heap.size, 1, none⟩ = some (.int .i64 pe) ∧ w'.cell? ⟨w.heap.size, 3, none⟩ = some (.int .i64 no) ∧ w'.cell? ⟨w.heap.size, 4, none⟩ = some (.int .i64 st) ∧ w'.cell? ⟨w.heap.size, 6, none⟩ = some (.int .i64 li)) (first | exact ⟨s1, s3, s4, s6⟩ | exact ⟨(hc _ _ hz0).trans s1, (hc _ _ hz0).trans s3, (hc _ _ hz0).trans s4, (hc _ _ hz0).trans s6⟩) (first | (go_at_call 66; (with_reducible refine (gain_any r g ((f : Int) + a * pe) _ HK.out hn2).mono ?_); rintro e w2 ⟨rfl, hb⟩; obtain ⟨hc, hf⟩ := bcell hb))
                clear W1 W2 W3 W4
                have B0' := B0.drew.below hb
                have B2' := B2.drew.below hb
                have B3' := B3.drew.below hb
                have hbw' : Below w.heap.size w w2 := by
                  repeat' (first | with_reducible exact Below.refl _ _ | with_reducible refine bstep ?_ (by with_reducible assumption) | with_reducible refine balloc ?_ | with_reducible refine bdrew ?_ | with_reducible refine bdrewN ?_ _ | with_reducible refine bset ?_ (by go_size))
                clear s1 s2 s3 s4 s5 s6 s7 k0 k1 k2 g0 g1 g2 e0 e1 e2 f0 f1 f2 hz0 hz B0 B2 B3 hbw hc hf hb
                obtain ⟨s1, s2, s3, s4, s5, s6, s7⟩ := sen_cells B0'
                obtain ⟨k0, k1, k2, g0, g1, g2⟩ := out_cells B3'
                obtain ⟨e0, e1, e2, f0, f1, f2⟩ := out_cells B2'
                have hz0 := B0'.lt
                have hz := B3'.lt
                go_wp2_with fail
                go_roundg k
                case measure => omega
                case rel => exact ⟨f + 1, ((f : Int) + (a + ho * (lo + 1) - 1) * pe + de, (f : Int), (a : Int)), by omega, by go_num, HG2, out_far B0' (by omega), out_far B2' (by omega), out_put (x := ((f : Int) + (a + ho * (lo + 1) - 1) * pe + de, (f : Int), (a : Int))) B3', out_below hbw' (by omega)⟩
              · have HG2 : Hid (lateGo ⟨1, pe, de, no, st, lo, li, ho⟩ r g k (f + 1) (oa, ob, oc) = lateF ⟨1, pe, de, no, st, lo, li, ho⟩ r g) := by
                  show _ = _
                  rw [← HG.out]; simp [lateGo, hfa, alarmT, ht, hgt]
                clear HG hfa HF
                go_wp2_with fail
                have hn2 : (f : Int) + a * pe ≤ 20000 := by omega
                have W3 : IntKind.i64.wrap (no * st) = no * st := IntWalk.i64_in _ (by omega)
                have W4 : IntKind.i64.wrap (gainAt r g ((f : Int) + a * pe) - no * st) = gainAt r g ((f : Int) + a * pe) - no * st := IntWalk.i64_in _ (by omega)
                have W1 : IntKind.i64.wrap ((a : Int) * pe) = (a : Int) * pe := IntWalk.i64_in _ (by omega)
                have W2 : IntKind.i64.wrap ((f : Int) + (a : Int) * pe) = (f : Int) + (a : Int) * pe := IntWalk.i64_in _ (by omega)
                go_region_held3 (fun w' => w'.cell? ⟨w.heap.size, 1, none⟩ = some (.int .i64 pe) ∧ w'.cell? ⟨w.heap.size, 3, none⟩ = some (.int .i64 no) ∧ w'.cell? ⟨w.heap.size, 4, none⟩ = some (.int .i64 st) ∧ w'.cell? ⟨w.heap.size, 6, none⟩ = some (.int .i64 li)) (first | exact ⟨s1, s3, s4, s6⟩ | exact ⟨(hc _ _ hz0).trans s1, (hc _ _ hz0).trans s3, (hc _ _ hz0).trans s4, (hc _ _ hz0).trans s6⟩) (first | (go_at_call 66; (with_reducible refine (gain_any r g ((f : Int) + a * pe) _ HK.out hn2).mono ?_); rintro e w2 ⟨rfl, hb⟩; obtain ⟨hc, hf⟩ := bcell hb))
                clear W1 W2 W3 W4
                have B0' := B0.drew.below hb
                have B2' := B2.drew.below hb
                have B3' := B3.drew.below hb
                have hbw' : Below w.heap.size w w2 := by
                  repeat' (first | with_reducible exact Below.refl _ _ | with_reducible refine bstep ?_ (by with_reducible assumption) | with_reducible refine balloc ?_ | with_reducible refine bdrew ?_ | with_reducible refine bdrewN ?_ _ | with_reducible refine bset ?_ (by go_size))
                clear s1 s2 s3 s4 s5 s6 s7 k0 k1 k2 g0 g1 g2 e0 e1 e2 f0 f1 f2 hz0 hz B0 B2 B3 hbw hc hf hb
                obtain ⟨s1, s2, s3, s4, s5, s6, s7⟩ := sen_cells B0'
                obtain ⟨k0, k1, k2, g0, g1, g2⟩ := out_cells B3'
                obtain ⟨e0, e1, e2, f0, f1, f2⟩ := out_cells B2'
                have hz0 := B0'.lt
                have hz := B3'.lt
                go_wp2_with fail
                go_roundg k
                case measure => omega
                case rel => exact ⟨f + 1, (oa, ob, oc), by omega, by go_num, HG2, B0', B2', B3', hbw'⟩
          · have HF2 : Hid (findA ⟨1, pe, de, no, st, lo, li, ho⟩ r g f j (a + 1) = firstA ⟨1, pe, de, no, st, lo, li, ho⟩ r g f) := by
              show _ = _
              rw [← HF.out]; simp [findA, hr, hsay, hv]
            clear HF
            go_wp2_with fail
            have hn2 : (f : Int) + a * pe ≤ 20000 := by omega
            have W3 : IntKind.i64.wrap (no * st) = no * st := IntWalk.i64_in _ (by omega)
            have W4 : IntKind.i64.wrap (gainAt r g ((f : Int) + a * pe) - no * st) = gainAt r g ((f : Int) + a * pe) - no * st := IntWalk.i64_in _ (by omega)
            have W1 : IntKind.i64.wrap ((a : Int) * pe) = (a : Int) * pe := IntWalk.i64_in _ (by omega)
            have W2 : IntKind.i64.wrap ((f : Int) + (a : Int) * pe) = (f : Int) + (a : Int) * pe := IntWalk.i64_in _ (by omega)
            go_region_held3 (fun w' => w'.cell? ⟨w.heap.size, 1, none⟩ = some (.int .i64 pe) ∧ w'.cell? ⟨w.heap.size, 3, none⟩ = some (.int .i64 no) ∧ w'.cell? ⟨w.heap.size, 4, none⟩ = some (.int .i64 st) ∧ w'.cell? ⟨w.heap.size, 6, none⟩ = some (.int .i64 li)) (first | exact ⟨s1, s3, s4, s6⟩ | exact ⟨(hc _ _ hz0).trans s1, (hc _ _ hz0).trans s3, (hc _ _ hz0).trans s4, (hc _ _ hz0).trans s6⟩) (first | (go_at_call 66; (with_reducible refine (gain_any r g ((f : Int) + a * pe) _ HK.out hn2).mono ?_); rintro e w2 ⟨rfl, hb⟩; obtain ⟨hc, hf⟩ := bcell hb))
            clear W1 W2 W3 W4
            have B0' := B0.drew.below hb
            have B2' := B2.drew.below hb
            have B3' := B3.drew.below hb
            have hbw' : Below w.heap.size w w2 := by
              repeat' (first | with_reducible exact Below.refl _ _ | with_reducible refine bstep ?_ (by with_reducible assumption) | with_reducible refine balloc ?_ | with_reducible refine bdrew ?_ | with_reducible refine bdrewN ?_ _ | with_reducible refine bset ?_ (by go_size))
            clear s1 s2 s3 s4 s5 s6 s7 k0 k1 k2 g0 g1 g2 e0 e1 e2 f0 f1 f2 hz0 hz B0 B2 B3 hbw hc hf hb
            obtain ⟨s1, s2, s3, s4, s5, s6, s7⟩ := sen_cells B0'
            obtain ⟨k0, k1, k2, g0, g1, g2⟩ := out_cells B3'
            obtain ⟨e0, e1, e2, f0, f1, f2⟩ := out_cells B2'
            have hz0 := B0'.lt
            have hz := B3'.lt
            go_wp2_with fail
            go_roundg j
            case measure => omega
            case rel => exact ⟨a + 1, by omega, by go_num, HF2, B0', B2', B3', hbw'⟩
        · have hfa : firstA ⟨1, pe, de, no, st, lo, li, ho⟩ r g f = none := by
            rw [← HF.out]
            cases gk <;> simp [findA, hr]
          have HV := Lib.hid (lateV_none (show lateF ⟨1, pe, de, no, st, lo, li, ho⟩ r g = none by rw [← HG.out]; simp [lateGo, hfa]))
          clear HG hfa HF
          go_wp2_with fail
          refine bodyPost_ret (v := .tuple #[.agg #[.int .i64 0, .int .i64 0, .int .i64 0], .bool false]) (by simp [results, Try.results79, go_sem, cell_put_same, e0, e1, e2]) rfl ?_
          refine ⟨by rw [HV.out], ?_⟩
          repeat' (first | with_reducible exact Below.refl _ _ | with_reducible refine bstep ?_ (by with_reducible assumption) | with_reducible refine balloc ?_ | with_reducible refine bdrew ?_ | with_reducible refine bdrewN ?_ _ | with_reducible refine bset ?_ (by go_size))

end Go.Proofs.Ytlbgcjpkegpmlaa
/- The contract of kick.late for the other channel, and of kick.Late. Printed by genD.py. -/
namespace Go.Proofs.Ytlbgcjpkegpmlaa
open Go.RowKit

set_option maxHeartbeats 2000000 in
set_option maxRecDepth 100000 in
theorem late_flow (pe de no st lo li ho r g : Int) (w : World) (hs : RangeOK ⟨2, pe, de, no, st, lo, li, ho⟩) (hk : KickOK r g) :
    Calls Try.prog 79 #[.agg #[.int .i64 2, .int .i64 pe, .int .i64 de, .int .i64 no, .int .i64 st, .int .i64 lo, .int .i64 li, .int .i64 ho], kickV r g] w fun e w' => e = .returned (lateV ⟨2, pe, de, no, st, lo, li, ho⟩ r g) ∧ Below w.heap.size w w' := by
  obtain ⟨h1, h2, h3, h4, h5, h6, h7, h8, h9, h10, h11, h12, h13, h14⟩ := hs
  simp only at h1 h2 h3 h4 h5 h6 h7 h8 h9 h10 h11 h12 h13 h14
  obtain ⟨n1, n2⟩ := mul_bd h5 h6 (by omega : 0 ≤ st) h8
  obtain ⟨q1, q2⟩ := mul_bd (by omega : 0 ≤ ho) h14 (by omega : 0 ≤ lo + 1) (by omega : lo + 1 ≤ 6)
  have q0 := mul_one_le h13 (by omega : 1 ≤ lo + 1)
  have HK := Lib.hid hk
  clear hk
  go_enter Try.func79, Try.ntmps79
  go_wp2_with fail
  go_step3
  go_wp2_with (go_at_call 77; refine (says_flow ⟨2, pe, de, no, st, lo, li, ho⟩ r g _ rfl).mono ?_; rintro e w1 ⟨rfl, hb⟩)
  go_step3
  have B0 : Blk w1 w.heap.size 23 (senCells 2 pe de no st lo li ho) := ((((Blk.new w _ _).alloc _).alloc _).alloc _).below hb
  have B2 : Blk w1 (w.heap.size + 1 + 1) 110 (outCells (0, 0, 0)) := by
    have h := ((Blk.new ((w.alloc (.cells #[.int .i64 2, .int .i64 pe, .int .i64 de, .int .i64 no, .int .i64 st, .int .i64 lo, .int .i64 li, .int .i64 ho] 23)).alloc (.cells #[.int .i64 r, .int .i64 g] 31)) 110 (outCells (0, 0, 0))).alloc (.cells (outCells (-1, 0, 0)) 110)).below hb
    simpa using h
  have B3 : Blk w1 (w.heap.size + 1 + 1 + 1) 110 (outCells (-1, 0, 0)) := by
    have h := (Blk.new (((w.alloc (.cells #[.int .i64 2, .int .i64 pe, .int .i64 de, .int .i64 no, .int .i64 st, .int .i64 lo, .int .i64 li, .int .i64 ho] 23)).alloc (.cells #[.int .i64 r, .int .i64 g] 31)).alloc (.cells (outCells (0, 0, 0)) 110)) 110 (outCells (-1, 0, 0))).below hb
    simpa using h
  have hbw : Below w.heap.size w w1 := by
    repeat' (first | with_reducible exact Below.refl _ _ | with_reducible refine bstep ?_ (by with_reducible assumption) | with_reducible refine balloc ?_ | with_reducible refine bdrew ?_ | with_reducible refine bdrewN ?_ _ | with_reducible refine bset ?_ (by go_size))
  obtain ⟨c1, -⟩ := sen_cells B0
  clear hb
  go_wp2_with fail
  go_loopg [17] (pe.toNat) (fun k v17 wx => ∃ (f : Nat) (o : Int × Int × Int), k + f = pe.toNat ∧ v17 = .int .i64 f ∧ Hid (lateGo ⟨2, pe, de, no, st, lo, li, ho⟩ r g k f o = lateF ⟨2, pe, de, no, st, lo, li, ho⟩ r g) ∧
    Blk wx w.heap.size 23 (senCells 2 pe de no st lo li ho) ∧ Blk wx (w.heap.size + 1 + 1) 110 (outCells (0, 0, 0)) ∧ Blk wx (w.heap.size + 1 + 1 + 1) 110 (outCells o) ∧ Below w.heap.size w wx)
  case atStart => exact ⟨0, (-1, 0, 0), rfl, rfl, rfl, B0, B2, B3, hbw⟩
  case round =>
    clear c1 B0 B2 B3 hbw
    obtain ⟨f, ⟨oa, ob, oc⟩, hkf, rfl, HG, B0, B2, B3, hbw⟩ := hrel
    cases gk with
    | zero =>
      have hlt : ¬ ((f : Int) < pe) := by omega
      obtain ⟨k0, k1, k2, -⟩ := out_cells B3
      obtain ⟨e0, e1, e2, f0, f1, f2⟩ := out_cells B2
      have hz := B3.lt
      have HV := Lib.hid (lateV_some (show lateF ⟨2, pe, de, no, st, lo, li, ho⟩ r g = some (oa, ob, oc) from HG.out.symm))
      clear HG
      go_wp2_with fail
      refine bodyPost_ret (v := .tuple #[.agg #[.int .i64 oa, .int .i64 ob, .int .i64 oc], .bool true]) (by simp [results, Try.results79, go_sem, cell_put_same, e0, e1, e2]) rfl ?_
      refine ⟨by rw [HV.out], ?_⟩
      repeat' (first | with_reducible exact Below.refl _ _ | with_reducible refine bstep ?_ (by with_reducible assumption) | with_reducible refine balloc ?_ | with_reducible refine bdrew ?_ | with_reducible refine bdrewN ?_ _ | with_reducible refine bset ?_ (by go_size))
    | succ k =>
      have hlt : (f : Int) < pe := by omega
      go_wp2_with fail
      go_loopg [9] 10001 (fun j v9 wy => ∃ a : Nat, j + a = 10001 ∧ v9 = .int .i64 a ∧ Hid (findA ⟨2, pe, de, no, st, lo, li, ho⟩ r g f j a = firstA ⟨2, pe, de, no, st, lo, li, ho⟩ r g f) ∧
        Blk wy w.heap.size 23 (senCells 2 pe de no st lo li ho) ∧ Blk wy (w.heap.size + 1 + 1) 110 (outCells (0, 0, 0)) ∧ Blk wy (w.heap.size + 1 + 1 + 1) 110 (outCells (oa, ob, oc)) ∧ Below w.heap.size w wy)
      case atStart => exact ⟨0, rfl, rfl, rfl, B0, B2, B3, hbw⟩
      case round =>
        clear B0 B2 B3 hbw
        rename_i wo _ _ _ _ _ _ _
        obtain ⟨a, hja, rfl, HF, B0, B2, B3, hbw⟩ := hrel
        obtain ⟨s1, s2, s3, s4, s5, s6, s7⟩ := sen_cells B0
        obtain ⟨k0, k1, k2, g0, g1, g2⟩ := out_cells B3
        obtain ⟨e0, e1, e2, f0, f1, f2⟩ := out_cells B2
        have hz0 := B0.lt
        have hz := B3.lt
        obtain ⟨p1, p2⟩ := mul_bd (by omega : (0 : Int) ≤ a) (by omega : (a : Int) ≤ 10001) (by omega : 0 ≤ pe) h2
        by_cases hr : (f : Int) + a * pe ≤ 10000
        · have ha1 : (a : Int) * 1 ≤ a * pe := Int.mul_le_mul_of_nonneg_left h1 (by omega)
          have ha2 : (a : Int) ≤ 10000 := by omega
          clear ha1
          have hj : ∃ j', gk = j' + 1 := ⟨gk - 1, by omega⟩
          obtain ⟨j, rfl⟩ := hj
          have hgb := says_bd (s := ⟨2, pe, de, no, st, lo, li, ho⟩) (n := (f : Int) + a * pe) HK.out (by omega)
          have hsay : saysAt ⟨2, pe, de, no, st, lo, li, ho⟩ r g ((f : Int) + a * pe) = flowAt r g ((f : Int) + a * pe) := by simp [saysAt]
          rw [hsay] at hgb
          obtain ⟨hg1, hg2⟩ := hgb
          by_cases hv : li ≤ flowAt r g ((f : Int) + a * pe) - no * st
          · have hfa : firstA ⟨2, pe, de, no, st, lo, li, ho⟩ r g f = some a := by rw [← HF.out]; simp [findA, hr, hsay, hv]
            obtain ⟨m1, m2⟩ := mul_bd (by omega : (0 : Int) ≤ a + ho * (lo + 1) - 1) (by omega : (a : Int) + ho * (lo + 1) - 1 ≤ 10049) (by omega : 0 ≤ pe) h2
            by_cases ht : 10000 < (f : Int) + (a + ho * (lo + 1) - 1) * pe + de
            · have HV := Lib.hid (lateV_none (show lateF ⟨2, pe, de, no, st, lo, li, ho⟩ r g = none by rw [← HG.out]; simp [lateGo, hfa, alarmT, ht]))
              clear HG hfa HF
              go_wp2_with fail
              have hn2 : (f : Int) + a * pe ≤ 20000 := by omega
              have W3 : IntKind.i64.wrap (no * st) = no * st := IntWalk.i64_in _ (by omega)
              have W4 : IntKind.i64.wrap (flowAt r g ((f : Int) + a * pe) - no * st) = flowAt r g ((f : Int) + a * pe) - no * st := IntWalk.i64_in _ (by omega)
              have W1 : IntKind.i64.wrap ((a : Int) * pe) = (a : Int) * pe := IntWalk.i64_in _ (by omega)
              have W2 : IntKind.i64.wrap ((f : Int) + (a : Int) * pe) = (f : Int) + (a : Int) * pe := IntWalk.i64_in _ (by omega)
              go_region_held3 (fun w' => w'.cell? ⟨w.heap.size, 1, none⟩ = some (.int .i64 pe) ∧ w'.cell? ⟨w.heap.size, 3, none⟩ = some (.int .i64 no) ∧ w'.cell? ⟨w.heap.size, 4, none⟩ = some (.int .i64 st) ∧ w'.cell? ⟨w.heap.size, 6, none⟩ = some (.int .i64 li)) (first | exact ⟨s1, s3, s4, s6⟩ | exact ⟨(hc _ _ hz0).trans s1, (hc _ _ hz0).trans s3, (hc _ _ hz0).trans s4, (hc _ _ hz0).trans s6⟩) (first | (go_at_call 67; (with_reducible refine (flow_any r g ((f : Int) + a * pe) _ HK.out hn2).mono ?_); rintro e w2 ⟨rfl, hb⟩; obtain ⟨hc, hf⟩ := bcell hb))
              clear W1 W2 W3 W4
              have B0' := B0.drew.below hb
              have B2' := B2.drew.below hb
              have B3' := B3.drew.below hb
              have hbw' : Below w.heap.size w w2 := by
                repeat' (first | with_reducible exact Below.refl _ _ | with_reducible refine bstep ?_ (by with_reducible assumption) | with_reducible refine balloc ?_ | with_reducible refine bdrew ?_ | with_reducible refine bdrewN ?_ _ | with_reducible refine bset ?_ (by go_size))
              clear s1 s2 s3 s4 s5 s6 s7 k0 k1 k2 g0 g1 g2 e0 e1 e2 f0 f1 f2 hz0 hz B0 B2 B3 hbw hc hf hb
              obtain ⟨s1, s2, s3, s4, s5, s6, s7⟩ := sen_cells B0'
              obtain ⟨k0, k1, k2, g0, g1, g2⟩ := out_cells B3'
              obtain ⟨e0, e1, e2, f0, f1, f2⟩ := out_cells B2'
              have hz0 := B0'.lt
              have hz := B3'.lt
              go_wp2_with fail
              rw [Exit.noGoto_ret]
              refine bodyPost_ret (v := .tuple #[.agg #[.int .i64 0, .int .i64 0, .int .i64 0], .bool false]) (by simp [results, Try.results79, go_sem, cell_put_same, e0, e1, e2]) rfl ?_
              refine ⟨by rw [HV.out], ?_⟩
              repeat' (first | with_reducible exact Below.refl _ _ | with_reducible refine bstep ?_ (by with_reducible assumption) | with_reducible refine balloc ?_ | with_reducible refine bdrew ?_ | with_reducible refine bdrewN ?_ _ | with_reducible refine bset ?_ (by go_size))
            · by_cases hgt : oa < (f : Int) + (a + ho * (lo + 1) - 1) * pe + de
              · have HG2 : Hid (lateGo ⟨2, pe, de, no, st, lo, li, ho⟩ r g k (f + 1) ((f : Int) + (a + ho * (lo + 1) - 1) * pe + de, (f : Int), (a : Int)) = lateF ⟨2, pe, de, no, st, lo, li, ho⟩ r g) := by
                  show _ = _
                  rw [← HG.out]; simp [lateGo, hfa, alarmT, ht, hgt]
                clear HG hfa HF
                go_wp2_with fail
                have hn2 : (f : Int) + a * pe ≤ 20000 := by omega
                have W3 : IntKind.i64.wrap (no * st) = no * st := IntWalk.i64_in _ (by omega)
                have W4 : IntKind.i64.wrap (flowAt r g ((f : Int) + a * pe) - no * st) = flowAt r g ((f : Int) + a * pe) - no * st := IntWalk.i64_in _ (by omega)
                have W1 : IntKind.i64.wrap ((a : Int) * pe) = (a : Int) * pe := IntWalk.i64_in _ (by omega)
                have W2 : IntKind.i64.wrap ((f : Int) + (a : Int) * pe) = (f : Int) + (a : Int) * pe := IntWalk.i64_in _ (by omega)
                go_region_held3 (fun w' => w'.cell? ⟨w.heap.size, 1, none⟩ = some (.int .i64 pe) ∧ w'.cell? ⟨w.heap.size, 3, none⟩ = some (.int .i64 no) ∧ w'.cell? ⟨w.heap.size, 4, none⟩ = some (.int .i64 st) ∧ w'.cell? ⟨w.heap.size, 6, none⟩ = some (.int .i64 li)) (first | exact ⟨s1, s3, s4, s6⟩ | exact ⟨(hc _ _ hz0).trans s1, (hc _ _ hz0).trans s3, (hc _ _ hz0).trans s4, (hc _ _ hz0).trans s6⟩) (first | (go_at_call 67; (with_reducible refine (flow_any r g ((f : Int) + a * pe) _ HK.out hn2).mono ?_); rintro e w2 ⟨rfl, hb⟩; obtain ⟨hc, hf⟩ := bcell hb))
                clear W1 W2 W3 W4
                have B0' := B0.drew.below hb
                have B2' := B2.drew.below hb
                have B3' := B3.drew.below hb
                have hbw' : Below w.heap.size w w2 := by
                  repeat' (first | with_reducible exact Below.refl _ _ | with_reducible refine bstep ?_ (by with_reducible assumption) | with_reducible refine balloc ?_ | with_reducible refine bdrew ?_ | with_reducible refine bdrewN ?_ _ | with_reducible refine bset ?_ (by go_size))
                clear s1 s2 s3 s4 s5 s6 s7 k0 k1 k2 g0 g1 g2 e0 e1 e2 f0 f1 f2 hz0 hz B0 B2 B3 hbw hc hf hb
                obtain ⟨s1, s2, s3, s4, s5, s6, s7⟩ := sen_cells B0'
                obtain ⟨k0, k1, k2, g0, g1, g2⟩ := out_cells B3'
                obtain ⟨e0, e1, e2, f0, f1, f2⟩ := out_cells B2'
                have hz0 := B0'.lt
                have hz := B3'.lt
                go_wp2_with fail
                go_roundg k
                case measure => omega
                case rel => exact ⟨f + 1, ((f : Int) + (a + ho * (lo + 1) - 1) * pe + de, (f : Int), (a : Int)), by omega, by go_num, HG2, out_far B0' (by omega), out_far B2' (by omega), out_put (x := ((f : Int) + (a + ho * (lo + 1) - 1) * pe + de, (f : Int), (a : Int))) B3', out_below hbw' (by omega)⟩
              · have HG2 : Hid (lateGo ⟨2, pe, de, no, st, lo, li, ho⟩ r g k (f + 1) (oa, ob, oc) = lateF ⟨2, pe, de, no, st, lo, li, ho⟩ r g) := by
                  show _ = _
                  rw [← HG.out]; simp [lateGo, hfa, alarmT, ht, hgt]
                clear HG hfa HF
                go_wp2_with fail
                have hn2 : (f : Int) + a * pe ≤ 20000 := by omega
                have W3 : IntKind.i64.wrap (no * st) = no * st := IntWalk.i64_in _ (by omega)
                have W4 : IntKind.i64.wrap (flowAt r g ((f : Int) + a * pe) - no * st) = flowAt r g ((f : Int) + a * pe) - no * st := IntWalk.i64_in _ (by omega)
                have W1 : IntKind.i64.wrap ((a : Int) * pe) = (a : Int) * pe := IntWalk.i64_in _ (by omega)
                have W2 : IntKind.i64.wrap ((f : Int) + (a : Int) * pe) = (f : Int) + (a : Int) * pe := IntWalk.i64_in _ (by omega)
                go_region_held3 (fun w' => w'.cell? ⟨w.heap.size, 1, none⟩ = some (.int .i64 pe) ∧ w'.cell? ⟨w.heap.size, 3, none⟩ = some (.int .i64 no) ∧ w'.cell? ⟨w.heap.size, 4, none⟩ = some (.int .i64 st) ∧ w'.cell? ⟨w.heap.size, 6, none⟩ = some (.int .i64 li)) (first | exact ⟨s1, s3, s4, s6⟩ | exact ⟨(hc _ _ hz0).trans s1, (hc _ _ hz0).trans s3, (hc _ _ hz0).trans s4, (hc _ _ hz0).trans s6⟩) (first | (go_at_call 67; (with_reducible refine (flow_any r g ((f : Int) + a * pe) _ HK.out hn2).mono ?_); rintro e w2 ⟨rfl, hb⟩; obtain ⟨hc, hf⟩ := bcell hb))
                clear W1 W2 W3 W4
                have B0' := B0.drew.below hb
                have B2' := B2.drew.below hb
                have B3' := B3.drew.below hb
                have hbw' : Below w.heap.size w w2 := by
                  repeat' (first | with_reducible exact Below.refl _ _ | with_reducible refine bstep ?_ (by with_reducible assumption) | with_reducible refine balloc ?_ | with_reducible refine bdrew ?_ | with_reducible refine bdrewN ?_ _ | with_reducible refine bset ?_ (by go_size))
                clear s1 s2 s3 s4 s5 s6 s7 k0 k1 k2 g0 g1 g2 e0 e1 e2 f0 f1 f2 hz0 hz B0 B2 B3 hbw hc hf hb
                obtain ⟨s1, s2, s3, s4, s5, s6, s7⟩ := sen_cells B0'
                obtain ⟨k0, k1, k2, g0, g1, g2⟩ := out_cells B3'
                obtain ⟨e0, e1, e2, f0, f1, f2⟩ := out_cells B2'
                have hz0 := B0'.lt
                have hz := B3'.lt
                go_wp2_with fail
                go_roundg k
                case measure => omega
                case rel => exact ⟨f + 1, (oa, ob, oc), by omega, by go_num, HG2, B0', B2', B3', hbw'⟩
          · have HF2 : Hid (findA ⟨2, pe, de, no, st, lo, li, ho⟩ r g f j (a + 1) = firstA ⟨2, pe, de, no, st, lo, li, ho⟩ r g f) := by
              show _ = _
              rw [← HF.out]; simp [findA, hr, hsay, hv]
            clear HF
            go_wp2_with fail
            have hn2 : (f : Int) + a * pe ≤ 20000 := by omega
            have W3 : IntKind.i64.wrap (no * st) = no * st := IntWalk.i64_in _ (by omega)
            have W4 : IntKind.i64.wrap (flowAt r g ((f : Int) + a * pe) - no * st) = flowAt r g ((f : Int) + a * pe) - no * st := IntWalk.i64_in _ (by omega)
            have W1 : IntKind.i64.wrap ((a : Int) * pe) = (a : Int) * pe := IntWalk.i64_in _ (by omega)
            have W2 : IntKind.i64.wrap ((f : Int) + (a : Int) * pe) = (f : Int) + (a : Int) * pe := IntWalk.i64_in _ (by omega)
            go_region_held3 (fun w' => w'.cell? ⟨w.heap.size, 1, none⟩ = some (.int .i64 pe) ∧ w'.cell? ⟨w.heap.size, 3, none⟩ = some (.int .i64 no) ∧ w'.cell? ⟨w.heap.size, 4, none⟩ = some (.int .i64 st) ∧ w'.cell? ⟨w.heap.size, 6, none⟩ = some (.int .i64 li)) (first | exact ⟨s1, s3, s4, s6⟩ | exact ⟨(hc _ _ hz0).trans s1, (hc _ _ hz0).trans s3, (hc _ _ hz0).trans s4, (hc _ _ hz0).trans s6⟩) (first | (go_at_call 67; (with_reducible refine (flow_any r g ((f : Int) + a * pe) _ HK.out hn2).mono ?_); rintro e w2 ⟨rfl, hb⟩; obtain ⟨hc, hf⟩ := bcell hb))
            clear W1 W2 W3 W4
            have B0' := B0.drew.below hb
            have B2' := B2.drew.below hb
            have B3' := B3.drew.below hb
            have hbw' : Below w.heap.size w w2 := by
              repeat' (first | with_reducible exact Below.refl _ _ | with_reducible refine bstep ?_ (by with_reducible assumption) | with_reducible refine balloc ?_ | with_reducible refine bdrew ?_ | with_reducible refine bdrewN ?_ _ | with_reducible refine bset ?_ (by go_size))
            clear s1 s2 s3 s4 s5 s6 s7 k0 k1 k2 g0 g1 g2 e0 e1 e2 f0 f1 f2 hz0 hz B0 B2 B3 hbw hc hf hb
            obtain ⟨s1, s2, s3, s4, s5, s6, s7⟩ := sen_cells B0'
            obtain ⟨k0, k1, k2, g0, g1, g2⟩ := out_cells B3'
            obtain ⟨e0, e1, e2, f0, f1, f2⟩ := out_cells B2'
            have hz0 := B0'.lt
            have hz := B3'.lt
            go_wp2_with fail
            go_roundg j
            case measure => omega
            case rel => exact ⟨a + 1, by omega, by go_num, HF2, B0', B2', B3', hbw'⟩
        · have hfa : firstA ⟨2, pe, de, no, st, lo, li, ho⟩ r g f = none := by
            rw [← HF.out]
            cases gk <;> simp [findA, hr]
          have HV := Lib.hid (lateV_none (show lateF ⟨2, pe, de, no, st, lo, li, ho⟩ r g = none by rw [← HG.out]; simp [lateGo, hfa]))
          clear HG hfa HF
          go_wp2_with fail
          refine bodyPost_ret (v := .tuple #[.agg #[.int .i64 0, .int .i64 0, .int .i64 0], .bool false]) (by simp [results, Try.results79, go_sem, cell_put_same, e0, e1, e2]) rfl ?_
          refine ⟨by rw [HV.out], ?_⟩
          repeat' (first | with_reducible exact Below.refl _ _ | with_reducible refine bstep ?_ (by with_reducible assumption) | with_reducible refine balloc ?_ | with_reducible refine bdrew ?_ | with_reducible refine bdrewN ?_ _ | with_reducible refine bset ?_ (by go_size))

theorem late_any (s : Sen) (r g : Int) (w : World) (hs : SenOK s) (hk : KickOK r g) :
    Calls Try.prog 79 #[s.v, kickV r g] w fun e w' => e = .returned (lateV s r g) ∧ Below w.heap.size w w' := by
  obtain ⟨ch, pe, de, no, st, lo, li, ho⟩ := s
  obtain ⟨hkind, hr⟩ := hs
  rcases hkind with rfl | rfl
  · exact late_pit _ _ _ _ _ _ _ _ _ w hr hk
  · exact late_flow _ _ _ _ _ _ _ _ _ w hr hk

end Go.Proofs.Ytlbgcjpkegpmlaa
/- The contract of kick.Late. -/
namespace Go.Proofs.Ytlbgcjpkegpmlaa
open Go.RowKit

/-- What Late returns, of the program and of the reference. -/
def lateR (s : Sen) (r g : Int) : Int × Bool := if SenOK s ∧ KickOK r g then (match lateF s r g with | some (t, _, _) => (t, true) | none => (0, false)) else (0, false)
def lateRV (s : Sen) (r g : Int) : Value := .tuple #[.int .i64 (lateR s r g).1, .bool (lateR s r g).2]

theorem notSen {s : Sen} (h : ¬ SenOK s) : (¬ KindOK s) ∨ (KindOK s ∧ ¬ RangeOK s) := by
  unfold SenOK at h
  by_cases hk : KindOK s
  · exact .inr ⟨hk, fun hr => h ⟨hk, hr⟩⟩
  · exact .inl hk

theorem Late_any (s : Sen) (r g : Int) (w : World) :
    Calls Try.prog 49 #[s.v, kickV r g] w fun e w' => e = .returned (lateRV s r g) ∧ Below w.heap.size w w' := by
  by_cases hs : SenOK s
  · have HS := Lib.hid hs
    clear hs
    by_cases hk : KickOK r g
    · have HK := Lib.hid hk
      clear hk
      rcases hl : lateF s r g with _ | ⟨t, f, a⟩
      · have hv : lateRV s r g = .tuple #[.int .i64 0, .bool false] := by simp [lateRV, lateR, hl]
        have hV := Lib.hid (lateV_none hl)
        rw [hv]
        clear hv hl
        go_enter Try.func49, Try.ntmps49
        go_wp2_with (first
          | (go_at_call 40; refine (checkSensor_yes s _ HS.out).mono ?_; rintro e w1 ⟨rfl, hb⟩; obtain ⟨hc, hf⟩ := bcell hb; have hz0 : w.heap.size < w1.heap.size := (by have := hb.size; simp at this; omega); have hz1 : w.heap.size + 1 < w1.heap.size := (by have := hb.size; simp at this; omega))
          | (go_at_call 36; refine (checkKick_yes _ _ _ HK.out).mono ?_; rintro e w2 ⟨rfl, hb2⟩; obtain ⟨hc2, hf2⟩ := bcell hb2)
          | (go_at_call 79; refine (late_any s r g _ HS.out HK.out).mono ?_; rw [hV.out]; rintro e w3 ⟨rfl, hb3⟩))
        go_ret2
        refine ⟨rfl, ?_⟩
        repeat' (first | with_reducible exact Below.refl _ _ | with_reducible refine bstep ?_ (by with_reducible assumption) | with_reducible refine balloc ?_ | with_reducible refine bdrew ?_ | with_reducible refine bdrewN ?_ _ | with_reducible refine bset ?_ (by go_size))
      · have hv : lateRV s r g = .tuple #[.int .i64 t, .bool true] := by simp [lateRV, lateR, hl, HS.out, HK.out]
        have hV := Lib.hid (lateV_some hl)
        rw [hv]
        clear hv hl
        go_enter Try.func49, Try.ntmps49
        go_wp2_with (first
          | (go_at_call 40; refine (checkSensor_yes s _ HS.out).mono ?_; rintro e w1 ⟨rfl, hb⟩; obtain ⟨hc, hf⟩ := bcell hb; have hz0 : w.heap.size < w1.heap.size := (by have := hb.size; simp at this; omega); have hz1 : w.heap.size + 1 < w1.heap.size := (by have := hb.size; simp at this; omega))
          | (go_at_call 36; refine (checkKick_yes _ _ _ HK.out).mono ?_; rintro e w2 ⟨rfl, hb2⟩; obtain ⟨hc2, hf2⟩ := bcell hb2)
          | (go_at_call 79; refine (late_any s r g _ HS.out HK.out).mono ?_; rw [hV.out]; rintro e w3 ⟨rfl, hb3⟩))
        go_ret2
        refine ⟨rfl, ?_⟩
        repeat' (first | with_reducible exact Below.refl _ _ | with_reducible refine bstep ?_ (by with_reducible assumption) | with_reducible refine balloc ?_ | with_reducible refine bdrew ?_ | with_reducible refine bdrewN ?_ _ | with_reducible refine bset ?_ (by go_size))
    · have hv : lateRV s r g = .tuple #[.int .i64 0, .bool false] := by simp [lateRV, lateR, hk]
      rw [hv]
      clear hv
      have HK := Lib.hid hk
      clear hk
      go_enter Try.func49, Try.ntmps49
      go_wp2_with (first
        | (go_at_call 40; refine (checkSensor_yes s _ HS.out).mono ?_; rintro e w1 ⟨rfl, hb⟩; obtain ⟨hc, hf⟩ := bcell hb; have hz0 : w.heap.size < w1.heap.size := (by have := hb.size; simp at this; omega); have hz1 : w.heap.size + 1 < w1.heap.size := (by have := hb.size; simp at this; omega))
        | (go_at_call 36; refine (checkKick_no _ _ _ HK.out).mono ?_; rintro e w2 ⟨rfl, hb2⟩; obtain ⟨hc2, hf2⟩ := bcell hb2))
      go_ret2
      refine ⟨rfl, ?_⟩
      repeat' (first | with_reducible exact Below.refl _ _ | with_reducible refine bstep ?_ (by with_reducible assumption) | with_reducible refine balloc ?_ | with_reducible refine bdrew ?_ | with_reducible refine bdrewN ?_ _ | with_reducible refine bset ?_ (by go_size))
  · have hv : lateRV s r g = .tuple #[.int .i64 0, .bool false] := by simp [lateRV, lateR, hs]
    rw [hv]
    clear hv
    rcases notSen hs with hq | ⟨hq, hq2⟩
    · have HQ := Lib.hid hq
      clear hq hs
      go_enter Try.func49, Try.ntmps49
      go_wp2_with (go_at_call 40; refine (checkSensor_kind s _ HQ.out).mono ?_; rintro e w1 ⟨rfl, hb⟩; obtain ⟨hc, hf⟩ := bcell hb)
      go_ret2
      refine ⟨rfl, ?_⟩
      repeat' (first | with_reducible exact Below.refl _ _ | with_reducible refine bstep ?_ (by with_reducible assumption) | with_reducible refine balloc ?_ | with_reducible refine bdrew ?_ | with_reducible refine bdrewN ?_ _ | with_reducible refine bset ?_ (by go_size))
    · have HQ := Lib.hid hq
      have HQ2 := Lib.hid hq2
      clear hq hq2 hs
      go_enter Try.func49, Try.ntmps49
      go_wp2_with (go_at_call 40; refine (checkSensor_range s _ HQ.out HQ2.out).mono ?_; rintro e w1 ⟨rfl, hb⟩; obtain ⟨hc, hf⟩ := bcell hb)
      go_ret2
      refine ⟨rfl, ?_⟩
      repeat' (first | with_reducible exact Below.refl _ _ | with_reducible refine bstep ?_ (by with_reducible assumption) | with_reducible refine balloc ?_ | with_reducible refine bdrew ?_ | with_reducible refine bdrewN ?_ _ | with_reducible refine bset ?_ (by go_size))
end Go.Proofs.Ytlbgcjpkegpmlaa
/- What False computes: plain definitions, and that no number grows too great. -/
namespace Go.Proofs.Ytlbgcjpkegpmlaa

def sumTo (F : Nat → Int) : Nat → Int
  | 0 => 0
  | m + 1 => sumTo F m + F m
/-- How many of the errors x, x + 1, .. (so many) are high. -/
def highGo (st li : Int) : Nat → Int → Int → Int
  | 0, _, hi => hi
  | k + 1, x, hi => highGo st li k (x + 1) (if li ≤ x * st then hi + 1 else hi)
def highF (s : Sen) : Int := highGo s.st s.li (2 * s.no + 1).toNat (-s.no) 0
def stepRow (n h : Int) (ho : Nat) (R : Nat → Int) : Nat → Int := fun j => if j = 0 then sumTo (fun k => R k * (n - h)) ho else if j < ho then R (j - 1) * h else 0
def falseGo (n h : Int) (ho : Nat) : Nat → (Nat → Int) → Int → Int → Int × Int
  | 0, _, al, all => (al, all)
  | d + 1, R, al, all => falseGo n h ho d (stepRow n h ho R) (al * n + R (ho - 1) * h) (all * n)
def row0 : Nat → Int := fun j => if j = 0 then 1 else 0
def falseP (s : Sen) (draws : Nat) : Int × Int := falseGo (2 * s.no + 1) (highF s) s.ho.toNat draws row0 0 1
def falseF (s : Sen) (draws : Int) : Int × Int × Int :=
  if SenOK s then (if 1 ≤ draws ∧ draws ≤ 12 then ((falseP s draws.toNat).1, (falseP s draws.toNat).2, 0) else (0, 0, 2)) else (0, 0, checkSensor s)

theorem highGo_bd (st li : Int) (k : Nat) : ∀ x hi : Int, hi ≤ highGo st li k x hi ∧ highGo st li k x hi ≤ hi + k := by
  induction k with
  | zero => intro x hi; simp [highGo]
  | succ k ih =>
    intro x hi
    unfold highGo
    have h1 := ih (x + 1) (if li ≤ x * st then hi + 1 else hi)
    revert h1
    split <;> intro h1 <;> omega
theorem high_bd {s : Sen} (h : RangeOK s) : 0 ≤ highF s ∧ highF s ≤ 2 * s.no + 1 := by
  obtain ⟨h1, h2, h3, h4, h5, h6, -⟩ := h
  have := highGo_bd s.st s.li (2 * s.no + 1).toNat (-s.no) 0
  unfold highF
  omega

theorem sumTo_mul (F : Nat → Int) (c : Int) (m : Nat) : sumTo (fun k => F k * c) m = sumTo F m * c := by
  induction m with
  | zero => simp [sumTo]
  | succ m ih => simp [sumTo, ih, Int.add_mul]
theorem sumTo_nonneg {F : Nat → Int} (h : ∀ k, 0 ≤ F k) (m : Nat) : 0 ≤ sumTo F m := by
  induction m with
  | zero => simp [sumTo]
  | succ m ih => have := h m; simp [sumTo]; omega
theorem sumTo_mono {F : Nat → Int} (h : ∀ k, 0 ≤ F k) {m m' : Nat} (hm : m ≤ m') : sumTo F m ≤ sumTo F m' := by
  induction m' with
  | zero => obtain rfl : m = 0 := by omega
            exact Int.le_refl _
  | succ k ih =>
    by_cases e : m = k + 1
    · rw [e]; exact Int.le_refl _
    · have := ih (by omega)
      have h2 := h k
      simp [sumTo]; omega
theorem le_sumTo {F : Nat → Int} (h : ∀ k, 0 ≤ F k) {j m : Nat} (hj : j < m) : F j ≤ sumTo F m := by
  have h1 := sumTo_mono h (show j + 1 ≤ m from hj)
  have h2 := sumTo_nonneg h j
  simp [sumTo] at h1
  omega
theorem sumTo_congr {F G : Nat → Int} {m : Nat} (h : ∀ k, k < m → F k = G k) : sumTo F m = sumTo G m := by
  induction m with
  | zero => rfl
  | succ m ih => simp [sumTo, ih fun k hk => h k (by omega), h m (by omega)]
/-- the sum of a row that was moved by one -/
theorem sumTo_shift (R : Nat → Int) (a : Int) (h : Int) (m : Nat) : sumTo (fun j => if j = 0 then a else if j < m + 1 then R (j - 1) * h else 0) (m + 1) = a + sumTo R m * h := by
  have key : ∀ k, k ≤ m → sumTo (fun j => if j = 0 then a else if j < m + 1 then R (j - 1) * h else 0) (k + 1) = a + sumTo R k * h := by
    intro k
    induction k with
    | zero => intro _; simp [sumTo]
    | succ k ih =>
      intro hk
      rw [sumTo, ih (by omega)]
      simp [sumTo, Int.add_mul, show k < m from by omega]
      omega
  exact key m (Nat.le_refl _)

/-- What holds of the rows, of the alarms and of all, before each draw. -/
structure Rows9 (n h : Int) (ho i : Nat) (R : Nat → Int) (al all : Int) : Prop where
  pos : ∀ k, 0 ≤ R k
  al0 : 0 ≤ al
  one : 1 ≤ all
  sum : sumTo R ho + al = all
  pow : all ≤ n ^ i
theorem Rows9.start (n h : Int) (ho : Nat) (hh : 1 ≤ ho) : Rows9 n h ho 0 row0 0 1 := by
  refine ⟨fun k => by unfold row0; split <;> omega, by omega, by omega, ?_, by simp⟩
  have : ∀ m, sumTo row0 (m + 1) = 1 := by
    intro m
    induction m with
    | zero => simp [sumTo, row0]
    | succ m ih => rw [sumTo, ih]; simp [row0]
  obtain ⟨m, rfl⟩ : ∃ m, ho = m + 1 := ⟨ho - 1, by omega⟩
  rw [this]
  rfl
theorem Rows9.step {n h : Int} {ho i : Nat} {R : Nat → Int} {al all : Int} (hr : Rows9 n h ho i R al all) (hh : 1 ≤ ho) (h0 : 0 ≤ h) (h1 : h ≤ n) (hn : 1 ≤ n) :
    Rows9 n h ho (i + 1) (stepRow n h ho R) (al * n + R (ho - 1) * h) (all * n) := by
  obtain ⟨m, rfl⟩ : ∃ m, ho = m + 1 := ⟨ho - 1, by omega⟩
  refine ⟨fun k => ?_, ?_, ?_, ?_, ?_⟩
  · unfold stepRow
    split
    · rw [sumTo_mul]; exact Int.mul_nonneg (sumTo_nonneg hr.pos _) (by omega)
    · split
      · exact Int.mul_nonneg (hr.pos _) h0
      · omega
  · have h2 := Int.mul_nonneg hr.al0 (show 0 ≤ n from by omega)
    have h3 := Int.mul_nonneg (hr.pos (m + 1 - 1)) h0
    omega
  · exact mul_one_le hr.one hn
  · have hs : stepRow n h (m + 1) R = fun j => if j = 0 then sumTo (fun k => R k * (n - h)) (m + 1) else if j < m + 1 then R (j - 1) * h else 0 := rfl
    rw [hs, sumTo_shift, sumTo_mul]
    have e := hr.sum
    rw [← e]
    simp only [sumTo, Nat.add_sub_cancel, Int.add_mul, Int.mul_sub]
    omega
  · rw [Int.pow_succ]
    exact Int.mul_le_mul_of_nonneg_right hr.pow (by omega)
theorem pow_mono {a b : Int} (h : 0 ≤ a) (hab : a ≤ b) (i : Nat) : a ^ i ≤ b ^ i ∧ 0 ≤ a ^ i := by
  induction i with
  | zero => simp
  | succ i ih =>
    rw [Int.pow_succ, Int.pow_succ]
    exact ⟨Int.mul_le_mul ih.1 hab h (Int.le_trans ih.2 ih.1), Int.mul_nonneg ih.2 h⟩
theorem pow31 (i : Nat) (h : i ≤ 11) : (31 : Int) ^ i ≤ 25408476896404831 := by
  have : i = 0 ∨ i = 1 ∨ i = 2 ∨ i = 3 ∨ i = 4 ∨ i = 5 ∨ i = 6 ∨ i = 7 ∨ i = 8 ∨ i = 9 ∨ i = 10 ∨ i = 11 := by omega
  rcases this with rfl | rfl | rfl | rfl | rfl | rfl | rfl | rfl | rfl | rfl | rfl | rfl <;> decide
theorem Rows9.small {n h : Int} {ho i : Nat} {R : Nat → Int} {al all : Int} (hr : Rows9 n h ho i R al all) (hn : 0 ≤ n) (h31 : n ≤ 31) (hi : i ≤ 11) :
    all ≤ 25408476896404831 ∧ al ≤ 25408476896404831 ∧ sumTo R ho ≤ 25408476896404831 ∧ ∀ k, k < ho → R k ≤ 25408476896404831 := by
  have h1 := pow31 i hi
  have h2 := (pow_mono hn h31 i).1
  have h3 := hr.pow
  have h4 := hr.sum
  have h5 := hr.al0
  have h6 := sumTo_nonneg hr.pos ho
  refine ⟨by omega, by omega, by omega, fun k hk => ?_⟩
  have := le_sumTo hr.pos hk
  omega
/-- A row in the making: so many of the old one's cells are through. -/
def partRow (n h : Int) (R : Nat → Int) (m : Nat) : Nat → Int := fun j => if j = 0 then sumTo (fun k => R k * (n - h)) m else if j < m + 1 then R (j - 1) * h else 0
theorem partRow_zero (n h : Int) (R : Nat → Int) (j : Nat) : partRow n h R 0 j = 0 := by
  unfold partRow
  split
  · rfl
  · split
    · omega
    · rfl
theorem partRow_succ (n h : Int) (R : Nat → Int) (m j : Nat) :
    (if j = m + 1 then R m * h else if j = 0 then sumTo (fun k => R k * (n - h)) m + R m * (n - h) else partRow n h R m j) = partRow n h R (m + 1) j := by
  unfold partRow
  by_cases h0 : j = 0
  · subst h0; simp [sumTo]
  · by_cases h1 : j = m + 1
    · subst h1; simp
    · by_cases h2 : j < m + 1
      · simp [h0, h1, h2, show j < m + 1 + 1 from by omega]
      · simp [h0, h1, h2, show ¬ j < m + 1 + 1 from by omega]
theorem partRow_full (n h : Int) (R : Nat → Int) (ho j : Nat) (hj : j < ho) : partRow n h R ho j = stepRow n h ho R j := by
  unfold partRow stepRow
  by_cases h0 : j = 0
  · simp [h0]
  · simp [h0, hj, show j < ho + 1 from by omega]
theorem partRow_step (n h : Int) (R : Nat → Int) (ho j : Nat) (hh : 1 ≤ ho) : (if j = ho then 0 else partRow n h R ho j) = stepRow n h ho R j := by
  unfold partRow stepRow
  by_cases h0 : j = 0
  · subst h0; simp [show ¬ 0 = ho from by omega]
  · by_cases h1 : j = ho
    · subst h1; simp [h0]
    · by_cases h2 : j < ho
      · simp [h0, h1, h2, show j < ho + 1 from by omega]
      · simp [h0, h1, h2, show ¬ j < ho + 1 from by omega]
end Go.Proofs.Ytlbgcjpkegpmlaa
/- A block of n integers, told by a function. -/
namespace Go.Proofs.Ytlbgcjpkegpmlaa
open Go.RowKit

def fcells (n : Nat) (F : Nat → Int) : Array Value := ((List.range n).map fun j => Value.int .i64 (F j)).toArray
/-- Block b holds just the n integers F 0, F 1, .. -/
def FB (w : World) (b : Nat) (t : TypeId) (n : Nat) (F : Nat → Int) : Prop := Blk w b t (fcells n F)
section
variable {w w' : World} {b n : Nat} {t : TypeId} {F G : Nat → Int}
theorem FB.lt (h : FB w b t n F) : b < w.heap.size := Blk.lt h
theorem FB.cell (h : FB w b t n F) (i : Nat) (hi : i < n) : w.cell? ⟨b, i, none⟩ = some (.int .i64 (F i)) := Blk.cell h i (by simp [fcells, hi])
theorem FB.froz (h : FB w b t n F) (i : Nat) : w.frozen? ⟨b, i, none⟩ = false := Blk.froz h i
theorem fcells_congr (h : ∀ j, j < n → F j = G j) : fcells n F = fcells n G := by
  unfold fcells
  rw [List.map_congr_left (fun j hj => by rw [h j (by simpa using hj)])]
theorem FB.congr (h : FB w b t n F) (hg : ∀ j, j < n → F j = G j) : FB w b t n G := by
  unfold FB at h ⊢
  rwa [← fcells_congr hg]
theorem fcells_set (i : Nat) (x : Int) : (fcells n F).setIfInBounds i (.int .i64 x) = fcells n fun j => if j = i then x else F j := by
  apply Array.ext_getElem?
  intro j
  simp only [fcells, List.setIfInBounds_toArray, List.getElem?_toArray, List.getElem?_set, List.length_map, List.length_range, List.getElem?_map]
  by_cases hj : j < n
  · by_cases e : i = j
    · subst e; simp [hj]
    · have e' : ¬ j = i := fun h => e h.symm
      simp [hj, e, e']
  · by_cases e : i = j
    · subst e; simp [hj]
    · simp [hj, e]
theorem FB.put (h : FB w b t n F) (i : Nat) (x : Int) : FB (w.setCell ⟨b, i, none⟩ (.int .i64 x)) b t n fun j => if j = i then x else F j := by
  have := Blk.put h i (.int .i64 x)
  rw [fcells_set] at this
  exact this
theorem FB.far (h : FB w b t n F) {p : Addr} (hp : b ≠ p.block) (u : Value) : FB (w.setCell p u) b t n F := Blk.far h hp u
theorem FB.alloc (h : FB w b t n F) (o : Obj) : FB (w.alloc o) b t n F := Blk.alloc h o
theorem FB.below (h : FB w b t n F) (hb : Below w.heap.size w w') : FB w' b t n F := Blk.below h hb
end
theorem fcells9 (F : Nat → Int) : fcells 9 F = #[.int .i64 (F 0), .int .i64 (F 1), .int .i64 (F 2), .int .i64 (F 3), .int .i64 (F 4), .int .i64 (F 5), .int .i64 (F 6), .int .i64 (F 7), .int .i64 (F 8)] := by
  simp [fcells, List.range, List.range.loop]
theorem FB.new9 (w : World) (t : TypeId) (F : Nat → Int) : FB (w.alloc (.cells #[.int .i64 (F 0), .int .i64 (F 1), .int .i64 (F 2), .int .i64 (F 3), .int .i64 (F 4), .int .i64 (F 5), .int .i64 (F 6), .int .i64 (F 7), .int .i64 (F 8)] t)) w.heap.size t 9 F := by
  rw [← fcells9]; exact Blk.new w t _
theorem FB.cells9 {w : World} {b : Nat} {t : TypeId} {F : Nat → Int} (h : FB w b t 9 F) :
    w.cell? ⟨b, 0, none⟩ = some (.int .i64 (F 0)) ∧ w.cell? ⟨b, 1, none⟩ = some (.int .i64 (F 1)) ∧ w.cell? ⟨b, 2, none⟩ = some (.int .i64 (F 2)) ∧ w.cell? ⟨b, 3, none⟩ = some (.int .i64 (F 3)) ∧ w.cell? ⟨b, 4, none⟩ = some (.int .i64 (F 4)) ∧
    w.cell? ⟨b, 5, none⟩ = some (.int .i64 (F 5)) ∧ w.cell? ⟨b, 6, none⟩ = some (.int .i64 (F 6)) ∧ w.cell? ⟨b, 7, none⟩ = some (.int .i64 (F 7)) ∧ w.cell? ⟨b, 8, none⟩ = some (.int .i64 (F 8)) :=
  ⟨h.cell 0 (by omega), h.cell 1 (by omega), h.cell 2 (by omega), h.cell 3 (by omega), h.cell 4 (by omega), h.cell 5 (by omega), h.cell 6 (by omega), h.cell 7 (by omega), h.cell 8 (by omega)⟩
theorem FB.put9 {w : World} {b : Nat} {t : TypeId} {F G : Nat → Int} (h : FB w b t 9 F) :
    FB (((((((((w.setCell ⟨b, 0, none⟩ (.int .i64 (G 0))).setCell ⟨b, 1, none⟩ (.int .i64 (G 1))).setCell ⟨b, 2, none⟩ (.int .i64 (G 2))).setCell ⟨b, 3, none⟩ (.int .i64 (G 3))).setCell ⟨b, 4, none⟩ (.int .i64 (G 4))).setCell ⟨b, 5, none⟩ (.int .i64 (G 5))).setCell ⟨b, 6, none⟩ (.int .i64 (G 6))).setCell ⟨b, 7, none⟩ (.int .i64 (G 7))).setCell ⟨b, 8, none⟩ (.int .i64 (G 8))) b t 9 G :=
  (((((((((h.put 0 (G 0)).put 1 (G 1)).put 2 (G 2)).put 3 (G 3)).put 4 (G 4)).put 5 (G 5)).put 6 (G 6)).put 7 (G 7)).put 8 (G 8)).congr fun j hj => by
    have : j = 0 ∨ j = 1 ∨ j = 2 ∨ j = 3 ∨ j = 4 ∨ j = 5 ∨ j = 6 ∨ j = 7 ∨ j = 8 := by omega
    rcases this with rfl | rfl | rfl | rfl | rfl | rfl | rfl | rfl | rfl <;> simp
theorem Blk.far9 {w : World} {b c : Nat} {t : TypeId} {cs : Array Value} {x0 x1 x2 x3 x4 x5 x6 x7 x8 : Value} (h : Blk w b t cs) (hc : b ≠ c) :
    Blk (((((((((w.setCell ⟨c, 0, none⟩ x0).setCell ⟨c, 1, none⟩ x1).setCell ⟨c, 2, none⟩ x2).setCell ⟨c, 3, none⟩ x3).setCell ⟨c, 4, none⟩ x4).setCell ⟨c, 5, none⟩ x5).setCell ⟨c, 6, none⟩ x6).setCell ⟨c, 7, none⟩ x7).setCell ⟨c, 8, none⟩ x8) b t cs :=
  ((((((((h.far hc _).far hc _).far hc _).far hc _).far hc _).far hc _).far hc _).far hc _).far hc _
theorem below9 {w w1 : World} {c : Nat} {x0 x1 x2 x3 x4 x5 x6 x7 x8 : Value} (h : Below w.heap.size w w1) (hc : w.heap.size ≤ c) :
    Below w.heap.size w (((((((((w1.setCell ⟨c, 0, none⟩ x0).setCell ⟨c, 1, none⟩ x1).setCell ⟨c, 2, none⟩ x2).setCell ⟨c, 3, none⟩ x3).setCell ⟨c, 4, none⟩ x4).setCell ⟨c, 5, none⟩ x5).setCell ⟨c, 6, none⟩ x6).setCell ⟨c, 7, none⟩ x7).setCell ⟨c, 8, none⟩ x8) :=
  ((((((((h.setCell hc _).setCell hc _).setCell hc _).setCell hc _).setCell hc _).setCell hc _).setCell hc _).setCell hc _).setCell hc _
theorem fcells_made (n : Nat) : madeCells #[.int .i64 0] n = fcells n fun _ => 0 := by
  apply Array.ext_getElem?
  intro i
  by_cases h : i < n
  · simp [madeCells, fcells, h, Nat.mod_one]
  · simp [madeCells, fcells, h]
/-- make of n integers, of whatever type: the block that is made, and that nothing else has turned. -/
theorem make_ints {P : Program} {t e : TypeId} {bytes : Nat} (ht : P.underlying t = some (.slice e)) (hi : (P.info? e).map (fun i => (i.zero, i.size, i.bytes)) = some (some (.int .i64 0), 1, bytes)) (kl kc : IntKind) (n : Nat) (hb : bytes * n ≤ 281474976710656) (hn : n ≤ 9223372036854775807) (w : World) :
    ∃ w', (Instr.makeSlice t (.int kl (n : Int)) (.int kc (n : Int))).run P w = .ok (.slice (some ⟨w.heap.size, 0, none⟩) n n) w' ∧ FB w' w.heap.size e n (fun _ => 0) ∧ Below w.heap.size w w' ∧ w'.heap.size = w.heap.size + 1 :=
  ⟨_, run_make_row' t e (.int .i64 0) bytes ht hi rfl kl kc n hb hn w, by rw [fcells_made]; exact Blk.new w e _, balloc (Below.refl _ _), by simp⟩
end Go.Proofs.Ytlbgcjpkegpmlaa
/- The contract of kick.False. -/
namespace Go.Proofs.Ytlbgcjpkegpmlaa
open Go.RowKit


theorem arr96 : Try.prog.arrayLen 96 = 9 := by kernel_rfl
theorem elem96 (w : World) : (sizeOf (Try.prog.elem 96)).run Try.prog w = .ok 1 w := by kernel_rfl
theorem und96 : Try.prog.underlying 96 = some (.array (Try.prog.arrayLen 96) (Try.prog.elem 96)) := by kernel_rfl
theorem slice96 (q : Nat) (hq : q ≤ 9) (b : Nat) (w : World) : (Instr.sliceAt 96 (.pointer (some ⟨b, 0, none⟩)) none (some (.int .i64 (q : Int))) none).run Try.prog w = .ok (.slice (some ⟨b, 0, none⟩) q 9) w := by
  rw [run_sliceAt_array_h w 96 ⟨b, 0, none⟩ und96 .i64 q (by omega) (by rw [arr96]; omega), elem96, arr96]
  simp [slicedAt, Result.andThen, Addr.add]

set_option maxHeartbeats 2000000 in
set_option maxRecDepth 100000 in
theorem False_ok (ch pe de no st lo li d : Int) (q : Nat) (w : World) (hk : KindOK ⟨ch, pe, de, no, st, lo, li, q⟩) (hs : RangeOK ⟨ch, pe, de, no, st, lo, li, q⟩) (hd1 : 1 ≤ d) (hd2 : d ≤ 12) :
    Calls Try.prog 17 #[.agg #[.int .i64 ch, .int .i64 pe, .int .i64 de, .int .i64 no, .int .i64 st, .int .i64 lo, .int .i64 li, .int .i64 q], .int .i64 d] w fun e w' =>
      e = .returned (.tuple #[.int .i64 (falseP ⟨ch, pe, de, no, st, lo, li, q⟩ d.toNat).1, .int .i64 (falseP ⟨ch, pe, de, no, st, lo, li, q⟩ d.toNat).2, .int .i64 0]) ∧ Below w.heap.size w w' := by
  have HS := Lib.hid (show SenOK ⟨ch, pe, de, no, st, lo, li, q⟩ from ⟨hk, hs⟩)
  have hhi := high_bd hs
  obtain ⟨h1, h2, h3, h4, h5, h6, h7, h8, h9, h10, h11, h12, h13, h14⟩ := hs
  simp only at h1 h2 h3 h4 h5 h6 h7 h8 h9 h10 h11 h12 h13 h14 hhi
  obtain ⟨hh0, hh1⟩ := hhi
  clear hk
  go_enter Try.func17, Try.ntmps17
  go_wp2_with fail
  refine (checkSensor_yes ⟨ch, pe, de, no, st, lo, li, q⟩ _ HS.out).mono ?_
  rintro e w1 ⟨rfl, hb⟩
  have B0 : Blk w1 w.heap.size 23 (senCells ch pe de no st lo li q) := (Blk.new w _ _).below hb
  have hbw : Below w.heap.size w w1 := by
    repeat' (first | with_reducible exact Below.refl _ _ | with_reducible refine bstep ?_ (by with_reducible assumption) | with_reducible refine balloc ?_ | with_reducible refine bdrew ?_ | with_reducible refine bdrewN ?_ _ | with_reducible refine bset ?_ (by go_size))
  obtain ⟨s1, s2, s3, s4, s5, s6, s7⟩ := sen_cells B0
  clear hb
  have hd3 : ¬ (d < 1) := by omega
  have hd4 : ¬ (12 < d) := by omega
  go_wp2_with fail
  -- the high errors
  have HF : Hid (highGo st li (2 * no + 1).toNat (-no) 0 = highF ⟨ch, pe, de, no, st, lo, li, q⟩) := rfl
  go_loopg [9, 10] ((2 * no + 1).toNat) (fun k v9 v10 wx => ∃ x hi : Int, (k : Int) + x = no + 1 ∧ -no ≤ x ∧ 0 ≤ hi ∧ hi + k ≤ 31 ∧ v9 = .int .i64 hi ∧ v10 = .int .i64 x ∧ Hid (highGo st li k x hi = highF ⟨ch, pe, de, no, st, lo, li, q⟩) ∧ w1 = wx)
  case atStart => exact ⟨-no, 0, by omega, by omega, by omega, by omega, rfl, rfl, HF, rfl⟩
  case round =>
    obtain ⟨x, h, hkx, hx1, hhi1, hhi2, rfl, rfl, HG, rfl⟩ := hrel
    clear HF
    cases gk with
    | succ k =>
      have hx : x ≤ no := by omega
      have hxs : -15728640 ≤ x * st ∧ x * st ≤ 31457280 := by
        have e := mul_bd (by omega : 0 ≤ x + 15) (by omega : x + 15 ≤ 30) (by omega : 0 ≤ st) h8
        have e2 := mul_bd (by omega : (0 : Int) ≤ 15) (by omega : (15 : Int) ≤ 15) (by omega : 0 ≤ st) h8
        rw [Int.add_mul] at e
        omega
      obtain ⟨hxs1, hxs2⟩ := hxs
      by_cases hv : li ≤ x * st
      · have HG2 : Hid (highGo st li k (x + 1) (h + 1) = highF ⟨ch, pe, de, no, st, lo, li, q⟩) := by
          show _ = _
          rw [← HG.out]; simp [highGo, hv]
        clear HG
        go_wp2_with fail
        go_roundg k
        case measure => omega
        case rel => exact ⟨x + 1, h + 1, by omega, by omega, by omega, by omega, by go_num, by go_num, HG2, rfl⟩
      · have HG2 : Hid (highGo st li k (x + 1) h = highF ⟨ch, pe, de, no, st, lo, li, q⟩) := by
          show _ = _
          rw [← HG.out]; simp [highGo, hv]
        clear HG
        go_wp2_with fail
        go_roundg k
        case measure => omega
        case rel => exact ⟨x + 1, h, by omega, by omega, by omega, by omega, rfl, by go_num, HG2, rfl⟩
    | zero =>
      have hx : no < x := by omega
      have hh : h = highF ⟨ch, pe, de, no, st, lo, li, q⟩ := HG.out
      rw [← hh] at hh0 hh1
      have HH := Lib.hid hh.symm
      clear hh HG
      have hw1 := B0.lt
      have HG : Hid (falseGo (2 * no + 1) h q d.toNat row0 0 1 = falseP ⟨ch, pe, de, no, st, lo, li, q⟩ d.toNat) := by
        show _ = _
        unfold falseP
        rw [HH.out, Int.toNat_natCast]
      go_wp2_with fail
      -- the rows
      go_loopg [4, 5, 50] (d.toNat) (fun k v4 v5 v50 wx => ∃ (j : Nat) (R : Nat → Int) (al all : Int), k + j = d.toNat ∧ v50 = .int .i64 j ∧ v4 = .int .i64 al ∧ v5 = .int .i64 all ∧ Hid (falseGo (2 * no + 1) h q k R al all = falseP ⟨ch, pe, de, no, st, lo, li, q⟩ d.toNat) ∧ Rows9 (2 * no + 1) h q j R al all ∧
        Blk wx w.heap.size 23 (senCells ch pe de no st lo li q) ∧ FB wx w1.heap.size 96 9 R ∧ Below w.heap.size w wx)
      case atStart =>
        exact ⟨0, row0, 0, 1, rfl, rfl, rfl, rfl, HG, Rows9.start _ _ _ (by omega), B0.alloc _, FB.new9 w1 96 row0, balloc hbw⟩
      case round =>
        clear HG s1 s2 s3 s4 s5 s6 s7
        obtain ⟨j, R, al, all, hkj, rfl, rfl, rfl, HG, HR, B1, F1, hbx⟩ := hrel
        obtain ⟨s1, s2, s3, s4, s5, s6, s7⟩ := sen_cells B1
        have hz0 := B1.lt
        have hz1 := F1.lt
        cases gk with
        | zero =>
          have hjd : ¬ ((j : Int) < d) := by omega
          have HV : Hid ((al, all) = falseP ⟨ch, pe, de, no, st, lo, li, q⟩ d.toNat) := HG.out
          clear HG
          go_wp2_with fail
          go_ret3
          rw [← HV.out]
          exact ⟨rfl, hbx⟩
        | succ k =>
          have hjd : (j : Int) < d := by omega
          have HG2 : Hid (falseGo (2 * no + 1) h q k (stepRow (2 * no + 1) h q R) (al * (2 * no + 1) + R (q - 1) * h) (all * (2 * no + 1)) = falseP ⟨ch, pe, de, no, st, lo, li, q⟩ d.toNat) := HG.out
          clear HG
          have HR2 := HR.step (by omega) hh0 (by omega) (by omega)
          obtain ⟨b1, b2, b3, b4⟩ := HR.small (by omega) (by omega) (by omega)
          obtain ⟨d1, d2⟩ := mul_bd HR.al0 b2 (by omega : 0 ≤ 2 * no + 1) (by omega : 2 * no + 1 ≤ 31)
          obtain ⟨d3, d4⟩ := mul_bd (by have := HR.one; omega : 0 ≤ all) b1 (by omega : 0 ≤ 2 * no + 1) (by omega : 2 * no + 1 ≤ 31)
          obtain ⟨c0, c1, c2, c3, c4, c5, c6, c7, c8⟩ := F1.cells9
          have g0 := F1.froz 0
          have g1 := F1.froz 1
          have g2 := F1.froz 2
          have g3 := F1.froz 3
          have g4 := F1.froz 4
          have g5 := F1.froz 5
          have g6 := F1.froz 6
          have g7 := F1.froz 7
          have g8 := F1.froz 8
          have HB4 := Lib.hid b4
          clear b4
          have hsl := slice96 q (by omega) wr.heap.size
          have hnew : ∀ W' : World, W'.heap.size = wr.heap.size → FB (W'.alloc (.cells #[.int .i64 (R 0), .int .i64 (R 1), .int .i64 (R 2), .int .i64 (R 3), .int .i64 (R 4), .int .i64 (R 5), .int .i64 (R 6), .int .i64 (R 7), .int .i64 (R 8)] 96)) wr.heap.size 96 9 R := fun W' e => by rw [← e]; exact FB.new9 W' 96 R
          have HN := Lib.hid hnew
          clear hnew
          obtain ⟨wo, rfl⟩ : ∃ wo : World, wo = wr := ⟨_, rfl⟩
          go_wp2_with fail
          go_loopg [58] q (fun z v58 wy => ∃ m : Nat, z + m = q ∧ v58 = .int .i64 m ∧ Blk wy w.heap.size 23 (senCells ch pe de no st lo li q) ∧ FB wy wo.heap.size 96 9 R ∧ FB wy w1.heap.size 96 9 (partRow (2 * no + 1) h R m) ∧ Below w.heap.size w wy)
          case atStart =>
            refine ⟨0, rfl, rfl, (B1.far9 (by omega)).alloc _, HN.out _ (by simp), ((F1.put9 (G := fun _ => 0)).alloc _).congr (fun j _ => (partRow_zero _ _ _ j).symm), balloc (below9 hbx (by omega))⟩
          case round =>
            clear HN hsl c0 c1 c2 c3 c4 c5 c6 c7 c8 g0 g1 g2 g3 g4 g5 g6 g7 g8 s1 s2 s3 s4 s5 s6 s7
            obtain ⟨m, hzm, rfl, B2, F2, F3, hby⟩ := hrel
            obtain ⟨s1, s2, s3, s4, s5, s6, s7⟩ := sen_cells B2
            have hz2 := B2.lt
            have hz3 := F3.lt
            have hz4 := F2.lt
            cases gk with
            | zero =>
              obtain rfl : m = q := by omega
              have hlt : ¬ ((m : Int) < (m : Int)) := by omega
              have e0 : partRow (2 * no + 1) h R m m = R (m - 1) * h := by simp [partRow, show ¬ m = 0 from by omega]
              obtain ⟨p1, p2⟩ := mul_bd (HR.pos (m - 1)) (HB4.out (m - 1) (by omega)) hh0 (by omega : h ≤ 31)
              have cm := F3.cell m (by omega)
              rw [e0] at cm
              have gm := F3.froz m
              clear e0
              have HE := Lib.hid HR2
              clear HR2
              go_wp2_with fail
              go_roundg k
              case measure => omega
              case rel =>
                exact ⟨j + 1, stepRow (2 * no + 1) h m R, al * (2 * no + 1) + R (m - 1) * h, all * (2 * no + 1), by omega, by go_num, rfl, rfl, HG2, HE.out, B2.far (by simp; omega) _, (F3.put m 0).congr (fun j _ => partRow_step _ _ _ _ _ (by omega)), bset hby (by simp; omega)⟩
            | succ z =>
              have hlt : (m : Int) < (q : Int) := by omega
              have e0 : partRow (2 * no + 1) h R m 0 = sumTo (fun k => R k * (2 * no + 1 - h)) m := by simp [partRow]
              have e1 : partRow (2 * no + 1) h R m (m + 1) = 0 := by simp [partRow]
              have cm := F2.cell m (by omega)
              have c0 := F3.cell 0 (by omega)
              have c1 := F3.cell (m + 1) (by omega)
              rw [e0] at c0
              rw [e1] at c1
              have g0 := F3.froz 0
              have g1 := F3.froz (m + 1)
              clear e0 e1
              obtain ⟨p1, p2⟩ := mul_bd (HR.pos m) (HB4.out m (by omega)) hh0 (by omega : h ≤ 31)
              obtain ⟨p3, p4⟩ := mul_bd (HR.pos m) (HB4.out m (by omega)) (by omega : 0 ≤ 2 * no + 1 - h) (by omega : 2 * no + 1 - h ≤ 31)
              have p5 : 0 ≤ sumTo (fun k => R k * (2 * no + 1 - h)) m := sumTo_nonneg (fun k => Int.mul_nonneg (HR.pos k) (by omega)) m
              have p6 : sumTo (fun k => R k * (2 * no + 1 - h)) m ≤ 25408476896404831 * 31 := by
                rw [sumTo_mul]
                exact (mul_bd (sumTo_nonneg HR.pos m) (Int.le_trans (sumTo_mono HR.pos (by omega : m ≤ q)) b3) (by omega) (by omega)).2
              generalize hS : sumTo (fun k => R k * (2 * no + 1 - h)) m = S at c0 p5 p6
              have HS2 := Lib.hid hS
              clear hS
              go_wp2_with fail
              go_roundg z
              case measure => omega
              case rel =>
                exact ⟨m + 1, by omega, by go_num, (B2.far (by simp; omega) _).far (by simp; omega) _, (F2.far (by simp; omega) _).far (by simp; omega) _, ((F3.put 0 (S + R m * (2 * no + 1 - h))).put (m + 1) (R m * h)).congr (fun j _ => by rw [← HS2.out]; exact partRow_succ _ _ _ _ _), bset (bset hby (by simp; omega)) (by simp; omega)⟩
end Go.Proofs.Ytlbgcjpkegpmlaa
/- The contract of awake: the chapter's examples hold. -/
namespace Go.Proofs.Ytlbgcjpkegpmlaa
open Go.RowKit

theorem shown_any (w : World) : Calls Try.prog 63 #[] w fun e w' => e = .returned (kickV 1000 100) ∧ Below w.heap.size w w' := by
  go_enter Try.func63, Try.ntmps63
  go_wp2
  go_returns
  refine ⟨rfl, ?_⟩
  repeat' (first | with_reducible exact Below.refl _ _ | with_reducible refine bstep ?_ (by with_reducible assumption) | with_reducible refine balloc ?_ | with_reducible refine bdrew ?_ | with_reducible refine bdrewN ?_ _ | with_reducible refine bset ?_ (by go_size))
theorem pit_any (w : World) : Calls Try.prog 64 #[] w fun e w' => e = .returned (Sen.v ⟨1, 10, 5, 2, 1000, 1, 20000, 2⟩) ∧ Below w.heap.size w w' := by
  go_enter Try.func64, Try.ntmps64
  go_wp2
  go_returns
  refine ⟨rfl, ?_⟩
  repeat' (first | with_reducible exact Below.refl _ _ | with_reducible refine bstep ?_ (by with_reducible assumption) | with_reducible refine balloc ?_ | with_reducible refine bdrew ?_ | with_reducible refine bdrewN ?_ _ | with_reducible refine bset ?_ (by go_size))
theorem flow_any' (w : World) : Calls Try.prog 65 #[] w fun e w' => e = .returned (Sen.v ⟨2, 1, 0, 0, 1, 0, 3000, 1⟩) ∧ Below w.heap.size w w' := by
  go_enter Try.func65, Try.ntmps65
  go_wp2
  go_returns
  refine ⟨rfl, ?_⟩
  repeat' (first | with_reducible exact Below.refl _ _ | with_reducible refine bstep ?_ (by with_reducible assumption) | with_reducible refine balloc ?_ | with_reducible refine bdrew ?_ | with_reducible refine bdrewN ?_ _ | with_reducible refine bset ?_ (by go_size))

theorem late_ex : lateRV ⟨1, 10, 5, 2, 1000, 1, 20000, 2⟩ 1000 100 = .tuple #[.int .i64 58, .bool true] := by
  have h : lateF ⟨1, 10, 5, 2, 1000, 1, 20000, 2⟩ 1000 100 = some (58, 3, 2) := by decide +kernel
  have hs : SenOK ⟨1, 10, 5, 2, 1000, 1, 20000, 2⟩ := by decide
  have hk : KickOK 1000 100 := by decide
  simp [lateRV, lateR, h, hs, hk]
theorem false_ex : falseP ⟨1, 1, 0, 2, 1000, 0, 1000, 2⟩ 3 = (32, 125) := by decide +kernel
theorem gain_ex : gainF 1000 100 3 = 3300 := by decide +kernel

theorem awake_any (w : World) : Calls Try.prog 19 #[] w fun e w' => e = .returned (.bool true) ∧ Below w.heap.size w w' := by
  go_enter Try.func19, Try.ntmps19
  go_wp2_with fail
  refine (pit_any _).mono ?_
  rintro e w1 ⟨rfl, hb1⟩
  go_wp2_with fail
  refine (shown_any _).mono ?_
  rintro e w2 ⟨rfl, hb2⟩
  go_wp2_with fail
  refine (Late_any ⟨1, 10, 5, 2, 1000, 1, 20000, 2⟩ 1000 100 _).mono ?_
  rw [late_ex]
  rintro e w3 ⟨rfl, hb3⟩
  go_wp2_with fail
  refine (False_ok 1 1 0 2 1000 0 1000 3 2 _ (by decide) (by decide) (by omega) (by omega)).mono ?_
  rw [show (3 : Int).toNat = 3 from rfl, show ((2 : Nat) : Int) = 2 from rfl, false_ex]
  rintro e w4 ⟨rfl, hb4⟩
  go_wp2_with fail
  refine (shown_any _).mono ?_
  rintro e w5 ⟨rfl, hb5⟩
  go_wp2_with fail
  refine (Gain_any 1000 100 3 _).mono ?_
  rw [gain_ex]
  rintro e w6 ⟨rfl, hb6⟩
  go_wp2_with fail
  go_ret
  refine ⟨rfl, ?_⟩
  repeat' (first | with_reducible exact Below.refl _ _ | with_reducible refine bstep ?_ (by with_reducible assumption) | with_reducible refine balloc ?_ | with_reducible refine bdrew ?_ | with_reducible refine bdrewN ?_ _ | with_reducible refine bset ?_ (by go_size))
end Go.Proofs.Ytlbgcjpkegpmlaa
/- The chapter's examples, for the table. -/
namespace Go.Proofs.Ytlbgcjpkegpmlaa
open Go.RowKit
theorem awake_ok : tab.ok 19 := by
  refine Tab.of_ct rfl rfl ⟨_, Try.func19, by decide, rfl⟩ ?_ ctF_det
  intro Base w vs cs hB hr _
  match vs, hr with
  | [], hr =>
    refine (awake_any w).mono ?_
    rintro e w' ⟨rfl, hb⟩
    have hv : vecB (kindsOf ctAwake.res) [C.b true] = [] := rfl
    refine ⟨_, [.b true], [], rfl, ⟨[.bool true], rfl, ?_, by rw [hv]; exact List.nodup_nil, fun b hb => (by rw [hv] at hb; cases hb)⟩, rfl, rfl, Keeps.of_below hb fun i hi => hi.1⟩
    exact ⟨[.b true], [], rfl, ⟨.b true, rfl, fun n => (by cases n <;> trivial), true, rfl, rfl⟩, rfl⟩
end Go.Proofs.Ytlbgcjpkegpmlaa
/- The call of KickLater. -/
namespace Go.Proofs.Ytlbgcjpkegpmlaa
open Go.RowKit
theorem walk_KickLater (A : Option Addr) (n k : Nat) (W : World) (hN : NumsAt W W.heap.size A n) :
    Calls Try.prog 11 #[.slice A n k] W fun e w' => e = .returned (.bool true) ∧ Below W.heap.size W w' := by
  obtain ⟨rows, hr⟩ := rep_nums (c := k) hN
  exact law_walk (later_ok (up3_ok (up_ok awake_ok))) rfl (rep_arr hr rfl)
end Go.Proofs.Ytlbgcjpkegpmlaa
