/- The law KillKnown: for every input the call returns true, and each argument reads afterwards as it read before. The frame is printed by frame.py. -/
import Derived.Test.YtmdmgpikbebejaaKnown8
import Derived.TacticsInMore
import Derived.LoopIn
import Derived.OwnWalkIn
import Derived.WalkKit
import Derived.Test.YtmdmgpikbebejaaRows
import Derived.ShutString
import Derived.ChangeOld
/- Kill: At. -/
namespace Go.Proofs.Ytmdmgpikbebejaa
open Go.RowKit
set_option linter.unusedSimpArgs false
set_option linter.unusedVariables false

section
variable {j : Jb} {s e : Int}
theorem atE_no (h : jobV j ≠ 0) : atE j s e = jobV j := if_neg h
theorem atE_out (h : jobV j = 0) (h2 : ¬ (0 ≤ s ∧ s ≤ 400 ∧ -1 ≤ e ∧ e ≤ 1)) : atE j s e = 2 := by unfold atE; rw [if_pos h, if_neg h2]
theorem atE_in (h : jobV j = 0) (h2 : 0 ≤ s ∧ s ≤ 400 ∧ -1 ≤ e ∧ e ≤ 1) : atE j s e = 0 := by unfold atE; rw [if_pos h, if_pos h2]
theorem atMo_no (h : jobV j ≠ 0) : atMo j s e = noMo := by unfold atMo; rw [if_neg fun h2 => h h2.1]
theorem atMo_out (h2 : ¬ (0 ≤ s ∧ s ≤ 400 ∧ -1 ≤ e ∧ e ≤ 1)) : atMo j s e = noMo := by unfold atMo; rw [if_neg fun h => h2 h.2]
theorem atMo_in (h : jobV j = 0) (h2 : 0 ≤ s ∧ s ≤ 400 ∧ -1 ≤ e ∧ e ≤ 1) : atMo j s e = momentV j s e := by unfold atMo; rw [if_pos ⟨h, h2⟩]
end
theorem ex_app {P : List C → Prop} (l : List C) (x : C) {y : C} (h : P l) (e : x = y) : ∃ r1 r2, l ++ [x] = r1 ++ [r2] ∧ P r1 ∧ r2 = y := ⟨l, x, rfl, h, e⟩
theorem isMo_no (v : Value) : IsMo noMo [.i 0, .i 0, .i 0, .i 0, .i 0, .i 0, .i 0, .s v []] := ⟨v, [], rfl, rfl⟩
set_option maxHeartbeats 1000000 in
theorem kat_ok : tab3.ok 27 := by
  refine Tab.of_ct rfl rfl ⟨_, Try.func27, by decide, rfl⟩ ?_ (fun h => by cases h)
  refine ct_ok (cx := ckat) (Tab.cx_ok (all_cons chk_ok (all_cons (up3_ok hgt_ok) (all_cons (up3_ok volm_ok) (all_cons moment_ok all_nil)))) fxkat) Try.func27 (bds := []) (T := tkat) (by kernel_rfl) ?_
  have h1 : ckat.ct 48 = some ctCheckJ := rfl
  have h2 : ckat.ct 58 = some ctHeight := rfl
  have h3 : ckat.ct 30 = some ctVol := rfl
  have h4 : ckat.ct 50 = some ctMoment := rfl
  unfold tkat
  simp only [VC, allC, List.map_cons, List.map_nil, List.length_cons, List.length_nil, List.getElem?_cons_zero, List.getElem?_cons_succ, List.cons.injEq, C.i.injEq, C.b.injEq, and_true, true_and, forall_const, kindsOf_nil, kindsOf_lf, kindsOf_agg, kindsOf_box, boxKinds_nil, boxKinds_lf, boxKinds_agg, boxKinds_box, List.append_nil, List.cons_append, List.nil_append, den_cmp_le, den_cmp_lt, den_cmp_eq, den_cmp_ne, den_cmp_le', den_cmp_lt', den_cmp_eq', den_cmp_ne', den_and, den_and', den_or, den_or', den_not, den_not', den_blit, den_of, ev_var, at_0, at_1, at_2, at_3, at_4, at_5, at_6, at_7, at_skip, c_int, c_bool, c_arr, c_cnt, c_vec, ev_nil, ev_join, ev_sub3, loc_s, int_i, bool_b, rows_s, cs_nil, cs_cons, E.den_lit, E.den_var, E.den_add, E.den_sub, E.den_mul, E.den_quo, E.den_rem, E.den_max, E.den_min, E.den_len, E.den_wr, E.den_cell, Nat.reduceAdd, h1, h2, h3, h4, ctCheckJ, ctHeight, ctVol, ctMoment, ctAtK, ctF, wellSh, wellKs, progSh, bubSh, momSh, momKs, jobSh, holeSh, lineSh, n_]
  rintro u1 r1 _ _ _ w _ _ u2 r2 _ _ _ li _ _ pi _ _ st _ _ ka _ _ kb _ _ kc _ _ kd _ _ v _ _ po _ _ s _ _ e _ _
  obtain ⟨j, hjd⟩ : ∃ j, j = jobOf [.s u1 r1, .i w, .s u2 r2, .i li, .i pi, .i st, .i ka, .i kb, .i kc, .i kd, .i v, .i po, .i s, .i e] 0 := ⟨_, rfl⟩
  rw [← hjd]
  have out : jobV j = 0 → ¬ (0 ≤ s ∧ s ≤ 400 ∧ -1 ≤ e ∧ e ≤ 1) → ∃ r1 r2, ([.i 0, .i 0, .i 0, .i 0, .i 0, .i 0, .i 0, .s (.slice none 0 0) [], .i 2] : List C) = r1 ++ [r2] ∧ IsMo (atMo j s e) r1 ∧ r2 = C.i (atE j s e) := fun h h2 => ex_app [.i 0, .i 0, .i 0, .i 0, .i 0, .i 0, .i 0, .s (.slice none 0 0) []] (.i 2) (by rw [atMo_out h2]; exact isMo_no _) (by rw [atE_out h h2])
  refine ⟨bds_nil _, ?_⟩
  rintro n _ _ hn
  have hn : n = jobV j := by rw [hjd]; exact hn
  refine ⟨fun h => ?_, fun h => ?_⟩
  · exact ex_app [.i 0, .i 0, .i 0, .i 0, .i 0, .i 0, .i 0, .s (.slice none 0 0) []] (.i n) (by rw [atMo_no (by omega)]; exact isMo_no _) (by rw [atE_no (by omega), hn])
  have h0 : jobV j = 0 := by omega
  refine ⟨fun g => out h0 (by omega), fun g1 => ⟨fun g => out h0 (by omega), fun g2 => ⟨fun g => out h0 (by omega), fun g3 => ⟨fun g => out h0 (by omega), fun g4 => ?_⟩⟩⟩⟩
  rintro vl rows _ _ _ ⟨v', rows', e1, e2⟩
  cases e1
  rintro room _ _ hroom
  have hf : JF j := jf_of h0
  have hs : holeV (segsOf r1) = 0 := by have := hf.hole; rw [hjd] at this; exact this
  refine ⟨⟨⟨by rw [hjd] at h0; exact h0, e2, ?_⟩, ⟨g1, g2⟩, ⟨g3, g4⟩⟩, ?_⟩
  · show room = volV (segsOf r1)
    rw [hroom]; exact roomS_yes hs
  intro x1 _ _ x2 _ _ x3 _ _ x4 _ _ x5 _ _ x6 _ _ x7 _ _ v2 rows2 _ _ _ hx
  refine ex_app [.i x1, .i x2, .i x3, .i x4, .i x5, .i x6, .i x7, .s v2 rows2] (.i 0) ?_ (by rw [atE_in h0 ⟨g1, g2, g3, g4⟩])
  rw [atMo_in h0 ⟨g1, g2, g3, g4⟩, hjd]
  exact hx
end Go.Proofs.Ytmdmgpikbebejaa
/- Kill: what the statements' own functions compute. -/
namespace Go.Proofs.Ytmdmgpikbebejaa
set_option linter.unusedVariables false

def smallW (w : Wl) : Bool := decide (w.segs.length ≤ 18) && decide (w.points.length ≤ 10)
def ctSmallW : Ct := ctF [wellSh] [.lf .bool] (fun _ => True) (fun cs => [.b (smallW (wellOf cs 0))])
def shownW : Wl := ⟨[⟨100000, 100000, 100, 50⟩], 12000, [(2000000, 1200000000)], 500000000, 1000000, 1000000⟩
def drillerP : Pg := ⟨1, 13000, 10000000, 0⟩
def influxB : Bb := ⟨1000000, 1250000000⟩
def shownJ : Jb := ⟨shownW, drillerP, influxB⟩
def ctDriller : Ct := ctF [] [progSh] (fun _ => True) (fun _ => [.i 1, .i 13000, .i 10000000, .i 0])
def ctInflux : Ct := ctF [] [bubSh] (fun _ => True) (fun _ => [.i 1000000, .i 1250000000])
def ctAwake : Ct := ctF [] [.lf .bool] (fun _ => True) (fun _ => [.b true])
/-! The kit's wells, programs and kicks -/
def ints (rows : List (List C)) : List Int := rows.map fun r => (r.getD 0 (.i 0)).int
structure Br where
  segs : List Int
  points : List Int
  weight : Int
  limit : Int
  pipe : Int
  step : Int
  kind : Int
  kill : Int
  margin : Int
  err : Int
  vols : List Int
  pores : List Int
def l_ (cs : List C) (i : Nat) : List Int := ints (at_ cs i).rows
def brOf (cs : List C) (i : Nat) : Br := ⟨l_ cs i, l_ cs (i + 1), n_ cs (i + 2), n_ cs (i + 3), n_ cs (i + 4), n_ cs (i + 5), n_ cs (i + 6), n_ cs (i + 7), n_ cs (i + 8), n_ cs (i + 9), l_ cs (i + 10), l_ cs (i + 11)⟩
def boreSh : Sh0 := .agg [.arr 2, .arr 2, .int, .int, .int, .int, .int, .int, .int, .int, .arr 2, .arr 2]
def pickV (l : List Int) (i : Int) : Int := if l.length = 0 then 0 else l.getD (i % l.length).toNat 0 % 1099511627776
def segB (n : Int) : Sg := ⟨10000 + n % 100001, 10000 + n % 100001 - n / 11 % ((10000 + n % 100001) / 4), 50 + n / 3 % 400, 20 + n / 7 % 100⟩
def many (l : List Int) : Nat := max 1 (min l.length 3)
def segsB (x : Br) : List Sg := (List.range (many x.segs)).map fun (i : Nat) => segB (pickV x.segs (i : Int))
/-- The points: from the i-th on, so many, behind a place. -/
def ptsB (l : List Int) (room all : Int) : Nat → Nat → Int → List Kn
  | 0, _, _ => []
  | n + 1, i, a => (a + 1 + pickV l i % (room / 4), (13000 + pickV l i / 5 % 9001) * (all - all / 4 * i)) :: ptsB l room all n (i + 1) (a + 1 + pickV l i % (room / 4))
def wellB (x : Br) : Wl := ⟨segsB x, 10000 + x.weight % 6001, ptsB x.points (volV (segsB x)) (riseV (segsB x)) (min x.points.length 3) 0 0, x.limit % 1500000000, x.pipe % volV (segsB x), 1 + volV (segsB x) / (4 + x.step % 25)⟩
def progB (x : Br) : Pg := ⟨1 + x.kind % 3, 11000 + x.kill % 8001, x.margin % 30000000, x.err % 12000000⟩
def runB (l : List Int) (m : Int) : Nat → Nat → Int → List Int
  | 0, _, _ => []
  | n + 1, i, a => (a + 1 + pickV l i % m) :: runB l m n (i + 1) (a + 1 + pickV l i % m)
def volsB (x : Br) : List Int := runB x.vols 2000000 (many x.vols) 0 0
def poresB (x : Br) : List Int := runB x.pores 60000000 (many x.pores) 0 ((10000 + x.weight % 6001) * riseV (segsB x))
def ctMod : Ct := ctF [.lf .int, .lf .int] [.lf .int] (fun cs => 1 ≤ n_ cs 1) (fun cs => [.i (n_ cs 0 % n_ cs 1)])
def ctPick : Ct := ctF [.lf (.arr 2), .lf .int] [.lf .int] (fun cs => 0 ≤ n_ cs 1) (fun cs => [.i (pickV (l_ cs 0) (n_ cs 1))])
def wellVSh : Sh0 := .agg [.vec 97, .int, .vec 70, .int, .int, .int]
def ctKWell : Ct := ⟨[boreSh], [wellVSh], fun _ => True, fun cs rs => ∃ v1 r1 w v2 r2 li pi st, rs = [.s v1 r1, .i w, .s v2 r2, .i li, .i pi, .i st] ∧ wellOf rs 0 = wellB (brOf cs 0), false⟩
def pgC (p : Pg) : List C := [.i p.kind, .i p.weight, .i p.margin, .i p.err]
def ctKProg : Ct := ctF [boreSh] [progSh] (fun _ => True) (fun cs => pgC (progB (brOf cs 0)))
def ctKKicks : Ct := ⟨[boreSh], [.lf (.vec 2), .lf (.vec 2)], fun _ => True, fun cs rs => ∃ v1 r1 v2 r2, rs = [.s v1 r1, .s v2 r2] ∧ ints r1 = volsB (brOf cs 0) ∧ ints r2 = poresB (brOf cs 0), false⟩
def sameMo (x y : Mo) : Bool := x.pumped == y.pumped && x.gas == y.gas && x.base == y.base && x.surf == y.surf && x.pts == y.pts
def ctSameMo : Ct := ctF [momASh, momASh] [.lf .bool] (fun _ => True) (fun cs => [.b (sameMo (momOf cs 0) (momOf cs 8))])
def tab4 : Tab where
  ct := fun f => match f with
    | 13 => some ctSmallW
    | 33 => some ctDriller
    | 34 => some ctInflux
    | 14 => some ctAwake
    | 26 | 29 => some ctMod
    | 47 => some ctPick
    | 23 => some ctKWell
    | 24 => some ctKProg
    | 25 => some ctKKicks
    | 28 => some ctSameMo
    | f => tab3.ct f
  inl := tab3.inl
  sel := tab3.sel
theorem up4_ok {f : Nat} (h : tab3.ok f) (he : tab4.ct f = tab3.ct f := by rfl) : tab4.ok f :=
  ⟨h.1, fun ct hc => h.2.1 ct (he ▸ hc), h.2.2.1, h.2.2.2⟩
end Go.Proofs.Ytmdmgpikbebejaa
/- What is to be shown of each function, as the executor has it. Printed by trees.py. -/
namespace Go.Proofs.Ytmdmgpikbebejaa
noncomputable def cdriller : Cx := tab4.only [] (fun _ => []) [] 0 [] (fun _ => none)
def tdriller : Tree :=
  (.ret [(.int (.lit 1)), (.int (.lit 13000)), (.int (.lit 10000000)), (.int (.lit 0))])
noncomputable def cinflux : Cx := tab4.only [] (fun _ => []) [] 0 [] (fun _ => none)
def tinflux : Tree :=
  (.ret [(.int (.lit 1000000)), (.int (.lit 1250000000))])
noncomputable def flawake : List (Nat × Func) := [(32, Try.f32)]
theorem fxawake : ∀ p ∈ flawake, FnOK p := fns_cons ⟨Try.func32, ⟨_, Try.func32, by decide, rfl⟩⟩ (fns_nil)
noncomputable def cawake : Cx := tab4.only [27, 21, 33, 34] (fun _ => []) flawake 1 [] (fun _ => none)
def tawake : Tree :=
  (.dfn .nil (.dfn .nil (.arr [[(.int (.lit 100000)), (.int (.lit 100000)), (.int (.lit 100)), (.int (.lit 50))]] (.arr [[(.int (.lit 2000000)), (.int (.lit 1200000000))]] (.call 33 [] (.call 34 [] (.call 27 [(.arr 97 (.var 2)), (.int (.lit 12000)), (.arr 70 (.var 3)), (.int (.lit 500000000)), (.int (.lit 1000000)), (.int (.lit 1000000)), (.int (.var 4)), (.int (.var 5)), (.int (.var 6)), (.int (.var 7)), (.int (.var 8)), (.int (.var 9)), (.int (.lit 0)), (.int (.lit 0))] (.dfn .nil (.split (.cmp .eq (.var 18) (.lit 0)) (.split (.and (.cmp .eq (.var 11) (.lit 992063)) (.cmp .eq (.var 12) (.lit 992064))) (.split (.and (.cmp .eq (.var 15) (.lit 179040000)) (.cmp .eq (.var 16) (.lit 179052000))) (.call 33 [] (.call 34 [] (.call 21 [(.int (.var 20)), (.int (.var 21)), (.int (.var 22)), (.int (.var 23)), (.int (.var 24)), (.int (.var 25)), (.int (.lit 0))] (.ret [(.bool (.cmp .eq (.var 26) (.lit 1260000000)))])))) (.ret [(.bool (.lit false))])) (.ret [(.bool (.lit false))])) (.ret [(.bool (.lit false))]))))))))))
def tmod : Tree :=
  (.ob (.cmp .ne (.var 1) (.lit 0)) (.split (.cmp .lt (.rem (.var 0) (.var 1)) (.lit 0)) (.ob (.and (.cmp .le (.lit (-9223372036854775808)) (.add (.rem (.var 0) (.var 1)) (.var 1))) (.cmp .le (.add (.rem (.var 0) (.var 1)) (.var 1)) (.lit 9223372036854775807))) (.ob (.and (.cmp .le (.lit (-9223372036854775808)) (.add (.rem (.var 0) (.var 1)) (.var 1))) (.cmp .le (.add (.rem (.var 0) (.var 1)) (.var 1)) (.lit 9223372036854775807))) (.ret [(.int (.add (.rem (.var 0) (.var 1)) (.var 1)))]))) (.ob (.and (.cmp .le (.lit (-9223372036854775808)) (.rem (.var 0) (.var 1))) (.cmp .le (.rem (.var 0) (.var 1)) (.lit 9223372036854775807))) (.ret [(.int (.rem (.var 0) (.var 1)))]))))
end Go.Proofs.Ytmdmgpikbebejaa
/- Kill: the chapter's examples; which wells, programs and kicks are valid. -/
namespace Go.Proofs.Ytmdmgpikbebejaa
open Go.RowKit
set_option linter.unusedSimpArgs false
set_option linter.unusedVariables false

theorem driller_ok : tab4.ok 33 := by
  refine Tab.of_ct rfl rfl ⟨_, Try.func33, by decide, rfl⟩ ?_ ctF_det
  refine ct_ok (cx := cdriller) (Tab.cx_ok all_nil) Try.func33 (bds := []) (T := tdriller) (by kernel_rfl) ?_
  unfold tdriller
  simp only [VC, allC, List.map_cons, List.map_nil, List.length_cons, List.length_nil, List.getElem?_cons_zero, List.getElem?_cons_succ, List.cons.injEq, C.i.injEq, C.b.injEq, and_true, true_and, forall_const, kindsOf_nil, kindsOf_lf, kindsOf_agg, kindsOf_box, boxKinds_nil, boxKinds_lf, boxKinds_agg, boxKinds_box, List.append_nil, List.cons_append, List.nil_append, den_cmp_le, den_cmp_lt, den_cmp_eq, den_cmp_ne, den_cmp_le', den_cmp_lt', den_cmp_eq', den_cmp_ne', den_and, den_and', den_or, den_or', den_not, den_not', den_blit, den_of, ev_var, at_0, at_1, at_2, at_3, at_4, at_5, at_6, at_7, at_skip, c_int, c_bool, c_arr, c_cnt, c_vec, ev_nil, ev_join, ev_sub3, loc_s, int_i, bool_b, rows_s, cs_nil, cs_cons, E.den_lit, E.den_var, E.den_add, E.den_sub, E.den_mul, E.den_quo, E.den_rem, E.den_max, E.den_min, E.den_len, E.den_wr, E.den_cell, Nat.reduceAdd, ctDriller, ctF]
  exact bds_nil _
theorem influx_ok : tab4.ok 34 := by
  refine Tab.of_ct rfl rfl ⟨_, Try.func34, by decide, rfl⟩ ?_ ctF_det
  refine ct_ok (cx := cinflux) (Tab.cx_ok all_nil) Try.func34 (bds := []) (T := tinflux) (by kernel_rfl) ?_
  unfold tinflux
  simp only [VC, allC, List.map_cons, List.map_nil, List.length_cons, List.length_nil, List.getElem?_cons_zero, List.getElem?_cons_succ, List.cons.injEq, C.i.injEq, C.b.injEq, and_true, true_and, forall_const, kindsOf_nil, kindsOf_lf, kindsOf_agg, kindsOf_box, boxKinds_nil, boxKinds_lf, boxKinds_agg, boxKinds_box, List.append_nil, List.cons_append, List.nil_append, den_cmp_le, den_cmp_lt, den_cmp_eq, den_cmp_ne, den_cmp_le', den_cmp_lt', den_cmp_eq', den_cmp_ne', den_and, den_and', den_or, den_or', den_not, den_not', den_blit, den_of, ev_var, at_0, at_1, at_2, at_3, at_4, at_5, at_6, at_7, at_skip, c_int, c_bool, c_arr, c_cnt, c_vec, ev_nil, ev_join, ev_sub3, loc_s, int_i, bool_b, rows_s, cs_nil, cs_cons, E.den_lit, E.den_var, E.den_add, E.den_sub, E.den_mul, E.den_quo, E.den_rem, E.den_max, E.den_min, E.den_len, E.den_wr, E.den_cell, Nat.reduceAdd, ctInflux, ctF]
  exact bds_nil _
set_option maxRecDepth 100000 in
theorem shown_known : atE shownJ 0 0 = 0 ∧ (atMo shownJ 0 0).gas = (992063, 992064) ∧ (atMo shownJ 0 0).surf = (179040000, 179052000) ∧ bottomV drillerP influxB 0 = 1260000000 := by decide +kernel
theorem mo_inv {x : Mo} {a1 a2 a3 a4 a5 a6 a7 : Int} {v : Value} {rows : List (List C)} (h : IsMo x [.i a1, .i a2, .i a3, .i a4, .i a5, .i a6, .i a7, .s v rows]) : a1 = x.pumped ∧ a2 = x.gas.1 ∧ a3 = x.gas.2 ∧ a4 = x.base.1 ∧ a5 = x.base.2 ∧ a6 = x.surf.1 ∧ a7 = x.surf.2 ∧ knots rows = x.pts := by
  obtain ⟨v', rows', e, hk⟩ := h
  simp only [List.cons.injEq, C.i.injEq, C.s.injEq, and_true] at e
  obtain ⟨e1, e2, e3, e4, e5, e6, e7, -, e8⟩ := e
  exact ⟨e1, e2, e3, e4, e5, e6, e7, by rw [e8]; exact hk⟩
theorem at_inv {x : Mo} {E : Int} {a1 a2 a3 a4 a5 a6 a7 er : Int} {v : Value} {rows : List (List C)} (h : ∃ r1 r2, ([.i a1, .i a2, .i a3, .i a4, .i a5, .i a6, .i a7, .s v rows, .i er] : List C) = r1 ++ [r2] ∧ IsMo x r1 ∧ r2 = .i E) : (a1 = x.pumped ∧ a2 = x.gas.1 ∧ a3 = x.gas.2 ∧ a4 = x.base.1 ∧ a5 = x.base.2 ∧ a6 = x.surf.1 ∧ a7 = x.surf.2 ∧ knots rows = x.pts) ∧ er = E := by
  obtain ⟨r1, r2, e, hm, rfl⟩ := h
  have e : ([.i a1, .i a2, .i a3, .i a4, .i a5, .i a6, .i a7, .s v rows] : List C) ++ [.i er] = r1 ++ [.i E] := e
  obtain ⟨rfl, e2⟩ := List.append_inj' e rfl
  simp only [List.cons.injEq, C.i.injEq, and_true] at e2
  exact ⟨mo_inv hm, e2⟩
theorem awake_ok : tab4.ok 14 := by
  refine Tab.of_ct rfl rfl ⟨_, Try.func14, by decide, rfl⟩ ?_ ctF_det
  refine ct_ok (cx := cawake) (Tab.cx_ok (all_cons (up4_ok kat_ok) (all_cons (up4_ok (up3_ok bottom_ok)) (all_cons driller_ok (all_cons influx_ok all_nil)))) fxawake) Try.func14 (bds := []) (T := tawake) (by kernel_rfl) ?_
  have h1 : cawake.ct 27 = some ctAtK := rfl
  have h2 : cawake.ct 21 = some ctBottom := rfl
  have h3 : cawake.ct 33 = some ctDriller := rfl
  have h4 : cawake.ct 34 = some ctInflux := rfl
  obtain ⟨k1, k2, k3, k4⟩ := shown_known
  unfold tawake
  simp only [VC, allC, List.map_cons, List.map_nil, List.length_cons, List.length_nil, List.getElem?_cons_zero, List.getElem?_cons_succ, List.cons.injEq, C.i.injEq, C.b.injEq, and_true, true_and, forall_const, kindsOf_nil, kindsOf_lf, kindsOf_agg, kindsOf_box, boxKinds_nil, boxKinds_lf, boxKinds_agg, boxKinds_box, List.append_nil, List.cons_append, List.nil_append, den_cmp_le, den_cmp_lt, den_cmp_eq, den_cmp_ne, den_cmp_le', den_cmp_lt', den_cmp_eq', den_cmp_ne', den_and, den_and', den_or, den_or', den_not, den_not', den_blit, den_of, ev_var, at_0, at_1, at_2, at_3, at_4, at_5, at_6, at_7, at_skip, c_int, c_bool, c_arr, c_cnt, c_vec, ev_nil, ev_join, ev_sub3, loc_s, int_i, bool_b, rows_s, cs_nil, cs_cons, E.den_lit, E.den_var, E.den_add, E.den_sub, E.den_mul, E.den_quo, E.den_rem, E.den_max, E.den_min, E.den_len, E.den_wr, E.den_cell, Nat.reduceAdd, h1, h2, h3, h4, ctAtK, ctBottom, ctDriller, ctInflux, ctAwake, ctF, progSh, bubSh, momSh, momKs, n_]
  refine ⟨bds_nil _, ?_⟩
  rintro v v1 a _ _ b _ _ c _ _ d _ _ ⟨rfl, rfl, rfl, rfl⟩ e _ _ f _ _ ⟨rfl, rfl⟩ x1 _ _ x2 _ _ x3 _ _ x4 _ _ x5 _ _ x6 _ _ x7 _ _ vr rows _ _ _ er _ _ h
  have h := at_inv (x := atMo shownJ 0 0) (E := atE shownJ 0 0) h
  rw [k1] at h
  rw [k2, k3] at h
  obtain ⟨⟨-, rfl, rfl, -, -, rfl, rfl, -⟩, rfl⟩ := h
  refine ⟨fun _ => ⟨fun _ => ⟨fun _ => ?_, fun h => absurd rfl (h rfl)⟩, fun h => absurd rfl (h rfl)⟩, fun h => absurd rfl h⟩
  rintro n _ _ n1 _ _ n2 _ _ n3 _ _ ⟨rfl, rfl, rfl, rfl⟩ n4 _ _ n5 _ _ ⟨rfl, rfl⟩ n6 _ _ e6
  have e6 : n6 = bottomV drillerP influxB 0 := e6
  exact e6.trans k4
end Go.Proofs.Ytmdmgpikbebejaa
/- Kill: what makes wells, programs and kicks of numbers: the small parts. -/
namespace Go.Proofs.Ytmdmgpikbebejaa
open Go.RowKit
set_option linter.unusedSimpArgs false
set_option linter.unusedVariables false

end Go.Proofs.Ytmdmgpikbebejaa
/- Kill: what each function computes: steps, outcomes, runs. -/
namespace Go.Proofs.Ytmdmgpikbebejaa
set_option linter.unusedVariables false

/-- The least number from a on, at most n further, with a property; else a + n. -/
def firstN (p : Nat → Bool) : Nat → Nat → Nat
  | 0, a => a
  | n + 1, a => if p a then a else firstN p n (a + 1)
def overS (j : Jb) (n : Nat) : Bool := overV j (momentV j (n : Int) (-1))
def lastN (j : Jb) : Nat := firstN (overS j) 400 0
def stepEl (j : Jb) (n : Nat) : List C := [.i (n : Int), .b (overS j n)]
def stepEls (j : Jb) : List (List C) := (List.range (lastN j + 1)).map (stepEl j)
/-! Outcomes -/
structure Oc where
  is : Int
  step : Int
  err : Int
  why : Int
  point : Int
deriving DecidableEq
def noOc : Oc := ⟨0, 0, 0, 0, 0⟩
def ocC (o : Oc) : List C := [.i o.is, .i o.step, .i o.err, .i o.why, .i o.point]
def ocSh : Sh0 := .agg [.int, .int, .int, .int, .int]
def orO (a b : Oc) : Oc := if a.is = 0 then b else a
/-- The first outcome that is one, from the i-th on. -/
def firstO (f : Nat → Oc) : Nat → Nat → Oc
  | 0, _ => noOc
  | n + 1, i => orO (f i) (firstO f n (i + 1))
def overP (p : Kn) (limit : Int) : Int := if limit < p.1 then 2 else if limit < p.2 then 3 else 0
def fracO (j : Jb) (x : Mo) (step err : Int) (i : Nat) : Oc := ⟨overP (x.pts.getD i (0, 0)) (j.w.points.getD i (0, 0)).2, step, err, 2, (i : Int)⟩
def lookM (j : Jb) (x : Mo) (step err : Int) : Oc := orO (firstO (fracO j x step err) j.w.points.length 0) (orO ⟨overP (-x.surf.2, -x.surf.1) 0, step, err, 3, 0⟩ (orO ⟨overP x.surf j.w.limit, step, err, 4, 0⟩ noOc))
def lookV (j : Jb) (step err : Int) : Oc := if botV j.p j.k err < j.k.pore then ⟨2, step, err, 1, 0⟩ else lookM j (momentV j step err) step err
def allV (j : Jb) : Kn := htV j.w.segs (volV j.w.segs)
def leftV (j : Jb) (u : Int) : Kn := (j.p.weight * (lessK (allV j) (htV j.w.segs u)).1, j.p.weight * (lessK (allV j) (htV j.w.segs u)).2)
def deadO (j : Jb) (step : Int) (i : Nat) : Oc := ⟨overP (leftV j (j.w.points.getD i (0, 0)).1) (j.w.points.getD i (0, 0)).2, step, 0, 5, (i : Int)⟩
def deadV (j : Jb) (step : Int) : Oc := if j.p.weight * (allV j).1 < j.k.pore then ⟨2, step, 0, 5, 0⟩ else firstO (deadO j step) j.w.points.length 0
def stepO (j : Jb) (n : Nat) : Oc := orO (lookV j (n : Int) (-1)) (orO (lookV j (n : Int) 0) (lookV j (n : Int) 1))
def endO (j : Jb) : Oc := if overS j (lastN j) then orO (deadV j (lastN j : Int)) ⟨1, (lastN j : Int), 0, 0, 0⟩ else ⟨3, 400, 0, 6, 0⟩
def endsV (j : Jb) : Oc := orO (firstO (stepO j) (lastN j + 1) 0) (endO j)
def endsOc (j : Jb) : Oc := if jobV j = 0 then endsV j else noOc
def lastKN (j : Jb) : Int := if jobV j = 0 then (lastN j : Int) else 0
def lastKB (j : Jb) : Bool := if jobV j = 0 then overS j (lastN j) else false
def ctOverP : Ct := ctF [rangeSh, .lf .int] [.lf .int] (fun _ => True) (fun cs => [.i (overP (kn_ cs 0) (n_ cs 2))])
def ctLook : Ct := ctF [jobSh, .lf .int, .lf .int] [ocSh] (fun cs => JobOK cs 0 ∧ StepOK (n_ cs 14) ∧ ErrOK (n_ cs 15)) (fun cs => ocC (lookV (jobOf cs 0) (n_ cs 14) (n_ cs 15)))
def ctRest : Ct := ctF [jobSh, .lf .int] [ocSh] (fun cs => JobOK cs 0 ∧ StepOK (n_ cs 14)) (fun cs => ocC (deadV (jobOf cs 0) (n_ cs 14)))
def ctJLast : Ct := ctF [jobSh] [.lf .int, .lf .bool] (fun cs => JobOK cs 0) (fun cs => [.i (lastN (jobOf cs 0) : Int), .b (overS (jobOf cs 0) (lastN (jobOf cs 0)))])
def ctJEnds : Ct := ctF [jobSh] [ocSh] (fun cs => JobOK cs 0) (fun cs => ocC (endsV (jobOf cs 0)))
def ctLastK : Ct := ctF [wellSh, progSh, bubSh] [.lf .int, .lf .bool] (fun _ => True) (fun cs => [.i (lastKN (jobOf cs 0)), .b (lastKB (jobOf cs 0))])
def ctEndsK : Ct := ctF [wellSh, progSh, bubSh] [ocSh, .lf .int] (fun _ => True) (fun cs => ocC (endsOc (jobOf cs 0)) ++ [.i (jobV (jobOf cs 0))])
/-! Runs -/
def errsE (l : List Int) : Int := if 400 < l.length then 2 else if l.all (fun x => decide (-1 ≤ x) && decide (x ≤ 1)) then 0 else 2
def runE (j : Jb) (l : List Int) : Int := orE (jobV j) (errsE l)
def runM (j : Jb) (l : List Int) : List Mo := (List.range (lastN j + 1)).map fun (n : Nat) => momentV j (n : Int) (l.getD n 0)
def runV (j : Jb) (l : List Int) : List Mo := if runE j l = 0 then runM j l else []
def mosOf (rows : List (List C)) : List Mo := rows.map fun r => momOf r 0
def ctRun : Ct := ⟨[wellSh, progSh, bubSh, .lf (.arr 3)], [.lf (.vec 52), .lf .int], fun _ => True, fun cs rs => ∃ v rows, rs = [.s v rows, .i (runE (jobOf cs 0) (ints (at_ cs 12).rows))] ∧ mosOf rows = runV (jobOf cs 0) (ints (at_ cs 12).rows), false⟩
def tab5 : Tab where
  ct := fun f => match f with
    | 84 => some ctOverP
    | 63 => some ctLook
    | 64 => some ctRest
    | 52 => some ctJLast
    | 53 => some ctJEnds
    | 31 => some ctLastK
    | 35 => some ctEndsK
    | 37 => some ctRun
    | f => tab4.ct f
  inl := tab4.inl
  sel := tab4.sel
theorem up5_ok {f : Nat} (h : tab4.ok f) (he : tab5.ct f = tab4.ct f := by rfl) : tab5.ok f :=
  ⟨h.1, fun ct hc => h.2.1 ct (he ▸ hc), h.2.2.1, h.2.2.2⟩
end Go.Proofs.Ytmdmgpikbebejaa
/- What is to be shown of each function, as the executor has it. Printed by trees.py. -/
namespace Go.Proofs.Ytmdmgpikbebejaa
noncomputable def fllknown : List (Nat × Func) := [(32, Try.f32)]
theorem fxlknown : ∀ p ∈ fllknown, FnOK p := fns_cons ⟨Try.func32, ⟨_, Try.func32, by decide, rfl⟩⟩ (fns_nil)
noncomputable def clknown : Cx := tab5.only [27, 15, 17, 19, 35, 33, 34, 14] (fun _ => []) fllknown 1 [] (fun _ => none)
def tlknown_1 : Tree :=
  (.split (.cmp .ne (.var 40) (.lit 0)) (.ret [(.bool (.lit false))]) (.split (.cmp .ne (.var 46) (.lit 0)) (.ret [(.bool (.lit false))]) (.split (.cmp .ne (.var 57) (.lit 0)) (.ret [(.bool (.lit false))]) (.split (.cmp .ne (.var 35) (.lit 1)) (.ret [(.bool (.lit false))]) (.split (.not (.and (.cmp .eq (.var 41) (.lit 3)) (.and (.cmp .eq (.var 42) (.lit 0)) (.and (.cmp .eq (.var 43) (.lit (-1))) (.and (.cmp .eq (.var 44) (.lit 4)) (.cmp .eq (.var 45) (.lit 0))))))) (.ret [(.bool (.lit false))]) (.split (.not (.and (.cmp .eq (.var 52) (.lit 2)) (.and (.cmp .eq (.var 53) (.lit 0)) (.and (.cmp .eq (.var 54) (.lit (-1))) (.and (.cmp .eq (.var 55) (.lit 2)) (.cmp .eq (.var 56) (.lit 0))))))) (.ret [(.bool (.lit false))]) (.call 14 [] (.ret [(.bool (.of (.var 58)))]))))))))
def tlknown_2 : Tree :=
  (.dfn .nil (.dfn .nil (.arr [[(.int (.lit 100000)), (.int (.lit 100000)), (.int (.lit 100)), (.int (.lit 50))]] (.arr [[(.int (.lit 2000000)), (.int (.lit 1200000000))]] (.ob (.cmp .lt (.lit 0) (.len (.var 50))) (.upd (.var 50) (.lit 0) 1 [(.int (.lit 1130000000))] (.call 35 [(.arr 97 (.var 49)), (.int (.lit 12000)), (.arr 70 (.join (.var 50) (.var 51))), (.int (.lit 500000000)), (.int (.lit 1000000)), (.int (.lit 1000000)), (.int (.var 4)), (.int (.var 5)), (.int (.var 6)), (.int (.var 7)), (.int (.var 8)), (.int (.var 9))] tlknown_1)))))))
def tlknown_3 : Tree :=
  (.call 35 [(.arr 97 (.var 2)), (.int (.lit 12000)), (.arr 70 (.var 3)), (.int (.lit 179051999)), (.int (.lit 1000000)), (.int (.lit 1000000)), (.int (.var 4)), (.int (.var 5)), (.int (.var 6)), (.int (.var 7)), (.int (.var 8)), (.int (.var 9))] tlknown_2)
def tlknown_4 : Tree :=
  (.split (.cmp .ne (.var 34) (.lit 0)) (.ret [(.bool (.lit false))]) (.split (.not (.and (.cmp .eq (.var 15) (.lit 1260000000)) (.cmp .eq (.var 16) (.lit 1260000000)))) (.ret [(.bool (.lit false))]) (.split (.cmp .ne (.len (.var 19)) (.lit 1)) (.ret [(.bool (.lit false))]) (.ob (.cmp .lt (.lit 0) (.len (.var 19))) (.split (.not (.and (.cmp .eq (.cell (.var 19) (.lit 0) 0) (.lit 1139040000)) (.cmp .eq (.cell (.var 19) (.lit 0) 1) (.lit 1139052000)))) (.ret [(.bool (.lit false))]) (.split (.not (.and (.cmp .eq (.var 25) (.lit 1140000000)) (.cmp .eq (.var 26) (.lit 1140000000)))) (.ret [(.bool (.lit false))]) (.split (.not (.and (.cmp .eq (.var 23) (.lit 1096491)) (.cmp .eq (.var 24) (.lit 1096492)))) (.ret [(.bool (.lit false))]) (.split (.not (.and (.cmp .eq (.var 27) (.lit 191568000)) (.cmp .eq (.var 28) (.lit 191580000)))) (.ret [(.bool (.lit false))]) (.call 35 [(.arr 97 (.var 2)), (.int (.lit 12000)), (.arr 70 (.var 3)), (.int (.lit 500000000)), (.int (.lit 1000000)), (.int (.lit 1000000)), (.int (.var 4)), (.int (.var 5)), (.int (.var 6)), (.int (.var 7)), (.int (.var 8)), (.int (.var 9))] tlknown_3)))))))))
def tlknown_5 : Tree :=
  (.split (.cmp .ne (.var 32) (.lit 0)) (.ret [(.bool (.lit false))]) (.call 17 [(.int (.var 4)), (.int (.var 5)), (.int (.var 6)), (.int (.var 7))] (.split (.cmp .ne (.var 33) (.lit 0)) (.ret [(.bool (.lit false))]) (.call 19 [(.int (.var 8)), (.int (.var 9))] tlknown_4))))
def tlknown_6 : Tree :=
  (.dfn .nil (.split (.cmp .ne (.var 20) (.lit 0)) (.ret [(.bool (.lit false))]) (.split (.cmp .ne (.var 30) (.lit 0)) (.ret [(.bool (.lit false))]) (.call 15 [(.arr 97 (.var 2)), (.int (.lit 12000)), (.arr 70 (.var 3)), (.int (.lit 500000000)), (.int (.lit 1000000)), (.int (.lit 1000000))] tlknown_5))))
def tlknown_7 : Tree :=
  (.dfn .nil (.call 27 [(.arr 97 (.var 2)), (.int (.lit 12000)), (.arr 70 (.var 3)), (.int (.lit 500000000)), (.int (.lit 1000000)), (.int (.lit 1000000)), (.int (.var 4)), (.int (.var 5)), (.int (.var 6)), (.int (.var 7)), (.int (.var 8)), (.int (.var 9)), (.int (.lit 1)), (.int (.lit 0))] tlknown_6))
def tlknown_8 : Tree :=
  (.dfn .nil (.dfn .nil (.call 27 [(.arr 97 (.var 2)), (.int (.lit 12000)), (.arr 70 (.var 3)), (.int (.lit 500000000)), (.int (.lit 1000000)), (.int (.lit 1000000)), (.int (.var 4)), (.int (.var 5)), (.int (.var 6)), (.int (.var 7)), (.int (.var 8)), (.int (.var 9)), (.int (.lit 0)), (.int (.lit 0))] tlknown_7)))
def tlknown : Tree :=
  (.dfn .nil (.dfn .nil (.arr [[(.int (.lit 100000)), (.int (.lit 100000)), (.int (.lit 100)), (.int (.lit 50))]] (.arr [[(.int (.lit 2000000)), (.int (.lit 1200000000))]] (.call 33 [] (.call 34 [] tlknown_8))))))
end Go.Proofs.Ytmdmgpikbebejaa
/- Kill: the steps as an iterator: states. -/
namespace Go.Proofs.Ytmdmgpikbebejaa
open Go.RowKit
set_option linter.unusedSimpArgs false
set_option linter.unusedVariables false

def jobKs : List Lk := [.arr 97, .int, .arr 70, .int, .int, .int, .int, .int, .int, .int, .int, .int, .arr 70, .int]
def jobLfs : List Lf := [.arr 97 (.var 0), .int (.var 1), .arr 70 (.var 2), .int (.var 3), .int (.var 4), .int (.var 5), .int (.var 6), .int (.var 7), .int (.var 8), .int (.var 9), .int (.var 10), .int (.var 11), .arr 70 (.var 12), .int (.var 13)]
def stepVal (x : List C) : Array Value := #[.int .i64 (x.getD 0 (.i 0)).int, .bool (x.getD 1 (.i 0)).bool]
def stepsIt : It := ⟨[.box 93 jobKs], fun cs => stepEls (jobOf cs 0), stepVal, fun cs => JobOK cs 0⟩
theorem stepEls_get {j : Jb} {k : Nat} {x : List C} (h : (stepEls j)[k]? = some x) : k ≤ lastN j ∧ x = stepEl j k := by
  unfold stepEls at h
  rw [List.getElem?_map] at h
  rcases Nat.lt_or_ge k (lastN j + 1) with h1 | h1
  · rw [List.getElem?_eq_getElem (by simpa using h1)] at h
    simp at h
    exact ⟨by omega, h.symm⟩
  · rw [List.getElem?_eq_none (by simpa using h1)] at h; cases h
theorem firstN_le (p : Nat → Bool) : ∀ (n a : Nat), a ≤ firstN p n a ∧ firstN p n a ≤ a + n
  | 0, a => by simp [firstN]
  | n + 1, a => by
    have ih := firstN_le p n (a + 1)
    rw [firstN]; split <;> omega
theorem firstN_no (p : Nat → Bool) : ∀ (n a k : Nat), a ≤ k → k < firstN p n a → p k = false
  | 0, a, k, h1, h2 => by rw [firstN] at h2; omega
  | n + 1, a, k, h1, h2 => by
    rw [firstN] at h2
    split at h2
    · omega
    · rename_i hp
      by_cases e : k = a
      · rw [e]; simpa using hp
      · exact firstN_no p n (a + 1) k (by omega) h2
theorem firstN_yes (p : Nat → Bool) : ∀ (n a : Nat), firstN p n a < a + n → p (firstN p n a) = true
  | 0, a, h => by rw [firstN] at h; omega
  | n + 1, a, h => by
    rw [firstN] at h ⊢
    split
    · rename_i hp; exact hp
    · rename_i hp
      rw [if_neg hp] at h
      exact firstN_yes p n (a + 1) (by omega)
theorem lastN_le (j : Jb) : lastN j ≤ 400 := by have := firstN_le (overS j) 400 0; unfold lastN; omega
theorem lreps_cons {P : Program} {w : World} {O : Nat → Nat → Prop} {k : Lk} {ks : List Lk} : ∀ {us : List Value} {cs : List C}, LReps P w O (k :: ks) us cs → ∃ u us' c cs', us = u :: us' ∧ cs = c :: cs' ∧ LRep P w O k u c ∧ LReps P w O ks us' cs'
  | u :: us, c :: cs, h => ⟨u, us, c, cs, rfl, rfl, h.1, h.2⟩
  | [], _, h => h.elim
  | _ :: _, [], h => h.elim
theorem lreps_nil {P : Program} {w : World} {O : Nat → Nat → Prop} : ∀ {us : List Value} {cs : List C}, LReps P w O [] us cs → us = [] ∧ cs = []
  | [], [], _ => ⟨rfl, rfl⟩
  | [], _ :: _, h => h.elim
  | _ :: _, _, h => h.elim
theorem lrep_cell {P : Program} {w : World} {O : Nat → Nat → Prop} {k : Lk} {u : Value} {c : C} (h : LRep P w O k u c) (hk : k.noVec = true) : u.oneCell' = true := by
  cases k with
  | int => obtain ⟨-, n, rfl, -⟩ := h; rfl
  | bool => obtain ⟨-, n, rfl, -⟩ := h; rfl
  | arr t => obtain ⟨-, rfl, hA⟩ := h; obtain ⟨a, cap, hl⟩ := hA.loc; rw [hl]; rfl
  | vec t => cases hk
theorem lreps_cells {P : Program} {w : World} {O : Nat → Nat → Prop} : ∀ {ks : List Lk} {us : List Value} {cs : List C}, LReps P w O ks us cs → ks.all Lk.noVec = true → ∀ u ∈ us, u.oneCell' = true
  | [], [], [], _, _, u, hu => by cases hu
  | k :: ks, u :: us, c :: cs, h, hk, x, hx => by
    simp only [List.all_cons, Bool.and_eq_true] at hk
    rcases List.mem_cons.1 hx with rfl | hx
    · exact lrep_cell h.1 hk.1
    · exact lreps_cells h.2 hk.2 x hx
  | [], [], _ :: _, h, _, _, _ => h.elim
  | [], _ :: _, _, h, _, _, _ => h.elim
  | _ :: _, [], _, h, _, _, _ => h.elim
  | _ :: _, _ :: _, [], h, _, _, _ => h.elim
theorem callable_steps : Callable Try.prog 69 := ⟨_, Try.func69, by decide, rfl⟩
theorem callable_mksteps : Callable Try.prog 56 := ⟨_, Try.func56, by decide, rfl⟩
theorem steps_made : ∀ O us cs w, LReps Try.prog w O jobKs us cs → Calls Try.prog 56 #[.agg us.toArray] w fun e w' => e = .returned (.func (.func 69) #[] #[.pointer (some ⟨w.heap.size, 0, none⟩)]) ∧ w' = w.alloc (.cells us.toArray 93) := by
  intro O us cs w h
  have hc := lreps_cells h rfl
  obtain ⟨u0, us, c0, cs0, rfl, rfl, -, h⟩ := lreps_cons h
  obtain ⟨u1, us, c1, cs1, rfl, rfl, -, h⟩ := lreps_cons h
  obtain ⟨u2, us, c2, cs2, rfl, rfl, -, h⟩ := lreps_cons h
  obtain ⟨u3, us, c3, cs3, rfl, rfl, -, h⟩ := lreps_cons h
  obtain ⟨u4, us, c4, cs4, rfl, rfl, -, h⟩ := lreps_cons h
  obtain ⟨u5, us, c5, cs5, rfl, rfl, -, h⟩ := lreps_cons h
  obtain ⟨u6, us, c6, cs6, rfl, rfl, -, h⟩ := lreps_cons h
  obtain ⟨u7, us, c7, cs7, rfl, rfl, -, h⟩ := lreps_cons h
  obtain ⟨u8, us, c8, cs8, rfl, rfl, -, h⟩ := lreps_cons h
  obtain ⟨u9, us, c9, cs9, rfl, rfl, -, h⟩ := lreps_cons h
  obtain ⟨u10, us, c10, cs10, rfl, rfl, -, h⟩ := lreps_cons h
  obtain ⟨u11, us, c11, cs11, rfl, rfl, -, h⟩ := lreps_cons h
  obtain ⟨u12, us, c12, cs12, rfl, rfl, -, h⟩ := lreps_cons h
  obtain ⟨u13, us, c13, cs13, rfl, rfl, -, h⟩ := lreps_cons h
  obtain ⟨rfl, rfl⟩ := lreps_nil h
  simp only [List.mem_cons, List.not_mem_nil, or_false, forall_eq_or_imp, forall_eq] at hc
  obtain ⟨o0, o1, o2, o3, o4, o5, o6, o7, o8, o9, o10, o11, o12, o13⟩ := hc
  refine (callsIn_wide (n := 0)).1 (callsIn_of_wp Try.func56 rfl trivial ?_ rfl)
  simp only [Try.ntmps56, List.size_toArray, List.length_cons, List.length_nil, Nat.reduceAdd, Nat.reduceSub, Array.replicate_succ, Array.replicate_zero, List.push_toArray, List.append_toArray, List.nil_append, List.cons_append]
  gi_wp2
  go_ret
  exact ⟨rfl, rfl⟩
def stepSv0 (n : Nat) : SV := .one (.lf (.int (.var n)))
def stepSv1 (n : Nat) : SV := .one (.lf (.bool (.of (.var (n + 1)))))
theorem step_el {j : Jb} : ∀ x ∈ stepEls j, x.length = [Lk.int, .bool].length ∧ (∀ c ∈ x, ∀ n, c.small n) ∧ ∀ (Γ' : Env) (n : Nat), (∀ i c, x[i]? = some c → at_ Γ'.ρ (n + i) = c) → stepVal x = #[(stepSv0 n).den Γ', (stepSv1 n).den Γ'] ∧ ∀ P w O, (stepSv0 n).ok P w O Γ' ∧ (stepSv1 n).ok P w O Γ' := by
  intro x hx
  obtain ⟨k, hk⟩ := List.getElem?_of_mem hx
  obtain ⟨hlt, rfl⟩ := stepEls_get hk
  have h400 := lastN_le j
  refine ⟨rfl, fun c hc m => ?_, fun Γ' n hat => ⟨?_, fun P w O => ⟨?_, ?_⟩⟩⟩
  · simp only [stepEl, List.mem_cons, List.not_mem_nil, or_false] at hc
    rcases hc with rfl | rfl
    · exact small_i (by omega) m
    · cases m <;> trivial
  · have h0 := hat 0 _ rfl
    have h1 := hat 1 _ rfl
    simp only [Nat.add_zero] at h0
    simp only [stepSv0, stepSv1, SV.den, S0.den, dens, Lf.den, E.den_var, h0, List.map_cons, List.map_nil, C.int]
    simp only [B.den, stepVal, stepEl, List.getD_cons_zero, List.getD_cons_succ]
    rw [show E.ev Γ'.ρ (E.var (n + 1)) = C.b (overS j k) from h1]
    rfl
  · exact one_ok trivial
  · exact one_ok trivial
/-- A round of the iterator, ahead of its two calls; behind them. -/
def stp0 : St := { sl := [(0, some (.one (.lf (.clo 14)))), (1, some (.one (.lf (.ptr 0 0)))), (2, some (.one (.lf (.cst undef)))), (3, some (.one (.lf (.int (.var 15))))), (5, some (.one (.lf (.int (.var 15)))))], mem := [(0, some (93, jobLfs))], nt := 22, nb := 1, nx := 16, lvl := 0, bds := [], vec := [] }
def stp1 : St := { sl := [(4, some (.one (.lf (.bool (.of (.var 16)))))), (0, some (.one (.lf (.clo 14)))), (1, some (.one (.lf (.ptr 0 0)))), (2, some (.one (.lf (.cst undef)))), (3, some (.one (.lf (.int (.var 15))))), (5, some (.one (.lf (.int (.var 15)))))], mem := [(0, some (93, jobLfs))], nt := 22, nb := 1, nx := 17, lvl := 1, bds := [], vec := [] }
def endsS0 : St := { sl := [(1, some (.one (.lf (.ptr 0 0)))), (2, some (.one (.lf (.ptr 1 0))))], mem := [(0, some (93, jobLfs)), (1, some (66, [.int (.lit 0), .int (.lit 0), .int (.lit 0), .int (.lit 0), .int (.lit 0)]))], nt := 35, nb := 2, nx := 14, lvl := 1, bds := [], vec := [] }
def endsR : RgS := ⟨endsS0, 8, 9, jobLfs, [], [], 10, 11, [.int, .bool], stepSv0, stepSv1⟩
end Go.Proofs.Ytmdmgpikbebejaa
/- What is to be shown of each function, as the executor has it. Printed by trees.py. -/
namespace Go.Proofs.Ytmdmgpikbebejaa
noncomputable def cstp : Cx := tab5.only [50, 70] (fun _ => []) [] 0 [] (fun _ => none)
def tstp : Tree :=
  (.call 50 [(.arr 97 (.var 0)), (.int (.var 1)), (.arr 70 (.var 2)), (.int (.var 3)), (.int (.var 4)), (.int (.var 5)), (.int (.var 6)), (.int (.var 7)), (.int (.var 8)), (.int (.var 9)), (.int (.var 10)), (.int (.var 11)), (.arr 70 (.var 12)), (.int (.var 13)), (.int (.var 15)), (.int (.lit (-1)))] (.call 70 [(.arr 97 (.var 0)), (.int (.var 1)), (.arr 70 (.var 2)), (.int (.var 3)), (.int (.var 4)), (.int (.var 5)), (.int (.var 6)), (.int (.var 7)), (.int (.var 8)), (.int (.var 9)), (.int (.var 10)), (.int (.var 11)), (.arr 70 (.var 12)), (.int (.var 13)), (.int (.var 16)), (.int (.var 17)), (.int (.var 18)), (.int (.var 19)), (.int (.var 20)), (.int (.var 21)), (.int (.var 22)), (.arr 49 (.var 23))] (.back 0 [(.bool (.of (.var 24)))])))
def tends1 : Tree :=
  (.back 0 [])
noncomputable def cends2 : Cx := tab5.only [63, 64] (fun _ => []) [] 0 [] (fun _ => none)
def tends2 : Tree :=
  (.loop [.int] [(.int (.lit (-1)))] (.split (.cmp .le (.var 16) (.lit 1)) (.call 63 [(.arr 97 (.var 0)), (.int (.var 1)), (.arr 70 (.var 2)), (.int (.var 3)), (.int (.var 4)), (.int (.var 5)), (.int (.var 6)), (.int (.var 7)), (.int (.var 8)), (.int (.var 9)), (.int (.var 10)), (.int (.var 11)), (.arr 70 (.var 12)), (.int (.var 13)), (.int (.var 14)), (.int (.var 16))] (.split (.cmp .ne (.var 17) (.lit 0)) (.ret [(.int (.var 17)), (.int (.var 18)), (.int (.var 19)), (.int (.var 20)), (.int (.var 21))]) (.back 1 [(.int (.add (.var 16) (.lit 1)))]))) (.split (.of (.var 15)) (.call 64 [(.arr 97 (.var 0)), (.int (.var 1)), (.arr 70 (.var 2)), (.int (.var 3)), (.int (.var 4)), (.int (.var 5)), (.int (.var 6)), (.int (.var 7)), (.int (.var 8)), (.int (.var 9)), (.int (.var 10)), (.int (.var 11)), (.arr 70 (.var 12)), (.int (.var 13)), (.int (.var 14))] (.split (.cmp .ne (.var 17) (.lit 0)) (.ret [(.int (.var 17)), (.int (.var 18)), (.int (.var 19)), (.int (.var 20)), (.int (.var 21))]) (.ret [(.int (.lit 1)), (.int (.var 14)), (.int (.lit 0)), (.int (.lit 0)), (.int (.lit 0))]))) (.back 0 []))))
def tends3 : Tree :=
  (.ret [(.int (.lit 3)), (.int (.lit 400)), (.int (.lit 0)), (.int (.lit 6)), (.int (.lit 0))])
end Go.Proofs.Ytmdmgpikbebejaa
/- What is to be shown of each function, as the executor has it. Printed by trees.py. -/
namespace Go.Proofs.Ytmdmgpikbebejaa
end Go.Proofs.Ytmdmgpikbebejaa
/- Kill: the wells, programs and kicks that are made of numbers are valid. -/
namespace Go.Proofs.Ytmdmgpikbebejaa
set_option linter.unusedVariables false
set_option linter.unusedSimpArgs false

structure SegOK (s : Sg) : Prop where
  l : 10000 ≤ s.l ∧ s.l ≤ 110000
  r : 7500 ≤ s.r ∧ s.r ≤ s.l
  a : 50 ≤ s.a ∧ s.a ≤ 449
  g : 20 ≤ s.g ∧ s.g ≤ 119
end Go.Proofs.Ytmdmgpikbebejaa
/- Kill: the plain laws of moments: what was pumped lies in the pipe; more gas. -/
namespace Go.Proofs.Ytmdmgpikbebejaa
set_option linter.unusedVariables false
set_option linter.unusedSimpArgs false

/-! More gas -/
end Go.Proofs.Ytmdmgpikbebejaa
/- What is to be shown of each function, as the executor has it. Printed by trees.py. -/
namespace Go.Proofs.Ytmdmgpikbebejaa
end Go.Proofs.Ytmdmgpikbebejaa
/- Kill: equal moments; wells of numbers. -/
namespace Go.Proofs.Ytmdmgpikbebejaa
open Go.RowKit
set_option linter.unusedSimpArgs false
set_option linter.unusedVariables false

end Go.Proofs.Ytmdmgpikbebejaa
/- Kill: sets of kicks of numbers. -/
namespace Go.Proofs.Ytmdmgpikbebejaa
open Go.RowKit
set_option linter.unusedSimpArgs false
set_option linter.unusedVariables false

end Go.Proofs.Ytmdmgpikbebejaa
/- Kill: what was pumped lies in the pipe; more gas: the laws. -/
namespace Go.Proofs.Ytmdmgpikbebejaa
open Go.RowKit
set_option linter.unusedSimpArgs false
set_option linter.unusedVariables false

end Go.Proofs.Ytmdmgpikbebejaa
/- Kill: the steps as an iterator. -/
namespace Go.Proofs.Ytmdmgpikbebejaa
open Go.RowKit
set_option linter.unusedSimpArgs false
set_option linter.unusedVariables false

/-- How great the numbers of a moment are. -/
structure MoB (x : Mo) : Prop where
  pumped : 0 ≤ x.pumped ∧ x.pumped ≤ 4398046511104
  gas : 0 ≤ x.gas.2 ∧ x.gas.2 ≤ 288230376151711744
  surf : KnB (-200000000000) 68719476736 x.surf
theorem htx_ht {l : List Sg} (h : holeV l = 0) (u v : Int) : HtOK (spanK (htV l u) (htV l v)) := by
  have a := ht_ok h u
  have b := ht_ok h v
  exact ⟨a.1, a.2.1, b.2.2.1, b.2.2.2⟩
theorem mom_box {j : Jb} (hf : JF j) {s e : Int} (hs : StepOK s) (he : ErrOK e) : MoB (momentV j s e) := by
  have hb := bot_box hf he
  have hm := step_box hf hs
  unfold momentV
  generalize botV j.p j.k e = b at *
  generalize s * j.w.step = m at *
  split
  · have g := gasK_bd hf.vol hf.pore (b, b)
    have h0 := ht_ok hf.hole
    have u1 := under_bd (under_bd (exact_bd hb) hf.weight (less_ht (h0 (min (volV j.w.segs) (edgeV j m))) (htx_ht hf.hole (pgasV j m b).1 (pgasV j m b).2))) hf.pweight (less_ht (h0 (volV j.w.segs)) (h0 (edgeV j m)))
    obtain ⟨a1, a2, a3, a4⟩ := u1
    refine ⟨hm, ?_, ⟨?_, ?_, ?_, ?_⟩⟩
    · show 0 ≤ max 0 ((gasK j.k (b, b)).2 - m) ∧ max 0 ((gasK j.k (b, b)).2 - m) ≤ _
      have := hm.1
      omega
    · show _ ≤ (patV j m b (volV j.w.segs)).1; unfold patV; unfold ptopV; omega
    · show (patV j m b (volV j.w.segs)).1 ≤ _; unfold patV; unfold ptopV; omega
    · show _ ≤ (patV j m b (volV j.w.segs)).2; unfold patV; unfold ptopV; omega
    · show (patV j m b (volV j.w.segs)).2 ≤ _; unfold patV; unfold ptopV; omega
  · have g := gasK_bd hf.vol hf.pore (baseV j m b)
    have h0 := ht_ok hf.hole
    have d := down_bd hf hb (mudV j m) m
    have u1 := under_bd d hf.weight (less_ht (h0 (volV j.w.segs)) (htx_ht hf.hole (m + (rgasV j m b).1) (m + (rgasV j m b).2)))
    obtain ⟨a1, a2, a3, a4⟩ := u1
    exact ⟨hm, ⟨g.2.2.1, g.2.2.2⟩, ⟨by show _ ≤ (underK (downV j b (mudV j m) m) j.w.weight (lessK (htV j.w.segs (volV j.w.segs)) (spanK (htV j.w.segs (m + (rgasV j m b).1)) (htV j.w.segs (m + (rgasV j m b).2))))).1; omega, a2, by show _ ≤ (underK (downV j b (mudV j m) m) j.w.weight (lessK (htV j.w.segs (volV j.w.segs)) (spanK (htV j.w.segs (m + (rgasV j m b).1)) (htV j.w.segs (m + (rgasV j m b).2))))).2; omega, a4⟩⟩
theorem stp_cx : CxOK cstp := Tab.cx_ok (all_cons (up5_ok (up4_ok moment_ok)) (all_cons (up5_ok (up4_ok over_ok)) all_nil))
theorem stp_vc {cs : List C} (hcs : CTy Try.prog jobKs cs) (hok : JobOK cs 0) {fv : Value} {k : Int} (hk : 0 ≤ k ∧ k ≤ 400) : VC cstp (fun _ => False) tstp (cs ++ [.s fv [], .i k]) [fun xs => xs = [.b (overV (jobOf cs 0) (momentV (jobOf cs 0) k (-1)))]] := by
  have h1 : cstp.ct 50 = some ctMoment := rfl
  have h2 : cstp.ct 70 = some ctOver := rfl
  suffices key : allC Try.prog jobKs (fun cs => JobOK cs 0 → VC cstp (fun _ => False) tstp (cs ++ [.s fv [], .i k]) [fun xs => xs = [.b (overV (jobOf cs 0) (momentV (jobOf cs 0) k (-1)))]]) from allC_elim key cs hcs hok
  clear hcs hok
  unfold tstp jobKs
  simp only [VC, allC, List.map_cons, List.map_nil, List.length_cons, List.length_nil, List.getElem?_cons_zero, List.getElem?_cons_succ, List.cons.injEq, C.i.injEq, C.b.injEq, and_true, true_and, forall_const, kindsOf_nil, kindsOf_lf, kindsOf_agg, kindsOf_box, boxKinds_nil, boxKinds_lf, boxKinds_agg, boxKinds_box, List.append_nil, List.cons_append, List.nil_append, den_cmp_le, den_cmp_lt, den_cmp_eq, den_cmp_ne, den_cmp_le', den_cmp_lt', den_cmp_eq', den_cmp_ne', den_and, den_and', den_or, den_or', den_not, den_not', den_blit, den_of, ev_var, at_0, at_1, at_2, at_3, at_4, at_5, at_6, at_7, at_skip, c_int, c_bool, c_arr, c_cnt, c_vec, ev_nil, ev_join, ev_sub3, loc_s, int_i, bool_b, rows_s, cs_nil, cs_cons, E.den_lit, E.den_var, E.den_add, E.den_sub, E.den_mul, E.den_quo, E.den_rem, E.den_max, E.den_min, E.den_len, E.den_wr, E.den_cell, Nat.reduceAdd, h1, h2, ctMoment, ctOver, ctF, jobSh, momSh, momKs, momASh, n_, List.cons_append, List.nil_append]
  intro v0 r0 _ _ _ n1 _ _ v2 r2 _ _ _ n3 _ _ n4 _ _ n5 _ _ n6 _ _ n7 _ _ n8 _ _ n9 _ _ n10 _ _ n11 _ _ v12 r12 _ _ _ n13 _ _ hok
  have hs : StepOK k := ⟨hk.1, hk.2⟩
  have he : ErrOK (-1) := ⟨by decide, by decide⟩
  obtain ⟨j, hj⟩ : ∃ j, j = jobOf [C.s v0 r0, C.i n1, C.s v2 r2, C.i n3, C.i n4, C.i n5, C.i n6, C.i n7, C.i n8, C.i n9, C.i n10, C.i n11, C.s v12 r12, C.i n13] 0 := ⟨_, rfl⟩
  have hb := mom_box (j := j) (by rw [hj]; exact hok.jf) hs he
  refine ⟨⟨hok, hs, he⟩, ?_⟩
  rintro a1 _ _ a2 _ _ a3 _ _ a4 _ _ a5 _ _ a6 _ _ a7 _ _ va ra _ _ _ hm
  have hm := mo_inv (x := momentV j k (-1)) (by rw [hj]; exact hm)
  obtain ⟨p1, p2, p3, p4, p5, p6, p7, p8⟩ := hm
  have hb1 := hb.pumped
  have hb2 := hb.gas
  rw [← p1] at hb1
  rw [← p3] at hb2
  refine ⟨⟨hok, by omega, by omega, by omega, by omega⟩, ?_⟩
  rintro t ht
  rw [ht, ← hj]
  have e : momentV j k (-1) = ⟨a1, (a2, a3), (a4, a5), (a6, a7), knots ra⟩ := by rw [p1, p2, p3, p4, p5, p6, p7, p8]
  rw [e, hj]
  rfl
theorem stp_t : exec cstp (nav [1, 0, 0, 1, 1, 0, 0, 1, 0] (bodyOf Try.f69)) { stp0 with lvl := stp0.lvl + 1 } (joinK stp0 stp1 [.slot 4] [.bool] fun _ _ => none) = some tstp := by kernel_rfl
theorem steps_reg {w : World} {Base : Nat → Nat → Prop} {b : Nat} {us : List Value} {cs : List C} {fv : Value} {k : Int} {ts : Array Value} {K : Exit → Act → World → Prop} (hts : ts.size = 22) (h0 : ts.getD 0 undef = fv) (h1 : ts.getD 1 undef = .pointer (some ⟨b, 0, none⟩)) (h2 : ts.getD 2 undef = undef) (h3 : ts.getD 3 undef = .int .i64 k) (h5 : ts.getD 5 undef = .int .i64 k) (hfv : fv.oneCell' = true)
    (hblk : Blk w b 93 us.toArray) (hB : ∀ o, Base b o) (hBase : ∀ x o, Base x o → x < w.heap.size) (hrep : LReps Try.prog w (fun x o => Base x o ∨ some b = some x) jobKs us cs) (hok : JobOK cs 0) (hk : 0 ≤ k ∧ k ≤ 400)
    (hK : ∀ ts' w', ts'.size = 22 → ts'.getD 0 undef = fv → ts'.getD 1 undef = .pointer (some ⟨b, 0, none⟩) → ts'.getD 2 undef = undef → ts'.getD 3 undef = .int .i64 k → ts'.getD 5 undef = .int .i64 k → ts'.getD 4 undef = .bool (overV (jobOf cs 0) (momentV (jobOf cs 0) k (-1))) → Below w.heap.size w w' → K .normal ⟨ts', []⟩ w') :
    wpR none Try.prog (nav [1, 0, 0, 1, 1, 0, 0, 1, 0] (bodyOf Try.f69)) K ⟨ts, []⟩ w := by
  have hcs := hrep.ty
  have hlen : cs.length = 14 := hcs.len
  obtain ⟨Γ, hΓ⟩ : ∃ Γ : Env, Γ = { ρ := cs ++ [.s fv [], .i k], blk := fun _ => b, nb := 1, base := Base, up := ⟨fun _ => undef, []⟩ } := ⟨_, rfl⟩
  have hρ : Γ.ρ = cs ++ [.s fv [], .i k] := by rw [hΓ]
  have hb : ∀ i, Γ.blk i = b := fun i => by rw [hΓ]
  have hbase : Γ.base = Base := by rw [hΓ]
  have hat : ∀ j c, cs[j]? = some c → at_ Γ.ρ (0 + j) = c := fun j c hj => by
    rw [Nat.zero_add, hρ]
    unfold at_
    rw [List.getD_eq_getElem?_getD, List.getElem?_append_left (List.getElem?_eq_some_iff.1 hj).1, hj]; rfl
  have h14 : at_ Γ.ρ 14 = .s fv [] := by
    rw [hρ]; unfold at_
    rw [List.getD_eq_getElem?_getD, List.getElem?_append_right (by omega), hlen]; rfl
  have h15 : at_ Γ.ρ 15 = .i k := by
    rw [hρ]; unfold at_
    rw [List.getD_eq_getElem?_getD, List.getElem?_append_right (by omega), hlen]; rfl
  have hOwn : ∀ x o, Own Γ stp0 x o → Base x o ∨ some b = some x := fun x o h => by
    rcases h with h | ⟨j, mb, h, e⟩ | ⟨i, e, h, -⟩
    · exact .inl (by rw [← hbase]; exact h)
    · exact .inr (by rw [← e, hb])
    · cases h
  obtain ⟨f1, f2⟩ := freshL_rep (Γ := Γ) hrep 0 hat
  have f1 : jobLfs.map (Lf.den Γ) = us := f1
  have f2 : ∀ l ∈ jobLfs, l.ok Try.prog w (fun x o => Base x o ∨ some b = some x) Γ := f2
  have hsm : Smalls Γ.ρ := by
    rw [hρ]
    refine Smalls.app (by have := Smalls.app Smalls.nil (cs := cs) hcs.small; rwa [List.nil_append] at this) ?_
    intro c hc n
    rcases List.mem_cons.1 hc with rfl | hc
    · cases n with
      | zero => trivial
      | succ n => exact ⟨by simp, fun r hr => by cases hr⟩
    · rcases List.mem_cons.1 hc with rfl | hc
      · exact small_i (by omega) n
      · cases hc
  have hS : Sat cstp.P (fun i => i < w.heap.size ∧ i ≠ b) w Γ stp0 ⟨ts, []⟩ w := by
    refine ⟨fun t sv ht => ?_, hts, fun b' mb hm => ?_, fun i e he => (by cases he), fun i e he => (by cases he), fun s j s' j' x h1 h2 => ?_, ⟨rfl, rfl, rfl, Nat.le_refl _, fun _ _ => rfl⟩, fun i hi => hi.1, fun x o h => hBase x o (by rw [← hbase]; exact h), by rw [hΓ], by rw [hρ]; simp [hlen]; rfl, by rw [hΓ]; rfl, ⟨bds_nil _, hsm⟩⟩
    · obtain ⟨p, hp, rfl⟩ := look_mem ht
      simp only [stp0, List.mem_cons, List.not_mem_nil, or_false] at hp
      rcases hp with rfl | rfl | rfl | rfl | rfl
      · cases ht
        refine ⟨?_, ?_⟩
        · show ts.getD 0 undef = (at_ Γ.ρ 14).loc
          rw [h0, h14]; rfl
        · refine one_ok ?_
          show (at_ Γ.ρ 14).loc.oneCell' = true
          rw [h14]; exact hfv
      · cases ht
        refine ⟨?_, one_ok trivial⟩
        show ts.getD 1 undef = _
        rw [h1]; simp only [SV.den, S0.den, Lf.den, hb]
      · cases ht
        refine ⟨?_, one_ok trivial⟩
        show ts.getD 2 undef = _
        rw [h2]; rfl
      · cases ht
        refine ⟨?_, one_ok trivial⟩
        show ts.getD 3 undef = _
        rw [h3]; simp only [SV.den, S0.den, Lf.den, E.den_var, h15, C.int]
      · cases ht
        refine ⟨?_, one_ok trivial⟩
        show ts.getD 5 undef = _
        rw [h5]; simp only [SV.den, S0.den, Lf.den, E.den_var, h15, C.int]
    · obtain ⟨p, hp, rfl⟩ := look_mem hm
      simp only [stp0, List.mem_cons, List.not_mem_nil, or_false] at hp
      subst hp
      cases hm
      refine ⟨?_, fun l hl => Lf.ok_anti (f2 l hl) hOwn, fun h => h.2 (hb 0), by decide⟩
      show Blk w (Γ.blk 0) 93 (jobLfs.map (Lf.den Γ)).toArray
      rw [hb, f1]; exact hblk
    · rcases h1.inv with ⟨rfl, mb, hb1, -⟩ | ⟨rfl, e, he, -⟩
      · rcases h2.inv with ⟨rfl, mb', hb2, -⟩ | ⟨rfl, e, he, -⟩
        · obtain ⟨p, hp, rfl⟩ := look_mem hb1
          obtain ⟨q, hq, rfl⟩ := look_mem hb2
          simp only [stp0, List.mem_cons, List.not_mem_nil, or_false] at hp hq
          subst hp hq
          exact ⟨rfl, rfl⟩
        · cases he
      · cases he
  refine seg_sound_r (r := none) (R := fun _ => False) stp_cx (Ls := []) stp_t (by kernel_rfl) rfl (by rw [hρ]; exact stp_vc hcs hok hk) hS (fun xs Γx a' w' hxs hI hρx he hs' => ?_) (fun x st' T' Γ' Ls' _ h => by cases h)
  subst hI
  have hsl : ∀ t sv, look stp1.sl t = some sv → slotV Γx a' t = sv.den Γx := fun t sv h => (hs'.slots t sv h).1
  have g14 : at_ Γx.ρ 14 = .s fv [] := by rw [hρx]; unfold at_ at h14 ⊢; rw [List.getD_eq_getElem?_getD, List.getElem?_append_left (by rw [hρ]; simp [hlen]), ← List.getD_eq_getElem?_getD]; exact h14
  have g15 : at_ Γx.ρ 15 = .i k := by rw [hρx]; unfold at_ at h15 ⊢; rw [List.getD_eq_getElem?_getD, List.getElem?_append_left (by rw [hρ]; simp [hlen]), ← List.getD_eq_getElem?_getD]; exact h15
  have g16 : at_ Γx.ρ 16 = .b (overV (jobOf cs 0) (momentV (jobOf cs 0) k (-1))) := by rw [hρx, hρ]; unfold at_; rw [List.getD_eq_getElem?_getD, List.getElem?_append_right (by simp [hlen])]; simp [hlen]
  have gb : Γx.blk 0 = b := by rw [he.blk 0 (by rw [show Γ.nb = 1 by rw [hΓ]]; exact Nat.zero_lt_one), hb]
  obtain ⟨ts', ds'⟩ := a'
  have hds : ds' = [] := by have := hs'.defers; rw [he.up, hΓ] at this; exact this
  subst hds
  have s0 := hsl 0 _ rfl
  have s1 := hsl 1 _ rfl
  have s2 := hsl 2 _ rfl
  have s3 := hsl 3 _ rfl
  have s4 := hsl 4 _ rfl
  have s5 := hsl 5 _ rfl
  simp only [SV.den, S0.den, Lf.den, E.den_var, B.den, E.ev, g14, g15, g16, gb, C.int, C.loc, C.bool] at s0 s1 s2 s3 s4 s5
  have hblk' : Blk w' b 93 us.toArray := by
    have := (hs'.mem 0 _ rfl).1
    rw [gb] at this
    have e : jobLfs.map (Lf.den Γx) = us := by
      rw [← f1]
      exact List.map_congr_left fun l hl => Lf.den_ext he l (by
        have : l.wf 16 1 = true := List.all_eq_true.1 (show jobLfs.all (Lf.wf 16 1) = true by decide) l hl
        rw [show Γ.ρ.length = 16 by rw [hρ]; simp [hlen], show Γ.nb = 1 by rw [hΓ]]; exact this)
    show Blk w' b 93 us.toArray
    have this : Blk w' b 93 (jobLfs.map (Lf.den Γx)).toArray := this
    rwa [e] at this
  refine hK ts' w' hs'.size s0 s1 s2 s3 s5 s4 ⟨hs'.keeps.os, hs'.keeps.tape, hs'.keeps.output, hs'.keeps.size, fun i hi => ?_⟩
  by_cases e : i = b
  · subst e; exact hblk'.trans hblk.symm
  · exact hs'.keeps.block i ⟨hi, e⟩
end Go.Proofs.Ytmdmgpikbebejaa
/- Kill: the steps as an iterator: its walk. -/
namespace Go.Proofs.Ytmdmgpikbebejaa
open Go.RowKit
set_option linter.unusedSimpArgs false
set_option linter.unusedVariables false

theorem arr22 {t : Array Value} (h : t.size = 22) : ∃ x0 x1 x2 x3 x4 x5 x6 x7 x8 x9 x10 x11 x12 x13 x14 x15 x16 x17 x18 x19 x20 x21, t = #[x0, x1, x2, x3, x4, x5, x6, x7, x8, x9, x10, x11, x12, x13, x14, x15, x16, x17, x18, x19, x20, x21] := by
  obtain ⟨l⟩ := t
  have h : l.length = 22 := h
  have cons : ∀ {n : Nat} {l : List Value}, l.length = n + 1 → ∃ x l', l = x :: l' ∧ l'.length = n := fun {n l} h => by
    cases l with
    | nil => cases h
    | cons x l => exact ⟨x, l, rfl, by simpa using h⟩
  obtain ⟨x0, l1, e0, h1⟩ := cons h
  obtain ⟨x1, l2, e1, h2⟩ := cons h1
  obtain ⟨x2, l3, e2, h3⟩ := cons h2
  obtain ⟨x3, l4, e3, h4⟩ := cons h3
  obtain ⟨x4, l5, e4, h5⟩ := cons h4
  obtain ⟨x5, l6, e5, h6⟩ := cons h5
  obtain ⟨x6, l7, e6, h7⟩ := cons h6
  obtain ⟨x7, l8, e7, h8⟩ := cons h7
  obtain ⟨x8, l9, e8, h9⟩ := cons h8
  obtain ⟨x9, l10, e9, h10⟩ := cons h9
  obtain ⟨x10, l11, e10, h11⟩ := cons h10
  obtain ⟨x11, l12, e11, h12⟩ := cons h11
  obtain ⟨x12, l13, e12, h13⟩ := cons h12
  obtain ⟨x13, l14, e13, h14⟩ := cons h13
  obtain ⟨x14, l15, e14, h15⟩ := cons h14
  obtain ⟨x15, l16, e15, h16⟩ := cons h15
  obtain ⟨x16, l17, e16, h17⟩ := cons h16
  obtain ⟨x17, l18, e17, h18⟩ := cons h17
  obtain ⟨x18, l19, e18, h19⟩ := cons h18
  obtain ⟨x19, l20, e19, h20⟩ := cons h19
  obtain ⟨x20, l21, e20, h21⟩ := cons h20
  obtain ⟨x21, l22, e21, h22⟩ := cons h21
  have e22 := List.length_eq_zero_iff.1 h22
  refine ⟨x0, x1, x2, x3, x4, x5, x6, x7, x8, x9, x10, x11, x12, x13, x14, x15, x16, x17, x18, x19, x20, x21, ?_⟩
  rw [e0, e1, e2, e3, e4, e5, e6, e7, e8, e9, e10, e11, e12, e13, e14, e15, e16, e17, e18, e19, e20, e21, e22]
theorem stepEls_at {j : Jb} {k : Nat} (h : k ≤ lastN j) : (stepEls j)[k]? = some (stepEl j k) := by
  unfold stepEls
  rw [List.getElem?_map, List.getElem?_range (by omega)]
  rfl
theorem steps_rep {w : World} {Base : Nat → Nat → Prop} {vs : List Value} {cs : List C} (h : Reps Try.prog w Base none stepsIt.args vs cs) : ∃ b us, vs = [.pointer (some ⟨b, 0, none⟩)] ∧ Blk w b 93 us.toArray ∧ (∀ o, Base b o) ∧ LReps Try.prog w (fun x o => Base x o ∨ some b = some x) jobKs us cs := by
  cases vs with
  | nil => exact h.elim
  | cons v0 vs =>
  obtain ⟨c1, c2, rfl, h1, h2⟩ := h
  cases vs with
  | cons _ _ => exact h2.elim
  | nil =>
  have h2 : c2 = [] := h2
  subst h2
  obtain ⟨b, us, rfl, hb, hB, hr⟩ := h1
  rw [List.append_nil]
  exact ⟨b, us, rfl, hb, hB, hr⟩
set_option maxRecDepth 100000 in
set_option maxHeartbeats 2000000 in
theorem steps_ok : ItOK Try.prog 69 stepsIt := by
  intro Base vs cs l J Jx W hpre hrep hJ hJx hY h0
  obtain ⟨b, -, rfl, -, hB, -⟩ := steps_rep (hrep 0 W h0).2
  have hpre : JobOK cs 0 := hpre
  have hbox : ∀ k w, J k w → (∀ x o, Base x o → x < w.heap.size) ∧ ∃ us, Blk w b 93 us.toArray ∧ LReps Try.prog w (fun x o => Base x o ∨ some b = some x) jobKs us cs := fun k w hj => by
    obtain ⟨h1, h2⟩ := hrep k w hj
    obtain ⟨b2, us, e1, h3, -, h4⟩ := steps_rep h2
    simp at e1
    subst e1
    exact ⟨h1, us, h3, h4⟩
  have hlen : (stepsIt.els cs).length = lastN (jobOf cs 0) + 1 := by simp [stepsIt, stepEls]
  rw [hlen]
  have hY' : ∀ k w w', k ≤ lastN (jobOf cs 0) → J k w → Below w.heap.size w w' → YieldAt Fence.wide 0 Try.prog l #[.int .i64 (k : Int), .bool (overS (jobOf cs 0) k)] w' fun e w'' => ((e = .returned (.bool true) ∧ J (k + 1) w'') ∧ Keeps (fun i => w.heap.size ≤ i ∧ i < w'.heap.size) w' w'') ∨ (e = .returned (.bool false) ∧ Jx w'') := fun k w w' hk hj hb =>
    hY k (stepEl (jobOf cs 0) k) w w' (stepEls_at hk) hj hb
  clear hY hrep hlen
  have hreg := fun (w : World) (k : Int) (us : List Value) (ts : Array Value) (K : Exit → Act → World → Prop) hts g0 g1 g2 g3 g5 hblk hBase hr hk hK => steps_reg (w := w) (Base := Base) (b := b) (us := us) (cs := cs) (fv := .func (.yield l) #[] #[]) (k := k) (ts := ts) (K := K) hts g0 g1 g2 g3 g5 rfl hblk hB hBase hr hpre hk hK
  have hov : ∀ k : Nat, overV (jobOf cs 0) (momentV (jobOf cs 0) (k : Int) (-1)) = overS (jobOf cs 0) k := fun _ => rfl
  have h400 := lastN_le (jobOf cs 0)
  have hno : ∀ k, k < lastN (jobOf cs 0) → overS (jobOf cs 0) k = false := fun k hk => firstN_no _ 400 0 k (Nat.zero_le _) hk
  have hyes : lastN (jobOf cs 0) < 400 → overS (jobOf cs 0) (lastN (jobOf cs 0)) = true := fun h => firstN_yes _ 400 0 (by unfold lastN at h; omega)
  generalize jobOf cs 0 = j at *
  generalize hn : lastN j = n at *
  clear hB hpre
  refine callsIn_of_wp Try.func69 rfl trivial ?_ rfl
  simp only [Try.ntmps69, List.size_toArray, List.length_cons, List.length_nil, Nat.reduceAdd, Nat.reduceSub, Array.replicate_succ, Array.replicate_zero, List.push_toArray, List.append_toArray, List.nil_append, List.cons_append]
  gi_wp2
  gi_loopw [5] (fun i wr => ∃ k : Nat, (k ≤ n ∨ k = 401 ∧ n = 400) ∧ i = .int .i64 k ∧ J k wr) (fun i _ => ((402 : Int) - intOf i).toNat)
  case atStart => exact ⟨0, .inl (Nat.zero_le _), rfl, h0⟩
  case round =>
    obtain ⟨k, hk, rfl, hj⟩ := hrel
    by_cases hlt : k ≤ n
    · obtain ⟨hBase, us, hblk, hr⟩ := hbox k wr hj
      have hyk := fun w' => hY' k wr w' hlt hj
      have hov := hov k
      have hreg := fun ts K hts g0 g1 g2 g3 g5 hK => hreg wr k us ts K hts g0 g1 g2 g3 g5 hblk hBase hr ⟨by omega, by omega⟩ hK
      clear hY' hbox hblk hBase hr
      have hb0 : (0 : Int) ≤ k := by omega
      have hb1 : (k : Int) < 401 := by omega
      gi_wp2
      refine hreg _ _ rfl rfl rfl rfl rfl rfl (fun ts' w' z G0 G1 G2 G3 G5 G4 hbel => ?_)
      obtain ⟨x0, x1, x2, x3, x4, x5, x6, x7, x8, x9, x10, x11, x12, x13, x14, x15, x16, x17, x18, x19, x20, x21, rfl⟩ := arr22 z
      have g0 : x0 = _ := G0
      have g1 : x1 = _ := G1
      have g2 : x2 = _ := G2
      have g3 : x3 = _ := G3
      have g5 : x5 = _ := G5
      obtain ⟨fn, tmps, assign, body, hy1, hR⟩ := hyk w' hbel
      have hno := hno k
      have hend : overS j k = false → k + 1 ≤ n ∨ k + 1 = 401 ∧ n = 400 := fun h => by
        by_cases e : k = n
        · subst e
          by_cases e2 : k < 400
          · rw [hyes e2] at h; cases h
          · exact .inr ⟨by omega, by omega⟩
        · exact .inl (by omega)
      obtain ⟨t, ht⟩ : ∃ t, t = overS j k := ⟨_, rfl⟩
      have g4 : x4 = .bool t := by rw [ht]; exact G4
      rw [← ht] at hno hend hy1
      clear z hreg hyk hbel hov ht G0 G1 G2 G3 G4 G5
      subst g0 g1 g2 g3 g4 g5
      gi_wp2
      refine ⟨rfl, hR.mono ?_⟩
      rintro e W3 (⟨⟨rfl, hj3⟩, -⟩ | ⟨rfl, hx3⟩)
      · cases t with
        | true =>
          obtain rfl : k = n := by
            rcases Nat.lt_or_eq_of_le hlt with h | h
            · exact absurd (hno h) (by decide)
            · exact h
          clear hend hno
          gi_wp2
          refine bodyPost_ret (results_none rfl _ _ _) rfl ?_
          exact ⟨⟨_, rfl⟩, .inl hj3⟩
        | false =>
          have hend2 := hend rfl
          clear hno hend
          gi_wp2
          exact ⟨⟨k + 1, hend2, by simp, hj3⟩, by simp only [intOf]; omega⟩
      · gi_wp2
        refine bodyPost_ret (results_none rfl _ _ _) rfl ?_
        exact ⟨⟨_, rfl⟩, .inr hx3⟩
    · obtain ⟨rfl, rfl⟩ : k = 401 ∧ n = 400 := by omega
      gi_wp2
      go_end0
      exact ⟨⟨_, rfl⟩, .inl hj⟩
end Go.Proofs.Ytmdmgpikbebejaa
/- What is to be shown of each function, as the executor has it. Printed by trees.py. -/
namespace Go.Proofs.Ytmdmgpikbebejaa
noncomputable def cexc : Cx := tab5.only [] (fun _ => []) [] 0 [] (fun _ => none)
def texc : Tree :=
  (.split (.cmp .lt (.var 2) (.var 0)) (.ret [(.int (.lit 2))]) (.split (.cmp .lt (.var 2) (.var 1)) (.ret [(.int (.lit 3))]) (.ret [(.int (.lit 0))])))
noncomputable def clook : Cx := tab5.only [45, 50, 84] (fun _ => []) [] 0 [] (fun _ => none)
def tlook_1 : Tree :=
  (.split (.cmp .ne (.var 28) (.lit 0)) (.ret [(.int (.var 28)), (.int (.var 14)), (.int (.var 15)), (.int (.lit 4)), (.int (.lit 0))]) (.ret [(.int (.lit 0)), (.int (.lit 0)), (.int (.lit 0)), (.int (.lit 0)), (.int (.lit 0))]))
def tlook_2 : Tree :=
  (.split (.cmp .ne (.var 27) (.lit 0)) (.ret [(.int (.var 27)), (.int (.var 14)), (.int (.var 15)), (.int (.lit 3)), (.int (.lit 0))]) (.call 84 [(.int (.var 22)), (.int (.var 23)), (.int (.var 3))] tlook_1))
def tlook_3 : Tree :=
  (.dfn .nil (.loop [.int] [(.int (.lit 0))] (.split (.cmp .lt (.var 26) (.len (.var 24))) (.ob (.cmp .le (.lit 0) (.var 26)) (.ob (.cmp .lt (.var 26) (.len (.var 24))) (.ob (.cmp .lt (.var 26) (.len (.var 2))) (.call 84 [(.int (.cell (.var 24) (.var 26) 0)), (.int (.cell (.var 24) (.var 26) 1)), (.int (.cell (.var 2) (.var 26) 1))] (.split (.cmp .ne (.var 27) (.lit 0)) (.ret [(.int (.var 27)), (.int (.var 14)), (.int (.var 15)), (.int (.lit 2)), (.int (.var 26))]) (.back 0 [(.int (.add (.var 26) (.lit 1)))])))))) (.ob (.and (.cmp .le (.lit (-9223372036854775808)) (.sub (.lit 0) (.var 23))) (.cmp .le (.sub (.lit 0) (.var 23)) (.lit 9223372036854775807))) (.ob (.and (.cmp .le (.lit (-9223372036854775808)) (.sub (.lit 0) (.var 22))) (.cmp .le (.sub (.lit 0) (.var 22)) (.lit 9223372036854775807))) (.ob (.and (.cmp .le (.lit (-9223372036854775808)) (.sub (.lit 0) (.var 23))) (.cmp .le (.sub (.lit 0) (.var 23)) (.lit 9223372036854775807))) (.ob (.and (.cmp .le (.lit (-9223372036854775808)) (.sub (.lit 0) (.var 22))) (.cmp .le (.sub (.lit 0) (.var 22)) (.lit 9223372036854775807))) (.call 84 [(.int (.sub (.lit 0) (.var 23))), (.int (.sub (.lit 0) (.var 22))), (.int (.lit 0))] tlook_2))))))))
def tlook_4 : Tree :=
  (.split (.cmp .lt (.var 16) (.var 11)) (.ret [(.int (.lit 2)), (.int (.var 14)), (.int (.var 15)), (.int (.lit 1)), (.int (.lit 0))]) (.call 50 [(.arr 97 (.var 0)), (.int (.var 1)), (.arr 70 (.var 2)), (.int (.var 3)), (.int (.var 4)), (.int (.var 5)), (.int (.var 6)), (.int (.var 7)), (.int (.var 8)), (.int (.var 9)), (.int (.var 10)), (.int (.var 11)), (.arr 70 (.var 12)), (.int (.var 13)), (.int (.var 14)), (.int (.var 15))] tlook_3))
def tlook : Tree :=
  (.call 45 [(.arr 97 (.var 0)), (.int (.var 1)), (.arr 70 (.var 2)), (.int (.var 3)), (.int (.var 4)), (.int (.var 5)), (.int (.var 6)), (.int (.var 7)), (.int (.var 8)), (.int (.var 9)), (.int (.var 10)), (.int (.var 11)), (.arr 70 (.var 12)), (.int (.var 13)), (.int (.var 15))] tlook_4)
noncomputable def crest : Cx := tab5.only [75, 79, 84] (fun _ => []) [] 0 [] (fun _ => none)
def trest_1 : Tree :=
  (.ob (.and (.cmp .le (.lit (-9223372036854775808)) (.mul (.var 7) (.var 20))) (.cmp .le (.mul (.var 7) (.var 20)) (.lit 9223372036854775807))) (.ob (.and (.cmp .le (.lit (-9223372036854775808)) (.mul (.var 7) (.var 21))) (.cmp .le (.mul (.var 7) (.var 21)) (.lit 9223372036854775807))) (.ob (.and (.cmp .le (.lit (-9223372036854775808)) (.mul (.var 7) (.var 20))) (.cmp .le (.mul (.var 7) (.var 20)) (.lit 9223372036854775807))) (.ob (.and (.cmp .le (.lit (-9223372036854775808)) (.mul (.var 7) (.var 21))) (.cmp .le (.mul (.var 7) (.var 21)) (.lit 9223372036854775807))) (.call 84 [(.int (.mul (.var 7) (.var 20))), (.int (.mul (.var 7) (.var 21))), (.int (.cell (.var 2) (.var 17) 1))] (.split (.cmp .ne (.var 22) (.lit 0)) (.ret [(.int (.var 22)), (.int (.var 14)), (.int (.lit 0)), (.int (.lit 5)), (.int (.var 17))]) (.back 0 [(.int (.add (.var 17) (.lit 1)))])))))))
def trest_2 : Tree :=
  (.ob (.and (.cmp .le (.lit (-9223372036854775808)) (.mul (.var 7) (.var 15))) (.cmp .le (.mul (.var 7) (.var 15)) (.lit 9223372036854775807))) (.split (.cmp .lt (.mul (.var 7) (.var 15)) (.var 11)) (.ret [(.int (.lit 2)), (.int (.var 14)), (.int (.lit 0)), (.int (.lit 5)), (.int (.lit 0))]) (.loop [.int] [(.int (.lit 0))] (.split (.cmp .lt (.var 17) (.len (.var 2))) (.ob (.cmp .le (.lit 0) (.var 17)) (.ob (.cmp .lt (.var 17) (.len (.var 2))) (.call 75 [(.arr 97 (.var 0)), (.int (.var 1)), (.arr 70 (.var 2)), (.int (.var 3)), (.int (.var 4)), (.int (.var 5)), (.int (.var 6)), (.int (.var 7)), (.int (.var 8)), (.int (.var 9)), (.int (.var 10)), (.int (.var 11)), (.arr 70 (.var 12)), (.int (.var 13)), (.int (.cell (.var 2) (.var 17) 0))] (.call 79 [(.int (.var 15)), (.int (.var 16)), (.int (.var 18)), (.int (.var 19))] trest_1)))) (.ret [(.int (.lit 0)), (.int (.lit 0)), (.int (.lit 0)), (.int (.lit 0)), (.int (.lit 0))])))))
def trest : Tree :=
  (.call 75 [(.arr 97 (.var 0)), (.int (.var 1)), (.arr 70 (.var 2)), (.int (.var 3)), (.int (.var 4)), (.int (.var 5)), (.int (.var 6)), (.int (.var 7)), (.int (.var 8)), (.int (.var 9)), (.int (.var 10)), (.int (.var 11)), (.arr 70 (.var 12)), (.int (.var 13)), (.int (.var 13))] trest_2)
noncomputable def flkends : List (Nat × Func) := [(49, Try.f49)]
theorem fxkends : ∀ p ∈ flkends, FnOK p := fns_cons ⟨Try.func49, ⟨_, Try.func49, by decide, rfl⟩⟩ (fns_nil)
noncomputable def ckends : Cx := tab5.only [48, 58, 30, 53] (fun _ => []) flkends 1 [] (fun _ => none)
def tkends : Tree :=
  (.call 48 [(.arr 97 (.var 0)), (.int (.var 1)), (.arr 70 (.var 2)), (.int (.var 3)), (.int (.var 4)), (.int (.var 5)), (.int (.var 6)), (.int (.var 7)), (.int (.var 8)), (.int (.var 9)), (.int (.var 10)), (.int (.var 11))] (.split (.cmp .ne (.var 12) (.lit 0)) (.ret [(.int (.lit 0)), (.int (.lit 0)), (.int (.lit 0)), (.int (.lit 0)), (.int (.lit 0)), (.int (.var 12))]) (.dfn .nil (.dfn .nil (.dfn .nil (.call 58 [(.arr 97 (.var 0))] (.call 30 [(.arr 97 (.var 0))] (.call 53 [(.arr 97 (.var 0)), (.int (.var 1)), (.arr 70 (.var 2)), (.int (.var 3)), (.int (.var 4)), (.int (.var 5)), (.int (.var 6)), (.int (.var 7)), (.int (.var 8)), (.int (.var 9)), (.int (.var 10)), (.int (.var 11)), (.arr 70 (.var 16)), (.int (.var 17))] (.ret [(.int (.var 18)), (.int (.var 19)), (.int (.var 20)), (.int (.var 21)), (.int (.var 22)), (.int (.lit 0))])))))))))
end Go.Proofs.Ytmdmgpikbebejaa
/- Kill: what comes of a moment; of kill mud alone. -/
namespace Go.Proofs.Ytmdmgpikbebejaa
open Go.RowKit
set_option linter.unusedSimpArgs false
set_option linter.unusedVariables false

theorem exc_ok : tab5.ok 84 := by
  refine Tab.of_ct rfl rfl ⟨_, Try.func84, by decide, rfl⟩ ?_ ctF_det
  refine ct_ok (cx := cexc) (Tab.cx_ok all_nil) Try.func84 (bds := []) (T := texc) (by kernel_rfl) ?_
  unfold texc
  simp only [VC, allC, List.map_cons, List.map_nil, List.length_cons, List.length_nil, List.getElem?_cons_zero, List.getElem?_cons_succ, List.cons.injEq, C.i.injEq, C.b.injEq, and_true, true_and, forall_const, kindsOf_nil, kindsOf_lf, kindsOf_agg, kindsOf_box, boxKinds_nil, boxKinds_lf, boxKinds_agg, boxKinds_box, List.append_nil, List.cons_append, List.nil_append, den_cmp_le, den_cmp_lt, den_cmp_eq, den_cmp_ne, den_cmp_le', den_cmp_lt', den_cmp_eq', den_cmp_ne', den_and, den_and', den_or, den_or', den_not, den_not', den_blit, den_of, ev_var, at_0, at_1, at_2, at_3, at_4, at_5, at_6, at_7, at_skip, c_int, c_bool, c_arr, c_cnt, c_vec, ev_nil, ev_join, ev_sub3, loc_s, int_i, bool_b, rows_s, cs_nil, cs_cons, E.den_lit, E.den_var, E.den_add, E.den_sub, E.den_mul, E.den_quo, E.den_rem, E.den_max, E.den_min, E.den_len, E.den_wr, E.den_cell, Nat.reduceAdd, ctOverP, ctF, rangeSh, n_, kn_]
  intro a _ _ b _ _ l _ _
  refine ⟨bds_nil _, fun h => ?_, fun h => ⟨fun h2 => ?_, fun h2 => ?_⟩⟩
  · show (2 : Int) = overP (a, b) l
    unfold overP; rw [if_pos h]
  · show (3 : Int) = overP (a, b) l
    unfold overP; rw [if_neg (show ¬ l < a by omega), if_pos h2]
  · show (0 : Int) = overP (a, b) l
    unfold overP; rw [if_neg (show ¬ l < a by omega), if_neg (show ¬ l < b by omega)]
theorem orO_no {a b : Oc} (h : a.is = 0) : orO a b = b := if_pos h
theorem orO_yes {a b : Oc} (h : a.is ≠ 0) : orO a b = a := if_neg h
/-- The rounds of a loop over outcomes. -/
theorem firstO_no {f : Nat → Oc} {n i : Nat} (h : (f i).is = 0) : firstO f (n + 1) i = firstO f n (i + 1) := by rw [firstO, orO_no h]
theorem firstO_yes {f : Nat → Oc} {n i : Nat} (h : (f i).is ≠ 0) : firstO f (n + 1) i = f i := by rw [firstO, orO_yes h]
theorem pts_len (j : Jb) (s e : Int) : (momentV j s e).pts.length = j.w.points.length := by
  unfold momentV
  split
  · simp [pushedV]
  · simp [risingV]
theorem mul_kn {j : Jb} (hf : JF j) {a : Int} (h : 0 ≤ a ∧ a ≤ 1048576) : 0 ≤ j.p.weight * a ∧ j.p.weight * a ≤ 41943040000 := mul_bd hf.pweight h.1 h.2
theorem look_ok : tab5.ok 63 := by
  refine Tab.of_ct rfl rfl ⟨_, Try.func63, by decide, rfl⟩ ?_ ctF_det
  refine ct_ok (cx := clook) (Tab.cx_ok (all_cons (up5_ok (up4_ok (up3_ok botj_ok))) (all_cons (up5_ok (up4_ok moment_ok)) (all_cons exc_ok all_nil)))) Try.func63 (bds := []) (T := tlook) (by kernel_rfl) ?_
  have h1 : clook.ct 45 = some ctBotJ := rfl
  have h2 : clook.ct 50 = some ctMoment := rfl
  have h3 : clook.ct 84 = some ctOverP := rfl
  unfold tlook
  simp only [VC, allC, List.map_cons, List.map_nil, List.length_cons, List.length_nil, List.getElem?_cons_zero, List.getElem?_cons_succ, List.cons.injEq, C.i.injEq, C.b.injEq, and_true, true_and, forall_const, kindsOf_nil, kindsOf_lf, kindsOf_agg, kindsOf_box, boxKinds_nil, boxKinds_lf, boxKinds_agg, boxKinds_box, List.append_nil, List.cons_append, List.nil_append, den_cmp_le, den_cmp_lt, den_cmp_eq, den_cmp_ne, den_cmp_le', den_cmp_lt', den_cmp_eq', den_cmp_ne', den_and, den_and', den_or, den_or', den_not, den_not', den_blit, den_of, ev_var, at_0, at_1, at_2, at_3, at_4, at_5, at_6, at_7, at_skip, c_int, c_bool, c_arr, c_cnt, c_vec, ev_nil, ev_join, ev_sub3, loc_s, int_i, bool_b, rows_s, cs_nil, cs_cons, E.den_lit, E.den_var, E.den_add, E.den_sub, E.den_mul, E.den_quo, E.den_rem, E.den_max, E.den_min, E.den_len, E.den_wr, E.den_cell, Nat.reduceAdd, h1, ctBotJ, ctLook, ctF, jobSh, n_, ocC]
  intro u1 r1 _ _ _ w _ _ u2 r2 _ _ _ li _ _ pi _ _ st _ _ ka _ _ kb _ _ kc _ _ kd _ _ v _ _ po _ _ u3 r3 _ _ _ ro _ _ s _ _ e _ _ h
  obtain ⟨hok, hs, he⟩ := h
  obtain ⟨j, hj⟩ : ∃ j, j = jobOf [C.s u1 r1, C.i w, C.s u2 r2, C.i li, C.i pi, C.i st, C.i ka, C.i kb, C.i kc, C.i kd, C.i v, C.i po, C.s u3 r3, C.i ro] 0 := ⟨_, rfl⟩
  have hf : JF j := by rw [hj]; exact JobOK.jf (cs := [C.s u1 r1, C.i w, C.s u2 r2, C.i li, C.i pi, C.i st, C.i ka, C.i kb, C.i kc, C.i kd, C.i v, C.i po, C.s u3 r3, C.i ro, C.i s, C.i e]) (i := 0) hok
  have hv : jobV j = 0 := by rw [hj]; exact hok.1
  rw [show jobOf [C.s u1 r1, C.i w, C.s u2 r2, C.i li, C.i pi, C.i st, C.i ka, C.i kb, C.i kc, C.i kd, C.i v, C.i po, C.s u3 r3, C.i ro, C.i s, C.i e] 0 = j from hj.symm]
  obtain ⟨v1, v2, v3⟩ := jobV_iff.1 hv
  have e1 : j.p = ⟨ka, kb, kc, kd⟩ := by rw [hj]; rfl
  have e2 : j.k = ⟨v, po⟩ := by rw [hj]; rfl
  have e3 : j.w.points = knots r2 := by rw [hj]; rfl
  have e4 : j.w.limit = li := by rw [hj]; rfl
  refine ⟨bds_nil _, ⟨by rw [e1] at v2; exact v2, by rw [e2] at v3; exact v3, he.1, he.2⟩, fun b _ _ hb => ?_⟩
  have hb : b = botV j.p j.k e := by rw [e1, e2]; exact hb
  unfold tlook_4
  simp only [VC, allC, List.map_cons, List.map_nil, List.length_cons, List.length_nil, List.getElem?_cons_zero, List.getElem?_cons_succ, List.cons.injEq, C.i.injEq, C.b.injEq, and_true, true_and, forall_const, kindsOf_nil, kindsOf_lf, kindsOf_agg, kindsOf_box, boxKinds_nil, boxKinds_lf, boxKinds_agg, boxKinds_box, List.append_nil, List.cons_append, List.nil_append, den_cmp_le, den_cmp_lt, den_cmp_eq, den_cmp_ne, den_cmp_le', den_cmp_lt', den_cmp_eq', den_cmp_ne', den_and, den_and', den_or, den_or', den_not, den_not', den_blit, den_of, ev_var, at_0, at_1, at_2, at_3, at_4, at_5, at_6, at_7, at_skip, c_int, c_bool, c_arr, c_cnt, c_vec, ev_nil, ev_join, ev_sub3, loc_s, int_i, bool_b, rows_s, cs_nil, cs_cons, E.den_lit, E.den_var, E.den_add, E.den_sub, E.den_mul, E.den_quo, E.den_rem, E.den_max, E.den_min, E.den_len, E.den_wr, E.den_cell, Nat.reduceAdd, h2, ctMoment, jobSh, momSh, momKs, n_]
  refine ⟨fun hlt => ?_, fun hge => ⟨⟨hok, hs, he⟩, ?_⟩⟩
  · unfold lookV
    rw [if_pos (by rw [← hb, e2]; exact hlt)]
    exact ⟨rfl, rfl, rfl, rfl, rfl⟩
  · rintro a1 _ _ a2 _ _ a3 _ _ a4 _ _ a5 _ _ a6 _ _ a7 _ _ va ra _ _ _ hm
    have hm := mo_inv (x := momentV j s e) (by rw [hj]; exact hm)
    have hbx := mom_box hf hs he
    have hl : lookV j s e = lookM j (momentV j s e) s e := by
      unfold lookV
      rw [if_neg (by rw [← hb, e2]; show ¬ b < po; omega)]
    rw [hl]
    have hpl := pts_len j s e
    generalize momentV j s e = x at *
    obtain ⟨p1, p2, p3, p4, p5, p6, p7, p8⟩ := hm
    have lra : (ra.length : Int) = r2.length := by rw [← knots_len2, p8, hpl, e3, knots_len2]
    have hsf := hbx.surf
    unfold KnB at hsf
    rw [← p6, ← p7] at hsf
    unfold tlook_3
    simp only [VC, allC, List.map_cons, List.map_nil, List.length_cons, List.length_nil, List.getElem?_cons_zero, List.getElem?_cons_succ, List.cons.injEq, C.i.injEq, C.b.injEq, and_true, true_and, forall_const, kindsOf_nil, kindsOf_lf, kindsOf_agg, kindsOf_box, boxKinds_nil, boxKinds_lf, boxKinds_agg, boxKinds_box, List.append_nil, List.cons_append, List.nil_append, den_cmp_le, den_cmp_lt, den_cmp_eq, den_cmp_ne, den_cmp_le', den_cmp_lt', den_cmp_eq', den_cmp_ne', den_and, den_and', den_or, den_or', den_not, den_not', den_blit, den_of, ev_var, at_0, at_1, at_2, at_3, at_4, at_5, at_6, at_7, at_skip, c_int, c_bool, c_arr, c_cnt, c_vec, ev_nil, ev_join, ev_sub3, loc_s, int_i, bool_b, rows_s, cs_nil, cs_cons, E.den_lit, E.den_var, E.den_add, E.den_sub, E.den_mul, E.den_quo, E.den_rem, E.den_max, E.den_min, E.den_len, E.den_wr, E.den_cell, Nat.reduceAdd, h3, ctOverP, ctF, rangeSh, n_, kn_, ev_cell, kn1, kn2]
    refine ⟨fun xs => match xs with | [.i i] => 0 ≤ i ∧ i ≤ r2.length ∧ firstO (fracO j x s e) j.w.points.length 0 = firstO (fracO j x s e) (j.w.points.length - i.toNat) i.toNat | _ => False, fun xs => match xs with | [.i i] => ((r2.length : Int) - i).toNat | _ => 0, ⟨by omega, by omega, rfl⟩, ?_⟩
    rintro i _ _ ⟨i0, i1, hI⟩
    have hwl : j.w.points.length = r2.length := by rw [e3, knots_len2]
    refine ⟨fun hlt => ⟨i0, hlt, by omega, ?_⟩, fun hge2 => ⟨by omega, by omega, by omega, by omega, ?_⟩⟩
    · rintro o _ _ ho
      have hfr : fracO j x s e i.toNat = ⟨o, s, e, 2, i⟩ := by
        unfold fracO
        rw [e3, ← p8, ho, show ((i.toNat : Nat) : Int) = i by omega]
      rw [show j.w.points.length - i.toNat = (j.w.points.length - (i + 1).toNat) + 1 by omega] at hI
      refine ⟨fun hne => ?_, fun h0 => ⟨⟨by omega, by omega, ?_⟩, ?_⟩⟩
      · rw [firstO_yes (by rw [hfr]; exact hne), hfr] at hI
        unfold lookM
        rw [hI, orO_yes (by exact hne)]
        exact ⟨rfl, rfl, rfl, rfl, rfl⟩
      · rw [firstO_no (by rw [hfr]; exact h0)] at hI
        rw [show (i + 1).toNat = i.toNat + 1 by omega] at *
        exact hI
      · show ((r2.length : Int) - (i + 1)).toNat < ((r2.length : Int) - i).toNat; omega
    · have hI0 : firstO (fracO j x s e) j.w.points.length 0 = noOc := by
        rw [hI, show j.w.points.length - i.toNat = 0 by omega]; rfl
      rintro o _ _ ho
      unfold tlook_2
      simp only [VC, allC, List.map_cons, List.map_nil, List.length_cons, List.length_nil, List.getElem?_cons_zero, List.getElem?_cons_succ, List.cons.injEq, C.i.injEq, C.b.injEq, and_true, true_and, forall_const, kindsOf_nil, kindsOf_lf, kindsOf_agg, kindsOf_box, boxKinds_nil, boxKinds_lf, boxKinds_agg, boxKinds_box, List.append_nil, List.cons_append, List.nil_append, den_cmp_le, den_cmp_lt, den_cmp_eq, den_cmp_ne, den_cmp_le', den_cmp_lt', den_cmp_eq', den_cmp_ne', den_and, den_and', den_or, den_or', den_not, den_not', den_blit, den_of, ev_var, at_0, at_1, at_2, at_3, at_4, at_5, at_6, at_7, at_skip, c_int, c_bool, c_arr, c_cnt, c_vec, ev_nil, ev_join, ev_sub3, loc_s, int_i, bool_b, rows_s, cs_nil, cs_cons, E.den_lit, E.den_var, E.den_add, E.den_sub, E.den_mul, E.den_quo, E.den_rem, E.den_max, E.den_min, E.den_len, E.den_wr, E.den_cell, Nat.reduceAdd, h3, ctOverP, ctF, rangeSh, n_, kn_]
      have hx1 : overP (-x.surf.2, -x.surf.1) 0 = o := by rw [ho, ← p6, ← p7, Int.zero_sub, Int.zero_sub]
      unfold lookM
      rw [hI0, orO_no rfl, hx1]
      refine ⟨fun hne => by rw [orO_yes (by exact hne)]; exact ⟨rfl, rfl, rfl, rfl, rfl⟩, fun h0 => ?_⟩
      rintro o2 _ _ ho2
      unfold tlook_1
      simp only [VC, allC, List.map_cons, List.map_nil, List.length_cons, List.length_nil, List.getElem?_cons_zero, List.getElem?_cons_succ, List.cons.injEq, C.i.injEq, C.b.injEq, and_true, true_and, forall_const, kindsOf_nil, kindsOf_lf, kindsOf_agg, kindsOf_box, boxKinds_nil, boxKinds_lf, boxKinds_agg, boxKinds_box, List.append_nil, List.cons_append, List.nil_append, den_cmp_le, den_cmp_lt, den_cmp_eq, den_cmp_ne, den_cmp_le', den_cmp_lt', den_cmp_eq', den_cmp_ne', den_and, den_and', den_or, den_or', den_not, den_not', den_blit, den_of, ev_var, at_0, at_1, at_2, at_3, at_4, at_5, at_6, at_7, at_skip, c_int, c_bool, c_arr, c_cnt, c_vec, ev_nil, ev_join, ev_sub3, loc_s, int_i, bool_b, rows_s, cs_nil, cs_cons, E.den_lit, E.den_var, E.den_add, E.den_sub, E.den_mul, E.den_quo, E.den_rem, E.den_max, E.den_min, E.den_len, E.den_wr, E.den_cell, Nat.reduceAdd]
      have hx2 : overP x.surf j.w.limit = o2 := by rw [ho2, p6, p7, e4]
      rw [orO_no (by exact h0), hx2]
      exact ⟨fun hne => by rw [orO_yes (by exact hne)]; exact ⟨rfl, rfl, rfl, rfl, rfl⟩, fun h0 => by rw [orO_no (by exact h0)]; exact ⟨rfl, rfl, rfl, rfl, rfl⟩⟩
theorem kn_inv {a b : Int} {x : Kn} (h : ([.i a, .i b] : List C) = ofKn x) : x = (a, b) := by
  obtain ⟨c, d⟩ := x
  rw [kn_den] at h
  injection h with h1 h2
  injection h2 with h2 _
  injection h1 with h1
  injection h2 with h2
  rw [h1, h2]
theorem rest_ok : tab5.ok 64 := by
  refine Tab.of_ct rfl rfl ⟨_, Try.func64, by decide, rfl⟩ ?_ ctF_det
  refine ct_ok (cx := crest) (Tab.cx_ok (all_cons (up5_ok (up4_ok jht_ok)) (all_cons (up5_ok (up4_ok less_ok)) (all_cons exc_ok all_nil)))) Try.func64 (bds := []) (T := trest) (by kernel_rfl) ?_
  have h1 : crest.ct 75 = some ctJHeight := rfl
  have h2 : crest.ct 79 = some ctLess := rfl
  have h3 : crest.ct 84 = some ctOverP := rfl
  unfold trest
  simp only [VC, allC, List.map_cons, List.map_nil, List.length_cons, List.length_nil, List.getElem?_cons_zero, List.getElem?_cons_succ, List.cons.injEq, C.i.injEq, C.b.injEq, and_true, true_and, forall_const, kindsOf_nil, kindsOf_lf, kindsOf_agg, kindsOf_box, boxKinds_nil, boxKinds_lf, boxKinds_agg, boxKinds_box, List.append_nil, List.cons_append, List.nil_append, den_cmp_le, den_cmp_lt, den_cmp_eq, den_cmp_ne, den_cmp_le', den_cmp_lt', den_cmp_eq', den_cmp_ne', den_and, den_and', den_or, den_or', den_not, den_not', den_blit, den_of, ev_var, at_0, at_1, at_2, at_3, at_4, at_5, at_6, at_7, at_skip, c_int, c_bool, c_arr, c_cnt, c_vec, ev_nil, ev_join, ev_sub3, loc_s, int_i, bool_b, rows_s, cs_nil, cs_cons, E.den_lit, E.den_var, E.den_add, E.den_sub, E.den_mul, E.den_quo, E.den_rem, E.den_max, E.den_min, E.den_len, E.den_wr, E.den_cell, Nat.reduceAdd, h1, ctJHeight, ctRest, ctF, jobSh, rangeSh, n_, k_, ocC]
  intro u1 r1 _ _ _ w _ _ u2 r2 _ _ _ li _ _ pi _ _ st _ _ ka _ _ kb _ _ kc _ _ kd _ _ v _ _ po _ _ u3 r3 _ _ _ ro _ _ s _ _ h
  obtain ⟨hok, hs⟩ := h
  obtain ⟨j, hj⟩ : ∃ j, j = jobOf [C.s u1 r1, C.i w, C.s u2 r2, C.i li, C.i pi, C.i st, C.i ka, C.i kb, C.i kc, C.i kd, C.i v, C.i po, C.s u3 r3, C.i ro] 0 := ⟨_, rfl⟩
  have hf : JF j := by rw [hj]; exact JobOK.jf (cs := [C.s u1 r1, C.i w, C.s u2 r2, C.i li, C.i pi, C.i st, C.i ka, C.i kb, C.i kc, C.i kd, C.i v, C.i po, C.s u3 r3, C.i ro, C.i s]) (i := 0) hok
  have hv : jobV j = 0 := by rw [hj]; exact hok.1
  rw [show jobOf [C.s u1 r1, C.i w, C.s u2 r2, C.i li, C.i pi, C.i st, C.i ka, C.i kb, C.i kc, C.i kd, C.i v, C.i po, C.s u3 r3, C.i ro, C.i s] 0 = j from hj.symm]
  have e1 : j.p = ⟨ka, kb, kc, kd⟩ := by rw [hj]; rfl
  have e2 : j.k = ⟨v, po⟩ := by rw [hj]; rfl
  have e3 : j.w.points = knots r2 := by rw [hj]; rfl
  have hline : knots r3 = heightV j.w.segs := by rw [hj]; exact hok.2.1
  have hro : ro = volV j.w.segs := by rw [hj]; exact hok.2.2
  have hht : ∀ u, atV (knots r3) u = htV j.w.segs u := fun u => by rw [hline]; rfl
  have h0 := ht_ok hf.hole
  refine ⟨bds_nil _, ?_⟩
  rintro a1 _ _ a2 _ _ ha
  have ha : [C.i a1, C.i a2] = ofKn (atV (knots r3) ro) := by rw [← ha]
  rw [hht, hro] at ha
  have ea : allV j = (a1, a2) := kn_inv ha
  have hb := h0 (volV j.w.segs)
  rw [show htV j.w.segs (volV j.w.segs) = (a1, a2) from ea] at hb
  obtain ⟨b1, b2, b3, b4⟩ := hb
  have m1 := mul_kn hf ⟨b1, b2⟩
  have e5 : j.p.weight = kb := by rw [e1]
  rw [e5] at m1
  have hwl : j.w.points.length = r2.length := by rw [e3, knots_len2]
  unfold trest_2
  simp only [VC, allC, List.map_cons, List.map_nil, List.length_cons, List.length_nil, List.getElem?_cons_zero, List.getElem?_cons_succ, List.cons.injEq, C.i.injEq, C.b.injEq, and_true, true_and, forall_const, kindsOf_nil, kindsOf_lf, kindsOf_agg, kindsOf_box, boxKinds_nil, boxKinds_lf, boxKinds_agg, boxKinds_box, List.append_nil, List.cons_append, List.nil_append, den_cmp_le, den_cmp_lt, den_cmp_eq, den_cmp_ne, den_cmp_le', den_cmp_lt', den_cmp_eq', den_cmp_ne', den_and, den_and', den_or, den_or', den_not, den_not', den_blit, den_of, ev_var, at_0, at_1, at_2, at_3, at_4, at_5, at_6, at_7, at_skip, c_int, c_bool, c_arr, c_cnt, c_vec, ev_nil, ev_join, ev_sub3, loc_s, int_i, bool_b, rows_s, cs_nil, cs_cons, E.den_lit, E.den_var, E.den_add, E.den_sub, E.den_mul, E.den_quo, E.den_rem, E.den_max, E.den_min, E.den_len, E.den_wr, E.den_cell, Nat.reduceAdd, h1, h2, ctJHeight, ctLess, ctF, jobSh, rangeSh, n_, k_, kn_, ev_cell, kn1, kn2]
  refine ⟨by simp only [] at m1; omega, fun hlt => ?_, fun hge => ?_⟩
  · unfold deadV
    rw [ea, e5, e2, if_pos hlt]
    exact ⟨rfl, rfl, rfl, rfl, rfl⟩
  · have hd : deadV j s = firstO (deadO j s) j.w.points.length 0 := by
      unfold deadV
      rw [ea, e5, e2, if_neg (show ¬ kb * a1 < po by omega)]
    rw [hd]
    refine ⟨fun xs => match xs with | [.i i] => 0 ≤ i ∧ i ≤ r2.length ∧ firstO (deadO j s) j.w.points.length 0 = firstO (deadO j s) (j.w.points.length - i.toNat) i.toNat | _ => False, fun xs => match xs with | [.i i] => ((r2.length : Int) - i).toNat | _ => 0, ⟨by omega, by omega, rfl⟩, ?_⟩
    rintro i _ _ ⟨i0, i1, hI⟩
    refine ⟨fun hlt => ⟨i0, hlt, ?_⟩, fun hge2 => ?_⟩
    · rintro c1 _ _ c2 _ _ hc
      have hc : [C.i c1, C.i c2] = ofKn (atV (knots r3) ((knots r2).getD i.toNat (0, 0)).1) := by rw [← hc]
      rw [hht] at hc
      have ec := kn_inv hc
      have hcb := h0 ((knots r2).getD i.toNat (0, 0)).1
      rw [ec] at hcb
      refine ⟨⟨⟨b1, b2, b3, b4⟩, hcb⟩, ?_⟩
      rintro d1 _ _ d2 _ _ hdd
      have hdd : [C.i d1, C.i d2] = ofKn (lessK (a1, a2) (c1, c2)) := by rw [← hdd]
      have ed := kn_inv hdd
      have hlb := less_ht ⟨b1, b2, b3, b4⟩ hcb
      rw [ed] at hlb
      obtain ⟨l1, l2, l3, l4⟩ := hlb
      have m2 := mul_kn hf ⟨l1, l2⟩
      have m3 := mul_kn hf ⟨l3, l4⟩
      rw [e5] at m2 m3
      unfold trest_1
      simp only [VC, allC, List.map_cons, List.map_nil, List.length_cons, List.length_nil, List.getElem?_cons_zero, List.getElem?_cons_succ, List.cons.injEq, C.i.injEq, C.b.injEq, and_true, true_and, forall_const, kindsOf_nil, kindsOf_lf, kindsOf_agg, kindsOf_box, boxKinds_nil, boxKinds_lf, boxKinds_agg, boxKinds_box, List.append_nil, List.cons_append, List.nil_append, den_cmp_le, den_cmp_lt, den_cmp_eq, den_cmp_ne, den_cmp_le', den_cmp_lt', den_cmp_eq', den_cmp_ne', den_and, den_and', den_or, den_or', den_not, den_not', den_blit, den_of, ev_var, at_0, at_1, at_2, at_3, at_4, at_5, at_6, at_7, at_skip, c_int, c_bool, c_arr, c_cnt, c_vec, ev_nil, ev_join, ev_sub3, loc_s, int_i, bool_b, rows_s, cs_nil, cs_cons, E.den_lit, E.den_var, E.den_add, E.den_sub, E.den_mul, E.den_quo, E.den_rem, E.den_max, E.den_min, E.den_len, E.den_wr, E.den_cell, Nat.reduceAdd, h3, ctOverP, ctF, rangeSh, n_, kn_, ev_cell, kn1, kn2]
      simp only [] at m2 m3
      refine ⟨by omega, by omega, by omega, by omega, ?_⟩
      rintro o _ _ ho
      have hfr : deadO j s i.toNat = ⟨o, s, 0, 5, i⟩ := by
        unfold deadO leftV
        rw [e3, ea, ec, ed, e5, ho, show ((i.toNat : Nat) : Int) = i by omega]
      rw [show j.w.points.length - i.toNat = (j.w.points.length - (i + 1).toNat) + 1 by omega] at hI
      refine ⟨fun hne => ?_, fun h0 => ⟨⟨by omega, by omega, ?_⟩, ?_⟩⟩
      · rw [firstO_yes (by rw [hfr]; exact hne), hfr] at hI
        rw [hI]
        exact ⟨rfl, rfl, rfl, rfl, rfl⟩
      · rw [firstO_no (by rw [hfr]; exact h0)] at hI
        rw [show (i + 1).toNat = i.toNat + 1 by omega] at *
        exact hI
      · show ((r2.length : Int) - (i + 1)).toNat < ((r2.length : Int) - i).toNat; omega
    · rw [hI, show j.w.points.length - i.toNat = 0 by omega]
      exact ⟨rfl, rfl, rfl, rfl, rfl⟩
end Go.Proofs.Ytmdmgpikbebejaa
/- Kill: the last step; the outcome. -/
namespace Go.Proofs.Ytmdmgpikbebejaa
open Go.RowKit
set_option linter.unusedSimpArgs false
set_option linter.unusedVariables false

/-! Plain: the last step -/
theorem over_last {j : Jb} {k : Nat} (hk : k ≤ lastN j) (h : overS j k = true) : k = lastN j := by
  rcases Nat.lt_or_eq_of_le hk with h1 | h1
  · have := firstN_no (overS j) 400 0 k (Nat.zero_le _) h1
    rw [h] at this; cases this
  · exact h1
theorem last_none {j : Jb} (h : overS j (lastN j) = false) : lastN j = 400 := by
  have h1 := lastN_le j
  rcases Nat.lt_or_ge (lastN j) 400 with h2 | h2
  · have := firstN_yes (overS j) 400 0 (by unfold lastN at h2; omega)
    unfold lastN at h
    rw [this] at h; cases h
  · omega
theorem firstO_all {f : Nat → Oc} : ∀ (n i : Nat), (∀ k, i ≤ k → k < i + n → (f k).is = 0) → firstO f n i = noOc
  | 0, _, _ => rfl
  | n + 1, i, h => by
    rw [firstO_no (h i (Nat.le_refl _) (by omega))]
    exact firstO_all n (i + 1) fun k h1 h2 => h k (by omega) (by omega)
theorem firstO_at {f : Nat → Oc} : ∀ (n i k : Nat), i ≤ k → k < i + n → (∀ m, i ≤ m → m < k → (f m).is = 0) → (f k).is ≠ 0 → firstO f n i = f k
  | 0, _, _, h1, h2, _, _ => by omega
  | n + 1, i, k, h1, h2, h, hk => by
    by_cases e : i = k
    · subst e; rw [firstO_yes hk]
    · rw [firstO_no (h i (Nat.le_refl _) (by omega))]
      exact firstO_at n (i + 1) k (by omega) (by omega) (fun m h3 h4 => h m (by omega) h4) hk
theorem stepO_at {j : Jb} {k : Nat} {e : Int} (h0 : -1 ≤ e) (h1 : e ≤ 1) (h : ∀ d, -1 ≤ d → d < e → (lookV j (k : Int) d).is = 0) (hk : (lookV j (k : Int) e).is ≠ 0) : stepO j k = lookV j (k : Int) e := by
  unfold stepO
  rcases (show e = -1 ∨ e = 0 ∨ e = 1 by omega) with rfl | rfl | rfl
  · rw [orO_yes hk]
  · rw [orO_no (h (-1) (by decide) (by decide)), orO_yes hk]
  · rw [orO_no (h (-1) (by decide) (by decide)), orO_no (h 0 (by decide) (by decide))]
theorem stepO_zero {j : Jb} {k : Nat} (h : ∀ d, -1 ≤ d → d < 2 → (lookV j (k : Int) d).is = 0) : (stepO j k).is = 0 := by
  unfold stepO
  rw [orO_no (h (-1) (by decide) (by decide)), orO_no (h 0 (by decide) (by decide))]
  exact h 1 (by decide) (by decide)
/-! The last step -/
theorem job_pre {cs xs : List C} (hcs : CTy Try.prog jobKs cs) : cs_ (cs ++ xs) jobLfs = cs := by
  have hl : cs.length = 14 := hcs.len
  refine Eq.trans (cs_ext (nb := 1) (ks := jobKs) rfl ?_) ?_
  · rw [hl]; decide
  · suffices key : allC Try.prog jobKs (fun cs => cs_ cs jobLfs = cs) from allC_elim key cs hcs
    unfold jobKs
    simp only [VC, allC, List.map_cons, List.map_nil, List.length_cons, List.length_nil, List.getElem?_cons_zero, List.getElem?_cons_succ, List.cons.injEq, C.i.injEq, C.b.injEq, and_true, true_and, forall_const, kindsOf_nil, kindsOf_lf, kindsOf_agg, kindsOf_box, boxKinds_nil, boxKinds_lf, boxKinds_agg, boxKinds_box, List.append_nil, List.cons_append, List.nil_append, den_cmp_le, den_cmp_lt, den_cmp_eq, den_cmp_ne, den_cmp_le', den_cmp_lt', den_cmp_eq', den_cmp_ne', den_and, den_and', den_or, den_or', den_not, den_not', den_blit, den_of, ev_var, at_0, at_1, at_2, at_3, at_4, at_5, at_6, at_7, at_skip, c_int, c_bool, c_arr, c_cnt, c_vec, ev_nil, ev_join, ev_sub3, loc_s, int_i, bool_b, rows_s, cs_nil, cs_cons, E.den_lit, E.den_var, E.den_add, E.den_sub, E.den_mul, E.den_quo, E.den_rem, E.den_max, E.den_min, E.den_len, E.den_wr, E.den_cell, Nat.reduceAdd]
    intro v0 r0 _ _ _ n1 _ _ v2 r2 _ _ _ n3 _ _ n4 _ _ n5 _ _ n6 _ _ n7 _ _ n8 _ _ n9 _ _ n10 _ _ n11 _ _ v12 r12 _ _ _ n13 _ _
    rfl
end Go.Proofs.Ytmdmgpikbebejaa
/- Kill: the outcome; the document's Last and Ends. -/
namespace Go.Proofs.Ytmdmgpikbebejaa
open Go.RowKit
set_option linter.unusedSimpArgs false
set_option linter.unusedVariables false

theorem ends_at {j : Jb} {k : Nat} (hk : k ≤ lastN j) (h : ∀ i, i < k → (stepO j i).is = 0) (h1 : (stepO j k).is ≠ 0) : endsV j = stepO j k := by
  unfold endsV
  rw [firstO_at (lastN j + 1) 0 k (Nat.zero_le _) (by omega) (fun m _ hm => h m hm) h1, orO_yes h1]
theorem ends_end {j : Jb} (h : ∀ i, i < lastN j + 1 → (stepO j i).is = 0) : endsV j = endO j := by
  unfold endsV
  rw [firstO_all _ _ fun k _ hk => h k (by omega), orO_no rfl]
theorem ends2_vc {cs : List C} (hcs : CTy Try.prog jobKs cs) (hok : JobOK cs 0) {k : Nat} (hk : k ≤ lastN (jobOf cs 0)) (h : ∀ i, i < k → (stepO (jobOf cs 0) i).is = 0 ∧ overS (jobOf cs 0) i = false) :
    VC cends2 (ctJEnds.post cs) tends2 (cs ++ [] ++ stepEl (jobOf cs 0) k) [fun xs => xs = [] ∧ ∀ i, i < k + 1 → (stepO (jobOf cs 0) i).is = 0 ∧ overS (jobOf cs 0) i = false] := by
  have hpost : ctJEnds.post cs = fun rs => rs = ocC (endsV (jobOf cs 0)) := rfl
  rw [hpost]
  suffices key : allC Try.prog jobKs (fun cs => ∀ j, j = jobOf cs 0 → JobOK cs 0 → k ≤ lastN j → (∀ i, i < k → (stepO j i).is = 0 ∧ overS j i = false) → VC cends2 (fun rs => rs = ocC (endsV j)) tends2 (cs ++ [] ++ stepEl j k) [fun xs => xs = [] ∧ ∀ i, i < k + 1 → (stepO j i).is = 0 ∧ overS j i = false]) from allC_elim key cs hcs _ rfl hok hk h
  clear hpost hcs hok hk h
  have h1 : cends2.ct 63 = some ctLook := rfl
  have h2 : cends2.ct 64 = some ctRest := rfl
  unfold tends2 jobKs stepEl
  simp only [VC, allC, List.map_cons, List.map_nil, List.length_cons, List.length_nil, List.getElem?_cons_zero, List.getElem?_cons_succ, List.cons.injEq, C.i.injEq, C.b.injEq, and_true, true_and, forall_const, kindsOf_nil, kindsOf_lf, kindsOf_agg, kindsOf_box, boxKinds_nil, boxKinds_lf, boxKinds_agg, boxKinds_box, List.append_nil, List.cons_append, List.nil_append, den_cmp_le, den_cmp_lt, den_cmp_eq, den_cmp_ne, den_cmp_le', den_cmp_lt', den_cmp_eq', den_cmp_ne', den_and, den_and', den_or, den_or', den_not, den_not', den_blit, den_of, ev_var, at_0, at_1, at_2, at_3, at_4, at_5, at_6, at_7, at_skip, c_int, c_bool, c_arr, c_cnt, c_vec, ev_nil, ev_join, ev_sub3, loc_s, int_i, bool_b, rows_s, cs_nil, cs_cons, E.den_lit, E.den_var, E.den_add, E.den_sub, E.den_mul, E.den_quo, E.den_rem, E.den_max, E.den_min, E.den_len, E.den_wr, E.den_cell, Nat.reduceAdd, h1, h2, ctLook, ctRest, ctF, jobSh, ocSh, n_, ocC, List.cons_append, List.nil_append, List.append_nil]
  intro v0 r0 _ _ _ n1 _ _ v2 r2 _ _ _ n3 _ _ n4 _ _ n5 _ _ n6 _ _ n7 _ _ n8 _ _ n9 _ _ n10 _ _ n11 _ _ v12 r12 _ _ _ n13 _ _ j hj hok hk h
  have h400 := lastN_le j
  have hs : StepOK (k : Int) := ⟨by omega, by omega⟩
  refine ⟨fun xs => match xs with | [.i e] => -1 ≤ e ∧ e ≤ 2 ∧ ∀ d, -1 ≤ d → d < e → (lookV j (k : Int) d).is = 0 | _ => False, fun xs => match xs with | [.i e] => (2 - e).toNat | _ => 0, ⟨by omega, by omega, fun d h1 h2 => by omega⟩, ?_⟩
  rintro e _ _ ⟨e0, e1, hI⟩
  refine ⟨fun hle => ⟨⟨hok, hs, e0, hle⟩, ?_⟩, fun hgt => ⟨fun ho => ⟨⟨hok, hs⟩, ?_⟩, fun ho => ?_⟩⟩
  · rintro o1 _ _ o2 _ _ o3 _ _ o4 _ _ o5 _ _ ⟨p1, p2, p3, p4, p5⟩
    have p1 : o1 = (lookV j (k : Int) e).is := by rw [hj]; exact p1
    have p2 : o2 = (lookV j (k : Int) e).step := by rw [hj]; exact p2
    have p3 : o3 = (lookV j (k : Int) e).err := by rw [hj]; exact p3
    have p4 : o4 = (lookV j (k : Int) e).why := by rw [hj]; exact p4
    have p5 : o5 = (lookV j (k : Int) e).point := by rw [hj]; exact p5
    refine ⟨fun hne => ?_, fun h0 => ⟨⟨by omega, by omega, fun d d0 d1 => ?_⟩, (show (2 - (e + 1)).toNat < (2 - e).toNat by omega)⟩⟩
    · have hs := stepO_at e0 hle hI (by rw [← p1]; exact hne)
      have he := ends_at hk (fun i hi => (h i hi).1) (by rw [hs, ← p1]; exact hne)
      rw [he, hs]
      exact ⟨p1, p2, p3, p4, p5⟩
    · rcases Int.lt_or_eq_of_le (show d ≤ e by omega) with h3 | h3
      · exact hI d d0 h3
      · rw [h3, ← p1]; exact h0
  · have hz := stepO_zero (j := j) (k := k) fun d d0 d1 => hI d d0 (by omega)
    have hkn := over_last hk ho
    have he : endsV j = orO (deadV j (k : Int)) ⟨1, (k : Int), 0, 0, 0⟩ := by
      rw [ends_end fun i hi => ?_]
      · unfold endO
        rw [← hkn, if_pos ho]
      · rcases Nat.lt_or_eq_of_le (show i ≤ k by omega) with h3 | h3
        · exact (h i h3).1
        · rw [h3]; exact hz
    rw [he]
    rintro o1 _ _ o2 _ _ o3 _ _ o4 _ _ o5 _ _ ⟨p1, p2, p3, p4, p5⟩
    have p1 : o1 = (deadV j (k : Int)).is := by rw [hj]; exact p1
    have p2 : o2 = (deadV j (k : Int)).step := by rw [hj]; exact p2
    have p3 : o3 = (deadV j (k : Int)).err := by rw [hj]; exact p3
    have p4 : o4 = (deadV j (k : Int)).why := by rw [hj]; exact p4
    have p5 : o5 = (deadV j (k : Int)).point := by rw [hj]; exact p5
    refine ⟨fun hne => ?_, fun h0 => ?_⟩
    · rw [orO_yes (by rw [← p1]; exact hne)]; exact ⟨p1, p2, p3, p4, p5⟩
    · rw [orO_no (by rw [← p1]; exact h0)]; exact ⟨rfl, rfl, rfl, rfl, rfl⟩
  · intro i hi
    rcases Nat.lt_or_eq_of_le (Nat.le_of_lt_succ hi) with h3 | h3
    · exact h i h3
    · rw [h3]; exact ⟨stepO_zero fun d d0 d1 => hI d d0 (by omega), ho⟩
theorem ends_split : bodyOf Try.f53 = pre (heads 1 (bodyOf Try.f53)) (Code.seq (.seq (.region 1 #[opN (nav [1, 0, 0] (bodyOf Try.f53)) 0, opN (nav [1, 0, 0] (bodyOf Try.f53)) 1] false) (.block 0 (.rangeFunc (.tmp endsR.d2) #[endsR.p0, endsR.p1] (rangeAssign (nav [1, 0, 1, 0] (bodyOf Try.f53))) (rangeBody (nav [1, 0, 1, 0] (bodyOf Try.f53)))))) (nav [1, 1] (bodyOf Try.f53))) := by kernel_rfl
theorem ends_t1 : execL cends2 (heads 1 (bodyOf Try.f53)) { startOf Try.f53 ctJEnds [] [] with lvl := (startOf Try.f53 ctJEnds [] []).lvl + 1 } (joinK (startOf Try.f53 ctJEnds [] []) endsS0 [] [] (endQ cends2 Try.f53 ctJEnds)) = some tends1 := by kernel_rfl
theorem ends_t2 : rgRound cends2 (endQ cends2 Try.f53 ctJEnds) endsR (rangeAssign (nav [1, 0, 1, 0] (bodyOf Try.f53))) (rangeBody (nav [1, 0, 1, 0] (bodyOf Try.f53))) = some tends2 := by kernel_rfl
theorem ends_t3 : rgTail cends2 (endQ cends2 Try.f53 ctJEnds) endsR (nav [1, 1] (bodyOf Try.f53)) = some tends3 := by kernel_rfl
theorem ends_cx : CxOK cends2 := Tab.cx_ok (all_cons look_ok (all_cons rest_ok all_nil))
theorem ends_ok : tab5.ok 53 := by
  refine Tab.of_ct rfl rfl ⟨_, Try.func53, by decide, rfl⟩ ?_ ctF_det
  refine ct_ok_marks (cx := cends2) (bds := []) ends_cx Try.func53 (c := bodyOf Try.f53) rfl ⟨by decide, by decide, by decide⟩ fun cs hcs hp => ⟨bds_nil _, fun F w0 Γ a w Q hρ hds hs hk hm => ?_⟩
  have hcs : CTy Try.prog jobKs cs := hcs
  have hp : JobOK cs 0 := hp
  rw [ends_split]
  refine pre_seg (R := ctJEnds.post cs) ends_cx (Ls := []) (I := fun _ => True) ends_t1 (by kernel_rfl) rfl (by unfold tends1; simp only [VC, allC, List.map_cons, List.map_nil, List.length_cons, List.length_nil, List.getElem?_cons_zero, List.getElem?_cons_succ, List.cons.injEq, C.i.injEq, C.b.injEq, and_true, true_and, forall_const, kindsOf_nil, kindsOf_lf, kindsOf_agg, kindsOf_box, boxKinds_nil, boxKinds_lf, boxKinds_agg, boxKinds_box, List.append_nil, List.cons_append, List.nil_append, den_cmp_le, den_cmp_lt, den_cmp_eq, den_cmp_ne, den_cmp_le', den_cmp_lt', den_cmp_eq', den_cmp_ne', den_and, den_and', den_or, den_or', den_not, den_not', den_blit, den_of, ev_var, at_0, at_1, at_2, at_3, at_4, at_5, at_6, at_7, at_skip, c_int, c_bool, c_arr, c_cnt, c_vec, ev_nil, ev_join, ev_sub3, loc_s, int_i, bool_b, rows_s, cs_nil, cs_cons, E.den_lit, E.den_var, E.den_add, E.den_sub, E.den_mul, E.den_quo, E.den_rem, E.den_max, E.den_min, E.den_len, E.den_wr, E.den_cell]) hs ?_ ?_
  · intro xs Γx a' wp hxs hI hρ' he hs'
    obtain rfl := nil_of hxs
    have hρx : Γx.ρ = cs := by rw [hρ', hρ, List.append_nil]
    refine range_fn (R := ctJEnds.post cs) ends_cx endsR (it := stepsIt) (init := []) (cs := cs) (by kernel_rfl) rfl rfl (call_op rfl callable_mksteps) rfl rfl (by kernel_rfl) rfl steps_made steps_ok callable_steps (by rw [hρx]; exact (by have := job_pre (xs := []) hcs; rw [List.append_nil] at this; exact this.symm)) hp step_el ends_t2 ends_t3 hs' he hds hm
      (fun k xs => xs = [] ∧ ∀ i, i < k → (stepO (jobOf cs 0) i).is = 0 ∧ overS (jobOf cs 0) i = false) ⟨rfl, fun i hi => by omega⟩ (fun k xs x hx hty hI => ?_) (fun xs hty hI => ?_)
    · obtain ⟨rfl, hI⟩ := hI
      obtain ⟨hk', rfl⟩ := stepEls_get (j := jobOf cs 0) hx
      rw [hρx]
      exact ends2_vc hcs hp hk' hI
    · obtain ⟨rfl, hI⟩ := hI
      have hle : (stepsIt.els cs).length = lastN (jobOf cs 0) + 1 := by simp [stepsIt, stepEls]
      rw [hle] at hI
      have h1 := (hI (lastN (jobOf cs 0)) (by omega)).2
      have h2 := last_none h1
      unfold tends3
      simp only [VC, allC, List.map_cons, List.map_nil, List.length_cons, List.length_nil, List.getElem?_cons_zero, List.getElem?_cons_succ, List.cons.injEq, C.i.injEq, C.b.injEq, and_true, true_and, forall_const, kindsOf_nil, kindsOf_lf, kindsOf_agg, kindsOf_box, boxKinds_nil, boxKinds_lf, boxKinds_agg, boxKinds_box, List.append_nil, List.cons_append, List.nil_append, den_cmp_le, den_cmp_lt, den_cmp_eq, den_cmp_ne, den_cmp_le', den_cmp_lt', den_cmp_eq', den_cmp_ne', den_and, den_and', den_or, den_or', den_not, den_not', den_blit, den_of, ev_var, at_0, at_1, at_2, at_3, at_4, at_5, at_6, at_7, at_skip, c_int, c_bool, c_arr, c_cnt, c_vec, ev_nil, ev_join, ev_sub3, loc_s, int_i, bool_b, rows_s, cs_nil, cs_cons, E.den_lit, E.den_var, E.den_add, E.den_sub, E.den_mul, E.den_quo, E.den_rem, E.den_max, E.den_min, E.den_len, E.den_wr, E.den_cell]
      show [C.i 3, C.i 400, C.i 0, C.i 6, C.i 0] = ocC (endsV (jobOf cs 0))
      rw [ends_end fun i hi => (hI i hi).1]
      unfold endO
      rw [if_neg (by rw [h1]; decide)]
      rfl
  · intro x st' T' Γ' Ls' hx hk' he hlen' hv' a' w' hs'
    exact hk x st' T' Γ' Ls' hk' he List.nil_prefix hlen' hv' a' w' hs'
/-! The document's -/
theorem endsOc_no {j : Jb} (h : jobV j ≠ 0) : endsOc j = noOc := if_neg h
theorem endsOc_yes {j : Jb} (h : jobV j = 0) : endsOc j = endsV j := if_pos h
theorem kends_ok : tab5.ok 35 := by
  refine Tab.of_ct rfl rfl ⟨_, Try.func35, by decide, rfl⟩ ?_ ctF_det
  refine ct_ok (cx := ckends) (Tab.cx_ok (all_cons (up5_ok (up4_ok chk_ok)) (all_cons (up5_ok (up4_ok (up3_ok hgt_ok))) (all_cons (up5_ok (up4_ok (up3_ok volm_ok))) (all_cons ends_ok all_nil)))) fxkends) Try.func35 (bds := []) (T := tkends) (by kernel_rfl) ?_
  have h1 : ckends.ct 48 = some ctCheckJ := rfl
  have h2 : ckends.ct 58 = some ctHeight := rfl
  have h3 : ckends.ct 30 = some ctVol := rfl
  have h4 : ckends.ct 53 = some ctJEnds := rfl
  unfold tkends
  simp only [VC, allC, List.map_cons, List.map_nil, List.length_cons, List.length_nil, List.getElem?_cons_zero, List.getElem?_cons_succ, List.cons.injEq, C.i.injEq, C.b.injEq, and_true, true_and, forall_const, kindsOf_nil, kindsOf_lf, kindsOf_agg, kindsOf_box, boxKinds_nil, boxKinds_lf, boxKinds_agg, boxKinds_box, List.append_nil, List.cons_append, List.nil_append, den_cmp_le, den_cmp_lt, den_cmp_eq, den_cmp_ne, den_cmp_le', den_cmp_lt', den_cmp_eq', den_cmp_ne', den_and, den_and', den_or, den_or', den_not, den_not', den_blit, den_of, ev_var, at_0, at_1, at_2, at_3, at_4, at_5, at_6, at_7, at_skip, c_int, c_bool, c_arr, c_cnt, c_vec, ev_nil, ev_join, ev_sub3, loc_s, int_i, bool_b, rows_s, cs_nil, cs_cons, E.den_lit, E.den_var, E.den_add, E.den_sub, E.den_mul, E.den_quo, E.den_rem, E.den_max, E.den_min, E.den_len, E.den_wr, E.den_cell, Nat.reduceAdd, h1, h2, h3, h4, ctCheckJ, ctHeight, ctVol, ctJEnds, ctEndsK, ctF, wellSh, wellKs, progSh, bubSh, holeSh, lineSh, jobSh, ocSh, n_, s_, ocC]
  rintro u1 r1 _ _ _ w _ _ u2 r2 _ _ _ li _ _ pi _ _ st _ _ ka _ _ kb _ _ kc _ _ kd _ _ v _ _ po _ _
  obtain ⟨j, hjd⟩ : ∃ j, j = jobOf [C.s u1 r1, C.i w, C.s u2 r2, C.i li, C.i pi, C.i st, C.i ka, C.i kb, C.i kc, C.i kd, C.i v, C.i po] 0 := ⟨_, rfl⟩
  rw [← hjd]
  refine ⟨bds_nil _, ?_⟩
  rintro n _ _ hn
  refine ⟨fun h => ?_, fun h => ?_⟩
  · rw [endsOc_no (by rw [← hn]; exact h)]
    exact ⟨rfl, rfl, rfl, rfl, rfl, hn⟩
  have h0 : jobV j = 0 := by rw [← hn]; exact h
  rw [endsOc_yes h0, h0]
  rintro vl rows _ _ _ ⟨v', rows', e1, e2⟩
  cases e1
  rintro room _ _ hroom
  have hf : JF j := jf_of h0
  have hs : holeV (segsOf r1) = 0 := by have := hf.hole; rw [hjd] at this; exact this
  refine ⟨⟨by rw [hjd] at h0; exact h0, e2, ?_⟩, ?_⟩
  · show room = volV (segsOf r1)
    rw [hroom]; exact roomS_yes hs
  rintro o1 _ _ o2 _ _ o3 _ _ o4 _ _ o5 _ _ ⟨p1, p2, p3, p4, p5⟩
  rw [hjd]
  exact ⟨p1, p2, p3, p4, p5, rfl⟩
end Go.Proofs.Ytmdmgpikbebejaa
/- Kill: the plain laws of gas and of outcomes. -/
namespace Go.Proofs.Ytmdmgpikbebejaa
set_option linter.unusedVariables false
set_option linter.unusedSimpArgs false

/-! The amount of gas -/
/-! Outcomes -/
theorem n2 : (2 : Int) ≠ 0 := by decide
theorem n3 : (3 : Int) ≠ 0 := by decide
end Go.Proofs.Ytmdmgpikbebejaa
/- Kill: the amount of gas is kept: the law. -/
namespace Go.Proofs.Ytmdmgpikbebejaa
open Go.RowKit
set_option linter.unusedSimpArgs false
set_option linter.unusedVariables false

end Go.Proofs.Ytmdmgpikbebejaa
/- Kill: the chapter's examples: the law. -/
namespace Go.Proofs.Ytmdmgpikbebejaa
open Go.RowKit
set_option linter.unusedSimpArgs false
set_option linter.unusedVariables false

def shownJ2 : Jb := ⟨⟨[⟨100000, 100000, 100, 50⟩], 12000, [(2000000, 1200000000)], 179051999, 1000000, 1000000⟩, drillerP, influxB⟩
def shownJ3 : Jb := ⟨⟨[⟨100000, 100000, 100, 50⟩], 12000, [(2000000, 1130000000)], 500000000, 1000000, 1000000⟩, drillerP, influxB⟩
theorem known_at0 : atE shownJ 0 0 = 0 ∧ (atMo shownJ 0 0).base = (1260000000, 1260000000) ∧ (atMo shownJ 0 0).pts = [(1139040000, 1139052000)] := by decide +kernel
theorem known_at1 : atE shownJ 1 0 = 0 ∧ (atMo shownJ 1 0).base = (1140000000, 1140000000) ∧ (atMo shownJ 1 0).gas = (1096491, 1096492) ∧ (atMo shownJ 1 0).surf = (191568000, 191580000) := by decide +kernel
theorem known_valid : wellV shownW = 0 ∧ progV drillerP = 0 ∧ kickV influxB = 0 ∧ jobV shownJ2 = 0 ∧ jobV shownJ3 = 0 ∧ jobV shownJ = 0 := by decide +kernel
theorem known_ends1 : (endsOc shownJ).is = 1 := by decide +kernel
theorem known_ends2 : endsOc shownJ2 = ⟨3, 0, -1, 4, 0⟩ := by decide +kernel
theorem known_ends3 : endsOc shownJ3 = ⟨2, 0, -1, 2, 0⟩ := by decide +kernel
set_option maxHeartbeats 1000000 in
theorem lknown_ok : CtOK Try.prog 7 (ctLaw []) := by
  refine ct_ok (cx := clknown) (Tab.cx_ok (all_cons (up5_ok (up4_ok kat_ok)) (all_cons (up5_ok (up4_ok (up3_ok cwell_ok))) (all_cons (up5_ok (up4_ok (up3_ok cprog_ok))) (all_cons (up5_ok (up4_ok (up3_ok ckick_ok))) (all_cons kends_ok (all_cons (up5_ok driller_ok) (all_cons (up5_ok influx_ok) (all_cons (up5_ok awake_ok) all_nil)))))))) fxlknown) Try.func7 (bds := []) (T := tlknown) (by kernel_rfl) ?_
  have h1 : clknown.ct 27 = some ctAtK := rfl
  have h2 : clknown.ct 15 = some ctWell := rfl
  have h3 : clknown.ct 17 = some ctProg := rfl
  have h4 : clknown.ct 19 = some ctKick := rfl
  have h5 : clknown.ct 35 = some ctEndsK := rfl
  have h6 : clknown.ct 33 = some ctDriller := rfl
  have h7 : clknown.ct 34 = some ctInflux := rfl
  have h8 : clknown.ct 14 = some ctAwake := rfl
  obtain ⟨k1, k2, k3⟩ := known_at0
  obtain ⟨m1, m2, m3, m4⟩ := known_at1
  obtain ⟨v1, v2, v3, v4, v5, v6⟩ := known_valid
  unfold tlknown
  simp only [VC, allC, List.map_cons, List.map_nil, List.length_cons, List.length_nil, List.getElem?_cons_zero, List.getElem?_cons_succ, List.cons.injEq, C.i.injEq, C.b.injEq, and_true, true_and, forall_const, kindsOf_nil, kindsOf_lf, kindsOf_agg, kindsOf_box, boxKinds_nil, boxKinds_lf, boxKinds_agg, boxKinds_box, List.append_nil, List.cons_append, List.nil_append, den_cmp_le, den_cmp_lt, den_cmp_eq, den_cmp_ne, den_cmp_le', den_cmp_lt', den_cmp_eq', den_cmp_ne', den_and, den_and', den_or, den_or', den_not, den_not', den_blit, den_of, ev_var, at_0, at_1, at_2, at_3, at_4, at_5, at_6, at_7, at_skip, c_int, c_bool, c_arr, c_cnt, c_vec, ev_nil, ev_join, ev_sub3, loc_s, int_i, bool_b, rows_s, cs_nil, cs_cons, E.den_lit, E.den_var, E.den_add, E.den_sub, E.den_mul, E.den_quo, E.den_rem, E.den_max, E.den_min, E.den_len, E.den_wr, E.den_cell, Nat.reduceAdd, h6, h7, ctDriller, ctInflux, ctLaw, ctF, progSh, bubSh]
  refine ⟨bds_nil _, ?_⟩
  rintro va vb a _ _ b _ _ c _ _ d _ _ ⟨rfl, rfl, rfl, rfl⟩ e _ _ f _ _ ⟨rfl, rfl⟩
  unfold tlknown_8
  simp only [VC, allC, List.map_cons, List.map_nil, List.length_cons, List.length_nil, List.getElem?_cons_zero, List.getElem?_cons_succ, List.cons.injEq, C.i.injEq, C.b.injEq, and_true, true_and, forall_const, kindsOf_nil, kindsOf_lf, kindsOf_agg, kindsOf_box, boxKinds_nil, boxKinds_lf, boxKinds_agg, boxKinds_box, List.append_nil, List.cons_append, List.nil_append, den_cmp_le, den_cmp_lt, den_cmp_eq, den_cmp_ne, den_cmp_le', den_cmp_lt', den_cmp_eq', den_cmp_ne', den_and, den_and', den_or, den_or', den_not, den_not', den_blit, den_of, ev_var, at_0, at_1, at_2, at_3, at_4, at_5, at_6, at_7, at_skip, c_int, c_bool, c_arr, c_cnt, c_vec, ev_nil, ev_join, ev_sub3, loc_s, int_i, bool_b, rows_s, cs_nil, cs_cons, E.den_lit, E.den_var, E.den_add, E.den_sub, E.den_mul, E.den_quo, E.den_rem, E.den_max, E.den_min, E.den_len, E.den_wr, E.den_cell, Nat.reduceAdd, h1, ctAtK, wellSh, wellKs, progSh, bubSh, momSh, momKs, n_]
  rintro x1 _ _ x2 _ _ x3 _ _ x4 _ _ x5 _ _ x6 _ _ x7 _ _ vr rows _ _ _ er _ _ h
  have hA := at_inv (x := atMo shownJ 0 0) (E := atE shownJ 0 0) h
  unfold tlknown_7
  simp only [VC, allC, List.map_cons, List.map_nil, List.length_cons, List.length_nil, List.getElem?_cons_zero, List.getElem?_cons_succ, List.cons.injEq, C.i.injEq, C.b.injEq, and_true, true_and, forall_const, kindsOf_nil, kindsOf_lf, kindsOf_agg, kindsOf_box, boxKinds_nil, boxKinds_lf, boxKinds_agg, boxKinds_box, List.append_nil, List.cons_append, List.nil_append, den_cmp_le, den_cmp_lt, den_cmp_eq, den_cmp_ne, den_cmp_le', den_cmp_lt', den_cmp_eq', den_cmp_ne', den_and, den_and', den_or, den_or', den_not, den_not', den_blit, den_of, ev_var, at_0, at_1, at_2, at_3, at_4, at_5, at_6, at_7, at_skip, c_int, c_bool, c_arr, c_cnt, c_vec, ev_nil, ev_join, ev_sub3, loc_s, int_i, bool_b, rows_s, cs_nil, cs_cons, E.den_lit, E.den_var, E.den_add, E.den_sub, E.den_mul, E.den_quo, E.den_rem, E.den_max, E.den_min, E.den_len, E.den_wr, E.den_cell, Nat.reduceAdd, h1, ctAtK, wellSh, wellKs, progSh, bubSh, momSh, momKs, n_]
  rintro y1 _ _ y2 _ _ y3 _ _ y4 _ _ y5 _ _ y6 _ _ y7 _ _ vs rows2 _ _ _ er2 _ _ h'
  have hB := at_inv (x := atMo shownJ 1 0) (E := atE shownJ 1 0) h'
  rw [k1, k2, k3] at hA
  rw [m1, m2, m3, m4] at hB
  obtain ⟨⟨-, -, -, rfl, rfl, -, -, hp⟩, rfl⟩ := hA
  obtain ⟨⟨-, rfl, rfl, rfl, rfl, rfl, rfl, -⟩, rfl⟩ := hB
  unfold tlknown_6
  simp only [VC, allC, List.map_cons, List.map_nil, List.length_cons, List.length_nil, List.getElem?_cons_zero, List.getElem?_cons_succ, List.cons.injEq, C.i.injEq, C.b.injEq, and_true, true_and, forall_const, kindsOf_nil, kindsOf_lf, kindsOf_agg, kindsOf_box, boxKinds_nil, boxKinds_lf, boxKinds_agg, boxKinds_box, List.append_nil, List.cons_append, List.nil_append, den_cmp_le, den_cmp_lt, den_cmp_eq, den_cmp_ne, den_cmp_le', den_cmp_lt', den_cmp_eq', den_cmp_ne', den_and, den_and', den_or, den_or', den_not, den_not', den_blit, den_of, ev_var, at_0, at_1, at_2, at_3, at_4, at_5, at_6, at_7, at_skip, c_int, c_bool, c_arr, c_cnt, c_vec, ev_nil, ev_join, ev_sub3, loc_s, int_i, bool_b, rows_s, cs_nil, cs_cons, E.den_lit, E.den_var, E.den_add, E.den_sub, E.den_mul, E.den_quo, E.den_rem, E.den_max, E.den_min, E.den_len, E.den_wr, E.den_cell, Nat.reduceAdd, h2, ctWell, wellSh, wellKs, ctF]
  refine ⟨fun h => absurd rfl h, fun h => absurd rfl h, fun n1 _ _ e1 => ?_⟩
  have e1 : n1 = wellV shownW := e1
  rw [v1] at e1
  subst e1
  unfold tlknown_5
  simp only [VC, allC, List.map_cons, List.map_nil, List.length_cons, List.length_nil, List.getElem?_cons_zero, List.getElem?_cons_succ, List.cons.injEq, C.i.injEq, C.b.injEq, and_true, true_and, forall_const, kindsOf_nil, kindsOf_lf, kindsOf_agg, kindsOf_box, boxKinds_nil, boxKinds_lf, boxKinds_agg, boxKinds_box, List.append_nil, List.cons_append, List.nil_append, den_cmp_le, den_cmp_lt, den_cmp_eq, den_cmp_ne, den_cmp_le', den_cmp_lt', den_cmp_eq', den_cmp_ne', den_and, den_and', den_or, den_or', den_not, den_not', den_blit, den_of, ev_var, at_0, at_1, at_2, at_3, at_4, at_5, at_6, at_7, at_skip, c_int, c_bool, c_arr, c_cnt, c_vec, ev_nil, ev_join, ev_sub3, loc_s, int_i, bool_b, rows_s, cs_nil, cs_cons, E.den_lit, E.den_var, E.den_add, E.den_sub, E.den_mul, E.den_quo, E.den_rem, E.den_max, E.den_min, E.den_len, E.den_wr, E.den_cell, Nat.reduceAdd, h3, h4, ctProg, ctKick, progSh, bubSh, ctF]
  refine ⟨fun h => absurd rfl h, fun n2 _ _ e2 => ?_⟩
  have e2 : n2 = progV drillerP := e2
  rw [v2] at e2
  subst e2
  refine ⟨fun h => absurd rfl h, fun _ n3 _ _ e3 => ?_⟩
  have e3 : n3 = kickV influxB := e3
  rw [v3] at e3
  subst e3
  have hl : rows.length = 1 := by rw [← knots_len2, hp]; rfl
  unfold tlknown_4
  simp only [VC, allC, List.map_cons, List.map_nil, List.length_cons, List.length_nil, List.getElem?_cons_zero, List.getElem?_cons_succ, List.cons.injEq, C.i.injEq, C.b.injEq, and_true, true_and, forall_const, kindsOf_nil, kindsOf_lf, kindsOf_agg, kindsOf_box, boxKinds_nil, boxKinds_lf, boxKinds_agg, boxKinds_box, List.append_nil, List.cons_append, List.nil_append, den_cmp_le, den_cmp_lt, den_cmp_eq, den_cmp_ne, den_cmp_le', den_cmp_lt', den_cmp_eq', den_cmp_ne', den_and, den_and', den_or, den_or', den_not, den_not', den_blit, den_of, ev_var, at_0, at_1, at_2, at_3, at_4, at_5, at_6, at_7, at_skip, c_int, c_bool, c_arr, c_cnt, c_vec, ev_nil, ev_join, ev_sub3, loc_s, int_i, bool_b, rows_s, cs_nil, cs_cons, E.den_lit, E.den_var, E.den_add, E.den_sub, E.den_mul, E.den_quo, E.den_rem, E.den_max, E.den_min, E.den_len, E.den_wr, E.den_cell, Nat.reduceAdd, h5, ctEndsK, wellSh, wellKs, progSh, bubSh, ocSh, ctF, ev_cell, kn1, kn2, Int.toNat_zero, ocC]
  rw [hp, hl]
  refine ⟨fun h => absurd rfl h, fun h => absurd rfl h, fun h => absurd rfl h, fun _ => ⟨by decide, fun h => absurd rfl (h rfl), fun _ => ⟨fun h => absurd rfl h, fun h => absurd rfl h, fun h => absurd rfl h, ?_⟩⟩⟩
  rintro o1 _ _ o2 _ _ o3 _ _ o4 _ _ o5 _ _ er _ _ ⟨p1, -, -, -, -, p6⟩
  have p1 : o1 = (endsOc shownJ).is := p1
  have p6 : er = jobV shownJ := p6
  rw [known_ends1] at p1
  rw [v6] at p6
  subst p1 p6
  unfold tlknown_3
  simp only [VC, allC, List.map_cons, List.map_nil, List.length_cons, List.length_nil, List.getElem?_cons_zero, List.getElem?_cons_succ, List.cons.injEq, C.i.injEq, C.b.injEq, and_true, true_and, forall_const, kindsOf_nil, kindsOf_lf, kindsOf_agg, kindsOf_box, boxKinds_nil, boxKinds_lf, boxKinds_agg, boxKinds_box, List.append_nil, List.cons_append, List.nil_append, den_cmp_le, den_cmp_lt, den_cmp_eq, den_cmp_ne, den_cmp_le', den_cmp_lt', den_cmp_eq', den_cmp_ne', den_and, den_and', den_or, den_or', den_not, den_not', den_blit, den_of, ev_var, at_0, at_1, at_2, at_3, at_4, at_5, at_6, at_7, at_skip, c_int, c_bool, c_arr, c_cnt, c_vec, ev_nil, ev_join, ev_sub3, loc_s, int_i, bool_b, rows_s, cs_nil, cs_cons, E.den_lit, E.den_var, E.den_add, E.den_sub, E.den_mul, E.den_quo, E.den_rem, E.den_max, E.den_min, E.den_len, E.den_wr, E.den_cell, Nat.reduceAdd, h5, ctEndsK, wellSh, wellKs, progSh, bubSh, ocSh, ctF, ocC]
  rintro b1 _ _ b2 _ _ b3 _ _ b4 _ _ b5 _ _ er _ _ ⟨p1, p2, p3, p4, p5, p6⟩
  have p1 : b1 = (endsOc shownJ2).is := p1
  have p2 : b2 = (endsOc shownJ2).step := p2
  have p3 : b3 = (endsOc shownJ2).err := p3
  have p4 : b4 = (endsOc shownJ2).why := p4
  have p5 : b5 = (endsOc shownJ2).point := p5
  have p6 : er = jobV shownJ2 := p6
  rw [known_ends2] at p1 p2 p3 p4 p5
  rw [v4] at p6
  subst p1 p2 p3 p4 p5 p6
  unfold tlknown_2
  simp only [VC, allC, List.map_cons, List.map_nil, List.length_cons, List.length_nil, List.getElem?_cons_zero, List.getElem?_cons_succ, List.cons.injEq, C.i.injEq, C.b.injEq, and_true, true_and, forall_const, kindsOf_nil, kindsOf_lf, kindsOf_agg, kindsOf_box, boxKinds_nil, boxKinds_lf, boxKinds_agg, boxKinds_box, List.append_nil, List.cons_append, List.nil_append, den_cmp_le, den_cmp_lt, den_cmp_eq, den_cmp_ne, den_cmp_le', den_cmp_lt', den_cmp_eq', den_cmp_ne', den_and, den_and', den_or, den_or', den_not, den_not', den_blit, den_of, ev_var, at_0, at_1, at_2, at_3, at_4, at_5, at_6, at_7, at_skip, c_int, c_bool, c_arr, c_cnt, c_vec, ev_nil, ev_join, ev_sub3, loc_s, int_i, bool_b, rows_s, cs_nil, cs_cons, E.den_lit, E.den_var, E.den_add, E.den_sub, E.den_mul, E.den_quo, E.den_rem, E.den_max, E.den_min, E.den_len, E.den_wr, E.den_cell, Nat.reduceAdd, h5, ctEndsK, wellSh, wellKs, progSh, bubSh, ocSh, ctF, ocC]
  rintro vc vd
  refine ⟨by decide, ?_⟩
  have hu : updRow [[C.i 2000000, C.i 1200000000]] (Int.toNat 0) 1 [C.i 1130000000] = [[C.i 2000000, C.i 1130000000]] := rfl
  rw [hu]
  rintro ve c1 _ _ c2 _ _ c3 _ _ c4 _ _ c5 _ _ er _ _ ⟨p1, p2, p3, p4, p5, p6⟩
  have p1 : c1 = (endsOc shownJ3).is := p1
  have p2 : c2 = (endsOc shownJ3).step := p2
  have p3 : c3 = (endsOc shownJ3).err := p3
  have p4 : c4 = (endsOc shownJ3).why := p4
  have p5 : c5 = (endsOc shownJ3).point := p5
  have p6 : er = jobV shownJ3 := p6
  rw [known_ends3] at p1 p2 p3 p4 p5
  rw [v5] at p6
  subst p1 p2 p3 p4 p5 p6
  unfold tlknown_1
  simp only [VC, allC, List.map_cons, List.map_nil, List.length_cons, List.length_nil, List.getElem?_cons_zero, List.getElem?_cons_succ, List.cons.injEq, C.i.injEq, C.b.injEq, and_true, true_and, forall_const, kindsOf_nil, kindsOf_lf, kindsOf_agg, kindsOf_box, boxKinds_nil, boxKinds_lf, boxKinds_agg, boxKinds_box, List.append_nil, List.cons_append, List.nil_append, den_cmp_le, den_cmp_lt, den_cmp_eq, den_cmp_ne, den_cmp_le', den_cmp_lt', den_cmp_eq', den_cmp_ne', den_and, den_and', den_or, den_or', den_not, den_not', den_blit, den_of, ev_var, at_0, at_1, at_2, at_3, at_4, at_5, at_6, at_7, at_skip, c_int, c_bool, c_arr, c_cnt, c_vec, ev_nil, ev_join, ev_sub3, loc_s, int_i, bool_b, rows_s, cs_nil, cs_cons, E.den_lit, E.den_var, E.den_add, E.den_sub, E.den_mul, E.den_quo, E.den_rem, E.den_max, E.den_min, E.den_len, E.den_wr, E.den_cell, Nat.reduceAdd, h8, ctAwake, ctF]
  exact ⟨fun h => absurd rfl h, fun h => absurd rfl h, fun h => absurd rfl h, fun h => absurd rfl h, fun h => absurd rfl h, fun h => absurd rfl h, fun t h => h⟩
end Go.Proofs.Ytmdmgpikbebejaa
/- Arguments of any shape that the engine knows, opened: structs, and slices within slices. -/
namespace Go.Proofs.Ytmdmgpikbebejaa
open Go.ChangeShapes Go.WideShapes Go.RowKit
set_option linter.unusedVariables false
def CellN (P : Program) (w : World) (n : Nat) (k : Lk) (u : Value) (c : C) : Prop := (∀ m, c.small m) ∧ match k with
  | .int => ∃ n, u = .int .i64 n ∧ c = .i n
  | .bool => ∃ t, u = .bool t ∧ c = .b t
  | .arr t => ∃ rows', c = .s u rows' ∧ ArrN P (fun b _ => b < w.heap.size) w n t u rows'
  | .vec _ => False
section
variable {H : Type} {enc : TypeId × Value → H} {P : Program} {w : World} {base : Nat} {spare : Nat → Bool} {held : Bool}
theorem CellN.rep {n : Nat} {k : Lk} {u : Value} {c : C} (h : CellN P w n k u c) : LRep P w (fun _ _ => False) k u c := by
  refine ⟨h.1, ?_⟩
  cases k with
  | int => exact h.2
  | bool => exact h.2
  | arr t =>
    obtain ⟨rows, rfl, hA⟩ := h.2
    exact ⟨rfl, u, rows, rfl, n, _, fun b o hb => ⟨hb, fun h => h⟩, hA⟩
  | vec t => exact h.2.elim
end
end Go.Proofs.Ytmdmgpikbebejaa
/- The call of KillKnown. -/
namespace Go.Proofs.Ytmdmgpikbebejaa
open Go.RowKit
theorem walk_KillKnown  (W : World)  :
    Calls Try.prog 7 #[] W fun e w' => e = .returned (.bool true) ∧ Below W.heap.size W w' := by
  exact law_walk lknown_ok rfl rfl
end Go.Proofs.Ytmdmgpikbebejaa
namespace Go.Proofs.Ytmdmgpikbebejaa.lawKillKnown
open Go.ChangeShapes Go.WideShapes Go.ChangeAt Go.RowKit
set_option linter.unusedVariables false

set_option maxRecDepth 100000 in
theorem lifted (os : Os) (started : os.Started) (H : Type) (enc : TypeId × Value → H) :
    ReturnsInHanded {} Try.checked os 7 .any (Rows.killKnownSpec.pre6 enc Try.prog Try.f7 Rows.killKnownRow.domain false) (Rows.killKnownSpec.post enc Try.prog Try.f7 false true false false) := by
  refine returnsInHanded_of_change (C := Try.checked) own started (by kernel_rfl) Try.func7
    (ChangeSpec.witness6 (enc := enc) (C := Try.checked) false ⟨#[], #[], []⟩ 8 (by kernel_rfl) (by kernel_rfl) (by kernel_rfl) (by kernel_rfl)) ?_
  intro W base args ds gs before hval0 hW hcnd _
  have hval : ∀ (j : Nat) t v, Try.f7.params[j]? = some t → args[j]? = some v → Value.okWide Try.prog W .any base t v := hval0
  have hW' := hW
  obtain ⟨p, q, hA0, hV, rfl, hfz, hnd⟩ := hW
  have hA : DataW.TrodAll enc Try.prog W 0 (fun _ => true) true Try.f7.params.toList args.toList ds p := hA0
  rw [Try.params7] at hA hval
  obtain ⟨hnil, rfl, rfl⟩ := trodAll_nil hA
  obtain rfl : args = #[] := by cases args; simp_all
  obtain ⟨rfl, rfl⟩ := trodVars_none hV
  clear hA0 hval0
  refine (walk_KillKnown  W ).mono fun e W' ⟨he, bel⟩ => ?_
  subst he
  exact ⟨_, rfl, _, _, _, [], _, [], hW', trodAll_mk1 (shut_bool Try.underlying4 _), trodAll_mk0, rfl, bel.frame _, fun h => by cases h⟩

theorem over : Rows.killKnownRow.holds Try.pinned (OpenSpec.ofChange Rows.killKnownSpec) :=
  OpenClaim.holds_of_wide 7 Try.f7 rfl rfl rfl rfl rfl rfl rfl ⟨rfl, rfl, rfl, rfl, rfl⟩ rfl rfl rfl rfl rfl (by kernel_rfl) Try.func7 (by kernel_rfl)
    (of_decide_eq_true (by kernel_rfl)) (by unfold Func.isWrapper; first | (rw [if_pos (by decide +kernel)]; kernel_rfl) | (rw [if_neg (by decide +kernel)]; exact ⟨rfl, rfl⟩))
    (fun os started H enc _ => lifted os started H enc)

theorem proved : Rows.KillKnownSaid := over
#print axioms proved
end Go.Proofs.Ytmdmgpikbebejaa.lawKillKnown
