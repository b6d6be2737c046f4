/- Texts laid into one: XDB XN XR X6 XF X7 XJ XDM A C B D. -/
import Derived.Test.YtlbgcjpkegpmlaaWatches9
import Derived.Test.YtlbgcjpkegpmlaaProg
import Derived.WalkKit
import Derived.WalkLawsBesides
import Derived.Lib.Hide
import Derived.Deep.QuietTactic
import Derived.BigQuiet
import Derived.Handy
import Derived.Deep.LoopGhost
import Derived.Deep.RegionHeld3
/- kick.Watch: its contract. -/
namespace Go.Proofs.Ytlbgcjpkegpmlaa
open Go.RowKit
set_option linter.unusedSimpArgs false
set_option linter.unusedVariables false

theorem alarmAt_none {sens rows : List (List C)} {k : Int} (h : ∀ r ∈ rows, cell_ r 0 ≠ k) : alarmAt sens rows k = none := by
  unfold alarmAt
  rw [fltS_none h]; rfl
theorem wat_rest {F : Nat → Prop} {w0 wp : World} {Γ : Env} {sv v : Value} {sens rows : List (List C)} {d b4 b9 : Nat} {Q : Exit → Act → World → Prop} {R : List C → Prop}
    (hρ : Γ.ρ = [.s sv sens, .s v rows]) (hnb : Γ.nb = 2) (hb4 : Γ.blk 0 = b4) (hb9 : Γ.blk 1 = b9) (h49 : b4 ≠ b9) (l4 : b4 < wp.heap.size) (l9 : b9 < wp.heap.size) (f4 : ¬ F b4) (f9 : ¬ F b9) (hsv : ∀ k, (C.s sv sens).small k) (hsm : ∀ k, (C.s v rows).small k) (hty : TyN Try.prog d 40 rows) (hF : ∀ i, F i → i < w0.heap.size) (hb : ∀ b o, Γ.base b o → b < wp.heap.size)
    (hk0 : Keeps F w0 wp) (hS : ArrOK Try.prog wp (fun b o => Γ.base b o ∨ b = b4 ∨ b = b9) 23 (.s sv sens)) (hA : ArrOK Try.prog wp (fun b o => Γ.base b o ∨ b = b4 ∨ b = b9) 40 (.s v rows)) (hB4 : Blk wp b4 81 #[.int .i64 0, .int .i64 0]) (hB9 : Blk wp b9 81 #[.int .i64 0, .int .i64 0])
    (hs0 : sensorsE sens = 0) (hc0 : checkV sens.length rows = 0) (hR : ∀ s t f, watchC (watchL sens rows sens.length) = [.i s, .i t, .b f, .i 0] → R [.i s, .i t, .b f, .i 0])
    (hk : KOK cwat1 R F w0 (endK cwat1 Try.f54 ctWatch) Γ [] Q) {a : Act} (hsz : a.tmps.size = 74) (hdf : a.defers = []) (h0 : a.eval (.tmp 0) = sv) (h1 : a.eval (.tmp 1) = v) (h4 : a.eval (.tmp 4) = .pointer (some ⟨b4, 0, none⟩)) (h9 : a.eval (.tmp 9) = .pointer (some ⟨b9, 0, none⟩)) (h10 : a.eval (.tmp 10) = .bool false) :
    (nav [1, 1, 1, 1, 1] (bodyOf Try.f54)).wp Try.prog Q a wp := by
  obtain ⟨hl, hib, hir, -⟩ := checkV_ok hc0
  have hloc : v = (C.s v rows).loc := by
    obtain ⟨v', rows', e, d', S, hS, hN⟩ := hA
    cases e
    rfl
  show (Code.seq (Code.seq (Code.region 9 _ _) (Code.block 0 (Code.loop (Code.seq (Code.region 10 _ _) (Code.seq (Code.cond (.tmp 33) .skip (.exit 0)) (Code.block 1 (nav [1, 1, 1, 1, 1, 0, 1, 0, 0, 1, 1, 0] (bodyOf Try.f54)))))))) (nav [1, 1, 1, 1, 1, 1] (bodyOf Try.f54))).wp _ _ _ _
  refine wp_seq (wp_seq (wp_region_list (list_val rfl (v := v) (w' := wp) (by simp [execOp, h1]) (list_call rfl (f := 82) (args := #[v]) (by
    simp [execOp, resolve, invoke, eval_same, put_size, hsz, eval_const]
    exact run_callFunc' callable_bySensor _ _) ?_))))
  refine Calls.mono (bySensor_ok (Base := fun b o => Γ.base b o ∨ b = b4 ∨ b = b9) (fun b o h => by rcases h with h | h | h <;> first | exact hb b o h | omega) ⟨hsm, hloc, hA⟩ (by omega)) fun e wg he => ?_
  obtain ⟨bm, G, rfl, hpg, hbm, hG⟩ := he
  refine ⟨_, rfl, ?_⟩
  obtain ⟨o, hrg, hit⟩ := IterAt.start (P := Try.prog) (t := 115) Try.underlying115 hG.map
  refine list_val rfl (v := .pointer (some ⟨wg.heap.size, 0, none⟩)) (w' := wg.alloc o) (by simp [execOp, eval_same, put_size, hsz, hrg]) ?_
  show Code.wp _ _ _ _ _
  have hpgs := hpg.size
  have hSg : ArrOK Try.prog wg (fun b o => Γ.base b o ∨ b = b4 ∨ b = b9) 23 (.s sv sens) := hS.keep hpg.size fun b o hb' hno => ⟨World.cell?_of_block (hpg.block b hb'), hno⟩
  have hltr : wg.heap.size < (wg.alloc o).heap.size := by
    obtain ⟨es, clock, since, sn, c0, h1, h2, h3, h4, h5⟩ := hit
    exact (Array.getElem?_eq_some_iff.1 h4).1
  have hal : Below wg.heap.size wg (wg.alloc o) := below_alloc _ _
  refine range_loop (nt := 74) (tI := 31) (tN := 32) (cN := 33) (bm := bm) (r := wg.heap.size) (G := G) (J := WatIn wg bm b4 b9 sv sens rows G) rfl rfl rfl rfl rfl rfl (by decide) (by decide) (by decide) (by have := hG.map.lt; omega) (fun seen a w h => ⟨h.it, h.s31, h.size⟩) ?_ ?_ ?_
  · intro seen a2 w2 g w3 u hin hg hns hit' hs hbl ho ht hu hent
    exact wp_mono (wat_round (Q := Q) hnb hb4 hb9 h49 l4 l9 hsv hsm hty hb hpg hbm hG hSg hs0 hl hib hir hin hg hit' hs hbl ho ht hu hent) fun e a w h => by cases e <;> exact h
  · intro seen a2 w2 u hin hall
    show (nav [1, 1, 1, 1, 1, 1] (bodyOf Try.f54)).wp _ _ _ _
    obtain ⟨o2, f, s, t, e10, hBs, hW, hBest, hbs, hbt⟩ := hin.best
    have hbest : o2 = watchL sens rows sens.length := by
      refine Best.uniq (P := fun k => 0 ≤ k ∧ k < (sens.length : Int)) (hBest.more (fun k hk => ?_) fun k hk => ?_) (watchL_best sens.length)
      · obtain ⟨g, hg, rfl⟩ := hin.sub k hk
        obtain ⟨r, hr, e⟩ := hG.has g hg
        have := List.all_eq_true.1 hib r hr
        rw [e]
        simpa [inB] using this
      · by_cases he : ∃ r ∈ rows, cell_ r 0 = k
        · obtain ⟨r, hr, e⟩ := he
          obtain ⟨g, hg, e'⟩ := hG.all r hr
          have := hall g hg
          rw [e', e] at this
          exact .inl this
        · exact .inr (alarmAt_none fun r hr e => he ⟨r, hr, e⟩)
    subst hbest
    have q : ∀ x, x ≠ 32 → x ≠ 33 → ((a2.put (some 32) u).put (some 33) (.bool false)).eval (.tmp x) = a2.eval (.tmp x) := fun x h1 h2 => by rw [eval_other h2, eval_other h1]
    have g4 := (q 4 (by decide) (by decide)).trans hin.s4
    have g9 := (q 9 (by decide) (by decide)).trans hin.s9
    have g10 := (q 10 (by decide) (by decide)).trans e10
    have hsz2 : ((a2.put (some 32) u).put (some 33) (.bool false)).tmps.size = 74 := by rw [put_size, put_size]; exact hin.size
    have hdf2 : ((a2.put (some 32) u).put (some 33) (.bool false)).defers = [] := by rw [put_defers, put_defers]; exact hin.defers
    clear q
    generalize (a2.put (some 32) u).put (some 33) (.bool false) = a4 at *
    have hlt := hin.lt
    have hkw : WatKeep wg w2 b4 b9 := ⟨hin.os, hin.tape, hin.output, by omega, hin.blk⟩
    have hmem : ∀ b mb, look watStF.mem b = some mb → (b = 1 ∧ mb = (81, [.int (.var 3), .int (.var 4)])) ∨ (b = 0 ∧ mb = (81, [.int (.lit 0), .int (.lit 0)])) := fun b mb h => by
      simp only [watStF, look] at h
      split at h
      · rename_i e; subst e; cases h; exact .inl ⟨rfl, rfl⟩
      split at h
      · rename_i e; subst e; cases h; exact .inr ⟨rfl, rfl⟩
      cases h
    have hkF : Keeps F w0 w2 := (hk0.trans (Keeps.of_below hpg fun i hi => by have := hF i hi; have := hk0.size; omega)).trans (hkw.keeps (fun i hi => by have := hF i hi; have := hk0.size; omega) f4 f9)
    have hsat : Sat Try.prog F w0 { Γ with ρ := [.s sv sens, .s v rows, .b f, .i s, .i t] } watStF a4 w2 := by
      refine Sat.bare rfl rfl (fun b mb h => ?_) (fun i j x y h1 h2 e => ?_) (fun t sv ht => ?_) hsz2 hkF hF (fun b o h => by have := hb b o h; omega) hdf2 rfl hnb rfl ?_
      · rcases hmem b mb h with ⟨rfl, rfl⟩ | ⟨rfl, rfl⟩
        · refine ⟨?_, fun l hl O => ?_, ?_, by decide⟩
          · show Blk w2 (Γ.blk 1) _ _
            rw [hb9]; exact hBs
          · simp only [List.mem_cons, List.not_mem_nil, or_false] at hl
            rcases hl with rfl | rfl <;> trivial
          · show ¬ F (Γ.blk 1)
            rw [hb9]; exact f9
        · refine ⟨?_, fun l hl O => ?_, ?_, by decide⟩
          · show Blk w2 (Γ.blk 0) _ _
            rw [hb4]; exact hin.blk4
          · simp only [List.mem_cons, List.not_mem_nil, or_false] at hl
            rcases hl with rfl | rfl <;> trivial
          · show ¬ F (Γ.blk 0)
            rw [hb4]; exact f4
      · have e' : Γ.blk i = Γ.blk j := e
        rcases hmem i x h1 with ⟨rfl, -⟩ | ⟨rfl, -⟩ <;> rcases hmem j y h2 with ⟨rfl, -⟩ | ⟨rfl, -⟩
        · rfl
        · exact absurd (hb4.symm.trans (e'.symm.trans hb9)) h49
        · exact absurd (hb4.symm.trans (e'.trans hb9)) h49
        · rfl
      · simp only [watStF, look] at ht
        split at ht
        · rename_i e; subst e; cases ht; exact ⟨by show a4.eval (.tmp 4) = .pointer (some ⟨Γ.blk 0, 0, none⟩); rw [hb4]; exact g4, fun l hl => by simp only [S0.cells, List.mem_cons, List.not_mem_nil, or_false] at hl; subst hl; trivial⟩
        split at ht
        · rename_i e; subst e; cases ht; exact ⟨by show a4.eval (.tmp 9) = .pointer (some ⟨Γ.blk 1, 0, none⟩); rw [hb9]; exact g9, fun l hl => by simp only [S0.cells, List.mem_cons, List.not_mem_nil, or_false] at hl; subst hl; trivial⟩
        split at ht
        · rename_i e; subst e; cases ht; exact ⟨g10, fun l hl => by simp only [S0.cells, List.mem_cons, List.not_mem_nil, or_false] at hl; subst hl; trivial⟩
        cases ht
      · have := Smalls.nil.app (cs := [.s sv sens, .s v rows, .b f, .i s, .i t]) (fun c hc => by
          simp only [List.mem_cons, List.not_mem_nil, or_false] at hc
          rcases hc with rfl | rfl | rfl | rfl | rfl
          · exact hsv
          · exact hsm
          · intro n; cases n <;> simp [C.small]
          · intro n; cases n <;> exact hbs
          · intro n; cases n <;> exact hbt)
        simpa using this
    have hext : Ext Γ { Γ with ρ := [.s sv sens, .s v rows, .b f, .i s, .i t] } := ⟨⟨[.b f, .i s, .i t], by rw [hρ]; rfl⟩, fun _ _ => rfl, Nat.le_refl _, rfl, rfl⟩
    exact exec_sound (R := R) (F := F) (w0 := w0) wat_cx _ _ _ _ wat_tree3 _ [] _ (hk.mono hext (List.prefix_refl _)) rfl (hR s t f hW) _ _ hsat
  · have hsz1 : ((a.put (some 29) v).put (some 30) (.map (some bm))).tmps.size = 74 := by rw [put_size, put_size]; exact hsz
    have q : ∀ x, x ≠ 29 → x ≠ 30 → x ≠ 31 → (((a.put (some 29) v).put (some 30) (.map (some bm))).put (some 31) (.pointer (some ⟨wg.heap.size, 0, none⟩))).eval (.tmp x) = a.eval (.tmp x) := fun x h1 h2 h3 => by rw [eval_other h3, eval_other h2, eval_other h1]
    have ha : ∀ i, i < wp.heap.size → (wg.alloc o).heap[i]? = wp.heap[i]? := fun i hi => (hal.block i (by omega)).trans (hpg.block i hi)
    exact ⟨hit, eval_same (Nat.lt_of_lt_of_eq (by decide : 31 < 74) hsz1.symm), (q 0 (by decide) (by decide) (by decide)).trans h0, (q 4 (by decide) (by decide) (by decide)).trans h4, (q 9 (by decide) (by decide) (by decide)).trans h9, by rw [put_size]; exact hsz1, by simp only [put_defers]; exact hdf, rfl, rfl, rfl, hltr, fun i hi _ _ => hal.block i hi, (ha b4 l4).trans hB4, fun k hk => by (cases hk),
      none, false, 0, 0, (q 10 (by decide) (by decide) (by decide)).trans h10, (ha b9 l9).trans hB9, rfl, fun k hk => by (cases hk), by decide, by decide⟩
theorem watch_ok : tab3.ok 54 := by
  refine Tab.of_ct rfl rfl ⟨_, Try.func54, by decide, rfl⟩ ?_ ctF_det
  refine ct_ok_open (cx := cwat1) (bds := []) wat_cx Try.func54 (c := bodyOf Try.f54) rfl ⟨by decide, by decide, by decide⟩ fun cs hcs _ => ⟨bds_nil _, fun F w0 Γ a w Q hρ hs hk => ?_⟩
  obtain ⟨sv, sens, v, rows, d, rfl, hty⟩ : ∃ sv sens v rows d, cs = [.s sv sens, .s v rows] ∧ TyN Try.prog d 40 rows := by
    match cs, hcs with
    | [c1, c2], ⟨⟨_, sv, sens, d', e1, _⟩, ⟨_, v, rows, d, e2, hty⟩, _⟩ => exact ⟨sv, sens, v, rows, d, by rw [e1, e2], hty⟩
  have hsmall := fun c hc => CTy.small hcs (c := c) hc
  rw [wat_split]
  refine pre_seg (R := ctWatch.post [.s sv sens, .s v rows]) wat_cx (Ls := []) wat_tree1 (by kernel_rfl) rfl (I := fun _ => sensorsE sens = 0 ∧ checkV sens.length rows = 0) (by rw [hρ]; exact wat_vc1 fun e _ he => he) hs ?_ ?_
  · intro xs Γx a' wp hxs hI hρ' he hs'
    obtain ⟨hs0, hc0⟩ := hI
    have hx : xs = [] := by cases xs with | nil => rfl | cons x xs => exact hxs.elim
    subst hx
    rw [List.append_nil, hρ] at hρ'
    have ev : ∀ t sv, t < 1000 → look watSt1.sl t = some sv → a'.eval (.tmp t) = sv.den Γx := fun t sv ht hl => by
      have := (hs'.slots t sv hl).1
      unfold slotV at this
      rwa [if_pos ht] at this
    have hO : ∀ b o, (Γx.base b o ∨ b = Γx.blk 0 ∨ b = Γx.blk 1) → Own Γx watSt1 b o := fun b o h => by
      rcases h with h | h | h
      · exact .inl h
      · exact .inr (.inl ⟨0, _, rfl, h.symm⟩)
      · exact .inr (.inl ⟨1, _, rfl, h.symm⟩)
    have hS : ArrOK Try.prog wp (fun b o => Γx.base b o ∨ b = Γx.blk 0 ∨ b = Γx.blk 1) 23 (.s sv sens) := by
      have h2 : ArrOK Try.prog wp (Own Γx watSt1) 23 ((E.var 0).ev Γx.ρ) := (hs'.slots 0 _ (rfl : look watSt1.sl 0 = some (.one (.lf (.arr 23 (.var 0)))))).2 (.arr 23 (.var 0)) (by simp [S0.cells])
      rw [show (E.var 0).ev Γx.ρ = .s sv sens by rw [ev_var, hρ']; rfl] at h2
      exact h2.keep (Nat.le_refl _) fun b o _ hno => ⟨rfl, fun h => hno (hO b o h)⟩
    have hA : ArrOK Try.prog wp (fun b o => Γx.base b o ∨ b = Γx.blk 0 ∨ b = Γx.blk 1) 40 (.s v rows) := by
      have h2 : ArrOK Try.prog wp (Own Γx watSt1) 40 ((E.var 1).ev Γx.ρ) := (hs'.slots 1 _ (rfl : look watSt1.sl 1 = some (.one (.lf (.arr 40 (.var 1)))))).2 (.arr 40 (.var 1)) (by simp [S0.cells])
      rw [show (E.var 1).ev Γx.ρ = .s v rows by rw [ev_var, hρ']; rfl] at h2
      exact h2.keep (Nat.le_refl _) fun b o _ hno => ⟨rfl, fun h => hno (hO b o h)⟩
    obtain ⟨m1, -, m1F, -⟩ := hs'.mem 1 _ (rfl : look watSt1.mem 1 = some (81, [.int (.lit 0), .int (.lit 0)]))
    obtain ⟨m0, -, m0F, -⟩ := hs'.mem 0 _ (rfl : look watSt1.mem 0 = some (81, [.int (.lit 0), .int (.lit 0)]))
    have h49 : Γx.blk 0 ≠ Γx.blk 1 := fun e => by
      have := (hs'.inj true 0 true 1 _ (Hold.mem (Γ := Γx) (st := watSt1) (j := 0) rfl) (e ▸ Hold.mem (Γ := Γx) (st := watSt1) (j := 1) rfl)).2
      cases this
    refine wat_rest (Γ := Γx) (R := ctWatch.post [.s sv sens, .s v rows]) hρ' hs'.nb rfl rfl h49 m0.lt m1.lt m0F m1F (hsmall _ (by simp)) (hsmall _ (by simp)) hty hs'.fold (fun b o h => hs'.base b o h) hs'.keeps hS hA m0 m1 hs0 hc0 (fun s t f h => ?_) (hk.mono he (List.prefix_refl _)) hs'.size hs'.defers ?_ ?_ (ev 4 _ (by decide) rfl) (ev 9 _ (by decide) rfl) (ev 10 _ (by decide) rfl)
    · show [C.i s, .i t, .b f, .i 0] = watchV sens rows
      unfold watchV
      rw [if_pos hs0, if_pos hc0, h]
    · refine (ev 0 _ (by decide) rfl).trans ?_
      simp only [SV.den, S0.den, Lf.den, ev_var, hρ']
      obtain ⟨v1, r1, e, -⟩ := hS
      cases e; rfl
    · refine (ev 1 _ (by decide) rfl).trans ?_
      simp only [SV.den, S0.den, Lf.den, ev_var, hρ']
      obtain ⟨v1, r1, e, -⟩ := hA
      cases e; rfl
  · intro x st' T' Γ' Ls' hx hk' he hlen' hv' a' w' hs'
    exact hk x st' T' Γ' Ls' hk' he (List.nil_prefix) hlen' hv' a' w' hs'
end Go.Proofs.Ytlbgcjpkegpmlaa
/- A slice of integers among the arguments. -/
namespace Go.Proofs.Ytlbgcjpkegpmlaa
open Go.RowKit
theorem kinds_int : kinds Try.prog 3 = some [.int] := by kernel_rfl
theorem rep_nums {W : World} {A : Option Addr} {n c : Nat} (h : NumsAt W W.heap.size A n) : ∃ rows, LRep Try.prog W (fun _ _ => False) (.arr 3) (.slice A n c) (.s (.slice A n c) rows) := by
  obtain ⟨h1, h2⟩ := h
  by_cases hn : n = 0
  · subst hn
    refine ⟨[], fun m => ?_, rfl, .slice A 0 c, [], rfl, 1, fun _ _ => False, fun _ _ h => h.elim, [.int], kinds_int, A, c, rfl, fun h => absurd rfl h⟩
    cases m with
    | zero => trivial
    | succ m => exact ⟨by simp, fun r hr => by cases hr⟩
  · obtain ⟨d, o, rfl, hd, hx⟩ := h2 (by omega)
    let xs : Nat → Int := fun i => if h : i < n then (hx i h).choose else 0
    have hxs : ∀ i, i < n → W.cell? ⟨d, o + i, none⟩ = some (.int .i64 (xs i)) ∧ -9223372036854775808 ≤ xs i ∧ xs i ≤ 9223372036854775807 := fun i hi => by
      have := (hx i hi).choose_spec
      simp only [xs, dif_pos hi]; exact this
    let rows : List (List C) := (List.range n).map fun i => [.i (xs i)]
    have hlen : rows.length = n := by simp [rows]
    refine ⟨rows, fun m => ?_, rfl, .slice (some ⟨d, o, none⟩) n c, rows, rfl, 1, fun b _ => b < W.heap.size, fun b o h => ⟨h, fun h => h⟩, [.int], kinds_int, some ⟨d, o, none⟩, c, by rw [hlen], fun _ => ⟨d, o, rfl, fun i r hi => ?_⟩⟩
    · cases m with
      | zero => trivial
      | succ m =>
        refine ⟨by rw [hlen]; omega, fun r hr c hc => ?_⟩
        obtain ⟨i, hi, rfl⟩ := List.mem_map.1 hr
        rw [List.mem_singleton] at hc
        subst hc
        have := hxs i (List.mem_range.1 hi)
        cases m <;> exact ⟨this.2.1, this.2.2⟩
    · simp only [rows, List.getElem?_map, Option.map_eq_some_iff] at hi
      obtain ⟨k, hk, rfl⟩ := hi
      have hi' : i < n := by
        rcases Nat.lt_or_ge i n with h | h
        · exact h
        · rw [List.getElem?_eq_none (by simpa using h)] at hk; cases hk
      rw [List.getElem?_range hi'] at hk
      cases hk
      refine ⟨rfl, fun j k hj => ?_⟩
      match j, hj with
      | 0, hj =>
        cases hj
        refine ⟨hd, .int .i64 (xs i), .i (xs i), ?_, rfl, xs i, rfl, rfl⟩
        simpa using (hxs i hi').1
theorem rep_arr {W : World} {O : Nat → Nat → Prop} {ss : List Sh0} {vs : List Value} {cs : List C} {t : TypeId} {v : Value} {c : C} {old : Option Nat} (h : LRep Try.prog W O (.arr t) v c) (hr : Reps Try.prog W O old ss vs cs) :
    Reps Try.prog W O old (.lf (.arr t) :: ss) (v :: vs) (c :: cs) :=
  ⟨[_], _, rfl, ⟨_, rfl, h⟩, hr⟩
end Go.Proofs.Ytlbgcjpkegpmlaa
/- A slice of structs of integers among the arguments, opened. -/
namespace Go.Proofs.Ytlbgcjpkegpmlaa
open Go.ChangeShapes Go.WideShapes Go.RowKit Go.Deep
/-- n rows of m integers each, in blocks below b. -/
def RowsIn (w : World) (b : Nat) (A : Option Addr) (n m : Nat) : Prop :=
  n ≤ 9223372036854775807 ∧ (0 < n → ∃ d o, A = some ⟨d, o, none⟩ ∧ d < b ∧ ∀ i, i < n → ∀ j, j < m → ∃ x : Int, w.cell? ⟨d, o + (i * m + j), none⟩ = some (.int .i64 x) ∧ -9223372036854775808 ≤ x ∧ x ≤ 9223372036854775807)
section
variable {H : Type} {enc : TypeId × Value → H} {P : Program} {base : Nat} {spare : Nat → Bool} {held : Bool}
theorem open_rows {r : Reach} {b0 k : Nat} {t e : TypeId} {v : Value} {d : DataW H} {p : List MemPlace} {W : World} (hu : P.underlying t = some (.slice e)) (he : intsB P k e = true) (hc : 0 < P.cellsOf e)
    (hv : Value.okWide P W r b0 t v) (hx : DataW.Trod enc P W base spare held t v d p) :
    ∃ A n c, v = .slice A n c ∧ RowsIn W W.heap.size A n (P.cellsOf e) := by
  obtain ⟨A, n, c, rfl⟩ := okWide_slice hu hv
  refine ⟨A, n, c, rfl, ?_⟩
  obtain ⟨fuel, hf⟩ := hx
  rcases open_slice hu hf with ⟨hcs, _⟩ | ⟨a, len, cap, m, nn, D, Pl, hcs, hb, hl, hm, hmm, _, hx⟩
  · simp [Value.cells] at hcs
    obtain ⟨rfl, rfl, rfl⟩ := hcs
    exact ⟨by omega, fun h => absurd h (by omega)⟩
  · simp [Value.cells] at hcs
    obtain ⟨rfl, rfl, rfl⟩ := hcs
    have hlm : n ≤ m := by rw [hmm]; split <;> omega
    refine ⟨by unfold maxLen at hm; omega, fun hn => ?_⟩
    have each : ∀ i, i < n → ∀ j, j < P.cellsOf e → ∃ x : Int, W.cell? (a.add (i * P.cellsOf e + j)) = some (.int .i64 x) ∧ -9223372036854775808 ≤ x ∧ x ≤ 9223372036854775807 := by
      intro i hi j hj
      obtain ⟨cs', h1, h2⟩ := hx i (by omega)
      obtain ⟨_, hlen, hcell⟩ := World.cells?_some h1
      obtain ⟨_, hints⟩ := ints_of k e nn cs' _ he h2
      obtain ⟨x, hx1, hx2⟩ := hints j (by omega)
      refine ⟨x, ?_, wf_bd hx2⟩
      rw [← hx1, ← hcell j hj, add_add]
    obtain ⟨d, o, s⟩ := a
    obtain ⟨x0, h0, -⟩ := each 0 hn 0 hc
    have hs : s = none := by simpa [Addr.add] using World.cell?_spot h0
    subst hs
    refine ⟨d, o, rfl, ?_, fun i hi j hj => ?_⟩
    · have := World.block_lt_of_cell? _ _ h0
      simpa [Addr.add] using this
    · obtain ⟨x, h1, h2⟩ := each i hi j hj
      exact ⟨x, by rw [← Go.WideShapes.add_plain]; exact h1, h2⟩
end
theorem rep_rows {W : World} {A : Option Addr} {n c m : Nat} {te : TypeId} (hk : kinds Try.prog te = some (List.replicate m .int)) (h : RowsIn W W.heap.size A n m) :
    ∃ rows, LRep Try.prog W (fun _ _ => False) (.arr te) (.slice A n c) (.s (.slice A n c) rows) := by
  obtain ⟨h1, h2⟩ := h
  by_cases hn : n = 0
  · subst hn
    refine ⟨[], fun m => ?_, rfl, .slice A 0 c, [], rfl, 1, fun _ _ => False, fun _ _ h => h.elim, _, hk, A, c, rfl, fun h => absurd rfl h⟩
    cases m with
    | zero => trivial
    | succ m => exact ⟨by simp, fun r hr => by cases hr⟩
  · obtain ⟨d, o, rfl, hd, hx⟩ := h2 (by omega)
    let xs : Nat → Nat → Int := fun i j => if h : i < n ∧ j < m then (hx i h.1 j h.2).choose else 0
    have hxs : ∀ i j, i < n → j < m → W.cell? ⟨d, o + (i * m + j), none⟩ = some (.int .i64 (xs i j)) ∧ -9223372036854775808 ≤ xs i j ∧ xs i j ≤ 9223372036854775807 := fun i j hi hj => by
      have := (hx i hi j hj).choose_spec
      simp only [xs, dif_pos (And.intro hi hj)]; exact this
    let rows : List (List C) := (List.range n).map fun i => (List.range m).map fun j => .i (xs i j)
    have hlen : rows.length = n := by simp [rows]
    refine ⟨rows, fun q => ?_, rfl, .slice (some ⟨d, o, none⟩) n c, rows, rfl, 1, fun b _ => b < W.heap.size, fun b o h => ⟨h, fun h => h⟩, _, hk, some ⟨d, o, none⟩, c, by rw [hlen], fun _ => ⟨d, o, rfl, fun i r hi => ?_⟩⟩
    · cases q with
      | zero => trivial
      | succ q =>
        refine ⟨by rw [hlen]; omega, fun r hr c hc => ?_⟩
        obtain ⟨i, hi, rfl⟩ := List.mem_map.1 hr
        obtain ⟨j, hj, rfl⟩ := List.mem_map.1 hc
        have := hxs i j (List.mem_range.1 hi) (List.mem_range.1 hj)
        cases q <;> exact ⟨this.2.1, this.2.2⟩
    · simp only [rows, List.getElem?_map, Option.map_eq_some_iff] at hi
      obtain ⟨k, hk', rfl⟩ := hi
      have hi' : i < n := by
        rcases Nat.lt_or_ge i n with h | h
        · exact h
        · rw [List.getElem?_eq_none (by simpa using h)] at hk'; cases hk'
      rw [List.getElem?_range hi'] at hk'
      cases hk'
      refine ⟨by simp, fun j k hj => ?_⟩
      have hj' : j < m := by
        rcases Nat.lt_or_ge j m with h | h
        · exact h
        · rw [List.getElem?_eq_none (by simpa using h)] at hj; cases hj
      have hkk : k = .int := by
        have := List.mem_of_getElem? hj
        exact (List.mem_replicate.1 this).2
      subst hkk
      rw [List.length_replicate]
      exact ⟨hd, .int .i64 (xs i j), .i (xs i j), (hxs i j hi' hj').1, by simp [hj'], xs i j, rfl, rfl⟩
end Go.Proofs.Ytlbgcjpkegpmlaa
/- What is to be shown of each function, as the executor has it. Printed by trees.py. -/
namespace Go.Proofs.Ytlbgcjpkegpmlaa
noncomputable def crfirst : Cx := tab.only [78] (fun _ => []) [] 0 []
def trfirst : Tree :=
  (.loop [.int, .bool, .int] [(.int (.lit 0)), (.bool (.lit false)), (.int (.lit 0))] (.ob (.and (.cmp .le (.lit (-9223372036854775808)) (.mul (.var 13) (.var 1))) (.cmp .le (.mul (.var 13) (.var 1)) (.lit 9223372036854775807))) (.ob (.and (.cmp .le (.lit (-9223372036854775808)) (.add (.var 10) (.mul (.var 13) (.var 1)))) (.cmp .le (.add (.var 10) (.mul (.var 13) (.var 1))) (.lit 9223372036854775807))) (.split (.cmp .le (.add (.var 10) (.mul (.var 13) (.var 1))) (.lit 10000)) (.ob (.and (.cmp .le (.lit (-9223372036854775808)) (.mul (.var 13) (.var 1))) (.cmp .le (.mul (.var 13) (.var 1)) (.lit 9223372036854775807))) (.ob (.and (.cmp .le (.lit (-9223372036854775808)) (.add (.var 10) (.mul (.var 13) (.var 1)))) (.cmp .le (.add (.var 10) (.mul (.var 13) (.var 1))) (.lit 9223372036854775807))) (.ob (.and (.cmp .le (.lit (-9223372036854775808)) (.add (.var 10) (.mul (.var 13) (.var 1)))) (.cmp .le (.add (.var 10) (.mul (.var 13) (.var 1))) (.lit 9223372036854775807))) (.call 78 [(.int (.var 0)), (.int (.var 1)), (.int (.var 2)), (.int (.var 3)), (.int (.var 4)), (.int (.var 5)), (.int (.var 6)), (.int (.var 7)), (.int (.var 8)), (.int (.var 9)), (.int (.add (.var 10) (.mul (.var 13) (.var 1))))] (.ob (.and (.cmp .le (.lit (-9223372036854775808)) (.mul (.var 3) (.var 4))) (.cmp .le (.mul (.var 3) (.var 4)) (.lit 9223372036854775807))) (.ob (.and (.cmp .le (.lit (-9223372036854775808)) (.sub (.var 14) (.mul (.var 3) (.var 4)))) (.cmp .le (.sub (.var 14) (.mul (.var 3) (.var 4))) (.lit 9223372036854775807))) (.split (.cmp .le (.var 6) (.sub (.var 14) (.mul (.var 3) (.var 4)))) (.ret [(.int (.var 13)), (.bool (.lit true))]) (.ob (.and (.cmp .le (.lit (-9223372036854775808)) (.add (.var 13) (.lit 1))) (.cmp .le (.add (.var 13) (.lit 1)) (.lit 9223372036854775807))) (.ob (.and (.cmp .le (.lit (-9223372036854775808)) (.add (.var 13) (.lit 1))) (.cmp .le (.add (.var 13) (.lit 1)) (.lit 9223372036854775807))) (.back 0 [(.int (.var 11)), (.bool (.of (.var 12))), (.int (.add (.var 13) (.lit 1)))])))))))))) (.ret [(.int (.lit 0)), (.bool (.lit false))])))))
noncomputable def crlate1 : Cx := tab.only [97] (fun _ => []) [] 0 []
def trlate1 : Tree :=
  (.call 97 [(.int (.var 0)), (.int (.var 1)), (.int (.var 2)), (.int (.var 3)), (.int (.var 4)), (.int (.var 5)), (.int (.var 6)), (.int (.var 7)), (.int (.var 8)), (.int (.var 9)), (.int (.var 10))] (.ob (.and (.cmp .le (.lit (-9223372036854775808)) (.add (.var 5) (.lit 1))) (.cmp .le (.add (.var 5) (.lit 1)) (.lit 9223372036854775807))) (.ob (.and (.cmp .le (.lit (-9223372036854775808)) (.mul (.var 7) (.add (.var 5) (.lit 1)))) (.cmp .le (.mul (.var 7) (.add (.var 5) (.lit 1))) (.lit 9223372036854775807))) (.ob (.and (.cmp .le (.lit (-9223372036854775808)) (.add (.var 11) (.mul (.var 7) (.add (.var 5) (.lit 1))))) (.cmp .le (.add (.var 11) (.mul (.var 7) (.add (.var 5) (.lit 1)))) (.lit 9223372036854775807))) (.ob (.and (.cmp .le (.lit (-9223372036854775808)) (.sub (.add (.var 11) (.mul (.var 7) (.add (.var 5) (.lit 1)))) (.lit 1))) (.cmp .le (.sub (.add (.var 11) (.mul (.var 7) (.add (.var 5) (.lit 1)))) (.lit 1)) (.lit 9223372036854775807))) (.ob (.and (.cmp .le (.lit (-9223372036854775808)) (.mul (.sub (.add (.var 11) (.mul (.var 7) (.add (.var 5) (.lit 1)))) (.lit 1)) (.var 1))) (.cmp .le (.mul (.sub (.add (.var 11) (.mul (.var 7) (.add (.var 5) (.lit 1)))) (.lit 1)) (.var 1)) (.lit 9223372036854775807))) (.ob (.and (.cmp .le (.lit (-9223372036854775808)) (.add (.var 10) (.mul (.sub (.add (.var 11) (.mul (.var 7) (.add (.var 5) (.lit 1)))) (.lit 1)) (.var 1)))) (.cmp .le (.add (.var 10) (.mul (.sub (.add (.var 11) (.mul (.var 7) (.add (.var 5) (.lit 1)))) (.lit 1)) (.var 1))) (.lit 9223372036854775807))) (.ob (.and (.cmp .le (.lit (-9223372036854775808)) (.add (.add (.var 10) (.mul (.sub (.add (.var 11) (.mul (.var 7) (.add (.var 5) (.lit 1)))) (.lit 1)) (.var 1))) (.var 2))) (.cmp .le (.add (.add (.var 10) (.mul (.sub (.add (.var 11) (.mul (.var 7) (.add (.var 5) (.lit 1)))) (.lit 1)) (.var 1))) (.var 2)) (.lit 9223372036854775807))) (.split (.of (.var 12)) (.ob (.and (.cmp .le (.lit (-9223372036854775808)) (.add (.add (.var 10) (.mul (.sub (.add (.var 11) (.mul (.var 7) (.add (.var 5) (.lit 1)))) (.lit 1)) (.var 1))) (.var 2))) (.cmp .le (.add (.add (.var 10) (.mul (.sub (.add (.var 11) (.mul (.var 7) (.add (.var 5) (.lit 1)))) (.lit 1)) (.var 1))) (.var 2)) (.lit 9223372036854775807))) (.ret [(.int (.add (.add (.var 10) (.mul (.sub (.add (.var 11) (.mul (.var 7) (.add (.var 5) (.lit 1)))) (.lit 1)) (.var 1))) (.var 2))), (.int (.var 11)), (.bool (.cmp .le (.add (.add (.var 10) (.mul (.sub (.add (.var 11) (.mul (.var 7) (.add (.var 5) (.lit 1)))) (.lit 1)) (.var 1))) (.var 2)) (.lit 10000)))])) (.ob (.and (.cmp .le (.lit (-9223372036854775808)) (.add (.add (.var 10) (.mul (.sub (.add (.var 11) (.mul (.var 7) (.add (.var 5) (.lit 1)))) (.lit 1)) (.var 1))) (.var 2))) (.cmp .le (.add (.add (.var 10) (.mul (.sub (.add (.var 11) (.mul (.var 7) (.add (.var 5) (.lit 1)))) (.lit 1)) (.var 1))) (.var 2)) (.lit 9223372036854775807))) (.ret [(.int (.add (.add (.var 10) (.mul (.sub (.add (.var 11) (.mul (.var 7) (.add (.var 5) (.lit 1)))) (.lit 1)) (.var 1))) (.var 2))), (.int (.var 11)), (.bool (.lit false))])))))))))))
noncomputable def crworst : Cx := tab.only [95] (fun _ => []) [] 0 []
def trworst : Tree :=
  (.loop [.int, .int, .int, .bool, .int, .int, .int, .int] [(.int (.lit 0)), (.int (.lit 0)), (.int (.lit 0)), (.bool (.lit false)), (.int (.lit (-1))), (.int (.lit 0)), (.int (.lit 0)), (.int (.lit 0))] (.split (.cmp .lt (.var 17) (.var 1)) (.call 95 [(.int (.var 0)), (.int (.var 1)), (.int (.var 2)), (.int (.var 3)), (.int (.var 4)), (.int (.var 5)), (.int (.var 6)), (.int (.var 7)), (.int (.var 8)), (.int (.var 9)), (.int (.var 17))] (.split (.not (.of (.var 20))) (.ret [(.int (.lit 0)), (.int (.lit 0)), (.int (.lit 0)), (.bool (.lit false))]) (.split (.cmp .lt (.var 14) (.var 18)) (.back 0 [(.int (.var 10)), (.int (.var 11)), (.int (.var 12)), (.bool (.of (.var 13))), (.int (.var 18)), (.int (.var 17)), (.int (.var 19)), (.int (.add (.var 17) (.lit 1)))]) (.back 0 [(.int (.var 10)), (.int (.var 11)), (.int (.var 12)), (.bool (.of (.var 13))), (.int (.var 14)), (.int (.var 15)), (.int (.var 16)), (.int (.add (.var 17) (.lit 1)))])))) (.ret [(.int (.var 14)), (.int (.var 15)), (.int (.var 16)), (.bool (.lit true))])))
noncomputable def crlate : Cx := tab.only [41, 37, 87] (fun _ => []) [] 0 []
def trlate : Tree :=
  (.call 41 [(.int (.var 0)), (.int (.var 1)), (.int (.var 2)), (.int (.var 3)), (.int (.var 4)), (.int (.var 5)), (.int (.var 6)), (.int (.var 7))] (.split (.cmp .ne (.var 10) (.lit 0)) (.ret [(.int (.lit 0)), (.bool (.lit false))]) (.call 37 [(.int (.var 8)), (.int (.var 9))] (.split (.cmp .ne (.var 11) (.lit 0)) (.ret [(.int (.lit 0)), (.bool (.lit false))]) (.call 87 [(.int (.var 0)), (.int (.var 1)), (.int (.var 2)), (.int (.var 3)), (.int (.var 4)), (.int (.var 5)), (.int (.var 6)), (.int (.var 7)), (.int (.var 8)), (.int (.var 9))] (.ret [(.int (.var 12)), (.bool (.of (.var 15)))]))))))
noncomputable def crearl : Cx := tab.only [58] (fun _ => []) [] 0 []
def trearl : Tree :=
  (.loop [.int, .int] [(.int (.lit (-1))), (.int (.lit 0))] (.split (.cmp .lt (.var 4) (.len (.var 0))) (.ob (.cmp .le (.lit 0) (.var 4)) (.ob (.cmp .lt (.var 4) (.len (.var 0))) (.call 58 [(.int (.cell (.var 0) (.var 4) 0)), (.int (.cell (.var 0) (.var 4) 1)), (.int (.cell (.var 0) (.var 4) 2)), (.int (.cell (.var 0) (.var 4) 3)), (.int (.cell (.var 0) (.var 4) 4)), (.int (.cell (.var 0) (.var 4) 5)), (.int (.cell (.var 0) (.var 4) 6)), (.int (.cell (.var 0) (.var 4) 7)), (.int (.var 1)), (.int (.var 2))] (.split (.of (.var 6)) (.split (.cmp .lt (.var 3) (.lit 0)) (.back 0 [(.int (.var 5)), (.int (.add (.var 4) (.lit 1)))]) (.split (.cmp .lt (.var 5) (.var 3)) (.back 0 [(.int (.var 5)), (.int (.add (.var 4) (.lit 1)))]) (.back 0 [(.int (.var 3)), (.int (.add (.var 4) (.lit 1)))]))) (.back 0 [(.int (.var 3)), (.int (.add (.var 4) (.lit 1)))]))))) (.split (.cmp .lt (.var 3) (.lit 0)) (.ret [(.int (.lit 0)), (.int (.lit 13))]) (.ret [(.int (.var 3)), (.int (.lit 0))]))))
noncomputable def crlatest : Cx := tab.only [43, 39, 76, 90] (fun _ => []) [] 0 []
def trlatest : Tree :=
  (.call 43 [(.arr 23 (.var 0))] (.split (.cmp .ne (.var 5) (.lit 0)) (.ret [(.int (.lit 0)), (.int (.var 5))]) (.call 39 [(.int (.var 1)), (.int (.var 2)), (.int (.var 3)), (.int (.var 4))] (.split (.cmp .ne (.var 6) (.lit 0)) (.ret [(.int (.lit 0)), (.int (.var 6))]) (.call 76 [(.int (.var 1)), (.int (.var 2)), (.int (.var 3)), (.int (.var 4))] (.call 90 [(.arr 23 (.var 0)), (.int (.var 7)), (.int (.var 8))] (.ret [(.int (.var 9)), (.int (.var 10))])))))))
noncomputable def crcaught : Cx := tab.only [43, 37, 45, 90] (fun _ => []) [] 0 []
def trcaught : Tree :=
  (.call 43 [(.arr 23 (.var 0))] (.split (.cmp .ne (.var 3) (.lit 0)) (.ret [(.int (.lit 0)), (.int (.lit 0)), (.int (.var 3))]) (.call 37 [(.int (.var 1)), (.int (.var 2))] (.split (.cmp .ne (.var 4) (.lit 0)) (.ret [(.int (.lit 0)), (.int (.lit 0)), (.int (.var 4))]) (.call 90 [(.arr 23 (.var 0)), (.int (.var 1)), (.int (.var 2))] (.split (.cmp .ne (.var 6) (.lit 0)) (.ret [(.int (.lit 0)), (.int (.lit 0)), (.int (.var 6))]) (.call 45 [(.int (.var 1)), (.int (.var 2)), (.int (.var 5))] (.ret [(.int (.var 5)), (.int (.var 7)), (.int (.lit 0))]))))))))
end Go.Proofs.Ytlbgcjpkegpmlaa
/- The document's latest alarms. -/
namespace Go.Proofs.Ytlbgcjpkegpmlaa
open Go.RowKit
set_option linter.unusedSimpArgs false
set_option linter.unusedVariables false

theorem firA_rg' {x : SK} {f : Int} : ∀ {n : Nat} {s a : Int}, firA x f n s = some a → s ≤ a ∧ f + a * x.pe ≤ 10000
  | 0, s, a, h => by cases h
  | n + 1, s, a, h => by
    rw [firA] at h
    split at h
    · split at h
      · cases h; exact ⟨Int.le_refl _, by assumption⟩
      · have := firA_rg' h; omega
    · cases h
theorem firA_rg {x : SK} {f a : Int} (hp : 1 ≤ x.pe) (hf : 0 ≤ f) (h : firA x f 10001 0 = some a) : 0 ≤ a ∧ a ≤ 10000 := by
  obtain ⟨h1, h2⟩ := firA_rg' h
  have := Int.mul_le_mul_of_nonneg_left hp h1
  omega
/-- The latest alarm is not before the beginning. -/
theorem latL_pos {x : SK} (hp : 1 ≤ x.pe) (hr : 0 < x.ho * (x.lo + 1)) (hd : 0 ≤ x.de) : ∀ {k : Nat} {f o p q O P Q : Int}, 0 ≤ f → latL x k f o p q = some (O, P, Q) → o ≤ O ∧ (0 < k → 0 ≤ O)
  | 0, f, o, p, q, O, P, Q, hf, h => by cases h; exact ⟨Int.le_refl _, fun h => absurd h (by omega)⟩
  | k + 1, f, o, p, q, O, P, Q, hf, h => by
    rw [latL] at h
    split at h
    · cases h
    · rename_i a ha
      have h1 := firA_rg hp hf ha
      have ht : 0 ≤ tickV x f a := by
        unfold tickV
        have := Int.mul_nonneg (show 0 ≤ a + x.ho * (x.lo + 1) - 1 by omega) (show 0 ≤ x.pe by omega)
        omega
      split at h
      · cases h
      · split at h
        · have := latL_pos hp hr hd (by omega) h
          omega
        · have := latL_pos hp hr hd (by omega) h
          omega
theorem at_pos {x : SK} (hx : SKOk x) {o : Int} (h : atO (latV x) = some o) : 0 ≤ o := by
  obtain ⟨hch, hso⟩ := sensE_iff.1 hx.1
  unfold SOk at hso
  cases hv : latV x with
  | none => rw [hv] at h; cases h
  | some v =>
    obtain ⟨a, b, c⟩ := v
    rw [hv] at h
    cases h
    unfold latV at hv
    exact (latL_pos (by omega) (Int.mul_pos (by omega) (by omega)) (by omega) (Int.le_refl 0) hv).2 (by omega)
theorem minL_snoc {row : List C} : ∀ {l : List (List C)} {m : Int}, minL m (l ++ [row]) = min (minL m l) (cell_ row 0)
  | [], m => rfl
  | x :: l, m => by
    show minL (min m (cell_ x 0)) (l ++ [row]) = _
    rw [minL_snoc]; rfl
theorem minR_snoc {l : List (List C)} {row : List C} : minR (l ++ [row]) = if l = [] then cell_ row 0 else min (minR l) (cell_ row 0) := by
  cases l with
  | nil => rfl
  | cons x l =>
    rw [if_neg (by simp)]
    show minL (cell_ x 0) (l ++ [row]) = _
    rw [minL_snoc]; rfl
theorem latE_two {x : SK} {n : Int} {is : Bool} (hx : SKOk x) (h : [C.i n, .b is] = latE x) : (is = true → atO (latV x) = some n ∧ 0 ≤ n) ∧ (is = false → atO (latV x) = none) := by
  unfold latE at h
  rw [if_pos hx] at h
  cases ha : atO (latV x) with
  | none => rw [ha] at h; cases h; exact ⟨fun h => (by cases h), fun _ => rfl⟩
  | some o => rw [ha] at h; cases h; exact ⟨fun _ => ⟨rfl, at_pos hx ha⟩, fun h => (by cases h)⟩
theorem rfirst_ok : tab.ok 97 := by
  refine Tab.of_ct rfl rfl ⟨_, Try.func97, by decide, rfl⟩ ?_ ctF_det
  refine ct_ok (cx := crfirst) (Tab.cx_ok (all_cons rsays_ok all_nil)) Try.func97 (bds := []) (T := trfirst) (by kernel_rfl) ?_
  have h1 : crfirst.ct 78 = some ctSays := rfl
  unfold trfirst
  simp only [VC, allC, List.map_cons, List.map_nil, List.length_cons, List.length_nil, List.getElem?_cons_zero, List.getElem?_cons_succ, List.cons.injEq, C.i.injEq, C.b.injEq, and_true, true_and, forall_const, kindsOf_nil, kindsOf_lf, kindsOf_agg, kindsOf_box, boxKinds_nil, boxKinds_lf, boxKinds_agg, boxKinds_box, List.append_nil, List.cons_append, List.nil_append, den_cmp_le, den_cmp_lt, den_cmp_eq, den_cmp_ne, den_cmp_le', den_cmp_lt', den_cmp_eq', den_cmp_ne', den_and, den_and', den_or, den_or', den_not, den_not', den_blit, den_of, ev_var, at_0, at_1, at_2, at_3, at_4, at_5, at_6, at_7, at_skip, c_int, c_bool, c_arr, c_cnt, c_vec, ev_nil, ev_join, ev_sub3, loc_s, int_i, bool_b, rows_s, cs_nil, cs_cons, E.den_lit, E.den_var, E.den_add, E.den_sub, E.den_mul, E.den_quo, E.den_rem, E.den_max, E.den_min, E.den_len, E.den_wr, E.den_cell, h1, ctFirst, ctSays, ctF, kickSh, sensSh, skOf_mk, cell10]
  intro ch _ _ pe _ _ de _ _ no _ _ st _ _ lo _ _ li _ _ ho _ _ r _ _ g _ _ f _ _ hp
  obtain ⟨⟨hs, hk⟩, f0, f1⟩ := hp
  obtain ⟨hch, hso⟩ := sensE_iff.1 hs
  simp only [] at hch hso hk
  unfold SOk at hso
  have mn := mul_bd (a := no) (b := st) (A := 15) (B := 1048576) (by omega) (by omega) (by omega) (by omega)
  have hgo := fun a (h : a ≤ 10000) => firA_go (ch := ch) (pe := pe) (de := de) (no := no) (st := st) (lo := lo) (li := li) (ho := ho) (r := r) (g := g) (f := f) h
  have hend := fun a n (h : 10000 < f + a * pe) => firA_end (ch := ch) (pe := pe) (de := de) (no := no) (st := st) (lo := lo) (li := li) (ho := ho) (r := r) (g := g) (n := n) h
  generalize hX : SK.mk ch pe de no st lo li ho r g = X at *
  refine ⟨bds_nil _, fun xs => match xs with | [_, _, .i a] => 0 ≤ a ∧ a ≤ 10001 ∧ firA X f (10001 - a).toNat a = firA X f 10001 0 | _ => False, fun xs => match xs with | [_, _, .i a] => (10001 - a).toNat | _ => 0, ⟨by omega, by omega, rfl⟩, ?_⟩
  rintro z _ _ b a _ _ ⟨a0, a1, hA⟩
  have pm := mul_bd (a := a) (b := pe) (A := 10001) (B := 60) (by omega) (by omega) (by omega) (by omega)
  have pg : a ≤ a * pe := by
    have := Int.mul_le_mul_of_nonneg_left (show 1 ≤ pe by omega) a0
    omega
  refine ⟨by omega, by omega, fun hle => ?_, fun hgt => ?_⟩
  · have hg := hgo a (by omega)
    rw [if_pos (by omega), hA] at hg
    refine ⟨by omega, by omega, by omega, ?_⟩
    rintro v _ _ hv
    have hb := @saysV_bd ch r g (f + a * pe)
    rw [← hv] at hb hg
    refine ⟨by omega, by omega, fun hge => ?_, fun hlt => ?_⟩
    · rw [if_pos (by omega)] at hg
      rw [hg]; rfl
    · rw [if_neg (by omega)] at hg
      exact ⟨by omega, by omega, ⟨by omega, by omega, hg.symm⟩, show (10001 - (a + 1)).toNat < (10001 - a).toNat by omega⟩
  · rw [← hA, hend a _ (by omega)]; rfl
theorem rlate1_ok : tab.ok 95 := by
  refine Tab.of_ct rfl rfl ⟨_, Try.func95, by decide, rfl⟩ ?_ ctF_det
  refine ct_ok (cx := crlate1) (Tab.cx_ok (all_cons rfirst_ok all_nil)) Try.func95 (bds := []) (T := trlate1) (by kernel_rfl) ?_
  have h1 : crlate1.ct 97 = some ctFirst := rfl
  unfold trlate1
  simp only [VC, allC, List.map_cons, List.map_nil, List.length_cons, List.length_nil, List.getElem?_cons_zero, List.getElem?_cons_succ, List.cons.injEq, C.i.injEq, C.b.injEq, and_true, true_and, forall_const, kindsOf_nil, kindsOf_lf, kindsOf_agg, kindsOf_box, boxKinds_nil, boxKinds_lf, boxKinds_agg, boxKinds_box, List.append_nil, List.cons_append, List.nil_append, den_cmp_le, den_cmp_lt, den_cmp_eq, den_cmp_ne, den_cmp_le', den_cmp_lt', den_cmp_eq', den_cmp_ne', den_and, den_and', den_or, den_or', den_not, den_not', den_blit, den_of, ev_var, at_0, at_1, at_2, at_3, at_4, at_5, at_6, at_7, at_skip, c_int, c_bool, c_arr, c_cnt, c_vec, ev_nil, ev_join, ev_sub3, loc_s, int_i, bool_b, rows_s, cs_nil, cs_cons, E.den_lit, E.den_var, E.den_add, E.den_sub, E.den_mul, E.den_quo, E.den_rem, E.den_max, E.den_min, E.den_len, E.den_wr, E.den_cell, h1, ctFirst, ctLate1, ctF, kickSh, sensSh, skOf_mk, cell10]
  intro ch _ _ pe _ _ de _ _ no _ _ st _ _ lo _ _ li _ _ ho _ _ r _ _ g _ _ f _ _ hp
  refine ⟨bds_nil _, hp, ?_⟩
  obtain ⟨⟨hs, hk⟩, f0, f1⟩ := hp
  obtain ⟨hch, hso⟩ := sensE_iff.1 hs
  simp only [] at hch hso hk
  unfold SOk at hso
  have mh := mul_bd (a := ho) (b := lo + 1) (A := 8) (B := 6) (by omega) (by omega) (by omega) (by omega)
  have eT : ∀ f a, tickV ⟨ch, pe, de, no, st, lo, li, ho, r, g⟩ f a = f + (a + ho * (lo + 1) - 1) * pe + de := fun f a => rfl
  have rg := fun a => @firA_rg ⟨ch, pe, de, no, st, lo, li, ho, r, g⟩ f a (show 1 ≤ pe by omega) f0
  generalize SK.mk ch pe de no st lo li ho r g = X at *
  rintro a _ _ is h
  have ha : 0 ≤ a ∧ a ≤ 10000 := by
    cases hf : firA X f 10001 0 with
    | none => rw [hf] at h; cases h; omega
    | some b => rw [hf] at h; cases h; exact rg _ hf
  have pt := mul_abs (a := a + ho * (lo + 1) - 1) (b := pe) (A := 10100) (B := 60) (by omega) (by omega) (by omega) (by omega)
  have et := eT f a
  repeat (refine And.intro (by omega) ?_)
  cases hf : firA X f 10001 0 with
  | none =>
    rw [hf] at h
    cases h
    refine ⟨fun h => (by cases h), fun _ => ⟨by omega, ?_⟩⟩
    show _ = [C.i (tickV X f 0), C.i 0, C.b false]
    rw [et]
  | some b =>
    rw [hf] at h
    cases h
    refine ⟨fun _ => ⟨by omega, ?_⟩, fun h => (by cases h)⟩
    show _ = [C.i (tickV X f a), C.i a, C.b (decide (tickV X f a ≤ 10000))]
    rw [et]
    rfl
theorem rworst_ok : tab.ok 87 := by
  refine Tab.of_ct rfl rfl ⟨_, Try.func87, by decide, rfl⟩ ?_ ctF_det
  refine ct_ok (cx := crworst) (Tab.cx_ok (all_cons rlate1_ok all_nil)) Try.func87 (bds := []) (T := trworst) (by kernel_rfl) ?_
  have h1 : crworst.ct 95 = some ctLate1 := rfl
  unfold trworst
  simp only [VC, allC, List.map_cons, List.map_nil, List.length_cons, List.length_nil, List.getElem?_cons_zero, List.getElem?_cons_succ, List.cons.injEq, C.i.injEq, C.b.injEq, and_true, true_and, forall_const, kindsOf_nil, kindsOf_lf, kindsOf_agg, kindsOf_box, boxKinds_nil, boxKinds_lf, boxKinds_agg, boxKinds_box, List.append_nil, List.cons_append, List.nil_append, den_cmp_le, den_cmp_lt, den_cmp_eq, den_cmp_ne, den_cmp_le', den_cmp_lt', den_cmp_eq', den_cmp_ne', den_and, den_and', den_or, den_or', den_not, den_not', den_blit, den_of, ev_var, at_0, at_1, at_2, at_3, at_4, at_5, at_6, at_7, at_skip, c_int, c_bool, c_arr, c_cnt, c_vec, ev_nil, ev_join, ev_sub3, loc_s, int_i, bool_b, rows_s, cs_nil, cs_cons, E.den_lit, E.den_var, E.den_add, E.den_sub, E.den_mul, E.den_quo, E.den_rem, E.den_max, E.den_min, E.den_len, E.den_wr, E.den_cell, h1, ctLate1, ctWorst, ctF, kickSh, sensSh, skOf_mk, cell10]
  intro ch _ _ pe _ _ de _ _ no _ _ st _ _ lo _ _ li _ _ ho _ _ r _ _ g _ _ hp
  have hp' := hp
  obtain ⟨hs, hk⟩ := hp
  obtain ⟨hch, hso⟩ := sensE_iff.1 hs
  simp only [] at hch hso hk
  unfold SOk at hso
  generalize hX : SK.mk ch pe de no st lo li ho r g = X at *
  have epe : X.pe = pe := by rw [← hX]
  have eV : latV X = latL X pe.toNat 0 (-1) 0 0 := by unfold latV; rw [epe]
  have lgo := fun f o p q (h : f < pe) => latL_go (x := X) (f := f) (o := o) (p := p) (q := q) (by omega)
  rw [epe] at lgo
  refine ⟨bds_nil _, fun xs => match xs with | [_, _, _, _, .i o, .i p, .i q, .i f] => 0 ≤ f ∧ f ≤ pe ∧ latV X = latL X (pe - f).toNat f o p q | _ => False, fun xs => match xs with | [_, _, _, _, _, _, _, .i f] => (pe - f).toNat | _ => 0, ⟨by omega, by omega, by rw [eV, Int.sub_zero]⟩, ?_⟩
  rintro z1 _ _ z2 _ _ z3 _ _ zb o _ _ p _ _ q _ _ f _ _ ⟨f0, f1, hI⟩
  refine ⟨fun hlt => ⟨⟨hp', f0, by omega⟩, ?_⟩, fun hge => ?_⟩
  · rintro t _ _ a _ _ is h
    have hl := lgo f o p q hlt
    cases hf : firA X f 10001 0 with
    | none =>
      rw [hf] at h hl
      cases h
      refine ⟨fun _ => (by rw [hI, hl]; rfl), fun h => (by cases h)⟩
    | some b =>
      rw [hf] at h hl
      cases h
      simp only [] at hl
      refine ⟨fun h => ?_, fun h => ⟨fun hlt' => ?_, fun hge' => ?_⟩⟩
      · have : ¬ tickV X f a ≤ 10000 := by simpa using h
        rw [hI, hl, if_pos (by omega)]; rfl
      · have : tickV X f a ≤ 10000 := by simpa using h
        exact ⟨⟨by omega, by omega, by rw [hI, hl, if_neg (by omega), if_pos hlt']⟩, show (pe - (f + 1)).toNat < (pe - f).toNat by omega⟩
      · have : tickV X f a ≤ 10000 := by simpa using h
        exact ⟨⟨by omega, by omega, by rw [hI, hl, if_neg (by omega), if_neg (by omega)]⟩, show (pe - (f + 1)).toNat < (pe - f).toNat by omega⟩
  · rw [hI, show (pe - f).toNat = 0 by omega]; rfl
theorem rlate_ok : tab.ok 58 := by
  refine Tab.of_ct rfl rfl ⟨_, Try.func58, by decide, rfl⟩ ?_ ctF_det
  refine ct_ok (cx := crlate) (Tab.cx_ok (all_cons rsens_ok (all_cons rkick_ok (all_cons rworst_ok all_nil)))) Try.func58 (bds := []) (T := trlate) (by kernel_rfl) ?_
  have h1 : crlate.ct 41 = some ctSens := rfl
  have h2 : crlate.ct 37 = some ctKick := rfl
  have h3 : crlate.ct 87 = some ctWorst := rfl
  unfold trlate
  simp only [VC, allC, List.map_cons, List.map_nil, List.length_cons, List.length_nil, List.getElem?_cons_zero, List.getElem?_cons_succ, List.cons.injEq, C.i.injEq, C.b.injEq, and_true, true_and, forall_const, kindsOf_nil, kindsOf_lf, kindsOf_agg, kindsOf_box, boxKinds_nil, boxKinds_lf, boxKinds_agg, boxKinds_box, List.append_nil, List.cons_append, List.nil_append, den_cmp_le, den_cmp_lt, den_cmp_eq, den_cmp_ne, den_cmp_le', den_cmp_lt', den_cmp_eq', den_cmp_ne', den_and, den_and', den_or, den_or', den_not, den_not', den_blit, den_of, ev_var, at_0, at_1, at_2, at_3, at_4, at_5, at_6, at_7, at_skip, c_int, c_bool, c_arr, c_cnt, c_vec, ev_nil, ev_join, ev_sub3, loc_s, int_i, bool_b, rows_s, cs_nil, cs_cons, E.den_lit, E.den_var, E.den_add, E.den_sub, E.den_mul, E.den_quo, E.den_rem, E.den_max, E.den_min, E.den_len, E.den_wr, E.den_cell, h1, h2, h3, ctLate, ctSens, ctKick, ctLatek, ctWorst, ctF, kickSh, sensSh, skOf_mk]; intro ch _ _ pe _ _ de _ _ no _ _ st _ _ lo _ _ li _ _ ho _ _ r _ _ g _ _; generalize hX : SK.mk ch pe de no st lo li ho r g = X; have hok : SKOk X ↔ sensE ch pe de no st lo li ho = 0 ∧ KOk r g := by { rw [← hX]; exact Iff.rfl }; have no : ¬ SKOk X → latE X = [.i 0, .b false] := fun h => if_neg h; have yes : SKOk X → latE X = (match atO (latV X) with | some o => [.i o, .b true] | none => [.i 0, .b false]) := fun h => if_pos h; refine ⟨bds_nil _, ?_⟩; rintro e _ _ rfl; refine ⟨fun h => (by rw [no fun h' => h (hok.1 h').1]), fun hs => ?_⟩; rintro e _ _ rfl; refine ⟨fun h => (by rw [no fun h' => h (kickE_iff.2 (hok.1 h').2)]), fun hk => ?_⟩; have ok := hok.2 ⟨hs, kickE_iff.1 hk⟩; refine ⟨ok, ?_⟩; rintro o _ _ p _ _ q _ _ t h; obtain ⟨t1, t2⟩ := latC_some h; rw [yes ok]; cases t; (obtain ⟨t3, t4⟩ := t2 rfl; rw [t3, t4]; rfl); (rw [t1 rfl]; rfl)
theorem rearl_ok : tab.ok 90 := by
  refine Tab.of_ct rfl rfl ⟨_, Try.func90, by decide, rfl⟩ ?_ ctF_det
  refine ct_ok (cx := crearl) (Tab.cx_ok (all_cons rlate_ok all_nil)) Try.func90 (bds := []) (T := trearl) (by kernel_rfl) ?_
  have h1 : crearl.ct 58 = some ctLate := rfl
  unfold trearl
  simp only [VC, allC, List.map_cons, List.map_nil, List.length_cons, List.length_nil, List.getElem?_cons_zero, List.getElem?_cons_succ, List.cons.injEq, C.i.injEq, C.b.injEq, and_true, true_and, forall_const, kindsOf_nil, kindsOf_lf, kindsOf_agg, kindsOf_box, boxKinds_nil, boxKinds_lf, boxKinds_agg, boxKinds_box, List.append_nil, List.cons_append, List.nil_append, den_cmp_le, den_cmp_lt, den_cmp_eq, den_cmp_ne, den_cmp_le', den_cmp_lt', den_cmp_eq', den_cmp_ne', den_and, den_and', den_or, den_or', den_not, den_not', den_blit, den_of, ev_var, at_0, at_1, at_2, at_3, at_4, at_5, at_6, at_7, at_skip, c_int, c_bool, c_arr, c_cnt, c_vec, ev_nil, ev_join, ev_sub3, loc_s, int_i, bool_b, rows_s, cs_nil, cs_cons, E.den_lit, E.den_var, E.den_add, E.den_sub, E.den_mul, E.den_quo, E.den_rem, E.den_max, E.den_min, E.den_len, E.den_wr, E.den_cell, h1, ctEarl, ctLate, ctF, kickSh, sensSh, skOf_mk]
  intro v rows d _ _ r _ _ g _ _ hp
  obtain ⟨hl, hs, hk⟩ := hp
  refine ⟨bds_nil _, fun xs => match xs with | [.i out, .i i] => 0 ≤ i ∧ i ≤ rows.length ∧ ((atsL r g (rows.take i.toNat) = [] ∧ out = -1) ∨ (atsL r g (rows.take i.toNat) ≠ [] ∧ out = minR (atsL r g (rows.take i.toNat)) ∧ 0 ≤ out)) | _ => False, fun xs => match xs with | [_, .i i] => ((rows.length : Int) - i).toNat | _ => 0, ⟨by omega, by omega, .inl ⟨rfl, rfl⟩⟩, ?_⟩
  rintro out _ _ i _ _ ⟨i0, i1, hI⟩
  refine ⟨fun hlt => ⟨i0, hlt, ?_⟩, fun hge => ?_⟩
  · have hz : i.toNat < rows.length := by omega
    have ht := take_getD hz
    have hsn := atsL_snoc (r := r) (g := g) (row := rows.getD i.toNat []) (l := rows.take i.toNat)
    rw [← ht, show i.toNat + 1 = (i + 1).toNat by omega] at hsn
    have hok : SKOk (skR r g (rows.getD i.toNat [])) := ⟨firstE_all hs hz, hk⟩
    rintro t _ _ is h
    obtain ⟨t1, t2⟩ := latE_two hok h
    generalize hA : atsL r g (rows.take i.toNat) = A at *
    have mu : ((rows.length : Int) - (i + 1)).toNat < ((rows.length : Int) - i).toNat := by omega
    cases is with
    | false =>
      rw [t2 rfl] at hsn
      simp only [List.append_nil] at hsn
      refine ⟨fun h => (by cases h), fun _ => ⟨⟨by omega, by omega, ?_⟩, mu⟩⟩
      rw [hsn]; exact hI
    | true =>
      obtain ⟨t3, t4⟩ := t1 rfl
      rw [t3] at hsn
      simp only [] at hsn
      have hne : A ++ [[C.i t]] ≠ [] := by simp
      have hm := minR_snoc (l := A) (row := [C.i t])
      have ec : cell_ [C.i t] 0 = t := rfl
      rw [ec] at hm
      refine ⟨fun _ => ⟨fun hneg => ⟨⟨by omega, by omega, .inr ?_⟩, mu⟩, fun hpos => ⟨fun hlt' => ⟨⟨by omega, by omega, .inr ?_⟩, mu⟩, fun hge' => ⟨⟨by omega, by omega, .inr ?_⟩, mu⟩⟩⟩, fun h => (by cases h)⟩
      · rw [hsn]
        refine ⟨hne, ?_, t4⟩
        rcases hI with ⟨e1, e2⟩ | ⟨e1, e2, e3⟩
        · rw [hm, if_pos e1]
        · omega
      · rw [hsn]
        refine ⟨hne, ?_, t4⟩
        rcases hI with ⟨e1, e2⟩ | ⟨e1, e2, e3⟩
        · omega
        · rw [hm, if_neg e1, ← e2]; omega
      · rw [hsn]
        refine ⟨hne, ?_, hpos⟩
        rcases hI with ⟨e1, e2⟩ | ⟨e1, e2, e3⟩
        · omega
        · rw [hm, if_neg e1, ← e2]; omega
  · rw [show i.toNat = rows.length by omega, List.take_length] at hI
    unfold earlC
    rcases hI with ⟨e1, e2⟩ | ⟨e1, e2, e3⟩
    · rw [if_pos e1]
      exact ⟨fun _ => rfl, fun h => by omega⟩
    · rw [if_neg e1]
      exact ⟨fun h => (by omega), fun _ => by rw [e2]⟩
theorem rlatest_ok : tab.ok 61 := by
  refine Tab.of_ct rfl rfl ⟨_, Try.func61, by decide, rfl⟩ ?_ ctF_det
  refine ct_ok (cx := crlatest) (Tab.cx_ok (all_cons rsensors_ok (all_cons rkicks_ok (all_cons rleast_ok (all_cons rearl_ok all_nil))))) Try.func61 (bds := []) (T := trlatest) (by kernel_rfl) ?_
  have h1 : crlatest.ct 43 = some ctSensors := rfl
  have h2 : crlatest.ct 39 = some ctKicks := rfl
  have h3 : crlatest.ct 76 = some ctLeast := rfl
  have h4 : crlatest.ct 90 = some ctEarl := rfl
  unfold trlatest
  simp only [VC, allC, List.map_cons, List.map_nil, List.length_cons, List.length_nil, List.getElem?_cons_zero, List.getElem?_cons_succ, List.cons.injEq, C.i.injEq, C.b.injEq, and_true, true_and, forall_const, kindsOf_nil, kindsOf_lf, kindsOf_agg, kindsOf_box, boxKinds_nil, boxKinds_lf, boxKinds_agg, boxKinds_box, List.append_nil, List.cons_append, List.nil_append, den_cmp_le, den_cmp_lt, den_cmp_eq, den_cmp_ne, den_cmp_le', den_cmp_lt', den_cmp_eq', den_cmp_ne', den_and, den_and', den_or, den_or', den_not, den_not', den_blit, den_of, ev_var, at_0, at_1, at_2, at_3, at_4, at_5, at_6, at_7, at_skip, c_int, c_bool, c_arr, c_cnt, c_vec, ev_nil, ev_join, ev_sub3, loc_s, int_i, bool_b, rows_s, cs_nil, cs_cons, E.den_lit, E.den_var, E.den_add, E.den_sub, E.den_mul, E.den_quo, E.den_rem, E.den_max, E.den_min, E.den_len, E.den_wr, E.den_cell, h1, h2, h3, h4, ctLatest, ctSensors, ctKicks, ctLeast, ctEarl, ctF, kickSh, kicksSh]; intro v rows d _ hsm a _ _ b _ _ c _ _ e _ _; refine ⟨bds_nil _, ?_⟩; rintro x _ _ rfl; refine ⟨fun h => (by unfold latestC; rw [if_neg h]), fun hs => ?_⟩; rintro x _ _ rfl; refine ⟨fun h => (by unfold latestC; rw [if_pos hs, if_neg h]), fun hk => ?_⟩; rintro x _ _ y _ _ ⟨rfl, rfl⟩; obtain ⟨s1, s2, s3⟩ := sensorsE_zero hs; refine ⟨⟨by omega, s3, (kicksE_zero hk).1⟩, ?_⟩; rintro m _ _ f _ _ h; rw [h]; unfold latestC; rw [if_pos hs, if_pos hk]
theorem rcaught_ok : tab.ok 62 := by
  refine Tab.of_ct rfl rfl ⟨_, Try.func62, by decide, rfl⟩ ?_ ctF_det
  refine ct_ok (cx := crcaught) (Tab.cx_ok (all_cons rsensors_ok (all_cons rkick_ok (all_cons rgain_ok (all_cons rearl_ok all_nil))))) Try.func62 (bds := []) (T := trcaught) (by kernel_rfl) ?_
  have h1 : crcaught.ct 43 = some ctSensors := rfl
  have h2 : crcaught.ct 37 = some ctKick := rfl
  have h3 : crcaught.ct 45 = some ctGain := rfl
  have h4 : crcaught.ct 90 = some ctEarl := rfl
  unfold trcaught
  simp only [VC, allC, List.map_cons, List.map_nil, List.length_cons, List.length_nil, List.getElem?_cons_zero, List.getElem?_cons_succ, List.cons.injEq, C.i.injEq, C.b.injEq, and_true, true_and, forall_const, kindsOf_nil, kindsOf_lf, kindsOf_agg, kindsOf_box, boxKinds_nil, boxKinds_lf, boxKinds_agg, boxKinds_box, List.append_nil, List.cons_append, List.nil_append, den_cmp_le, den_cmp_lt, den_cmp_eq, den_cmp_ne, den_cmp_le', den_cmp_lt', den_cmp_eq', den_cmp_ne', den_and, den_and', den_or, den_or', den_not, den_not', den_blit, den_of, ev_var, at_0, at_1, at_2, at_3, at_4, at_5, at_6, at_7, at_skip, c_int, c_bool, c_arr, c_cnt, c_vec, ev_nil, ev_join, ev_sub3, loc_s, int_i, bool_b, rows_s, cs_nil, cs_cons, E.den_lit, E.den_var, E.den_add, E.den_sub, E.den_mul, E.den_quo, E.den_rem, E.den_max, E.den_min, E.den_len, E.den_wr, E.den_cell, h1, h2, h3, h4, ctCaught, ctSensors, ctKick, ctGain, ctEarl, ctF, kickSh]; intro v rows d _ hsm r _ _ g _ _; refine ⟨bds_nil _, ?_⟩; rintro x _ _ rfl; refine ⟨fun h => (by unfold caughtC; rw [if_neg h]), fun hs => ?_⟩; rintro x _ _ rfl; refine ⟨fun h => (by unfold caughtC; rw [if_pos hs, if_neg h]), fun hk => ?_⟩; obtain ⟨s1, s2, s3⟩ := sensorsE_zero hs; refine ⟨⟨by omega, s3, kickE_iff.1 hk⟩, ?_⟩; rintro m _ _ f _ _ h; unfold earlC at h; unfold caughtC; rw [if_pos hs, if_pos hk]; by_cases hn : atsL r g rows = []; (rw [if_pos hn] at h ⊢; cases h; exact ⟨fun _ => rfl, fun h => absurd h (by decide)⟩); (rw [if_neg hn] at h ⊢; cases h; exact ⟨fun h => absurd rfl h, fun _ n _ _ hn => (by rw [hn])⟩)
end Go.Proofs.Ytlbgcjpkegpmlaa
/- What is to be shown of each function, as the executor has it. Printed by trees.py. -/
namespace Go.Proofs.Ytlbgcjpkegpmlaa
noncomputable def csame : Cx := tab2.only [] (fun _ => []) [] 0 [] (fun _ => none)
def tsame : Tree :=
  (.split (.cmp .ne (.len (.var 0)) (.len (.var 1))) (.ret [(.bool (.lit false))]) (.loop [.bool, .int] [(.bool (.lit false)), (.int (.lit 0))] (.split (.cmp .lt (.var 3) (.len (.var 0))) (.ob (.cmp .le (.lit 0) (.var 3)) (.ob (.cmp .lt (.var 3) (.len (.var 0))) (.ob (.cmp .lt (.var 3) (.len (.var 1))) (.split (.not (.and (.cmp .eq (.cell (.var 0) (.var 3) 0) (.cell (.var 1) (.var 3) 0)) (.and (.cmp .eq (.cell (.var 0) (.var 3) 1) (.cell (.var 1) (.var 3) 1)) (.cmp .eq (.cell (.var 0) (.var 3) 2) (.cell (.var 1) (.var 3) 2))))) (.ret [(.bool (.lit false))]) (.back 0 [(.bool (.of (.var 2))), (.int (.add (.var 3) (.lit 1)))]))))) (.ret [(.bool (.lit true))]))))
noncomputable def crsample : Cx := tab2.only [47] (fun _ => []) [] 0 [] (fun _ => none)
def trsample : Tree :=
  (.ob (.and (.cmp .le (.lit (-9223372036854775808)) (.sub (.lit 0) (.var 3))) (.cmp .le (.sub (.lit 0) (.var 3)) (.lit 9223372036854775807))) (.ob (.and (.cmp .le (.lit (-9223372036854775808)) (.sub (.lit 0) (.var 3))) (.cmp .le (.sub (.lit 0) (.var 3)) (.lit 9223372036854775807))) (.call 47 [(.int (.var 0)), (.int (.var 1)), (.int (.var 2)), (.int (.var 3)), (.int (.var 4)), (.int (.var 5)), (.int (.var 6)), (.int (.var 7)), (.int (.var 8)), (.int (.var 9)), (.int (.var 10)), (.int (.sub (.lit 0) (.var 3)))] (.ret [(.int (.lit 0)), (.int (.var 10)), (.int (.var 11))]))))
noncomputable def flslow : List (Nat × Func) := [(88, Try.f88)]
theorem fxslow : ∀ p ∈ flslow, FnOK p := fns_cons ⟨Try.func88, ⟨_, Try.func88, by decide, rfl⟩⟩ (fns_nil)
noncomputable def cslow : Cx := tab2.only [49, 79, 46] (fun r => match r with
  | 10 => [.blk 3]
  | 15 => [.blk 3]
  | 4350001 => [.vec 20]
  | 6150001 => [.vec 22]
  | _ => []) flslow 1 [] (fun _ => none)
def tslow_1 : Tree :=
  (.ob (.and (.cmp .le (.lit (-9223372036854775808)) (.add (.var 14) (.mul (.var 19) (.var 1)))) (.cmp .le (.add (.var 14) (.mul (.var 19) (.var 1))) (.lit 9223372036854775807))) (.arr [[(.int (.lit 0)), (.int (.add (.var 14) (.mul (.var 19) (.var 1)))), (.int (.var 21))]] (.ob (.cmp .le (.mul (.add (.len (.var 20)) (.len (.var 22))) (.lit 24)) (.lit 140737488355328)) (.cat (.var 20) (.var 22) (.back 0 [(.int (.add (.var 19) (.lit 1))), (.cnt 40 (.var 23))])))))
def tslow_2 : Tree :=
  (.ob (.and (.cmp .le (.lit (-9223372036854775808)) (.add (.var 14) (.mul (.sub (.add (.var 15) (.mul (.add (.var 21) (.lit 1)) (.add (.var 5) (.lit 1)))) (.lit 1)) (.var 1)))) (.cmp .le (.add (.var 14) (.mul (.sub (.add (.var 15) (.mul (.add (.var 21) (.lit 1)) (.add (.var 5) (.lit 1)))) (.lit 1)) (.var 1))) (.lit 9223372036854775807))) (.arr [[(.int (.lit 0)), (.int (.add (.var 14) (.mul (.sub (.add (.var 15) (.mul (.add (.var 21) (.lit 1)) (.add (.var 5) (.lit 1)))) (.lit 1)) (.var 1)))), (.int (.var 23))]] (.ob (.cmp .le (.mul (.add (.len (.var 22)) (.len (.var 24))) (.lit 24)) (.lit 140737488355328)) (.cat (.var 22) (.var 24) (.back 1 [(.int (.add (.var 21) (.lit 1))), (.cnt 40 (.var 25))])))))
def tslow_3 : Tree :=
  (.ob (.and (.cmp .le (.lit (-9223372036854775808)) (.add (.var 15) (.var 7))) (.cmp .le (.add (.var 15) (.var 7)) (.lit 9223372036854775807))) (.split (.cmp .lt (.lit 200) (.add (.var 15) (.var 7))) (.dfn .nil (.ret [(.cnt 40 (.var 17)), (.bool (.lit false))])) (.dfn .nil (.arr [] (.loop [.int, (.vec 40)] [(.int (.lit 0)), (.cnt 40 (.var 17))] (.split (.cmp .lt (.var 19) (.var 15)) (.ob (.and (.cmp .le (.lit (-9223372036854775808)) (.mul (.var 19) (.var 1))) (.cmp .le (.mul (.var 19) (.var 1)) (.lit 9223372036854775807))) (.ob (.and (.cmp .le (.lit (-9223372036854775808)) (.add (.var 14) (.mul (.var 19) (.var 1)))) (.cmp .le (.add (.var 14) (.mul (.var 19) (.var 1))) (.lit 9223372036854775807))) (.ob (.and (.cmp .le (.lit (-9223372036854775808)) (.sub (.lit 0) (.var 3))) (.cmp .le (.sub (.lit 0) (.var 3)) (.lit 9223372036854775807))) (.ob (.and (.cmp .le (.lit (-9223372036854775808)) (.add (.var 14) (.mul (.var 19) (.var 1)))) (.cmp .le (.add (.var 14) (.mul (.var 19) (.var 1))) (.lit 9223372036854775807))) (.ob (.and (.cmp .le (.lit (-9223372036854775808)) (.sub (.lit 0) (.var 3))) (.cmp .le (.sub (.lit 0) (.var 3)) (.lit 9223372036854775807))) (.call 46 [(.int (.var 0)), (.int (.var 1)), (.int (.var 2)), (.int (.var 3)), (.int (.var 4)), (.int (.var 5)), (.int (.var 6)), (.int (.var 7)), (.int (.var 8)), (.int (.var 9)), (.int (.add (.var 14) (.mul (.var 19) (.var 1)))), (.int (.sub (.lit 0) (.var 3)))] tslow_1)))))) (.loop [.int, (.vec 40)] [(.int (.lit 0)), (.cnt 40 (.var 20))] (.split (.cmp .lt (.var 21) (.var 7)) (.ob (.and (.cmp .le (.lit (-9223372036854775808)) (.add (.var 5) (.lit 1))) (.cmp .le (.add (.var 5) (.lit 1)) (.lit 9223372036854775807))) (.ob (.and (.cmp .le (.lit (-9223372036854775808)) (.mul (.add (.var 21) (.lit 1)) (.add (.var 5) (.lit 1)))) (.cmp .le (.mul (.add (.var 21) (.lit 1)) (.add (.var 5) (.lit 1))) (.lit 9223372036854775807))) (.ob (.and (.cmp .le (.lit (-9223372036854775808)) (.add (.var 15) (.mul (.add (.var 21) (.lit 1)) (.add (.var 5) (.lit 1))))) (.cmp .le (.add (.var 15) (.mul (.add (.var 21) (.lit 1)) (.add (.var 5) (.lit 1)))) (.lit 9223372036854775807))) (.ob (.and (.cmp .le (.lit (-9223372036854775808)) (.sub (.add (.var 15) (.mul (.add (.var 21) (.lit 1)) (.add (.var 5) (.lit 1)))) (.lit 1))) (.cmp .le (.sub (.add (.var 15) (.mul (.add (.var 21) (.lit 1)) (.add (.var 5) (.lit 1)))) (.lit 1)) (.lit 9223372036854775807))) (.ob (.and (.cmp .le (.lit (-9223372036854775808)) (.mul (.sub (.add (.var 15) (.mul (.add (.var 21) (.lit 1)) (.add (.var 5) (.lit 1)))) (.lit 1)) (.var 1))) (.cmp .le (.mul (.sub (.add (.var 15) (.mul (.add (.var 21) (.lit 1)) (.add (.var 5) (.lit 1)))) (.lit 1)) (.var 1)) (.lit 9223372036854775807))) (.ob (.and (.cmp .le (.lit (-9223372036854775808)) (.add (.var 14) (.mul (.sub (.add (.var 15) (.mul (.add (.var 21) (.lit 1)) (.add (.var 5) (.lit 1)))) (.lit 1)) (.var 1)))) (.cmp .le (.add (.var 14) (.mul (.sub (.add (.var 15) (.mul (.add (.var 21) (.lit 1)) (.add (.var 5) (.lit 1)))) (.lit 1)) (.var 1))) (.lit 9223372036854775807))) (.ob (.and (.cmp .le (.lit (-9223372036854775808)) (.sub (.lit 0) (.var 3))) (.cmp .le (.sub (.lit 0) (.var 3)) (.lit 9223372036854775807))) (.ob (.and (.cmp .le (.lit (-9223372036854775808)) (.add (.var 14) (.mul (.sub (.add (.var 15) (.mul (.add (.var 21) (.lit 1)) (.add (.var 5) (.lit 1)))) (.lit 1)) (.var 1)))) (.cmp .le (.add (.var 14) (.mul (.sub (.add (.var 15) (.mul (.add (.var 21) (.lit 1)) (.add (.var 5) (.lit 1)))) (.lit 1)) (.var 1))) (.lit 9223372036854775807))) (.ob (.and (.cmp .le (.lit (-9223372036854775808)) (.sub (.lit 0) (.var 3))) (.cmp .le (.sub (.lit 0) (.var 3)) (.lit 9223372036854775807))) (.call 46 [(.int (.var 0)), (.int (.var 1)), (.int (.var 2)), (.int (.var 3)), (.int (.var 4)), (.int (.var 5)), (.int (.var 6)), (.int (.var 7)), (.int (.var 8)), (.int (.var 9)), (.int (.add (.var 14) (.mul (.sub (.add (.var 15) (.mul (.add (.var 21) (.lit 1)) (.add (.var 5) (.lit 1)))) (.lit 1)) (.var 1)))), (.int (.sub (.lit 0) (.var 3)))] tslow_2)))))))))) (.ret [(.cnt 40 (.var 22)), (.bool (.lit true))])))))))))
def tslow_4 : Tree :=
  (.split (.not (.of (.var 12))) (.dfn .nil (.ret [(.cnt 40 (.var 13)), (.bool (.lit false))])) (.call 79 [(.int (.var 0)), (.int (.var 1)), (.int (.var 2)), (.int (.var 3)), (.int (.var 4)), (.int (.var 5)), (.int (.var 6)), (.int (.var 7)), (.int (.var 8)), (.int (.var 9))] tslow_3))
def tslow : Tree :=
  (.dfn .nil (.call 49 [(.int (.var 0)), (.int (.var 1)), (.int (.var 2)), (.int (.var 3)), (.int (.var 4)), (.int (.var 5)), (.int (.var 6)), (.int (.var 7)), (.int (.var 8)), (.int (.var 9))] tslow_4))
noncomputable def crslow : Cx := tab2.only [58, 87, 89] (fun _ => []) [] 0 [] (fun _ => none)
def trslow_1 : Tree :=
  (.arr [[(.int (.var 20)), (.int (.var 21)), (.int (.var 22))]] (.ob (.cmp .le (.mul (.add (.len (.var 18)) (.len (.var 23))) (.lit 24)) (.lit 140737488355328)) (.cat (.var 18) (.var 23) (.back 0 [(.cnt 40 (.var 24)), (.int (.add (.var 19) (.lit 1)))]))))
def trslow_2 : Tree :=
  (.arr [[(.int (.var 22)), (.int (.var 23)), (.int (.var 24))]] (.ob (.cmp .le (.mul (.add (.len (.var 20)) (.len (.var 25))) (.lit 24)) (.lit 140737488355328)) (.cat (.var 20) (.var 25) (.ob (.and (.cmp .le (.lit (-9223372036854775808)) (.add (.var 21) (.lit 1))) (.cmp .le (.add (.var 21) (.lit 1)) (.lit 9223372036854775807))) (.ob (.and (.cmp .le (.lit (-9223372036854775808)) (.add (.var 21) (.lit 1))) (.cmp .le (.add (.var 21) (.lit 1)) (.lit 9223372036854775807))) (.back 1 [(.cnt 40 (.var 26)), (.int (.add (.var 21) (.lit 1)))]))))))
def trslow_3 : Tree :=
  (.ob (.and (.cmp .le (.lit (-9223372036854775808)) (.add (.var 15) (.var 7))) (.cmp .le (.add (.var 15) (.var 7)) (.lit 9223372036854775807))) (.split (.cmp .lt (.lit 200) (.add (.var 15) (.var 7))) (.dfn .nil (.ret [(.cnt 40 (.var 17)), (.bool (.lit false))])) (.dfn .nil (.loop [(.vec 40), .int] [(.cnt 40 (.var 17)), (.int (.lit 0))] (.split (.cmp .lt (.var 19) (.var 15)) (.ob (.and (.cmp .le (.lit (-9223372036854775808)) (.mul (.var 19) (.var 1))) (.cmp .le (.mul (.var 19) (.var 1)) (.lit 9223372036854775807))) (.ob (.and (.cmp .le (.lit (-9223372036854775808)) (.add (.var 14) (.mul (.var 19) (.var 1)))) (.cmp .le (.add (.var 14) (.mul (.var 19) (.var 1))) (.lit 9223372036854775807))) (.ob (.and (.cmp .le (.lit (-9223372036854775808)) (.add (.var 14) (.mul (.var 19) (.var 1)))) (.cmp .le (.add (.var 14) (.mul (.var 19) (.var 1))) (.lit 9223372036854775807))) (.call 89 [(.int (.var 0)), (.int (.var 1)), (.int (.var 2)), (.int (.var 3)), (.int (.var 4)), (.int (.var 5)), (.int (.var 6)), (.int (.var 7)), (.int (.var 8)), (.int (.var 9)), (.int (.add (.var 14) (.mul (.var 19) (.var 1))))] trslow_1)))) (.loop [(.vec 40), .int] [(.cnt 40 (.var 18)), (.int (.lit 1))] (.split (.cmp .le (.var 21) (.var 7)) (.ob (.and (.cmp .le (.lit (-9223372036854775808)) (.add (.var 5) (.lit 1))) (.cmp .le (.add (.var 5) (.lit 1)) (.lit 9223372036854775807))) (.ob (.and (.cmp .le (.lit (-9223372036854775808)) (.mul (.var 21) (.add (.var 5) (.lit 1)))) (.cmp .le (.mul (.var 21) (.add (.var 5) (.lit 1))) (.lit 9223372036854775807))) (.ob (.and (.cmp .le (.lit (-9223372036854775808)) (.add (.var 15) (.mul (.var 21) (.add (.var 5) (.lit 1))))) (.cmp .le (.add (.var 15) (.mul (.var 21) (.add (.var 5) (.lit 1)))) (.lit 9223372036854775807))) (.ob (.and (.cmp .le (.lit (-9223372036854775808)) (.sub (.add (.var 15) (.mul (.var 21) (.add (.var 5) (.lit 1)))) (.lit 1))) (.cmp .le (.sub (.add (.var 15) (.mul (.var 21) (.add (.var 5) (.lit 1)))) (.lit 1)) (.lit 9223372036854775807))) (.ob (.and (.cmp .le (.lit (-9223372036854775808)) (.mul (.sub (.add (.var 15) (.mul (.var 21) (.add (.var 5) (.lit 1)))) (.lit 1)) (.var 1))) (.cmp .le (.mul (.sub (.add (.var 15) (.mul (.var 21) (.add (.var 5) (.lit 1)))) (.lit 1)) (.var 1)) (.lit 9223372036854775807))) (.ob (.and (.cmp .le (.lit (-9223372036854775808)) (.add (.var 14) (.mul (.sub (.add (.var 15) (.mul (.var 21) (.add (.var 5) (.lit 1)))) (.lit 1)) (.var 1)))) (.cmp .le (.add (.var 14) (.mul (.sub (.add (.var 15) (.mul (.var 21) (.add (.var 5) (.lit 1)))) (.lit 1)) (.var 1))) (.lit 9223372036854775807))) (.ob (.and (.cmp .le (.lit (-9223372036854775808)) (.add (.var 14) (.mul (.sub (.add (.var 15) (.mul (.var 21) (.add (.var 5) (.lit 1)))) (.lit 1)) (.var 1)))) (.cmp .le (.add (.var 14) (.mul (.sub (.add (.var 15) (.mul (.var 21) (.add (.var 5) (.lit 1)))) (.lit 1)) (.var 1))) (.lit 9223372036854775807))) (.call 89 [(.int (.var 0)), (.int (.var 1)), (.int (.var 2)), (.int (.var 3)), (.int (.var 4)), (.int (.var 5)), (.int (.var 6)), (.int (.var 7)), (.int (.var 8)), (.int (.var 9)), (.int (.add (.var 14) (.mul (.sub (.add (.var 15) (.mul (.var 21) (.add (.var 5) (.lit 1)))) (.lit 1)) (.var 1))))] trslow_2)))))))) (.ret [(.cnt 40 (.var 20)), (.bool (.lit true))]))))))))
def trslow_4 : Tree :=
  (.split (.not (.of (.var 12))) (.dfn .nil (.ret [(.cnt 40 (.var 13)), (.bool (.lit false))])) (.call 87 [(.int (.var 0)), (.int (.var 1)), (.int (.var 2)), (.int (.var 3)), (.int (.var 4)), (.int (.var 5)), (.int (.var 6)), (.int (.var 7)), (.int (.var 8)), (.int (.var 9))] trslow_3))
def trslow : Tree :=
  (.dfn .nil (.call 58 [(.int (.var 0)), (.int (.var 1)), (.int (.var 2)), (.int (.var 3)), (.int (.var 4)), (.int (.var 5)), (.int (.var 6)), (.int (.var 7)), (.int (.var 8)), (.int (.var 9))] trslow_4))
noncomputable def clates : Cx := tab2.only [21, 25, 20, 48, 49, 58, 59, 60, 57, 50, 61, 51, 62, 19] (fun r => match r with
  | 50004 => [.blk 3]
  | _ => []) [] 0 [] (fun r => match r with
  | 50004 => some ([(12, true, [.vec 23]), (13, true, [.vec 31]), (14, true, [.vec 61])], [.blk 3])
  | _ => none)
def tlates_1 : Tree :=
  (.arr [[(.int (.var 11)), (.int (.var 12)), (.int (.var 13)), (.int (.var 14))], [(.int (.var 34)), (.int (.var 35)), (.int (.var 36)), (.int (.var 37))]] (.back 0 [(.cnt 23 (.var 28)), (.cnt 31 (.var 33)), (.cnt 61 (.var 40)), (.arr 3 (.var 38)), (.int (.var 39))]))
def tlates_2 : Tree :=
  (.both (.arr [[(.int (.var 8)), (.int (.var 9))], [(.int (.var 29)), (.int (.var 30))]] (.arr [[(.int (.var 11)), (.int (.var 12)), (.int (.var 13)), (.int (.var 14))], [(.int (.var 33)), (.int (.var 34)), (.int (.var 35)), (.int (.var 36))]] (.back 0 [(.cnt 23 (.var 28)), (.cnt 31 (.var 39)), (.cnt 61 (.var 40)), (.arr 3 (.var 37)), (.int (.var 38))]))) (.arr [[(.int (.var 11)), (.int (.var 12)), (.int (.var 13)), (.int (.var 14))], [(.int (.var 33)), (.int (.var 34)), (.int (.var 35)), (.int (.var 36))]] (.arr [[(.int (.var 8)), (.int (.var 9))], [(.int (.var 29)), (.int (.var 30))]] (.back 0 [(.cnt 23 (.var 28)), (.cnt 31 (.var 40)), (.cnt 61 (.var 39)), (.arr 3 (.var 37)), (.int (.var 38))]))))
def tlates_3 : Tree :=
  (.both (.arr [[(.int (.var 8)), (.int (.var 9))], [(.int (.var 29)), (.int (.var 30))]] (.call 48 [(.arr 3 (.var 31)), (.int (.var 32))] tlates_1)) (.call 48 [(.arr 3 (.var 31)), (.int (.var 32))] tlates_2))
def tlates_4 : Tree :=
  (.arr [[(.int (.var 11)), (.int (.var 12)), (.int (.var 13)), (.int (.var 14))], [(.int (.var 34)), (.int (.var 35)), (.int (.var 36)), (.int (.var 37))]] (.back 0 [(.cnt 23 (.var 32)), (.cnt 31 (.var 33)), (.cnt 61 (.var 40)), (.arr 3 (.var 38)), (.int (.var 39))]))
def tlates_5 : Tree :=
  (.both (.arr [[(.int (.var 8)), (.int (.var 9))], [(.int (.var 28)), (.int (.var 29))]] (.arr [[(.int (.var 11)), (.int (.var 12)), (.int (.var 13)), (.int (.var 14))], [(.int (.var 33)), (.int (.var 34)), (.int (.var 35)), (.int (.var 36))]] (.back 0 [(.cnt 23 (.var 32)), (.cnt 31 (.var 39)), (.cnt 61 (.var 40)), (.arr 3 (.var 37)), (.int (.var 38))]))) (.arr [[(.int (.var 11)), (.int (.var 12)), (.int (.var 13)), (.int (.var 14))], [(.int (.var 33)), (.int (.var 34)), (.int (.var 35)), (.int (.var 36))]] (.arr [[(.int (.var 8)), (.int (.var 9))], [(.int (.var 28)), (.int (.var 29))]] (.back 0 [(.cnt 23 (.var 32)), (.cnt 31 (.var 40)), (.cnt 61 (.var 39)), (.arr 3 (.var 37)), (.int (.var 38))]))))
def tlates_6 : Tree :=
  (.arr [[(.int (.var 11)), (.int (.var 12)), (.int (.var 13)), (.int (.var 14))], [(.int (.var 34)), (.int (.var 35)), (.int (.var 36)), (.int (.var 37))]] (.back 0 [(.cnt 23 (.var 33)), (.cnt 31 (.var 32)), (.cnt 61 (.var 40)), (.arr 3 (.var 38)), (.int (.var 39))]))
def tlates_7 : Tree :=
  (.both (.arr [[(.int (.var 0)), (.int (.var 1)), (.int (.var 2)), (.int (.var 3)), (.int (.var 4)), (.int (.var 5)), (.int (.var 6)), (.int (.var 7))], [(.int (.var 18)), (.int (.var 19)), (.int (.var 20)), (.int (.var 21)), (.int (.var 22)), (.int (.var 23)), (.int (.var 24)), (.int (.var 25))]] (.arr [[(.int (.var 11)), (.int (.var 12)), (.int (.var 13)), (.int (.var 14))], [(.int (.var 33)), (.int (.var 34)), (.int (.var 35)), (.int (.var 36))]] (.back 0 [(.cnt 23 (.var 39)), (.cnt 31 (.var 32)), (.cnt 61 (.var 40)), (.arr 3 (.var 37)), (.int (.var 38))]))) (.arr [[(.int (.var 11)), (.int (.var 12)), (.int (.var 13)), (.int (.var 14))], [(.int (.var 33)), (.int (.var 34)), (.int (.var 35)), (.int (.var 36))]] (.arr [[(.int (.var 0)), (.int (.var 1)), (.int (.var 2)), (.int (.var 3)), (.int (.var 4)), (.int (.var 5)), (.int (.var 6)), (.int (.var 7))], [(.int (.var 18)), (.int (.var 19)), (.int (.var 20)), (.int (.var 21)), (.int (.var 22)), (.int (.var 23)), (.int (.var 24)), (.int (.var 25))]] (.back 0 [(.cnt 23 (.var 40)), (.cnt 31 (.var 32)), (.cnt 61 (.var 39)), (.arr 3 (.var 37)), (.int (.var 38))]))))
def tlates_8 : Tree :=
  (.both (.arr [[(.int (.var 0)), (.int (.var 1)), (.int (.var 2)), (.int (.var 3)), (.int (.var 4)), (.int (.var 5)), (.int (.var 6)), (.int (.var 7))], [(.int (.var 18)), (.int (.var 19)), (.int (.var 20)), (.int (.var 21)), (.int (.var 22)), (.int (.var 23)), (.int (.var 24)), (.int (.var 25))]] (.both (.arr [[(.int (.var 8)), (.int (.var 9))], [(.int (.var 28)), (.int (.var 29))]] (.arr [[(.int (.var 11)), (.int (.var 12)), (.int (.var 13)), (.int (.var 14))], [(.int (.var 32)), (.int (.var 33)), (.int (.var 34)), (.int (.var 35))]] (.back 0 [(.cnt 23 (.var 38)), (.cnt 31 (.var 39)), (.cnt 61 (.var 40)), (.arr 3 (.var 36)), (.int (.var 37))]))) (.arr [[(.int (.var 11)), (.int (.var 12)), (.int (.var 13)), (.int (.var 14))], [(.int (.var 32)), (.int (.var 33)), (.int (.var 34)), (.int (.var 35))]] (.arr [[(.int (.var 8)), (.int (.var 9))], [(.int (.var 28)), (.int (.var 29))]] (.back 0 [(.cnt 23 (.var 38)), (.cnt 31 (.var 40)), (.cnt 61 (.var 39)), (.arr 3 (.var 36)), (.int (.var 37))]))))) (.both (.arr [[(.int (.var 8)), (.int (.var 9))], [(.int (.var 28)), (.int (.var 29))]] (.both (.arr [[(.int (.var 0)), (.int (.var 1)), (.int (.var 2)), (.int (.var 3)), (.int (.var 4)), (.int (.var 5)), (.int (.var 6)), (.int (.var 7))], [(.int (.var 18)), (.int (.var 19)), (.int (.var 20)), (.int (.var 21)), (.int (.var 22)), (.int (.var 23)), (.int (.var 24)), (.int (.var 25))]] (.arr [[(.int (.var 11)), (.int (.var 12)), (.int (.var 13)), (.int (.var 14))], [(.int (.var 32)), (.int (.var 33)), (.int (.var 34)), (.int (.var 35))]] (.back 0 [(.cnt 23 (.var 39)), (.cnt 31 (.var 38)), (.cnt 61 (.var 40)), (.arr 3 (.var 36)), (.int (.var 37))]))) (.arr [[(.int (.var 11)), (.int (.var 12)), (.int (.var 13)), (.int (.var 14))], [(.int (.var 32)), (.int (.var 33)), (.int (.var 34)), (.int (.var 35))]] (.arr [[(.int (.var 0)), (.int (.var 1)), (.int (.var 2)), (.int (.var 3)), (.int (.var 4)), (.int (.var 5)), (.int (.var 6)), (.int (.var 7))], [(.int (.var 18)), (.int (.var 19)), (.int (.var 20)), (.int (.var 21)), (.int (.var 22)), (.int (.var 23)), (.int (.var 24)), (.int (.var 25))]] (.back 0 [(.cnt 23 (.var 40)), (.cnt 31 (.var 38)), (.cnt 61 (.var 39)), (.arr 3 (.var 36)), (.int (.var 37))]))))) (.arr [[(.int (.var 11)), (.int (.var 12)), (.int (.var 13)), (.int (.var 14))], [(.int (.var 32)), (.int (.var 33)), (.int (.var 34)), (.int (.var 35))]] (.both (.arr [[(.int (.var 0)), (.int (.var 1)), (.int (.var 2)), (.int (.var 3)), (.int (.var 4)), (.int (.var 5)), (.int (.var 6)), (.int (.var 7))], [(.int (.var 18)), (.int (.var 19)), (.int (.var 20)), (.int (.var 21)), (.int (.var 22)), (.int (.var 23)), (.int (.var 24)), (.int (.var 25))]] (.arr [[(.int (.var 8)), (.int (.var 9))], [(.int (.var 28)), (.int (.var 29))]] (.back 0 [(.cnt 23 (.var 39)), (.cnt 31 (.var 40)), (.cnt 61 (.var 38)), (.arr 3 (.var 36)), (.int (.var 37))]))) (.arr [[(.int (.var 8)), (.int (.var 9))], [(.int (.var 28)), (.int (.var 29))]] (.arr [[(.int (.var 0)), (.int (.var 1)), (.int (.var 2)), (.int (.var 3)), (.int (.var 4)), (.int (.var 5)), (.int (.var 6)), (.int (.var 7))], [(.int (.var 18)), (.int (.var 19)), (.int (.var 20)), (.int (.var 21)), (.int (.var 22)), (.int (.var 23)), (.int (.var 24)), (.int (.var 25))]] (.back 0 [(.cnt 23 (.var 40)), (.cnt 31 (.var 39)), (.cnt 61 (.var 38)), (.arr 3 (.var 36)), (.int (.var 37))])))))))
def tlates_9 : Tree :=
  (.both (.arr [[(.int (.var 0)), (.int (.var 1)), (.int (.var 2)), (.int (.var 3)), (.int (.var 4)), (.int (.var 5)), (.int (.var 6)), (.int (.var 7))], [(.int (.var 18)), (.int (.var 19)), (.int (.var 20)), (.int (.var 21)), (.int (.var 22)), (.int (.var 23)), (.int (.var 24)), (.int (.var 25))]] (.both (.arr [[(.int (.var 8)), (.int (.var 9))], [(.int (.var 28)), (.int (.var 29))]] (.call 48 [(.arr 3 (.var 30)), (.int (.var 31))] tlates_4)) (.call 48 [(.arr 3 (.var 30)), (.int (.var 31))] tlates_5))) (.both (.arr [[(.int (.var 8)), (.int (.var 9))], [(.int (.var 28)), (.int (.var 29))]] (.both (.arr [[(.int (.var 0)), (.int (.var 1)), (.int (.var 2)), (.int (.var 3)), (.int (.var 4)), (.int (.var 5)), (.int (.var 6)), (.int (.var 7))], [(.int (.var 18)), (.int (.var 19)), (.int (.var 20)), (.int (.var 21)), (.int (.var 22)), (.int (.var 23)), (.int (.var 24)), (.int (.var 25))]] (.call 48 [(.arr 3 (.var 30)), (.int (.var 31))] tlates_6)) (.call 48 [(.arr 3 (.var 30)), (.int (.var 31))] tlates_7))) (.call 48 [(.arr 3 (.var 30)), (.int (.var 31))] tlates_8)))
def tlates_10 : Tree :=
  (.both (.arr [[(.int (.var 0)), (.int (.var 1)), (.int (.var 2)), (.int (.var 3)), (.int (.var 4)), (.int (.var 5)), (.int (.var 6)), (.int (.var 7))], [(.int (.var 18)), (.int (.var 19)), (.int (.var 20)), (.int (.var 21)), (.int (.var 22)), (.int (.var 23)), (.int (.var 24)), (.int (.var 25))]] (.call 20 [(.arr 3 (.var 26)), (.int (.var 27))] tlates_3)) (.call 20 [(.arr 3 (.var 26)), (.int (.var 27))] tlates_9))
def tlates_11 : Tree :=
  (.split (.cmp .ne (.var 57) (.var 59)) (.ret [(.bool (.lit false))]) (.split (.cmp .ne (.var 58) (.var 60)) (.ret [(.bool (.lit false))]) (.split (.cmp .ne (.var 61) (.var 64)) (.ret [(.bool (.lit false))]) (.split (.cmp .ne (.var 62) (.var 65)) (.ret [(.bool (.lit false))]) (.split (.cmp .ne (.var 63) (.var 66)) (.ret [(.bool (.lit false))]) (.back 1 [(.bool (.of (.var 46))), (.int (.add (.var 47) (.lit 1)))]))))))
def tlates_12 : Tree :=
  (.ob (.cmp .lt (.var 47) (.len (.var 45))) (.ob (.cmp .lt (.var 47) (.len (.var 19))) (.call 62 [(.arr 23 (.cell (.var 45) (.var 47) 0)), (.int (.cell (.var 19) (.var 47) 0)), (.int (.cell (.var 19) (.var 47) 1))] tlates_11)))
def tlates_13 : Tree :=
  (.ob (.cmp .lt (.var 47) (.len (.var 45))) (.ob (.cmp .lt (.var 47) (.len (.var 19))) (.call 51 [(.arr 23 (.cell (.var 45) (.var 47) 0)), (.int (.cell (.var 19) (.var 47) 0)), (.int (.cell (.var 19) (.var 47) 1))] tlates_12)))
def tlates_14 : Tree :=
  (.ob (.cmp .lt (.var 47) (.len (.var 45))) (.ob (.cmp .lt (.var 47) (.len (.var 20))) (.call 61 [(.arr 23 (.cell (.var 45) (.var 47) 0)), (.int (.cell (.var 20) (.var 47) 0)), (.int (.cell (.var 20) (.var 47) 1)), (.int (.cell (.var 20) (.var 47) 2)), (.int (.cell (.var 20) (.var 47) 3))] tlates_13)))
def tlates_15 : Tree :=
  (.split (.not (.of (.var 56))) (.ret [(.bool (.lit false))]) (.split (.not (.beq (.of (.var 53)) (.of (.var 55)))) (.ret [(.bool (.lit false))]) (.ob (.cmp .lt (.var 47) (.len (.var 45))) (.ob (.cmp .lt (.var 47) (.len (.var 20))) (.call 50 [(.arr 23 (.cell (.var 45) (.var 47) 0)), (.int (.cell (.var 20) (.var 47) 0)), (.int (.cell (.var 20) (.var 47) 1)), (.int (.cell (.var 20) (.var 47) 2)), (.int (.cell (.var 20) (.var 47) 3))] tlates_14)))))
def tlates_16 : Tree :=
  (.split (.cmp .ne (.var 48) (.var 50)) (.ret [(.bool (.lit false))]) (.split (.not (.beq (.of (.var 49)) (.of (.var 51)))) (.ret [(.bool (.lit false))]) (.call 57 [(.arr 40 (.var 52)), (.arr 40 (.var 54))] tlates_15)))
def tlates_17 : Tree :=
  (.ob (.cmp .lt (.var 47) (.len (.var 18))) (.ob (.cmp .lt (.var 47) (.len (.var 19))) (.call 60 [(.int (.cell (.var 18) (.var 47) 0)), (.int (.cell (.var 18) (.var 47) 1)), (.int (.cell (.var 18) (.var 47) 2)), (.int (.cell (.var 18) (.var 47) 3)), (.int (.cell (.var 18) (.var 47) 4)), (.int (.cell (.var 18) (.var 47) 5)), (.int (.cell (.var 18) (.var 47) 6)), (.int (.cell (.var 18) (.var 47) 7)), (.int (.cell (.var 19) (.var 47) 0)), (.int (.cell (.var 19) (.var 47) 1))] tlates_16)))
def tlates_18 : Tree :=
  (.ob (.cmp .lt (.var 47) (.len (.var 18))) (.ob (.cmp .lt (.var 47) (.len (.var 19))) (.call 59 [(.int (.cell (.var 18) (.var 47) 0)), (.int (.cell (.var 18) (.var 47) 1)), (.int (.cell (.var 18) (.var 47) 2)), (.int (.cell (.var 18) (.var 47) 3)), (.int (.cell (.var 18) (.var 47) 4)), (.int (.cell (.var 18) (.var 47) 5)), (.int (.cell (.var 18) (.var 47) 6)), (.int (.cell (.var 18) (.var 47) 7)), (.int (.cell (.var 19) (.var 47) 0)), (.int (.cell (.var 19) (.var 47) 1))] tlates_17)))
def tlates_19 : Tree :=
  (.ob (.cmp .lt (.var 47) (.len (.var 18))) (.ob (.cmp .lt (.var 47) (.len (.var 19))) (.call 58 [(.int (.cell (.var 18) (.var 47) 0)), (.int (.cell (.var 18) (.var 47) 1)), (.int (.cell (.var 18) (.var 47) 2)), (.int (.cell (.var 18) (.var 47) 3)), (.int (.cell (.var 18) (.var 47) 4)), (.int (.cell (.var 18) (.var 47) 5)), (.int (.cell (.var 18) (.var 47) 6)), (.int (.cell (.var 18) (.var 47) 7)), (.int (.cell (.var 19) (.var 47) 0)), (.int (.cell (.var 19) (.var 47) 1))] tlates_18)))
def tlates_20 : Tree :=
  (.arr [[(.int (.var 23)), (.int (.var 24)), (.int (.var 25)), (.int (.var 26)), (.int (.var 27)), (.int (.var 28)), (.int (.var 29)), (.int (.var 30))], [(.int (.var 33)), (.int (.var 34)), (.int (.var 35)), (.int (.var 36)), (.int (.var 37)), (.int (.var 38)), (.int (.var 39)), (.int (.var 40))]] (.dfn (.var 43) (.arr [[(.arr 23 (.var 10))], [(.arr 23 (.var 44))]] (.loop [.bool, .int] [(.bool (.lit false)), (.int (.lit 0))] (.split (.cmp .lt (.var 47) (.lit 2)) (.ob (.cmp .le (.lit 0) (.var 47)) (.ob (.cmp .lt (.var 47) (.len (.var 18))) (.ob (.cmp .lt (.var 47) (.len (.var 19))) (.call 49 [(.int (.cell (.var 18) (.var 47) 0)), (.int (.cell (.var 18) (.var 47) 1)), (.int (.cell (.var 18) (.var 47) 2)), (.int (.cell (.var 18) (.var 47) 3)), (.int (.cell (.var 18) (.var 47) 4)), (.int (.cell (.var 18) (.var 47) 5)), (.int (.cell (.var 18) (.var 47) 6)), (.int (.cell (.var 18) (.var 47) 7)), (.int (.cell (.var 19) (.var 47) 0)), (.int (.cell (.var 19) (.var 47) 1))] tlates_19)))) (.call 19 [] (.ret [(.bool (.of (.var 48)))])))))))
def tlates_21 : Tree :=
  (.join [(.vec 23), (.vec 31), (.vec 61), (.arr 3), .int] (.call 25 [(.arr 3 (.var 16)), (.int (.var 17))] tlates_10) (.call 25 [(.arr 3 (.var 21)), (.int (.var 22))] (.call 25 [(.arr 3 (.var 31)), (.int (.var 32))] tlates_20)))
def tlates : Tree :=
  (.split (.cmp .lt (.lit 6) (.len (.var 10))) (.call 19 [] (.ret [(.bool (.of (.var 16)))])) (.call 21 [(.arr 3 (.var 15))] tlates_21))
end Go.Proofs.Ytlbgcjpkegpmlaa
/- The samples that come as late as can be. -/
namespace Go.Proofs.Ytlbgcjpkegpmlaa
open Go.RowKit
set_option linter.unusedSimpArgs false
set_option linter.unusedVariables false

theorem latL_rg {x : SK} (hp : 1 ≤ x.pe) : ∀ {k : Nat} {f o p q O P Q : Int}, 0 ≤ f → f + k ≤ 60 → 0 ≤ p → p ≤ 60 → 0 ≤ q → q ≤ 10000 → latL x k f o p q = some (O, P, Q) → 0 ≤ P ∧ P ≤ 60 ∧ 0 ≤ Q ∧ Q ≤ 10000
  | 0, f, o, p, q, O, P, Q, hf, hk, p0, p1, q0, q1, h => by cases h; exact ⟨p0, p1, q0, q1⟩
  | k + 1, f, o, p, q, O, P, Q, hf, hk, p0, p1, q0, q1, h => by
    rw [latL] at h
    split at h
    · cases h
    · rename_i a ha
      have h1 := firA_rg hp hf ha
      split at h
      · cases h
      · split at h
        · exact latL_rg hp (by omega) (by omega) hf (by omega) h1.1 h1.2 h
        · exact latL_rg hp (by omega) (by omega) p0 p1 q0 q1 h
theorem latV_rg {x : SK} (hx : SKOk x) {o p q : Int} (h : latV x = some (o, p, q)) : 0 ≤ p ∧ p ≤ 60 ∧ 0 ≤ q ∧ q ≤ 10000 := by
  obtain ⟨hch, hso⟩ := sensE_iff.1 hx.1
  unfold SOk at hso
  exact latL_rg (k := x.pe.toNat) (by omega) (Int.le_refl 0) (by omega) (by omega) (by omega) (by omega) (by omega) h
theorem slowA_succ {x : SK} {p : Int} {n : Nat} : slowA x p (n + 1) = slowA x p n ++ [sampR x (p + (n : Int) * x.pe)] := by
  unfold slowA; rw [List.range_succ, List.map_append]; rfl
theorem slowB_succ {x : SK} {p q : Int} {n : Nat} : slowB x p q (n + 1) = slowB x p q n ++ [sampR x (p + (q + ((n : Int) + 1) * (x.lo + 1) - 1) * x.pe)] := by
  unfold slowB; rw [List.range_succ, List.map_append]; rfl
theorem slowA_len {x : SK} {p : Int} {n : Nat} : (slowA x p n).length = n := by simp [slowA]
theorem slowB_len {x : SK} {p q : Int} {n : Nat} : (slowB x p q n).length = n := by simp [slowB]
theorem latE_no {x : SK} {a : Int} {is : Bool} (h : [C.i a, .b is] = latE x) (hs : is = false) : slowV x = none := by
  subst hs
  unfold slowV
  unfold latE at h
  by_cases hx : SKOk x
  · rw [if_pos hx] at h ⊢
    cases hv : latV x with
    | none => rfl
    | some v => obtain ⟨o, p, q⟩ := v; rw [hv] at h; cases h
  · rw [if_neg hx]
theorem latE_yes {x : SK} {a : Int} {is : Bool} (h : [C.i a, .b is] = latE x) (hs : is = true) : SKOk x ∧ ∃ p q, latV x = some (a, p, q) := by
  subst hs
  unfold latE at h
  by_cases hx : SKOk x
  · rw [if_pos hx] at h
    cases hv : latV x with
    | none => rw [hv] at h; cases h
    | some v => obtain ⟨o, p, q⟩ := v; rw [hv] at h; cases h; exact ⟨hx, p, q, rfl⟩
  · rw [if_neg hx] at h; cases h
theorem slowV_yes {x : SK} {o p q : Int} (hx : SKOk x) (h : latV x = some (o, p, q)) : slowV x = if 200 < q + x.ho then none else some (slowA x p q.toNat ++ slowB x p q x.ho.toNat) := by
  unfold slowV; rw [if_pos hx, h]
theorem same_ok : tab2.ok 57 := by
  refine Tab.of_ct rfl rfl ⟨_, Try.func57, by decide, rfl⟩ ?_ ctF_det
  refine ct_ok (cx := csame) (Tab.cx_ok all_nil) Try.func57 (bds := []) (T := tsame) (by kernel_rfl) ?_
  unfold tsame
  simp only [VC, allC, List.map_cons, List.map_nil, List.length_cons, List.length_nil, List.getElem?_cons_zero, List.getElem?_cons_succ, List.cons.injEq, C.i.injEq, C.b.injEq, and_true, true_and, forall_const, kindsOf_nil, kindsOf_lf, kindsOf_agg, kindsOf_box, boxKinds_nil, boxKinds_lf, boxKinds_agg, boxKinds_box, List.append_nil, List.cons_append, List.nil_append, den_cmp_le, den_cmp_lt, den_cmp_eq, den_cmp_ne, den_cmp_le', den_cmp_lt', den_cmp_eq', den_cmp_ne', den_and, den_and', den_or, den_or', den_not, den_not', den_blit, den_of, ev_var, at_0, at_1, at_2, at_3, at_4, at_5, at_6, at_7, at_skip, c_int, c_bool, c_arr, c_cnt, c_vec, ev_nil, ev_join, ev_sub3, loc_s, int_i, bool_b, rows_s, cs_nil, cs_cons, E.den_lit, E.den_var, E.den_add, E.den_sub, E.den_mul, E.den_quo, E.den_rem, E.den_max, E.den_min, E.den_len, E.den_wr, E.den_cell, ctSame, ctF]
  intro v rows d _ hsm v' rows' d' _ hsm'
  have e1 : ∀ k o, ((C.s v rows).at k o).int = cell_ (rows.getD k []) o := fun _ _ => rfl
  have e2 : ∀ k o, ((C.s v' rows').at k o).int = cell_ (rows'.getD k []) o := fun _ _ => rfl
  simp only [e1, e2]
  refine ⟨bds_nil _, fun hne => ?_, fun he => ?_⟩
  · unfold sameSam; rw [decide_eq_false (by omega)]; rfl
  have hS : sameSam rows rows' = sameFrom rows rows' := by unfold sameSam; rw [decide_eq_true (by omega), Bool.true_and]
  refine ⟨fun xs => match xs with | [_, .i i] => 0 ≤ i ∧ i ≤ rows.length ∧ sameFrom rows rows' = sameFrom (rows.drop i.toNat) (rows'.drop i.toNat) | _ => False, fun xs => match xs with | [_, .i i] => ((rows.length : Int) - i).toNat | _ => 0, ⟨by omega, by omega, rfl⟩, ?_⟩
  rintro z i _ _ ⟨i0, i1, hI⟩
  refine ⟨fun hlt => ⟨i0, hlt, by omega, ?_⟩, fun hge => ?_⟩
  · rw [drop_getD (show i.toNat < rows.length by omega), drop_getD (show i.toNat < rows'.length by omega), sameFrom] at hI
    refine ⟨fun h => ?_, fun h => ⟨⟨by omega, by omega, ?_⟩, show ((rows.length : Int) - (i + 1)).toNat < ((rows.length : Int) - i).toNat by omega⟩⟩
    · rw [hS, hI, decide_eq_false fun h' => h h'.1 h'.2.1 h'.2.2]; rfl
    · rw [hI, decide_eq_true h, Bool.true_and, show (i + 1).toNat = i.toNat + 1 by omega]
  · rw [hS, hI, List.drop_eq_nil_of_le (by omega), sameFrom]
    all_goals simp
theorem sameFrom_refl : ∀ (l : List (List C)), sameFrom l l = true
  | [] => rfl
  | x :: l => by simp [sameFrom, sameFrom_refl l]
theorem sameSam_refl (l : List (List C)) : sameSam l l = true := by simp [sameSam, sameFrom_refl]
theorem rsample_ok : tab2.ok 89 := by
  refine Tab.of_ct rfl rfl ⟨_, Try.func89, by decide, rfl⟩ ?_ ctF_det
  refine ct_ok (cx := crsample) (Tab.cx_ok (all_cons (up_ok rvalue_ok) all_nil)) Try.func89 (bds := []) (T := trsample) (by kernel_rfl) ?_
  have h1 : crsample.ct 47 = some ctValue := rfl
  unfold trsample
  simp only [VC, allC, List.map_cons, List.map_nil, List.length_cons, List.length_nil, List.getElem?_cons_zero, List.getElem?_cons_succ, List.cons.injEq, C.i.injEq, C.b.injEq, and_true, true_and, forall_const, kindsOf_nil, kindsOf_lf, kindsOf_agg, kindsOf_box, boxKinds_nil, boxKinds_lf, boxKinds_agg, boxKinds_box, List.append_nil, List.cons_append, List.nil_append, den_cmp_le, den_cmp_lt, den_cmp_eq, den_cmp_ne, den_cmp_le', den_cmp_lt', den_cmp_eq', den_cmp_ne', den_and, den_and', den_or, den_or', den_not, den_not', den_blit, den_of, ev_var, at_0, at_1, at_2, at_3, at_4, at_5, at_6, at_7, at_skip, c_int, c_bool, c_arr, c_cnt, c_vec, ev_nil, ev_join, ev_sub3, loc_s, int_i, bool_b, rows_s, cs_nil, cs_cons, E.den_lit, E.den_var, E.den_add, E.den_sub, E.den_mul, E.den_quo, E.den_rem, E.den_max, E.den_min, E.den_len, E.den_wr, E.den_cell, h1, ctSample, ctValue, ctF, kickSh, sensSh, sampSh, skOf_mk, cell10]
  intro ch _ _ pe _ _ de _ _ no _ _ st _ _ lo _ _ li _ _ ho _ _ r _ _ g _ _ t _ _ hp
  obtain ⟨hch, hso⟩ := sensE_iff.1 hp.1
  simp only [] at hso
  unfold SOk at hso
  refine ⟨bds_nil _, by omega, by omega, ?_⟩
  rintro v _ _ rfl
  unfold sampR
  simp only [Int.zero_sub]
end Go.Proofs.Ytlbgcjpkegpmlaa
/- Copies of lists; KickWatches, by the table. -/
namespace Go.Proofs.Ytlbgcjpkegpmlaa
open Go.RowKit
set_option linter.unusedSimpArgs false
set_option linter.unusedVariables false

theorem ownsens_ok : tab5.ok 52 := by
  refine Tab.of_ct rfl rfl ⟨_, Try.func52, by decide, rfl⟩ ?_ (fun h => by cases h)
  refine ct_ok (cx := cownsens) (Tab.cx_ok all_nil) Try.func52 (bds := []) (T := townsens) (by kernel_rfl) ?_
  unfold townsens
  simp only [VC, allC, List.map_cons, List.map_nil, List.length_cons, List.length_nil, List.getElem?_cons_zero, List.getElem?_cons_succ, List.cons.injEq, C.i.injEq, C.b.injEq, and_true, true_and, forall_const, kindsOf_nil, kindsOf_lf, kindsOf_agg, kindsOf_box, boxKinds_nil, boxKinds_lf, boxKinds_agg, boxKinds_box, List.append_nil, List.cons_append, List.nil_append, den_cmp_le, den_cmp_lt, den_cmp_eq, den_cmp_ne, den_cmp_le', den_cmp_lt', den_cmp_eq', den_cmp_ne', den_and, den_and', den_or, den_or', den_not, den_not', den_blit, den_of, ev_var, at_0, at_1, at_2, at_3, at_4, at_5, at_6, at_7, at_skip, c_int, c_bool, c_arr, c_cnt, c_vec, ev_nil, ev_join, ev_sub3, loc_s, int_i, bool_b, rows_s, cs_nil, cs_cons, E.den_lit, E.den_var, E.den_add, E.den_sub, E.den_mul, E.den_quo, E.den_rem, E.den_max, E.den_min, E.den_len, E.den_wr, E.den_cell, ctOwn]
  intro v rows d _ hsm hl
  exact ⟨bds_nil _, by omega⟩
theorem ownsam_ok : tab5.ok 53 := by
  refine Tab.of_ct rfl rfl ⟨_, Try.func53, by decide, rfl⟩ ?_ (fun h => by cases h)
  refine ct_ok (cx := cownsam) (Tab.cx_ok all_nil) Try.func53 (bds := []) (T := townsam) (by kernel_rfl) ?_
  unfold townsam
  simp only [VC, allC, List.map_cons, List.map_nil, List.length_cons, List.length_nil, List.getElem?_cons_zero, List.getElem?_cons_succ, List.cons.injEq, C.i.injEq, C.b.injEq, and_true, true_and, forall_const, kindsOf_nil, kindsOf_lf, kindsOf_agg, kindsOf_box, boxKinds_nil, boxKinds_lf, boxKinds_agg, boxKinds_box, List.append_nil, List.cons_append, List.nil_append, den_cmp_le, den_cmp_lt, den_cmp_eq, den_cmp_ne, den_cmp_le', den_cmp_lt', den_cmp_eq', den_cmp_ne', den_and, den_and', den_or, den_or', den_not, den_not', den_blit, den_of, ev_var, at_0, at_1, at_2, at_3, at_4, at_5, at_6, at_7, at_skip, c_int, c_bool, c_arr, c_cnt, c_vec, ev_nil, ev_join, ev_sub3, loc_s, int_i, bool_b, rows_s, cs_nil, cs_cons, E.den_lit, E.den_var, E.den_add, E.den_sub, E.den_mul, E.den_quo, E.den_rem, E.den_max, E.den_min, E.den_len, E.den_wr, E.den_cell, ctOwn]
  intro v rows d _ hsm hl
  exact ⟨bds_nil _, by omega⟩
theorem cellsEq8 {x y : List C} : cellsEq x y 8 = decide (cell_ x 0 = cell_ y 0 ∧ cell_ x 1 = cell_ y 1 ∧ cell_ x 2 = cell_ y 2 ∧ cell_ x 3 = cell_ y 3 ∧ cell_ x 4 = cell_ y 4 ∧ cell_ x 5 = cell_ y 5 ∧ cell_ x 6 = cell_ y 6 ∧ cell_ x 7 = cell_ y 7) := by
  simp only [cellsEq, Bool.true_and, Bool.decide_and]
  simp only [Bool.and_assoc]
theorem samesens_ok : tab5.ok 56 := by
  refine Tab.of_ct rfl rfl ⟨_, Try.func56, by decide, rfl⟩ ?_ ctF_det
  refine ct_ok (cx := csamesens) (Tab.cx_ok all_nil) Try.func56 (bds := []) (T := tsamesens) (by kernel_rfl) ?_
  unfold tsamesens
  simp only [VC, allC, List.map_cons, List.map_nil, List.length_cons, List.length_nil, List.getElem?_cons_zero, List.getElem?_cons_succ, List.cons.injEq, C.i.injEq, C.b.injEq, and_true, true_and, forall_const, kindsOf_nil, kindsOf_lf, kindsOf_agg, kindsOf_box, boxKinds_nil, boxKinds_lf, boxKinds_agg, boxKinds_box, List.append_nil, List.cons_append, List.nil_append, den_cmp_le, den_cmp_lt, den_cmp_eq, den_cmp_ne, den_cmp_le', den_cmp_lt', den_cmp_eq', den_cmp_ne', den_and, den_and', den_or, den_or', den_not, den_not', den_blit, den_of, ev_var, at_0, at_1, at_2, at_3, at_4, at_5, at_6, at_7, at_skip, c_int, c_bool, c_arr, c_cnt, c_vec, ev_nil, ev_join, ev_sub3, loc_s, int_i, bool_b, rows_s, cs_nil, cs_cons, E.den_lit, E.den_var, E.den_add, E.den_sub, E.den_mul, E.den_quo, E.den_rem, E.den_max, E.den_min, E.den_len, E.den_wr, E.den_cell, ctSameS, ctF]
  intro v rows d _ hsm v' rows' d' _ hsm'
  have e1 : ∀ k o, ((C.s v rows).at k o).int = cell_ (rows.getD k []) o := fun _ _ => rfl
  have e2 : ∀ k o, ((C.s v' rows').at k o).int = cell_ (rows'.getD k []) o := fun _ _ => rfl
  simp only [e1, e2]
  refine ⟨bds_nil _, fun hne => ?_, fun he => ?_⟩
  · unfold sameSen; rw [decide_eq_false (by omega)]; rfl
  have hS : sameSen rows rows' = sameSe rows rows' := by unfold sameSen; rw [decide_eq_true (by omega), Bool.true_and]
  refine ⟨fun xs => match xs with | [_, .i i] => 0 ≤ i ∧ i ≤ rows.length ∧ sameSe rows rows' = sameSe (rows.drop i.toNat) (rows'.drop i.toNat) | _ => False, fun xs => match xs with | [_, .i i] => ((rows.length : Int) - i).toNat | _ => 0, ⟨by omega, by omega, rfl⟩, ?_⟩
  rintro z i _ _ ⟨i0, i1, hI⟩
  refine ⟨fun hlt => ⟨i0, hlt, by omega, ?_⟩, fun hge => ?_⟩
  · rw [drop_getD (show i.toNat < rows.length by omega), drop_getD (show i.toNat < rows'.length by omega), sameSe, cellsEq8] at hI
    refine ⟨fun h => ?_, fun h => ⟨⟨by omega, by omega, ?_⟩, show ((rows.length : Int) - (i + 1)).toNat < ((rows.length : Int) - i).toNat by omega⟩⟩
    · rw [hS, hI, decide_eq_false fun h' => h h'.1 h'.2.1 h'.2.2.1 h'.2.2.2.1 h'.2.2.2.2.1 h'.2.2.2.2.2.1 h'.2.2.2.2.2.2.1 h'.2.2.2.2.2.2.2]; rfl
    · rw [hI, decide_eq_true h, Bool.true_and, show (i + 1).toNat = i.toNat + 1 by omega]
  · rw [hS, hI, List.drop_eq_nil_of_le (by omega), sameSe]
    all_goals simp
theorem sameSe_refl : ∀ (l : List (List C)), sameSe l l = true
  | [] => rfl
  | x :: l => by rw [sameSe, cellsEq8, sameSe_refl l]; simp
theorem sameSen_refl (l : List (List C)) : sameSen l l = true := by simp [sameSen, sameSe_refl]
theorem bne_self' (t : Bool) : ¬ (t == t) = false := by cases t <;> decide
theorem two_at {v a b : Value} {x y : List (List C)} {L : Nat} {i : Int} (i0 : 0 ≤ i) (i1 : i < 2) (hx : (x.length : Int) ≤ L) (hy : (y.length : Int) ≤ L) : ∃ u rows, (C.s v [[C.s a x], [C.s b y]]).at i.toNat 0 = C.s u rows ∧ rows.length ≤ L := by
  rcases (show i = 0 ∨ i = 1 by omega) with rfl | rfl
  · exact ⟨a, x, rfl, by omega⟩
  · exact ⟨b, y, rfl, by omega⟩
theorem watches_ok (awake_ok : tab5.ok 19) : CtOK Try.prog 10 (ctLaw [.lf (.arr 23), .lf (.arr 40), .lf (.arr 3)]) := by
  refine ct_ok (cx := cwatches) (Tab.cx_ok (all_cons awake_ok (all_cons (up5_ok (up4_ok (up3_ok (up_ok newring_ok)))) (all_cons (up5_ok (up4_ok (up3_ok (up_ok kickof_ok)))) (all_cons (up5_ok (up4_ok (up3_ok (up_ok sensorof_ok)))) (all_cons (up5_ok (up4_ok (up3_ok (up_ok next_ok)))) (all_cons (up5_ok (up4_ok (up3_ok (up_ok samples_ok)))) (all_cons ownsens_ok (all_cons ownsam_ok (all_cons (up5_ok (up4_ok watch_ok)) (all_cons (up5_ok (up4_ok rwatch_ok)) (all_cons samesens_ok (all_cons (up5_ok (up4_ok (up3_ok same_ok))) all_nil))))))))))))) Try.func10 (bds := []) (T := twatches) (by kernel_rfl) ?_
  have h1 : cwatches.ct 19 = some ctAwake := rfl
  have h2 : cwatches.ct 21 = some ctNewRing := rfl
  have h3 : cwatches.ct 20 = some ctKickOf := rfl
  have h4 : cwatches.ct 25 = some ctSensorOf := rfl
  have h5 : cwatches.ct 26 = some ctNext := rfl
  have h6 : cwatches.ct 27 = some ctSamples := rfl
  have h7 : cwatches.ct 52 = some (ctOwn 23) := rfl
  have h8 : cwatches.ct 53 = some (ctOwn 40) := rfl
  have h9 : cwatches.ct 54 = some ctWatch := rfl
  have h10 : cwatches.ct 55 = some ctWatch := rfl
  have h11 : cwatches.ct 56 = some ctSameS := rfl
  have h12 : cwatches.ct 57 = some ctSame := rfl
  unfold twatches
  simp (config := { maxSteps := 1000000 }) only [VC, allC, List.map_cons, List.map_nil, List.length_cons, List.length_nil, List.getElem?_cons_zero, List.getElem?_cons_succ, List.cons.injEq, C.i.injEq, C.b.injEq, and_true, true_and, forall_const, kindsOf_nil, kindsOf_lf, kindsOf_agg, kindsOf_box, boxKinds_nil, boxKinds_lf, boxKinds_agg, boxKinds_box, List.append_nil, List.cons_append, List.nil_append, den_cmp_le, den_cmp_lt, den_cmp_eq, den_cmp_ne, den_cmp_le', den_cmp_lt', den_cmp_eq', den_cmp_ne', den_and, den_and', den_or, den_or', den_not, den_not', den_blit, den_of, ev_var, at_0, at_1, at_2, at_3, at_4, at_5, at_6, at_7, at_skip, c_int, c_bool, c_arr, c_cnt, c_vec, ev_nil, ev_join, ev_sub3, loc_s, int_i, bool_b, rows_s, cs_nil, cs_cons, E.den_lit, E.den_var, E.den_add, E.den_sub, E.den_mul, E.den_quo, E.den_rem, E.den_max, E.den_min, E.den_len, E.den_wr, E.den_cell, h1, h2, h3, h4, ctLaw, ctAwake, ctNewRing, ctKickOf, ctSensorOf, atPre, ctF, kickSh, sensSh, ringSh]
  intro va sens da hta hsa vb samp db htb hsb v1 nums d1 hty1 hsm1
  refine ⟨bds_nil _, fun _ t ht => ht, fun hs6 => ⟨fun _ t ht => ht, fun hs210 => ?_⟩⟩
  rintro v0 rows0 d0 _ _ at0 _ _ ⟨hc, rfl⟩
  cases hc
  refine ⟨by omega, ?_⟩
  rintro r _ _ g _ _ v0 rows0 d0 _ _ x _ _ ⟨r0, r1, g0, g1, rfl, rfl, rfl⟩
  refine ⟨by omega, ?_⟩
  rintro q0 _ _ q1 _ _ q2 _ _ q3 _ _ q4 _ _ q5 _ _ q6 _ _ q7 _ _ v0 rows0 d0 _ _ x _ _ ⟨sq, rfl, rfl, rfl⟩
  refine ⟨by omega, ?_⟩
  rintro p0 _ _ p1 _ _ p2 _ _ p3 _ _ p4 _ _ p5 _ _ p6 _ _ p7 _ _ v0 rows0 d0 _ _ x _ _ ⟨sp, rfl, rfl, rfl⟩
  have hkk : KOk r g := by unfold KOk; omega
  have sokq := sok_of sq hkk
  have sokp := sok_of sp hkk
  unfold twatches_9
  simp only [VC, allC, List.map_cons, List.map_nil, List.length_cons, List.length_nil, List.getElem?_cons_zero, List.getElem?_cons_succ, List.cons.injEq, C.i.injEq, C.b.injEq, and_true, true_and, forall_const, kindsOf_nil, kindsOf_lf, kindsOf_agg, kindsOf_box, boxKinds_nil, boxKinds_lf, boxKinds_agg, boxKinds_box, List.append_nil, List.cons_append, List.nil_append, den_cmp_le, den_cmp_lt, den_cmp_eq, den_cmp_ne, den_cmp_le', den_cmp_lt', den_cmp_eq', den_cmp_ne', den_and, den_and', den_or, den_or', den_not, den_not', den_blit, den_of, ev_var, at_0, at_1, at_2, at_3, at_4, at_5, at_6, at_7, at_skip, c_int, c_bool, c_arr, c_cnt, c_vec, ev_nil, ev_join, ev_sub3, loc_s, int_i, bool_b, rows_s, cs_nil, cs_cons, E.den_lit, E.den_var, E.den_add, E.den_sub, E.den_mul, E.den_quo, E.den_rem, E.den_max, E.den_min, E.den_len, E.den_wr, E.den_cell, h5, ctNext, ringSh]
  intro v29
  refine ⟨⟨by omega, by omega, by omega⟩, ?_⟩
  rintro z _ _ v0 rows0 d0 _ _ x _ _ ⟨z0, z1, rfl, rfl, rfl⟩
  unfold twatches_8
  simp (config := { maxSteps := 1000000 }) only [VC, allC, List.map_cons, List.map_nil, List.length_cons, List.length_nil, List.getElem?_cons_zero, List.getElem?_cons_succ, List.cons.injEq, C.i.injEq, C.b.injEq, and_true, true_and, forall_const, kindsOf_nil, kindsOf_lf, kindsOf_agg, kindsOf_box, boxKinds_nil, boxKinds_lf, boxKinds_agg, boxKinds_box, List.append_nil, List.cons_append, List.nil_append, den_cmp_le, den_cmp_lt, den_cmp_eq, den_cmp_ne, den_cmp_le', den_cmp_lt', den_cmp_eq', den_cmp_ne', den_and, den_and', den_or, den_or', den_not, den_not', den_blit, den_of, ev_var, at_0, at_1, at_2, at_3, at_4, at_5, at_6, at_7, at_skip, c_int, c_bool, c_arr, c_cnt, c_vec, ev_nil, ev_join, ev_sub3, loc_s, int_i, bool_b, rows_s, cs_nil, cs_cons, E.den_lit, E.den_var, E.den_add, E.den_sub, E.den_mul, E.den_quo, E.den_rem, E.den_max, E.den_min, E.den_len, E.den_wr, E.den_cell, h6, h7, h8, h9, h1, ctSamples, ctOwn, ctWatch, ctAwake, ctF, kickSh, sensSh, ringSh, inr, ev_cell]
  refine ⟨by omega, fun xs => match xs with | [.s _ l, .s _ _, .i _] => l.length ≤ 380 | _ => False, ⟨by omega, by omega, by omega, ⟨by omega, by omega, sokp, by omega, by omega, by omega, by omega⟩, ?_⟩, ?_⟩
  · rintro vx a dx _ _ v0 rows0 d0 _ _ x _ _ ⟨hS, rfl, rfl, x0, x1⟩
    unfold twatches_1
    simp only [VC, allC, List.map_cons, List.map_nil, List.length_cons, List.length_nil, List.getElem?_cons_zero, List.getElem?_cons_succ, List.cons.injEq, C.i.injEq, C.b.injEq, and_true, true_and, forall_const, kindsOf_nil, kindsOf_lf, kindsOf_agg, kindsOf_box, boxKinds_nil, boxKinds_lf, boxKinds_agg, boxKinds_box, List.append_nil, List.cons_append, List.nil_append, den_cmp_le, den_cmp_lt, den_cmp_eq, den_cmp_ne, den_cmp_le', den_cmp_lt', den_cmp_eq', den_cmp_ne', den_and, den_and', den_or, den_or', den_not, den_not', den_blit, den_of, ev_var, at_0, at_1, at_2, at_3, at_4, at_5, at_6, at_7, at_skip, c_int, c_bool, c_arr, c_cnt, c_vec, ev_nil, ev_join, ev_sub3, loc_s, int_i, bool_b, rows_s, cs_nil, cs_cons, E.den_lit, E.den_var, E.den_add, E.den_sub, E.den_mul, E.den_quo, E.den_rem, E.den_max, E.den_min, E.den_len, E.den_wr, E.den_cell, ev_cell, h6, ctSamples, kickSh, sensSh, ringSh, inr]
    refine ⟨by omega, ⟨by omega, by omega, sokq, by omega, by omega, by omega, by omega⟩, ?_⟩
    rintro vy b dy _ _ v0 rows0 d0 _ _ x _ _ ⟨hS2, rfl, rfl, _, _⟩
    have l1 := hS.1
    have l2 := hS2.1
    refine ⟨by omega, ?_⟩
    rw [List.length_append]; omega
  rintro vs smp ds hts _ v0 rows0 d0 _ _ x _ _ hlen
  generalize hmade : [[C.i q0, C.i q1, C.i q2, C.i q3, C.i q4, C.i q5, C.i q6, C.i q7], [C.i p0, C.i p1, C.i p2, C.i p3, C.i p4, C.i p5, C.i p6, C.i p7]] = made at *
  have hml : made.length = 2 := by rw [← hmade]; rfl
  refine ⟨fun hgt => ⟨by omega, ?_⟩, fun hle => ?_⟩
  · intro w1 w2 w3
    refine ⟨fun xs => match xs with | [_, .i i] => 0 ≤ i ∧ i ≤ 2 | _ => False, fun xs => match xs with | [_, .i i] => (2 - i).toNat | _ => 0, ⟨by omega, by omega⟩, ?_⟩
    rintro tt i _ _ ⟨i0, i1⟩
    refine ⟨fun hlt => ?_, fun _ t ht => ht⟩
    obtain ⟨u1, rows1, e1, l1⟩ := two_at (v := w2) (a := va) (x := sens) (b := v29) (y := made) (L := 6) i0 hlt hs6 (by omega)
    obtain ⟨u2, rows2, e2, l2⟩ := two_at (v := w3) (a := vb) (x := samp) (b := w1) (y := List.drop (Int.toNat 0) (List.take (Int.toNat 200) smp)) (L := 210) i0 hlt hs210 (by rw [Int.toNat_zero, List.drop_zero]; have := List.length_take_le (Int.toNat 200) smp; omega)
    simp only [e1, e2]
    refine ⟨fun xs => match xs with | [.s _ a, .s _ b] => a = rows1 ∧ b = rows2 | _ => False, ⟨i0, by omega, by omega, by omega, ?_⟩, ?_⟩
    · rintro v5 a _ _ _ rfl
      refine ⟨by omega, ?_⟩
      rintro v6 b _ _ _ rfl
      exact ⟨rfl, rfl⟩
    · rintro v5 a _ _ _ v6 b _ _ _ ⟨rfl, rfl⟩
      rintro s _ _ tk _ _ f e _ _ hw
      unfold twatches_4
      simp only [VC, allC, List.map_cons, List.map_nil, List.length_cons, List.length_nil, List.getElem?_cons_zero, List.getElem?_cons_succ, List.cons.injEq, C.i.injEq, C.b.injEq, and_true, true_and, forall_const, kindsOf_nil, kindsOf_lf, kindsOf_agg, kindsOf_box, boxKinds_nil, boxKinds_lf, boxKinds_agg, boxKinds_box, List.append_nil, List.cons_append, List.nil_append, den_cmp_le, den_cmp_lt, den_cmp_eq, den_cmp_ne, den_cmp_le', den_cmp_lt', den_cmp_eq', den_cmp_ne', den_and, den_and', den_or, den_or', den_not, den_not', den_blit, den_of, ev_var, at_0, at_1, at_2, at_3, at_4, at_5, at_6, at_7, at_skip, c_int, c_bool, c_arr, c_cnt, c_vec, ev_nil, ev_join, ev_sub3, loc_s, int_i, bool_b, rows_s, cs_nil, cs_cons, E.den_lit, E.den_var, E.den_add, E.den_sub, E.den_mul, E.den_quo, E.den_rem, E.den_max, E.den_min, E.den_len, E.den_wr, E.den_cell, ev_cell, h10, ctWatch, ctF]
      refine ⟨i0, by omega, by omega, ?_⟩
      simp only [e1, e2]
      rintro s' _ _ tk' _ _ f' e' _ _ hw'
      rw [← hw] at hw'
      simp only [List.cons.injEq, C.i.injEq, C.b.injEq] at hw'
      obtain ⟨rfl, rfl, rfl, rfl, -⟩ := hw'
      unfold twatches_3
      simp only [VC, allC, List.map_cons, List.map_nil, List.length_cons, List.length_nil, List.getElem?_cons_zero, List.getElem?_cons_succ, List.cons.injEq, C.i.injEq, C.b.injEq, and_true, true_and, forall_const, kindsOf_nil, kindsOf_lf, kindsOf_agg, kindsOf_box, boxKinds_nil, boxKinds_lf, boxKinds_agg, boxKinds_box, List.append_nil, List.cons_append, List.nil_append, den_cmp_le, den_cmp_lt, den_cmp_eq, den_cmp_ne, den_cmp_le', den_cmp_lt', den_cmp_eq', den_cmp_ne', den_and, den_and', den_or, den_or', den_not, den_not', den_blit, den_of, ev_var, at_0, at_1, at_2, at_3, at_4, at_5, at_6, at_7, at_skip, c_int, c_bool, c_arr, c_cnt, c_vec, ev_nil, ev_join, ev_sub3, loc_s, int_i, bool_b, rows_s, cs_nil, cs_cons, E.den_lit, E.den_var, E.den_add, E.den_sub, E.den_mul, E.den_quo, E.den_rem, E.den_max, E.den_min, E.den_len, E.den_wr, E.den_cell, ev_cell, h11, ctSameS, ctF]
      refine ⟨fun h => (h rfl).elim, fun h => absurd h (bne_self' f'), fun _ => ⟨fun h => absurd rfl h, by omega, ?_⟩⟩
      simp only [e1, e2]
      rintro t1 ht1
      rw [sameSen_refl] at ht1
      cases ht1
      unfold twatches_2
      simp only [VC, allC, List.map_cons, List.map_nil, List.length_cons, List.length_nil, List.getElem?_cons_zero, List.getElem?_cons_succ, List.cons.injEq, C.i.injEq, C.b.injEq, and_true, true_and, forall_const, kindsOf_nil, kindsOf_lf, kindsOf_agg, kindsOf_box, boxKinds_nil, boxKinds_lf, boxKinds_agg, boxKinds_box, List.append_nil, List.cons_append, List.nil_append, den_cmp_le, den_cmp_lt, den_cmp_eq, den_cmp_ne, den_cmp_le', den_cmp_lt', den_cmp_eq', den_cmp_ne', den_and, den_and', den_or, den_or', den_not, den_not', den_blit, den_of, ev_var, at_0, at_1, at_2, at_3, at_4, at_5, at_6, at_7, at_skip, c_int, c_bool, c_arr, c_cnt, c_vec, ev_nil, ev_join, ev_sub3, loc_s, int_i, bool_b, rows_s, cs_nil, cs_cons, E.den_lit, E.den_var, E.den_add, E.den_sub, E.den_mul, E.den_quo, E.den_rem, E.den_max, E.den_min, E.den_len, E.den_wr, E.den_cell, ev_cell, h12, ctSame, ctF]
      refine ⟨fun h => absurd h (by simp), by omega, ?_⟩
      simp only [e1, e2]
      rintro t2 ht2
      rw [sameSam_refl] at ht2
      cases ht2
      exact ⟨fun h => absurd h (by simp), fun _ => ⟨⟨by omega, by omega⟩, show (2 - (i + 1)).toNat < (2 - i).toNat by omega⟩⟩
  · intro w2 w3
    refine ⟨fun xs => match xs with | [_, .i i] => 0 ≤ i ∧ i ≤ 2 | _ => False, fun xs => match xs with | [_, .i i] => (2 - i).toNat | _ => 0, ⟨by omega, by omega⟩, ?_⟩
    rintro tt i _ _ ⟨i0, i1⟩
    refine ⟨fun hlt => ?_, fun _ t ht => ht⟩
    obtain ⟨u1, rows1, e1, l1⟩ := two_at (v := w2) (a := va) (x := sens) (b := v29) (y := made) (L := 6) i0 hlt hs6 (by omega)
    obtain ⟨u2, rows2, e2, l2⟩ := two_at (v := w3) (a := vb) (x := samp) (b := vs) (y := smp) (L := 210) i0 hlt hs210 (by omega)
    simp only [e1, e2]
    refine ⟨fun xs => match xs with | [.s _ a, .s _ b] => a = rows1 ∧ b = rows2 | _ => False, ⟨i0, by omega, by omega, by omega, ?_⟩, ?_⟩
    · rintro v5 a _ _ _ rfl
      refine ⟨by omega, ?_⟩
      rintro v6 b _ _ _ rfl
      exact ⟨rfl, rfl⟩
    · rintro v5 a _ _ _ v6 b _ _ _ ⟨rfl, rfl⟩
      rintro s _ _ tk _ _ f e _ _ hw
      unfold twatches_7
      simp only [VC, allC, List.map_cons, List.map_nil, List.length_cons, List.length_nil, List.getElem?_cons_zero, List.getElem?_cons_succ, List.cons.injEq, C.i.injEq, C.b.injEq, and_true, true_and, forall_const, kindsOf_nil, kindsOf_lf, kindsOf_agg, kindsOf_box, boxKinds_nil, boxKinds_lf, boxKinds_agg, boxKinds_box, List.append_nil, List.cons_append, List.nil_append, den_cmp_le, den_cmp_lt, den_cmp_eq, den_cmp_ne, den_cmp_le', den_cmp_lt', den_cmp_eq', den_cmp_ne', den_and, den_and', den_or, den_or', den_not, den_not', den_blit, den_of, ev_var, at_0, at_1, at_2, at_3, at_4, at_5, at_6, at_7, at_skip, c_int, c_bool, c_arr, c_cnt, c_vec, ev_nil, ev_join, ev_sub3, loc_s, int_i, bool_b, rows_s, cs_nil, cs_cons, E.den_lit, E.den_var, E.den_add, E.den_sub, E.den_mul, E.den_quo, E.den_rem, E.den_max, E.den_min, E.den_len, E.den_wr, E.den_cell, ev_cell, h10, ctWatch, ctF]
      refine ⟨i0, by omega, by omega, ?_⟩
      simp only [e1, e2]
      rintro s' _ _ tk' _ _ f' e' _ _ hw'
      rw [← hw] at hw'
      simp only [List.cons.injEq, C.i.injEq, C.b.injEq] at hw'
      obtain ⟨rfl, rfl, rfl, rfl, -⟩ := hw'
      unfold twatches_6
      simp only [VC, allC, List.map_cons, List.map_nil, List.length_cons, List.length_nil, List.getElem?_cons_zero, List.getElem?_cons_succ, List.cons.injEq, C.i.injEq, C.b.injEq, and_true, true_and, forall_const, kindsOf_nil, kindsOf_lf, kindsOf_agg, kindsOf_box, boxKinds_nil, boxKinds_lf, boxKinds_agg, boxKinds_box, List.append_nil, List.cons_append, List.nil_append, den_cmp_le, den_cmp_lt, den_cmp_eq, den_cmp_ne, den_cmp_le', den_cmp_lt', den_cmp_eq', den_cmp_ne', den_and, den_and', den_or, den_or', den_not, den_not', den_blit, den_of, ev_var, at_0, at_1, at_2, at_3, at_4, at_5, at_6, at_7, at_skip, c_int, c_bool, c_arr, c_cnt, c_vec, ev_nil, ev_join, ev_sub3, loc_s, int_i, bool_b, rows_s, cs_nil, cs_cons, E.den_lit, E.den_var, E.den_add, E.den_sub, E.den_mul, E.den_quo, E.den_rem, E.den_max, E.den_min, E.den_len, E.den_wr, E.den_cell, ev_cell, h11, ctSameS, ctF]
      refine ⟨fun h => (h rfl).elim, fun h => absurd h (bne_self' f'), fun _ => ⟨fun h => absurd rfl h, by omega, ?_⟩⟩
      simp only [e1, e2]
      rintro t1 ht1
      rw [sameSen_refl] at ht1
      cases ht1
      unfold twatches_5
      simp only [VC, allC, List.map_cons, List.map_nil, List.length_cons, List.length_nil, List.getElem?_cons_zero, List.getElem?_cons_succ, List.cons.injEq, C.i.injEq, C.b.injEq, and_true, true_and, forall_const, kindsOf_nil, kindsOf_lf, kindsOf_agg, kindsOf_box, boxKinds_nil, boxKinds_lf, boxKinds_agg, boxKinds_box, List.append_nil, List.cons_append, List.nil_append, den_cmp_le, den_cmp_lt, den_cmp_eq, den_cmp_ne, den_cmp_le', den_cmp_lt', den_cmp_eq', den_cmp_ne', den_and, den_and', den_or, den_or', den_not, den_not', den_blit, den_of, ev_var, at_0, at_1, at_2, at_3, at_4, at_5, at_6, at_7, at_skip, c_int, c_bool, c_arr, c_cnt, c_vec, ev_nil, ev_join, ev_sub3, loc_s, int_i, bool_b, rows_s, cs_nil, cs_cons, E.den_lit, E.den_var, E.den_add, E.den_sub, E.den_mul, E.den_quo, E.den_rem, E.den_max, E.den_min, E.den_len, E.den_wr, E.den_cell, ev_cell, h12, ctSame, ctF]
      refine ⟨fun h => absurd h (by simp), by omega, ?_⟩
      simp only [e1, e2]
      rintro t2 ht2
      rw [sameSam_refl] at ht2
      cases ht2
      exact ⟨fun h => absurd h (by simp), fun _ => ⟨⟨by omega, by omega⟩, show (2 - (i + 1)).toNat < (2 - i).toNat by omega⟩⟩
end Go.Proofs.Ytlbgcjpkegpmlaa
/- Contracts of small functions: kick.within, moonpoolref06.between, CheckKick, flows and gains. -/
namespace Go.Proofs.Ytlbgcjpkegpmlaa
open Go.RowKit

/-- kick.within -/
theorem within_any (n lo hi : Int) (w : World) :
    Calls Try.prog 68 #[.int .i64 n, .int .i64 lo, .int .i64 hi] w fun e w' => e = .returned (.bool (decide (lo ≤ n ∧ n ≤ hi))) ∧ w = w' := by
  go_enter Try.func68, Try.ntmps68
  go_wp2
  all_goals go_ret
  all_goals (refine ⟨ret_bool ?_, rfl⟩; simp; omega)
/-- moonpoolref06.between -/
theorem between_any (n lo hi : Int) (w : World) :
    Calls Try.prog 69 #[.int .i64 n, .int .i64 lo, .int .i64 hi] w fun e w' => e = .returned (.bool (decide (lo ≤ n ∧ n ≤ hi))) ∧ w = w' := by
  go_enter Try.func69, Try.ntmps69
  go_wp2
  all_goals go_ret
  all_goals (refine ⟨ret_bool ?_, rfl⟩; simp; omega)
theorem within_yes (n lo hi : Int) (w : World) (h : lo ≤ n) (h' : n ≤ hi) :
    Calls Try.prog 68 #[.int .i64 n, .int .i64 lo, .int .i64 hi] w fun e w' => e = .returned (.bool true) ∧ w = w' :=
  (within_any n lo hi w).mono fun _ _ ⟨he, hw⟩ => ⟨he.trans (ret_bool (by simp [h, h'])), hw⟩
theorem within_no (n lo hi : Int) (w : World) (h : n < lo ∨ hi < n) :
    Calls Try.prog 68 #[.int .i64 n, .int .i64 lo, .int .i64 hi] w fun e w' => e = .returned (.bool false) ∧ w = w' :=
  (within_any n lo hi w).mono fun _ _ ⟨he, hw⟩ => ⟨he.trans (ret_bool (by simp; omega)), hw⟩
theorem between_yes (n lo hi : Int) (w : World) (h : lo ≤ n) (h' : n ≤ hi) :
    Calls Try.prog 69 #[.int .i64 n, .int .i64 lo, .int .i64 hi] w fun e w' => e = .returned (.bool true) ∧ w = w' :=
  (between_any n lo hi w).mono fun _ _ ⟨he, hw⟩ => ⟨he.trans (ret_bool (by simp [h, h'])), hw⟩
theorem between_no (n lo hi : Int) (w : World) (h : n < lo ∨ hi < n) :
    Calls Try.prog 69 #[.int .i64 n, .int .i64 lo, .int .i64 hi] w fun e w' => e = .returned (.bool false) ∧ w = w' :=
  (between_any n lo hi w).mono fun _ _ ⟨he, hw⟩ => ⟨he.trans (ret_bool (by simp; omega)), hw⟩



abbrev kickV (r g : Int) : Value := .agg #[.int .i64 r, .int .i64 g]
abbrev Sen.v (s : Sen) : Value := .agg #[.int .i64 s.ch, .int .i64 s.pe, .int .i64 s.de, .int .i64 s.no, .int .i64 s.st, .int .i64 s.lo, .int .i64 s.li, .int .i64 s.ho]

theorem notKick {r g : Int} (h : ¬ KickOK r g) : r < 0 ∨ (0 ≤ r ∧ 16777216 < r) ∨ (0 ≤ r ∧ r ≤ 16777216 ∧ g < 0) ∨ (0 ≤ r ∧ r ≤ 16777216 ∧ 0 ≤ g ∧ 4096 < g) := by unfold KickOK at h; omega
theorem checkKick_yes (r g : Int) (w : World) (h : KickOK r g) :
    Calls Try.prog 36 #[kickV r g] w fun e w' => e = .returned (.int .i64 0) ∧ Below w.heap.size w w' := by
  obtain ⟨h1, h2, h3, h4⟩ := h
  go_enter Try.func36, Try.ntmps36
  go_wp2
  all_goals go_returns
  all_goals (refine ⟨rfl, ?_⟩; go_grown)
theorem checkKick_no (r g : Int) (w : World) (h : ¬ KickOK r g) :
    Calls Try.prog 36 #[kickV r g] w fun e w' => e = .returned (.int .i64 2) ∧ Below w.heap.size w w' := by
  rcases notKick h with h1 | ⟨h1, h2⟩ | ⟨h1, h2, h3⟩ | ⟨h1, h2, h3, h4⟩
  all_goals
    clear h
    go_enter Try.func36, Try.ntmps36
    go_wp2
    go_returns
    refine ⟨rfl, ?_⟩
    go_grown
theorem rcheckKick_yes (r g : Int) (w : World) (h : KickOK r g) :
    Calls Try.prog 37 #[kickV r g] w fun e w' => e = .returned (.int .i64 0) ∧ Below w.heap.size w w' := by
  obtain ⟨h1, h2, h3, h4⟩ := h
  go_enter Try.func37, Try.ntmps37
  go_wp2
  all_goals go_returns
  all_goals (refine ⟨rfl, ?_⟩; go_grown)
theorem rcheckKick_no (r g : Int) (w : World) (h : ¬ KickOK r g) :
    Calls Try.prog 37 #[kickV r g] w fun e w' => e = .returned (.int .i64 2) ∧ Below w.heap.size w w' := by
  rcases notKick h with h1 | ⟨h1, h2⟩ | ⟨h1, h2, h3⟩ | ⟨h1, h2, h3, h4⟩
  all_goals
    clear h
    go_enter Try.func37, Try.ntmps37
    go_wp2_with (go_at_call 69; first | (refine (between_yes _ _ _ _ (by omega) (by omega)).mono ?_; rintro e w' ⟨rfl, rfl⟩) | (refine (between_no _ _ _ _ (by omega)).mono ?_; rintro e w' ⟨rfl, rfl⟩))
    go_returns
    refine ⟨rfl, ?_⟩
    go_grown

end Go.Proofs.Ytlbgcjpkegpmlaa
/- Contracts of CheckSensor, of the program and of the reference. -/
namespace Go.Proofs.Ytlbgcjpkegpmlaa
open Go.RowKit

theorem checkSensor_yes (s : Sen) (w : World) (h : SenOK s) :
    Calls Try.prog 40 #[s.v] w fun e w' => e = .returned (.int .i64 0) ∧ Below w.heap.size w w' := by
  obtain ⟨hk, h1, h2, h3, h4, h5, h6, h7, h8, h9, h10, h11, h12, h13, h14⟩ := h
  obtain ⟨ch, pe, de, no, st, lo, li, ho⟩ := s
  unfold KindOK at hk
  simp only at hk h1 h2 h3 h4 h5 h6 h7 h8 h9 h10 h11 h12 h13 h14
  rcases hk with rfl | rfl
  all_goals
    go_enter Try.func40, Try.ntmps40
    go_wp2_with (go_at_call 68; refine (within_yes _ _ _ _ (by omega) (by omega)).mono ?_; rintro e w' ⟨rfl, rfl⟩)
    all_goals go_returns
    all_goals (refine ⟨rfl, ?_⟩; go_grown)
theorem checkSensor_kind (s : Sen) (w : World) (h : ¬ KindOK s) :
    Calls Try.prog 40 #[s.v] w fun e w' => e = .returned (.int .i64 4) ∧ Below w.heap.size w w' := by
  obtain ⟨ch, pe, de, no, st, lo, li, ho⟩ := s
  unfold KindOK at h
  simp only at h
  have h1 : (ch != 1) = true := by rw [bne_iff_ne]; omega
  have h2 : (ch != 2) = true := by rw [bne_iff_ne]; omega
  clear h
  go_enter Try.func40, Try.ntmps40
  go_wp2
  all_goals go_returns
  all_goals (refine ⟨rfl, ?_⟩; go_grown)
theorem checkSensor_range (s : Sen) (w : World) (hk : KindOK s) (h : ¬ RangeOK s) :
    Calls Try.prog 40 #[s.v] w fun e w' => e = .returned (.int .i64 2) ∧ Below w.heap.size w w' := by
  obtain ⟨ch, pe, de, no, st, lo, li, ho⟩ := s
  have H := Lib.hid h
  clear h
  unfold KindOK at hk
  simp only at hk
  rcases hk with rfl | rfl
  all_goals
    go_enter Try.func40, Try.ntmps40
    go_wp2_with (go_at_call 68; refine (within_any _ _ _ _).mono ?_; rintro e w' ⟨rfl, rfl⟩)
    all_goals first
      | (exfalso; apply H.out; unfold RangeOK; (try simp at *); omega)
      | (go_returns; refine ⟨rfl, ?_⟩; go_grown)
theorem rcheckSensor_yes (s : Sen) (w : World) (h : SenOK s) :
    Calls Try.prog 41 #[s.v] w fun e w' => e = .returned (.int .i64 0) ∧ Below w.heap.size w w' := by
  obtain ⟨hk, h1, h2, h3, h4, h5, h6, h7, h8, h9, h10, h11, h12, h13, h14⟩ := h
  obtain ⟨ch, pe, de, no, st, lo, li, ho⟩ := s
  unfold KindOK at hk
  simp only at hk h1 h2 h3 h4 h5 h6 h7 h8 h9 h10 h11 h12 h13 h14
  rcases hk with rfl | rfl
  all_goals
    go_enter Try.func41, Try.ntmps41
    go_wp2_with (go_at_call 69; refine (between_yes _ _ _ _ (by omega) (by omega)).mono ?_; rintro e w' ⟨rfl, rfl⟩)
    all_goals go_returns
    all_goals (refine ⟨rfl, ?_⟩; go_grown)
theorem rcheckSensor_kind (s : Sen) (w : World) (h : ¬ KindOK s) :
    Calls Try.prog 41 #[s.v] w fun e w' => e = .returned (.int .i64 4) ∧ Below w.heap.size w w' := by
  obtain ⟨ch, pe, de, no, st, lo, li, ho⟩ := s
  unfold KindOK at h
  simp only at h
  have h1 : (ch != 1) = true := by rw [bne_iff_ne]; omega
  have h2 : (ch != 2) = true := by rw [bne_iff_ne]; omega
  clear h
  go_enter Try.func41, Try.ntmps41
  go_wp2
  all_goals go_returns
  all_goals (refine ⟨rfl, ?_⟩; go_grown)
theorem rcheckSensor_range (s : Sen) (w : World) (hk : KindOK s) (h : ¬ RangeOK s) :
    Calls Try.prog 41 #[s.v] w fun e w' => e = .returned (.int .i64 2) ∧ Below w.heap.size w w' := by
  obtain ⟨ch, pe, de, no, st, lo, li, ho⟩ := s
  have H := Lib.hid h
  clear h
  unfold KindOK at hk
  simp only at hk
  rcases hk with rfl | rfl
  all_goals
    go_enter Try.func41, Try.ntmps41
    go_wp2_with (go_at_call 69; refine (between_any _ _ _ _).mono ?_; rintro e w' ⟨rfl, rfl⟩)
    all_goals first
      | (exfalso; apply H.out; unfold RangeOK; (try simp at *); omega)
      | (go_returns; refine ⟨rfl, ?_⟩; go_grown)

end Go.Proofs.Ytlbgcjpkegpmlaa
/- Contracts of the flows and gains (kick.influx), of kick.Gain, kick.Flow and of the reference's Gain, Flow. -/
namespace Go.Proofs.Ytlbgcjpkegpmlaa
open Go.RowKit

theorem gain_any (r g n : Int) (w : World) (h : KickOK r g) (hn : n ≤ 20000) :
    Calls Try.prog 66 #[kickV r g, .int .i64 n] w fun e w' => e = .returned (.int .i64 (gainAt r g n)) ∧ Below w.heap.size w w' := by
  obtain ⟨h1, h2, h3, h4⟩ := h
  by_cases h0 : n < 0
  · have hv : gainAt r g n = 0 := by simp [gainAt, h0]
    rw [hv]
    clear hv
    go_enter Try.func66, Try.ntmps66
    go_wp2
    go_returns
    refine ⟨rfl, ?_⟩
    repeat' (first | with_reducible exact Below.refl _ _ | with_reducible refine bstep ?_ (by with_reducible assumption) | with_reducible refine balloc ?_ | with_reducible refine bdrew ?_ | with_reducible refine bdrewN ?_ _ | with_reducible refine bset ?_ (by go_size))
  · have hv : gainAt r g n = n * r + g * (n * (n - 1) / 2) := by simp [gainAt, h0]
    rw [hv]
    clear hv
    have hn0 : 0 ≤ n := by omega
    clear h0
    obtain ⟨t1, t2, t3, t4⟩ := tri_bd n hn0 hn
    obtain ⟨b1, b2⟩ := mul_bd hn0 hn h1 h2
    obtain ⟨b3, b4⟩ := mul_bd h3 h4 t3 t4
    go_enter Try.func66, Try.ntmps66
    go_wp2
    go_returns
    refine ⟨rfl, ?_⟩
    repeat' (first | with_reducible exact Below.refl _ _ | with_reducible refine bstep ?_ (by with_reducible assumption) | with_reducible refine balloc ?_ | with_reducible refine bdrew ?_ | with_reducible refine bdrewN ?_ _ | with_reducible refine bset ?_ (by go_size))
theorem flow_any (r g n : Int) (w : World) (h : KickOK r g) (hn : n ≤ 20000) :
    Calls Try.prog 67 #[kickV r g, .int .i64 n] w fun e w' => e = .returned (.int .i64 (flowAt r g n)) ∧ Below w.heap.size w w' := by
  obtain ⟨h1, h2, h3, h4⟩ := h
  by_cases h0 : n < 0
  · have hv : flowAt r g n = 0 := by simp [flowAt, h0]
    rw [hv]
    clear hv
    go_enter Try.func67, Try.ntmps67
    go_wp2
    go_returns
    refine ⟨rfl, ?_⟩
    repeat' (first | with_reducible exact Below.refl _ _ | with_reducible refine bstep ?_ (by with_reducible assumption) | with_reducible refine balloc ?_ | with_reducible refine bdrew ?_ | with_reducible refine bdrewN ?_ _ | with_reducible refine bset ?_ (by go_size))
  · have hv : flowAt r g n = r + n * g := by simp [flowAt, h0]
    rw [hv]
    clear hv
    have hn0 : 0 ≤ n := by omega
    clear h0
    obtain ⟨b3, b4⟩ := mul_bd hn0 hn h3 h4
    go_enter Try.func67, Try.ntmps67
    go_wp2
    go_returns
    refine ⟨rfl, ?_⟩
    repeat' (first | with_reducible exact Below.refl _ _ | with_reducible refine bstep ?_ (by with_reducible assumption) | with_reducible refine balloc ?_ | with_reducible refine bdrew ?_ | with_reducible refine bdrewN ?_ _ | with_reducible refine bset ?_ (by go_size))

theorem Gain_any (r g n : Int) (w : World) :
    Calls Try.prog 23 #[kickV r g, .int .i64 n] w fun e w' => e = .returned (.int .i64 (gainF r g n)) ∧ Below w.heap.size w w' := by
  by_cases hk : KickOK r g
  · by_cases hn : n ≤ 20000
    · have hv : gainF r g n = gainAt r g n := by simp [gainF, hk, hn]
      rw [hv]
      clear hv
      have HK := Lib.hid hk
      clear hk
      go_enter Try.func23, Try.ntmps23
      go_wp2_with (first
        | (go_at_call 36; refine (checkKick_yes _ _ _ HK.out).mono ?_; rintro e w1 ⟨rfl, hb⟩; obtain ⟨hc, hf⟩ := bcell hb)
        | (go_at_call 66; refine (gain_any _ _ _ _ HK.out hn).mono ?_; rintro e w2 ⟨rfl, hb2⟩))
      go_returns
      refine ⟨rfl, ?_⟩
      repeat' (first | with_reducible exact Below.refl _ _ | with_reducible refine bstep ?_ (by with_reducible assumption) | with_reducible refine balloc ?_ | with_reducible refine bdrew ?_ | with_reducible refine bdrewN ?_ _ | with_reducible refine bset ?_ (by go_size))
    · have hv : gainF r g n = 0 := by simp [gainF, hn]
      rw [hv]
      clear hv
      have HK := Lib.hid hk
      clear hk
      have hn' : 20000 < n := by omega
      clear hn
      go_enter Try.func23, Try.ntmps23
      go_wp2_with (first
        | (go_at_call 36; refine (checkKick_yes _ _ _ HK.out).mono ?_; rintro e w1 ⟨rfl, hb⟩; obtain ⟨hc, hf⟩ := bcell hb))
      go_returns
      refine ⟨rfl, ?_⟩
      repeat' (first | with_reducible exact Below.refl _ _ | with_reducible refine bstep ?_ (by with_reducible assumption) | with_reducible refine balloc ?_ | with_reducible refine bdrew ?_ | with_reducible refine bdrewN ?_ _ | with_reducible refine bset ?_ (by go_size))
  · have hv : gainF r g n = 0 := by simp [gainF, hk]
    rw [hv]
    clear hv
    have HK := Lib.hid hk
    clear hk
    go_enter Try.func23, Try.ntmps23
    go_wp2_with (first
      | (go_at_call 36; refine (checkKick_no _ _ _ HK.out).mono ?_; rintro e w1 ⟨rfl, hb⟩; obtain ⟨hc, hf⟩ := bcell hb))
    go_returns
    refine ⟨rfl, ?_⟩
    repeat' (first | with_reducible exact Below.refl _ _ | with_reducible refine bstep ?_ (by with_reducible assumption) | with_reducible refine balloc ?_ | with_reducible refine bdrew ?_ | with_reducible refine bdrewN ?_ _ | with_reducible refine bset ?_ (by go_size))

theorem Flow_any (r g n : Int) (w : World) :
    Calls Try.prog 24 #[kickV r g, .int .i64 n] w fun e w' => e = .returned (.int .i64 (flowF r g n)) ∧ Below w.heap.size w w' := by
  by_cases hk : KickOK r g
  · by_cases hn : n ≤ 20000
    · have hv : flowF r g n = flowAt r g n := by simp [flowF, hk, hn]
      rw [hv]
      clear hv
      have HK := Lib.hid hk
      clear hk
      go_enter Try.func24, Try.ntmps24
      go_wp2_with (first
        | (go_at_call 36; refine (checkKick_yes _ _ _ HK.out).mono ?_; rintro e w1 ⟨rfl, hb⟩; obtain ⟨hc, hf⟩ := bcell hb)
        | (go_at_call 67; refine (flow_any _ _ _ _ HK.out hn).mono ?_; rintro e w2 ⟨rfl, hb2⟩))
      go_returns
      refine ⟨rfl, ?_⟩
      repeat' (first | with_reducible exact Below.refl _ _ | with_reducible refine bstep ?_ (by with_reducible assumption) | with_reducible refine balloc ?_ | with_reducible refine bdrew ?_ | with_reducible refine bdrewN ?_ _ | with_reducible refine bset ?_ (by go_size))
    · have hv : flowF r g n = 0 := by simp [flowF, hn]
      rw [hv]
      clear hv
      have HK := Lib.hid hk
      clear hk
      have hn' : 20000 < n := by omega
      clear hn
      go_enter Try.func24, Try.ntmps24
      go_wp2_with (first
        | (go_at_call 36; refine (checkKick_yes _ _ _ HK.out).mono ?_; rintro e w1 ⟨rfl, hb⟩; obtain ⟨hc, hf⟩ := bcell hb))
      go_returns
      refine ⟨rfl, ?_⟩
      repeat' (first | with_reducible exact Below.refl _ _ | with_reducible refine bstep ?_ (by with_reducible assumption) | with_reducible refine balloc ?_ | with_reducible refine bdrew ?_ | with_reducible refine bdrewN ?_ _ | with_reducible refine bset ?_ (by go_size))
  · have hv : flowF r g n = 0 := by simp [flowF, hk]
    rw [hv]
    clear hv
    have HK := Lib.hid hk
    clear hk
    go_enter Try.func24, Try.ntmps24
    go_wp2_with (first
      | (go_at_call 36; refine (checkKick_no _ _ _ HK.out).mono ?_; rintro e w1 ⟨rfl, hb⟩; obtain ⟨hc, hf⟩ := bcell hb))
    go_returns
    refine ⟨rfl, ?_⟩
    repeat' (first | with_reducible exact Below.refl _ _ | with_reducible refine bstep ?_ (by with_reducible assumption) | with_reducible refine balloc ?_ | with_reducible refine bdrew ?_ | with_reducible refine bdrewN ?_ _ | with_reducible refine bset ?_ (by go_size))

end Go.Proofs.Ytlbgcjpkegpmlaa
/- The contract of kick.late: the search for the first sample that counts, for each phase. Printed by genD.py. -/
namespace Go.Proofs.Ytlbgcjpkegpmlaa
open Go.RowKit

def lateV (s : Sen) (r g : Int) : Value := match lateF s r g with
  | some (t, f, a) => .tuple #[.agg #[.int .i64 t, .int .i64 f, .int .i64 a], .bool true]
  | none => .tuple #[.agg #[.int .i64 0, .int .i64 0, .int .i64 0], .bool false]
theorem lateV_some {s : Sen} {r g t f a : Int} (h : lateF s r g = some (t, f, a)) : lateV s r g = .tuple #[.agg #[.int .i64 t, .int .i64 f, .int .i64 a], .bool true] := by simp [lateV, h]
theorem lateV_none {s : Sen} {r g : Int} (h : lateF s r g = none) : lateV s r g = .tuple #[.agg #[.int .i64 0, .int .i64 0, .int .i64 0], .bool false] := by simp [lateV, h]

def senCells (ch pe de no st lo li ho : Int) : Array Value := #[.int .i64 ch, .int .i64 pe, .int .i64 de, .int .i64 no, .int .i64 st, .int .i64 lo, .int .i64 li, .int .i64 ho]
def outCells (o : Int × Int × Int) : Array Value := #[.int .i64 o.1, .int .i64 o.2.1, .int .i64 o.2.2]
theorem sen_cells {w : World} {b : Nat} {ch pe de no st lo li ho : Int} (h : Blk w b 23 (senCells ch pe de no st lo li ho)) :
    w.cell? ⟨b, 1, none⟩ = some (.int .i64 pe) ∧ w.cell? ⟨b, 2, none⟩ = some (.int .i64 de) ∧ w.cell? ⟨b, 3, none⟩ = some (.int .i64 no) ∧ w.cell? ⟨b, 4, none⟩ = some (.int .i64 st) ∧ w.cell? ⟨b, 5, none⟩ = some (.int .i64 lo) ∧ w.cell? ⟨b, 6, none⟩ = some (.int .i64 li) ∧ w.cell? ⟨b, 7, none⟩ = some (.int .i64 ho) :=
  ⟨h.cell 1 rfl, h.cell 2 rfl, h.cell 3 rfl, h.cell 4 rfl, h.cell 5 rfl, h.cell 6 rfl, h.cell 7 rfl⟩
theorem out_cells {w : World} {b : Nat} {x y z : Int} (h : Blk w b 110 (outCells (x, y, z))) :
    w.cell? ⟨b, 0, none⟩ = some (.int .i64 x) ∧ w.cell? ⟨b, 1, none⟩ = some (.int .i64 y) ∧ w.cell? ⟨b, 2, none⟩ = some (.int .i64 z) ∧ w.frozen? ⟨b, 0, none⟩ = false ∧ w.frozen? ⟨b, 1, none⟩ = false ∧ w.frozen? ⟨b, 2, none⟩ = false :=
  ⟨h.cell 0 rfl, h.cell 1 rfl, h.cell 2 rfl, h.froz 0, h.froz 1, h.froz 2⟩
theorem out_put {w : World} {b : Nat} {o x : Int × Int × Int} (h : Blk w b 110 (outCells o)) :
    Blk (((w.setCell ⟨b, 0, none⟩ (.int .i64 x.1)).setCell ⟨b, 1, none⟩ (.int .i64 x.2.1)).setCell ⟨b, 2, none⟩ (.int .i64 x.2.2)) b 110 (outCells x) := by
  have := ((h.put 0 (.int .i64 x.1)).put 1 (.int .i64 x.2.1)).put 2 (.int .i64 x.2.2)
  simpa [outCells] using this

theorem out_far {w : World} {b c : Nat} {t : TypeId} {cs : Array Value} {x y z : Value} (h : Blk w b t cs) (hc : b ≠ c) :
    Blk (((w.setCell ⟨c, 0, none⟩ x).setCell ⟨c, 1, none⟩ y).setCell ⟨c, 2, none⟩ z) b t cs := ((h.far hc _).far hc _).far hc _
theorem out_below {w w1 : World} {c : Nat} {x y z : Value} (h : Below w.heap.size w w1) (hc : w.heap.size ≤ c) :
    Below w.heap.size w (((w1.setCell ⟨c, 0, none⟩ x).setCell ⟨c, 1, none⟩ y).setCell ⟨c, 2, none⟩ z) := ((h.setCell hc _).setCell hc _).setCell hc _

theorem says_pit (s : Sen) (r g : Int) (w : World) (h : s.ch = 1) :
    Calls Try.prog 77 #[s.v, kickV r g] w fun e w' => e = .returned (.func (Fn.func 66) #[kickV r g] #[]) ∧ Below w.heap.size w w' := by
  obtain ⟨ch, pe, de, no, st, lo, li, ho⟩ := s
  subst h
  go_enter Try.func77, Try.ntmps77
  go_wp2
  go_returns
  refine ⟨rfl, ?_⟩
  repeat' (first | with_reducible exact Below.refl _ _ | with_reducible refine bstep ?_ (by with_reducible assumption) | with_reducible refine balloc ?_ | with_reducible refine bdrew ?_ | with_reducible refine bdrewN ?_ _ | with_reducible refine bset ?_ (by go_size))
theorem says_flow (s : Sen) (r g : Int) (w : World) (h : s.ch = 2) :
    Calls Try.prog 77 #[s.v, kickV r g] w fun e w' => e = .returned (.func (Fn.func 67) #[kickV r g] #[]) ∧ Below w.heap.size w w' := by
  obtain ⟨ch, pe, de, no, st, lo, li, ho⟩ := s
  subst h
  go_enter Try.func77, Try.ntmps77
  go_wp2
  go_returns
  refine ⟨rfl, ?_⟩
  repeat' (first | with_reducible exact Below.refl _ _ | with_reducible refine bstep ?_ (by with_reducible assumption) | with_reducible refine balloc ?_ | with_reducible refine bdrew ?_ | with_reducible refine bdrewN ?_ _ | with_reducible refine bset ?_ (by go_size))


set_option maxHeartbeats 2000000 in
set_option maxRecDepth 100000 in
theorem late_pit (pe de no st lo li ho r g : Int) (w : World) (hs : RangeOK ⟨1, pe, de, no, st, lo, li, ho⟩) (hk : KickOK r g) :
    Calls Try.prog 79 #[.agg #[.int .i64 1, .int .i64 pe, .int .i64 de, .int .i64 no, .int .i64 st, .int .i64 lo, .int .i64 li, .int .i64 ho], kickV r g] w fun e w' => e = .returned (lateV ⟨1, pe, de, no, st, lo, li, ho⟩ r g) ∧ Below w.heap.size w w' := by
  obtain ⟨h1, h2, h3, h4, h5, h6, h7, h8, h9, h10, h11, h12, h13, h14⟩ := hs
  simp only at h1 h2 h3 h4 h5 h6 h7 h8 h9 h10 h11 h12 h13 h14
  obtain ⟨n1, n2⟩ := mul_bd h5 h6 (by omega : 0 ≤ st) h8
  obtain ⟨q1, q2⟩ := mul_bd (by omega : 0 ≤ ho) h14 (by omega : 0 ≤ lo + 1) (by omega : lo + 1 ≤ 6)
  have q0 := mul_one_le h13 (by omega : 1 ≤ lo + 1)
  have HK := Lib.hid hk
  clear hk
  go_enter Try.func79, Try.ntmps79
  go_wp2_with fail
  go_step3
  go_wp2_with (go_at_call 77; refine (says_pit ⟨1, pe, de, no, st, lo, li, ho⟩ r g _ rfl).mono ?_; rintro e w1 ⟨rfl, hb⟩)
  go_step3
  have B0 : Blk w1 w.heap.size 23 (senCells 1 pe de no st lo li ho) := ((((Blk.new w _ _).alloc _).alloc _).alloc _).below hb
  have B2 : Blk w1 (w.heap.size + 1 + 1) 110 (outCells (0, 0, 0)) := by
    have h := ((Blk.new ((w.alloc (.cells #[.int .i64 1, .int .i64 pe, .int .i64 de, .int .i64 no, .int .i64 st, .int .i64 lo, .int .i64 li, .int .i64 ho] 23)).alloc (.cells #[.int .i64 r, .int .i64 g] 31)) 110 (outCells (0, 0, 0))).alloc (.cells (outCells (-1, 0, 0)) 110)).below hb
    simpa using h
  have B3 : Blk w1 (w.heap.size + 1 + 1 + 1) 110 (outCells (-1, 0, 0)) := by
    have h := (Blk.new (((w.alloc (.cells #[.int .i64 1, .int .i64 pe, .int .i64 de, .int .i64 no, .int .i64 st, .int .i64 lo, .int .i64 li, .int .i64 ho] 23)).alloc (.cells #[.int .i64 r, .int .i64 g] 31)).alloc (.cells (outCells (0, 0, 0)) 110)) 110 (outCells (-1, 0, 0))).below hb
    simpa using h
  have hbw : Below w.heap.size w w1 := by
    repeat' (first | with_reducible exact Below.refl _ _ | with_reducible refine bstep ?_ (by with_reducible assumption) | with_reducible refine balloc ?_ | with_reducible refine bdrew ?_ | with_reducible refine bdrewN ?_ _ | with_reducible refine bset ?_ (by go_size))
  obtain ⟨c1, -⟩ := sen_cells B0
  clear hb
  go_wp2_with fail
  go_loopg [17] (pe.toNat) (fun k v17 wx => ∃ (f : Nat) (o : Int × Int × Int), k + f = pe.toNat ∧ v17 = .int .i64 f ∧ Hid (lateGo ⟨1, pe, de, no, st, lo, li, ho⟩ r g k f o = lateF ⟨1, pe, de, no, st, lo, li, ho⟩ r g) ∧
    Blk wx w.heap.size 23 (senCells 1 pe de no st lo li ho) ∧ Blk wx (w.heap.size + 1 + 1) 110 (outCells (0, 0, 0)) ∧ Blk wx (w.heap.size + 1 + 1 + 1) 110 (outCells o) ∧ Below w.heap.size w wx)
  case atStart => exact ⟨0, (-1, 0, 0), rfl, rfl, rfl, B0, B2, B3, hbw⟩
  case round =>
    clear c1 B0 B2 B3 hbw
    obtain ⟨f, ⟨oa, ob, oc⟩, hkf, rfl, HG, B0, B2, B3, hbw⟩ := hrel
    cases gk with
    | zero =>
      have hlt : ¬ ((f : Int) < pe) := by omega
      obtain ⟨k0, k1, k2, -⟩ := out_cells B3
      obtain ⟨e0, e1, e2, f0, f1, f2⟩ := out_cells B2
      have hz := B3.lt
      have HV := Lib.hid (lateV_some (show lateF ⟨1, pe, de, no, st, lo, li, ho⟩ r g = some (oa, ob, oc) from HG.out.symm))
      clear HG
      go_wp2_with fail
      refine bodyPost_ret (v := .tuple #[.agg #[.int .i64 oa, .int .i64 ob, .int .i64 oc], .bool true]) (by simp [results, Try.results79, go_sem, cell_put_same, e0, e1, e2]) rfl ?_
      refine ⟨by rw [HV.out], ?_⟩
      repeat' (first | with_reducible exact Below.refl _ _ | with_reducible refine bstep ?_ (by with_reducible assumption) | with_reducible refine balloc ?_ | with_reducible refine bdrew ?_ | with_reducible refine bdrewN ?_ _ | with_reducible refine bset ?_ (by go_size))
    | succ k =>
      have hlt : (f : Int) < pe := by omega
      go_wp2_with fail
      go_loopg [9] 10001 (fun j v9 wy => ∃ a : Nat, j + a = 10001 ∧ v9 = .int .i64 a ∧ Hid (findA ⟨1, pe, de, no, st, lo, li, ho⟩ r g f j a = firstA ⟨1, pe, de, no, st, lo, li, ho⟩ r g f) ∧
        Blk wy w.heap.size 23 (senCells 1 pe de no st lo li ho) ∧ Blk wy (w.heap.size + 1 + 1) 110 (outCells (0, 0, 0)) ∧ Blk wy (w.heap.size + 1 + 1 + 1) 110 (outCells (oa, ob, oc)) ∧ Below w.heap.size w wy)
      case atStart => exact ⟨0, rfl, rfl, rfl, B0, B2, B3, hbw⟩
      case round =>
        clear B0 B2 B3 hbw
        rename_i wo _ _ _ _ _ _ _
        obtain ⟨a, hja, rfl, HF, B0, B2, B3, hbw⟩ := hrel
        obtain ⟨s1, s2, s3, s4, s5, s6, s7⟩ := sen_cells B0
        obtain ⟨k0, k1, k2, g0, g1, g2⟩ := out_cells B3
        obtain ⟨e0, e1, e2, f0, f1, f2⟩ := out_cells B2
        have hz0 := B0.lt
        have hz := B3.lt
        obtain ⟨p1, p2⟩ := mul_bd (by omega : (0 : Int) ≤ a) (by omega : (a : Int) ≤ 10001) (by omega : 0 ≤ pe) h2
        by_cases hr : (f : Int) + a * pe ≤ 10000
        · have ha1 : (a : Int) * 1 ≤ a * pe := Int.mul_le_mul_of_nonneg_left h1 (by omega)
          have ha2 : (a : Int) ≤ 10000 := by omega
          clear ha1
          have hj : ∃ j', gk = j' + 1 := ⟨gk - 1, by omega⟩
          obtain ⟨j, rfl⟩ := hj
          have hgb := says_bd (s := ⟨1, pe, de, no, st, lo, li, ho⟩) (n := (f : Int) + a * pe) HK.out (by omega)
          have hsay : saysAt ⟨1, pe, de, no, st, lo, li, ho⟩ r g ((f : Int) + a * pe) = gainAt r g ((f : Int) + a * pe) := by simp [saysAt]
          rw [hsay] at hgb
          obtain ⟨hg1, hg2⟩ := hgb
          by_cases hv : li ≤ gainAt r g ((f : Int) + a * pe) - no * st
          · have hfa : firstA ⟨1, pe, de, no, st, lo, li, ho⟩ r g f = some a := by rw [← HF.out]; simp [findA, hr, hsay, hv]
            obtain ⟨m1, m2⟩ := mul_bd (by omega : (0 : Int) ≤ a + ho * (lo + 1) - 1) (by omega : (a : Int) + ho * (lo + 1) - 1 ≤ 10049) (by omega : 0 ≤ pe) h2
            by_cases ht : 10000 < (f : Int) + (a + ho * (lo + 1) - 1) * pe + de
            · have HV := Lib.hid (lateV_none (show lateF ⟨1, pe, de, no, st, lo, li, ho⟩ r g = none by rw [← HG.out]; simp [lateGo, hfa, alarmT, ht]))
              clear HG hfa HF
              go_wp2_with fail
              have hn2 : (f : Int) + a * pe ≤ 20000 := by omega
              have W3 : IntKind.i64.wrap (no * st) = no * st := IntWalk.i64_in _ (by omega)
              have W4 : IntKind.i64.wrap (gainAt r g ((f : Int) + a * pe) - no * st) = gainAt r g ((f : Int) + a * pe) - no * st := IntWalk.i64_in _ (by omega)
              have W1 : IntKind.i64.wrap ((a : Int) * pe) = (a : Int) * pe := IntWalk.i64_in _ (by omega)
              have W2 : IntKind.i64.wrap ((f : Int) + (a : Int) * pe) = (f : Int) + (a : Int) * pe := IntWalk.i64_in _ (by omega)
              go_region_held3 (fun w' => w'.cell? ⟨w.heap.size, 1, none⟩ = some (.int .i64 pe) ∧ w'.cell? ⟨w.heap.size, 3, none⟩ = some (.int .i64 no) ∧ w'.cell? ⟨w.heap.size, 4, none⟩ = some (.int .i64 st) ∧ w'.cell? ⟨w.heap.size, 6, none⟩ = some (.int .i64 li)) (first | exact ⟨s1, s3, s4, s6⟩ | exact ⟨(hc _ _ hz0).trans s1, (hc _ _ hz0).trans s3, (hc _ _ hz0).trans s4, (hc _ _ hz0).trans s6⟩) (first | (go_at_call 66; (with_reducible refine (gain_any r g ((f : Int) + a * pe) _ HK.out hn2).mono ?_); rintro e w2 ⟨rfl, hb⟩; obtain ⟨hc, hf⟩ := bcell hb))
              clear W1 W2 W3 W4
              have B0' := B0.drew.below hb
              have B2' := B2.drew.below hb
              have B3' := B3.drew.below hb
              have hbw' : Below w.heap.size w w2 := by
                repeat' (first | with_reducible exact Below.refl _ _ | with_reducible refine bstep ?_ (by with_reducible assumption) | with_reducible refine balloc ?_ | with_reducible refine bdrew ?_ | with_reducible refine bdrewN ?_ _ | with_reducible refine bset ?_ (by go_size))
              clear s1 s2 s3 s4 s5 s6 s7 k0 k1 k2 g0 g1 g2 e0 e1 e2 f0 f1 f2 hz0 hz B0 B2 B3 hbw hc hf hb
              obtain ⟨s1, s2, s3, s4, s5, s6, s7⟩ := sen_cells B0'
              obtain ⟨k0, k1, k2, g0, g1, g2⟩ := out_cells B3'
              obtain ⟨e0, e1, e2, f0, f1, f2⟩ := out_cells B2'
              have hz0 := B0'.lt
              have hz := B3'.lt
              go_wp2_with fail
              rw [Exit.noGoto_ret]
              refine bodyPost_ret (v := .tuple #[.agg #[.int .i64 0, .int .i64 0, .int .i64 0], .bool false]) (by simp [results, Try.results79, go_sem, cell_put_same, e0, e1, e2]) rfl ?_
              refine ⟨by rw [HV.out], ?_⟩
              repeat' (first | with_reducible exact Below.refl _ _ | with_reducible refine bstep ?_ (by with_reducible assumption) | with_reducible refine balloc ?_ | with_reducible refine bdrew ?_ | with_reducible refine bdrewN ?_ _ | with_reducible refine bset ?_ (by go_size))
            · by_cases hgt : oa < (f : Int) + (a + ho * (lo + 1) - 1) * pe + de
              · have HG2 : Hid (lateGo ⟨1, pe, de, no, st, lo, li, ho⟩ r g k (f + 1) ((f : Int) + (a + ho * (lo + 1) - 1) * pe + de, (f : Int), (a : Int)) = lateF ⟨1, pe, de, no, st, lo, li, ho⟩ r g) := by
                  show _ = _
                  rw [← HG.out]; simp [lateGo, hfa, alarmT, ht, hgt]
                clear HG hfa HF
                go_wp2_with fail
                have hn2 : (f : Int) + a * pe ≤ 20000 := by omega
                have W3 : IntKind.i64.wrap (no * st) = no * st := IntWalk.i64_in _ (by omega)
                have W4 : IntKind.i64.wrap (gainAt r g ((f : Int) + a * pe) - no * st) = gainAt r g ((f : Int) + a * pe) - no * st := IntWalk.i64_in _ (by omega)
                have W1 : IntKind.i64.wrap ((a : Int) * pe) = (a : Int) * pe := IntWalk.i64_in _ (by omega)
                have W2 : IntKind.i64.wrap ((f : Int) + (a : Int) * pe) = (f : Int) + (a : Int) * pe := IntWalk.i64_in _ (by omega)
                go_region_held3 (fun w' => w'.cell? ⟨w.heap.size, 1, none⟩ = some (.int .i64 pe) ∧ w'.cell? ⟨w.heap.size, 3, none⟩ = some (.int .i64 no) ∧ w'.cell? ⟨w.heap.size, 4, none⟩ = some (.int .i64 st) ∧ w'.cell? ⟨w.heap.size, 6, none⟩ = some (.int .i64 li)) (first | exact ⟨s1, s3, s4, s6⟩ | exact ⟨(hc _ _ hz0).trans s1, (hc _ _ hz0).trans s3, (hc _ _ hz0).trans s4, (hc _ _ hz0).trans s6⟩) (first | (go_at_call 66; (with_reducible refine (gain_any r g ((f : Int) + a * pe) _ HK.out hn2).mono ?_); rintro e w2 ⟨rfl, hb⟩; obtain ⟨hc, hf⟩ := bcell hb))
                clear W1 W2 W3 W4
                have B0' := B0.drew.below hb
                have B2' := B2.drew.below hb
                have B3' := B3.drew.below hb
                have hbw' : Below w.heap.size w w2 := by
                  repeat' (first | with_reducible exact Below.refl _ _ | with_reducible refine bstep ?_ (by with_reducible assumption) | with_reducible refine balloc ?_ | with_reducible refine bdrew ?_ | with_reducible refine bdrewN ?_ _ | with_reducible refine bset ?_ (by go_size))
                clear s1 s2 s3 s4 s5 s6 s7 k0 k1 k2 g0 g1 g2 e0 e1 e2 f0 f1 f2 hz0 hz B0 B2 B3 hbw hc hf hb
                obtain ⟨s1, s2, s3, s4, s5, s6, s7⟩ := sen_cells B0'
                obtain ⟨k0, k1, k2, g0, g1, g2⟩ := out_cells B3'
                obtain ⟨e0, e1, e2, f0, f1, f2⟩ := out_cells B2'
                have hz0 := B0'.lt
                have hz := B3'.lt
                go_wp2_with fail
                go_roundg k
                case measure => omega
                case rel => exact ⟨f + 1, ((f : Int) + (a + ho * (lo + 1) - 1) * pe + de, (f : Int), (a : Int)), by omega, by go_num, HG2, out_far B0' (by omega), out_far B2' (by omega), out_put (x := ((f : Int) + (a + ho * (lo + 1) - 1) * pe + de, (f : Int), (a : Int))) B3', out_below hbw' (by omega)⟩
              · have HG2 : Hid (lateGo ⟨1, pe, de, no, st, lo, li, ho⟩ r g k (f + 1) (oa, ob, oc) = lateF ⟨1, pe, de, no, st, lo, li, ho⟩ r g) := by
                  show _ = _
                  rw [← HG.out]; simp [lateGo, hfa, alarmT, ht, hgt]
                clear HG hfa HF
                go_wp2_with fail
                have hn2 : (f : Int) + a * pe ≤ 20000 := by omega
                have W3 : IntKind.i64.wrap (no * st) = no * st := IntWalk.i64_in _ (by omega)
                have W4 : IntKind.i64.wrap (gainAt r g ((f : Int) + a * pe) - no * st) = gainAt r g ((f : Int) + a * pe) - no * st := IntWalk.i64_in _ (by omega)
                have W1 : IntKind.i64.wrap ((a : Int) * pe) = (a : Int) * pe := IntWalk.i64_in _ (by omega)
                have W2 : IntKind.i64.wrap ((f : Int) + (a : Int) * pe) = (f : Int) + (a : Int) * pe := IntWalk.i64_in _ (by omega)
                go_region_held3 (fun w' => w'.cell? ⟨w.heap.size, 1, none⟩ = some (.int .i64 pe) ∧ w'.cell? ⟨w.heap.size, 3, none⟩ = some (.int .i64 no) ∧ w'.cell? ⟨w.heap.size, 4, none⟩ = some (.int .i64 st) ∧ w'.cell? ⟨w.heap.size, 6, none⟩ = some (.int .i64 li)) (first | exact ⟨s1, s3, s4, s6⟩ | exact ⟨(hc _ _ hz0).trans s1, (hc _ _ hz0).trans s3, (hc _ _ hz0).trans s4, (hc _ _ hz0).trans s6⟩) (first | (go_at_call 66; (with_reducible refine (gain_any r g ((f : Int) + a * pe) _ HK.out hn2).mono ?_); rintro e w2 ⟨rfl, hb⟩; obtain ⟨hc, hf⟩ := bcell hb))
                clear W1 W2 W3 W4
                have B0' := B0.drew.below hb
                have B2' := B2.drew.below hb
                have B3' := B3.drew.below hb
                have hbw' : Below w.heap.size w w2 := by
                  repeat' (first | with_reducible exact Below.refl _ _ | with_reducible refine bstep ?_ (by with_reducible assumption) | with_reducible refine balloc ?_ | with_reducible refine bdrew ?_ | with_reducible refine bdrewN ?_ _ | with_reducible refine bset ?_ (by go_size))
                clear s1 s2 s3 s4 s5 s6 s7 k0 k1 k2 g0 g1 g2 e0 e1 e2 f0 f1 f2 hz0 hz B0 B2 B3 hbw hc hf hb
                obtain ⟨s1, s2, s3, s4, s5, s6, s7⟩ := sen_cells B0'
                obtain ⟨k0, k1, k2, g0, g1, g2⟩ := out_cells B3'
                obtain ⟨e0, e1, e2, f0, f1, f2⟩ := out_cells B2'
                have hz0 := B0'.lt
                have hz := B3'.lt
                go_wp2_with fail
                go_roundg k
                case measure => omega
                case rel => exact ⟨f + 1, (oa, ob, oc), by omega, by go_num, HG2, B0', B2', B3', hbw'⟩
          · have HF2 : Hid (findA ⟨1, pe, de, no, st, lo, li, ho⟩ r g f j (a + 1) = firstA ⟨1, pe, de, no, st, lo, li, ho⟩ r g f) := by
              show _ = _
              rw [← HF.out]; simp [findA, hr, hsay, hv]
            clear HF
            go_wp2_with fail
            have hn2 : (f : Int) + a * pe ≤ 20000 := by omega
            have W3 : IntKind.i64.wrap (no * st) = no * st := IntWalk.i64_in _ (by omega)
            have W4 : IntKind.i64.wrap (gainAt r g ((f : Int) + a * pe) - no * st) = gainAt r g ((f : Int) + a * pe) - no * st := IntWalk.i64_in _ (by omega)
            have W1 : IntKind.i64.wrap ((a : Int) * pe) = (a : Int) * pe := IntWalk.i64_in _ (by omega)
            have W2 : IntKind.i64.wrap ((f : Int) + (a : Int) * pe) = (f : Int) + (a : Int) * pe := IntWalk.i64_in _ (by omega)
            go_region_held3 (fun w' => w'.cell? ⟨w.heap.size, 1, none⟩ = some (.int .i64 pe) ∧ w'.cell? ⟨w.heap.size, 3, none⟩ = some (.int .i64 no) ∧ w'.cell? ⟨w.heap.size, 4, none⟩ = some (.int .i64 st) ∧ w'.cell? ⟨w.heap.size, 6, none⟩ = some (.int .i64 li)) (first | exact ⟨s1, s3, s4, s6⟩ | exact ⟨(hc _ _ hz0).trans s1, (hc _ _ hz0).trans s3, (hc _ _ hz0).trans s4, (hc _ _ hz0).trans s6⟩) (first | (go_at_call 66; (with_reducible refine (gain_any r g ((f : Int) + a * pe) _ HK.out hn2).mono ?_); rintro e w2 ⟨rfl, hb⟩; obtain ⟨hc, hf⟩ := bcell hb))
            clear W1 W2 W3 W4
            have B0' := B0.drew.below hb
            have B2' := B2.drew.below hb
            have B3' := B3.drew.below hb
            have hbw' : Below w.heap.size w w2 := by
              repeat' (first | with_reducible exact Below.refl _ _ | with_reducible refine bstep ?_ (by with_reducible assumption) | with_reducible refine balloc ?_ | with_reducible refine bdrew ?_ | with_reducible refine bdrewN ?_ _ | with_reducible refine bset ?_ (by go_size))
            clear s1 s2 s3 s4 s5 s6 s7 k0 k1 k2 g0 g1 g2 e0 e1 e2 f0 f1 f2 hz0 hz B0 B2 B3 hbw hc hf hb
            obtain ⟨s1, s2, s3, s4, s5, s6, s7⟩ := sen_cells B0'
            obtain ⟨k0, k1, k2, g0, g1, g2⟩ := out_cells B3'
            obtain ⟨e0, e1, e2, f0, f1, f2⟩ := out_cells B2'
            have hz0 := B0'.lt
            have hz := B3'.lt
            go_wp2_with fail
            go_roundg j
            case measure => omega
            case rel => exact ⟨a + 1, by omega, by go_num, HF2, B0', B2', B3', hbw'⟩
        · have hfa : firstA ⟨1, pe, de, no, st, lo, li, ho⟩ r g f = none := by
            rw [← HF.out]
            cases gk <;> simp [findA, hr]
          have HV := Lib.hid (lateV_none (show lateF ⟨1, pe, de, no, st, lo, li, ho⟩ r g = none by rw [← HG.out]; simp [lateGo, hfa]))
          clear HG hfa HF
          go_wp2_with fail
          refine bodyPost_ret (v := .tuple #[.agg #[.int .i64 0, .int .i64 0, .int .i64 0], .bool false]) (by simp [results, Try.results79, go_sem, cell_put_same, e0, e1, e2]) rfl ?_
          refine ⟨by rw [HV.out], ?_⟩
          repeat' (first | with_reducible exact Below.refl _ _ | with_reducible refine bstep ?_ (by with_reducible assumption) | with_reducible refine balloc ?_ | with_reducible refine bdrew ?_ | with_reducible refine bdrewN ?_ _ | with_reducible refine bset ?_ (by go_size))

end Go.Proofs.Ytlbgcjpkegpmlaa
