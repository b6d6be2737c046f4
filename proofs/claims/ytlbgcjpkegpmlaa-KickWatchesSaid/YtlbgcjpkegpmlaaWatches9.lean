/- Texts laid into one: XB3 XB4 XD1 XD2 XD3 XW XDC Hs XD4 X9 Hr XD5 XD6 XD7 XD8 X10 XD9 XDA. -/
import Derived.Test.YtlbgcjpkegpmlaaWatches8
/- The samples of each sensor, in a map. -/
namespace Go.Proofs.Ytlbgcjpkegpmlaa
open Go.RowKit
open Go.ChangeMaps (setBlock heap_setBlock_same heap_setBlock_other)
set_option linter.unusedSimpArgs false
set_option linter.unusedVariables false

def flt (l : List (List C)) (k : Int) : List (List C) := l.filter fun r => cell_ r 0 == k
def samOf (r : List C) : Array Value := sam (cell_ r 0) (cell_ r 1) (cell_ r 2)
def cellsV (l : List (List C)) : List Value := l.flatMap fun r => (samOf r).toList
theorem flt_snoc {l : List (List C)} {r : List C} {k : Int} : flt (l ++ [r]) k = flt l k ++ (if cell_ r 0 = k then [r] else []) := by
  unfold flt
  rw [List.filter_append]
  congr 1
  by_cases h : cell_ r 0 = k
  · simp [h]
  · simp [h]
structure Groups (B : Nat) (w : World) (b : Nat) (l : List (List C)) (G : Prs) : Prop where
  map : MapAt w b G
  keys : ∀ g ∈ G, -9223372036854775808 ≤ g.1 ∧ g.1 ≤ 9223372036854775807
  len : G.length ≤ l.length
  rows : ∀ g ∈ G, w.ownsRow B 40 3 g.2 (flt l g.1).length (cellsV (flt l g.1)) ∧ ∃ x, g.2.ownBlock = some x ∧ B ≤ x ∧ x < w.heap.size ∧ x ≠ b
  apart : ∀ g ∈ G, ∀ h ∈ G, g.2.ownBlock = h.2.ownBlock → g.1 = h.1
  all : ∀ r ∈ l, ∃ g ∈ G, g.1 = cell_ r 0
  has : ∀ g ∈ G, ∃ r ∈ l, g.1 = cell_ r 0
theorem Groups.empty {B : Nat} {w : World} {b : Nat} {l : List (List C)} {G : Prs} (h : Groups B w b l G) {k : Int} (hk : ∀ g ∈ G, g.1 ≠ k) : flt l k = [] := by
  unfold flt
  rw [List.filter_eq_nil_iff]
  intro r hr
  obtain ⟨g, hg, e⟩ := h.all r hr
  have := hk g hg
  simp
  intro e'
  exact this (by rw [e, e'])
theorem Groups.old {B : Nat} {w : World} {b : Nat} {l : List (List C)} {G : Prs} (h : Groups B w b l G) (k : Int) :
    w.ownsRow B 40 3 (valAt G k (.slice none 0 0)) (flt l k).length (cellsV (flt l k)) ∧ ((valAt G k (.slice none 0 0)).ownBlock = none ∨ (k, valAt G k (.slice none 0 0)) ∈ G) := by
  by_cases hk : ∃ g ∈ G, g.1 = k
  · obtain ⟨g, hg, rfl⟩ := hk
    rw [valAt_some h.map.nodup (show (g.1, g.2) ∈ G from hg)]
    exact ⟨(h.rows g hg).1, .inr hg⟩
  · have hk' : ∀ g ∈ G, g.1 ≠ k := fun g hg e => hk ⟨g, hg, e⟩
    rw [valAt_none hk', h.empty hk']
    exact ⟨World.ownsRow_nil _ _ _ _, .inl rfl⟩
/-- One sample more. -/
theorem Groups.step {B : Nat} {w w1 w2 : World} {b : Nat} {l : List (List C)} {G : Prs} (h : Groups B w b l G) (hB : B ≤ w.heap.size) {r : List C} (hk : -9223372036854775808 ≤ cell_ r 0 ∧ cell_ r 0 ≤ 9223372036854775807) {v' : Value} {o : Obj} (h1 : Below w.heap.size w w1 ∧ w1.heap.size = w.heap.size + 1) (hg : w1.grownBy w2 (valAt G (cell_ r 0) (.slice none 0 0)).ownBlock)
    (hown : w2.ownsRow B 40 3 v' ((flt l (cell_ r 0)).length + 1) (cellsV (flt l (cell_ r 0)) ++ (samOf r).toList)) (hnn : v' ≠ .slice none 0 0) (hloc : v'.ownBlock = (valAt G (cell_ r 0) (.slice none 0 0)).ownBlock ∨ v'.ownBlock = some w1.heap.size)
    (hm : MapAt (setBlock w2 b o) b (putG G (cell_ r 0) v')) (hoth : ∀ i, i ≠ b → (setBlock w2 b o).heap[i]? = w2.heap[i]?) :
    Groups B (setBlock w2 b o) b (l ++ [r]) (putG G (cell_ r 0) v') ∧ (∀ i, i < w.heap.size → i ≠ b → (∀ g ∈ G, g.2.ownBlock ≠ some i) → (setBlock w2 b o).heap[i]? = w.heap[i]?) ∧ w.heap.size ≤ (setBlock w2 b o).heap.size ∧ ∀ g ∈ putG G (cell_ r 0) v', ∀ x, g.2.ownBlock = some x → (∃ g' ∈ G, g'.2.ownBlock = some x) ∨ w.heap.size ≤ x := by
  have hnd := h.map.nodup
  have hblt := h.map.lt
  obtain ⟨-, hold⟩ := h.old (cell_ r 0)
  have hs2 : w.heap.size ≤ w2.heap.size := by have := hg.size; omega
  have hsz : (setBlock w2 b o).heap.size = w2.heap.size := by simp [setBlock]
  have hg3 : w2.grownBy (setBlock w2 b o) (some b) := ⟨rfl, rfl, rfl, by rw [hsz]; exact Nat.le_refl _, fun i _ hi => hoth i fun e => hi (by rw [e])⟩
  have hg1 : w.grownBy w1 none := ⟨h1.1.os, h1.1.tape, h1.1.output, h1.1.size, fun i hi _ => h1.1.block i hi⟩
  have hv' : ∃ x, v'.ownBlock = some x ∧ B ≤ x ∧ x < w2.heap.size ∧ x ≠ b ∧ ((∃ g ∈ G, g.2.ownBlock = some x ∧ g.1 = cell_ r 0) ∨ w.heap.size ≤ x) := by
    rcases hown.2 with ⟨e, -⟩ | ⟨g, cap, cur, e, hBg, hgg, -⟩
    · exact absurd e hnn
    · have hob : v'.ownBlock = some g := by rw [e]; rfl
      refine ⟨g, hob, hBg, (Array.getElem?_eq_some_iff.1 hgg).1, ?_⟩
      rcases hloc with hl | hl
      · rcases hold with ho | ho
        · rw [hl, ho] at hob; cases hob
        · rw [hl] at hob
          obtain ⟨x, hx, -, -, hxb⟩ := (h.rows _ ho).2
          rw [hob] at hx
          cases hx
          exact ⟨hxb, .inl ⟨_, ho, hob, rfl⟩⟩
      · rw [hl] at hob
        cases hob
        exact ⟨by omega, .inr (by omega)⟩
  obtain ⟨x', hx', hBx', hlt', hb', hwho⟩ := hv'
  have hkept : ∀ g ∈ G, g.1 ≠ cell_ r 0 → (setBlock w2 b o).ownsRow B 40 3 g.2 (flt l g.1).length (cellsV (flt l g.1)) := fun g hgm hne => by
    obtain ⟨ho, x, hx, -, hxs, hxb⟩ := h.rows g hgm
    refine ((ho.kept hg1 (.inr (by rw [hx]; simp))).kept hg (.inr fun e => ?_)).kept hg3 (.inr (by rw [hx]; simpa using hxb))
    rcases hold with h' | h'
    · rw [h'] at e; rw [hx] at e; cases e
    · exact hne (h.apart g hgm _ h' e)
  refine ⟨⟨hm, fun g hgm => ?_, ?_, fun g hgm => ?_, fun g hgm g' hgm' e => ?_, fun r' hr' => ?_, fun g hgm => ?_⟩, fun i hi hib hig => ?_, by rw [hsz]; exact hs2, fun g hgm x hx => ?_⟩
  · rcases (putG_mem hnd).1 hgm with rfl | ⟨hgm, -⟩
    · exact hk
    · exact h.keys g hgm
  · have := @putG_len (cell_ r 0) v' G
    have := h.len
    simp
    omega
  · rcases (putG_mem hnd).1 hgm with rfl | ⟨hgm, hne⟩
    · refine ⟨?_, x', hx', hBx', by rw [hsz]; exact hlt', hb'⟩
      rw [flt_snoc, if_pos rfl, List.length_append]
      unfold cellsV at hown ⊢
      rw [List.flatMap_append]
      simp only [List.flatMap_cons, List.flatMap_nil, List.append_nil]
      exact hown.kept hg3 (.inr (by rw [hx']; simpa using hb'))
    · rw [flt_snoc, if_neg (Ne.symm hne), List.append_nil]
      obtain ⟨-, x, hx, hBx, hxs, hxb⟩ := h.rows g hgm
      exact ⟨hkept g hgm hne, x, hx, hBx, by rw [hsz]; omega, hxb⟩
  · have two : ∀ g ∈ G, g.1 ≠ cell_ r 0 → g.2.ownBlock ≠ v'.ownBlock := fun g hgm hne e => by
      rw [hx'] at e
      rcases hwho with ⟨g0, hg0, e0, e1⟩ | hge
      · exact hne ((h.apart g hgm g0 hg0 (e.trans e0.symm)).trans e1)
      · obtain ⟨-, x, hx, -, hxs, -⟩ := h.rows g hgm
        rw [hx] at e
        cases e
        omega
    rcases (putG_mem hnd).1 hgm with rfl | ⟨hgm, hne⟩
    · rcases (putG_mem hnd).1 hgm' with rfl | ⟨hgm', hne'⟩
      · rfl
      · exact absurd e.symm (two g' hgm' hne')
    · rcases (putG_mem hnd).1 hgm' with rfl | ⟨hgm', hne'⟩
      · exact absurd e (two g hgm hne)
      · exact h.apart g hgm g' hgm' e
  · rcases List.mem_append.1 hr' with hr' | hr'
    · obtain ⟨g, hgm, e⟩ := h.all r' hr'
      by_cases hne : g.1 = cell_ r 0
      · exact ⟨_, (putG_mem hnd).2 (.inl rfl), by rw [← e]; exact hne.symm⟩
      · exact ⟨g, (putG_mem hnd).2 (.inr ⟨hgm, hne⟩), e⟩
    · simp only [List.mem_cons, List.not_mem_nil, or_false] at hr'
      subst hr'
      exact ⟨_, (putG_mem hnd).2 (.inl rfl), rfl⟩
  · rcases (putG_mem hnd).1 hgm with rfl | ⟨hgm, -⟩
    · exact ⟨r, by simp, rfl⟩
    · obtain ⟨r', hr', e⟩ := h.has g hgm
      exact ⟨r', by simp [hr'], e⟩
  · rw [hoth i hib]
    refine (hg.block i (by omega) fun e => ?_).trans (h1.1.block i hi)
    rcases hold with h' | h'
    · rw [h'] at e; cases e
    · exact hig _ h' e.symm
  · rcases (putG_mem hnd).1 hgm with rfl | ⟨hgm, -⟩
    · have hx2 : v'.ownBlock = some x := hx
      rw [hx'] at hx2
      cases hx2
      rcases hwho with ⟨g0, hg0, e0, -⟩ | hge
      · exact .inl ⟨g0, hg0, e0⟩
      · exact .inr hge
    · exact .inl ⟨g, hgm, hx⟩
end Go.Proofs.Ytlbgcjpkegpmlaa
/- kick.bySensor. -/
namespace Go.Proofs.Ytlbgcjpkegpmlaa
open Go.RowKit
open Go.ChangeMaps (setBlock heap_setBlock_same heap_setBlock_other)
set_option linter.unusedSimpArgs false
set_option linter.unusedVariables false

noncomputable def cNone : Cx := tab.only [] (fun _ => [])
theorem cNone_ok : CxOK cNone := Tab.cx_ok all_nil
/-- At the loop's head; behind the row's copy. -/
def bySt : St := { sl := [(9, some (.one (.lf (.int (.var 2))))), (8, some (.one (.lf (.int (.len (.var 0)))))), (7, some (.one (.lf (.arr 40 (.var 0))))), (3, some (.one (.lf (.clo 1))))], mem := [], nt := 25, nb := 0, nx := 3, lvl := 0, bds := [] }
def bySt4 : St := { bySt with sl := (5, some (.one (.lf (.ptr 0 0)))) :: bySt.sl, mem := [(0, some (40, [.int (.cell (.var 0) (.var 2) 0), .int (.cell (.var 0) (.var 2) 1), .int (.cell (.var 0) (.var 2) 2)]))], nb := 1, lvl := 1 }
noncomputable def by4 : Code :=
  match Try.f82.body with
  | some (.seq _ (.seq _ (.seq (.seq _ (.block _ (.loop (.seq _ (.seq _ (.seq (.block _ (.seq c _)) _)))))) _))) => c
  | _ => .skip
def by4T : Tree := .ob (.cmp .le (.lit 0) (.var 2)) (.ob (.cmp .lt (.var 2) (.len (.var 0))) (.back 0 []))
theorem by4_tree : exec cNone by4 { bySt with lvl := bySt.lvl + 1 } (joinK bySt bySt4 [] [] fun _ _ => none) = some by4T := by kernel_rfl
/-- A state in which only slots are known. -/
theorem Sat.start {P : Program} {F : Nat → Prop} {Γ : Env} {st : St} {a : Act} {w : World} (h1 : st.mem = []) (h2 : st.vec = []) (h3 : st.clo = []) (h4 : ∀ t sv, look st.sl t = some sv → slotV Γ a t = sv.den Γ ∧ sv.ok P w Γ.base Γ) (h5 : a.tmps.size = st.nt) (h6 : ∀ i, F i → i < w.heap.size) (h7 : ∀ b o, Γ.base b o → b < w.heap.size)
    (h8 : a.defers = []) (h9 : Γ.ρ.length = st.nx) (h10 : Γ.nb = st.nb) (h11 : st.bds = []) (h12 : Smalls Γ.ρ) : Sat P F w Γ st a w := by
  have hown : ∀ b o, Own Γ st b o → Γ.base b o := fun b o h => by
    rcases Own.iff.1 h with h | ⟨s, j, h⟩
    · exact h
    · rcases h.inv with ⟨-, mb, hm, -⟩ | ⟨-, e, he, -⟩
      · rw [h1] at hm; cases hm
      · rw [h2] at he; cases he
  refine ⟨fun t sv ht => ⟨(h4 t sv ht).1, SV.ok_anti (h4 t sv ht).2 hown⟩, h5, fun b mb hm => ?_, fun i e he => ?_, fun i e he => ?_, fun s j s' j' b h => ?_, Keeps.refl _ _, h6, h7, h8, h9, h10, ⟨by rw [h11]; exact bds_nil _, h12⟩⟩
  · rw [h1] at hm; cases hm
  · rw [h2] at he; cases he
  · rw [h3] at he; cases he
  · rcases h.inv with ⟨-, mb, hm, -⟩ | ⟨-, e, he, -⟩
    · rw [h1] at hm; cases hm
    · rw [h2] at he; cases he
theorem Groups.keep {B : Nat} {w w' : World} {b : Nat} {l : List (List C)} {G : Prs} (h : Groups B w b l G) (hb : Below w.heap.size w w') : Groups B w' b l G := by
  have hg : w.grownBy w' none := ⟨hb.os, hb.tape, hb.output, hb.size, fun i hi _ => hb.block i hi⟩
  refine ⟨h.map.kept (hb.block b h.map.lt), h.keys, h.len, fun g hg' => ?_, h.apart, h.all, h.has⟩
  obtain ⟨h1, x, h2, h3, h4, h5⟩ := h.rows g hg'
  exact ⟨h1.kept hg (.inr (by rw [h2]; simp)), x, h2, h3, Nat.lt_of_lt_of_le h4 hb.size, h5⟩
theorem fills_eval {t : Nat} : ∀ {l : List (Tmp × Value)} {a : Act}, (∀ p ∈ l, p.1 ≠ t) → (fills l a).eval (.tmp t) = a.eval (.tmp t)
  | [], _, _ => rfl
  | (d, v) :: l, a, h => by
    show (fills l (a.put (some d) v)).eval (.tmp t) = _
    rw [fills_eval fun p hp => h p (by simp [hp]), eval_other (Ne.symm (h (d, v) (by simp)))]
theorem fills_size : ∀ {l : List (Tmp × Value)} {a : Act}, (fills l a).tmps.size = a.tmps.size
  | [], _ => rfl
  | (d, v) :: l, a => by
    show (fills l (a.put (some d) v)).tmps.size = _
    rw [fills_size, put_size]
theorem fills_defers : ∀ {l : List (Tmp × Value)} {a : Act}, (fills l a).defers = a.defers
  | [], _ => rfl
  | (d, v) :: l, a => by
    show (fills l (a.put (some d) v)).defers = _
    rw [fills_defers]; rfl
/-- What a round hands on. -/
structure ByIn (w0 : World) (v : Value) (rows : List (List C)) (bm i : Nat) (a : Act) (w : World) : Prop where
  size : a.tmps.size = 25
  defers : a.defers = []
  s9 : a.eval (.tmp 9) = .int .i64 i
  s8 : a.eval (.tmp 8) = .int .i64 rows.length
  s7 : a.eval (.tmp 7) = v
  s3 : a.eval (.tmp 3) = .map (some bm)
  le : i ≤ rows.length
  bmge : w0.heap.size ≤ bm
  below : Below w0.heap.size w0 w
  gr : ∃ G, Groups w0.heap.size w bm (rows.take i) G
theorem row_ints {d : Nat} {rows : List (List C)} (h : TyN Try.prog d 40 rows) {r : List C} (hr : r ∈ rows) : ∃ a b c, r = [.i a, .i b, .i c] := by
  cases d with
  | zero => exact h.elim
  | succ d =>
    obtain ⟨ks, hk, hh⟩ := h
    rw [kinds_sam] at hk
    cases hk
    obtain ⟨hl, hc⟩ := hh r hr
    obtain ⟨c0, h0, n0, rfl⟩ := hc 0 .int rfl
    obtain ⟨c1, h1, n1, rfl⟩ := hc 1 .int rfl
    obtain ⟨c2, h2, n2, rfl⟩ := hc 2 .int rfl
    match r, hl, h0, h1, h2 with
    | [a, b, c], _, h0, h1, h2 =>
      simp at h0 h1 h2
      exact ⟨n0, n1, n2, by rw [h0, h1, h2]⟩
theorem eval_const {a : Act} {v : Value} : a.eval (.const v) = v := rfl
theorem put_defers {a : Act} {d : Option Tmp} {v : Value} : (a.put d v).defers = a.defers := by cases d <;> rfl
theorem by_start {w : World} {v : Value} {rows : List (List C)} {a0 : Act} (hsz : a0.tmps.size = 25) (hdf : a0.defers = []) : ByIn w v rows w.heap.size 0 (((((((a0.put (some 2) (.map none)).put (some 6) (.map (some w.heap.size))).put (some 3) (.map (some w.heap.size))).put (some 7) v).put (some 8) (.int .i64 rows.length)).put (some 9) (.int .i64 0))) (w.alloc (.map #[] 0)) := by
  constructor
  · simp only [put_size, hsz]
  · simp only [put_defers]; exact hdf
  · rw [eval_same (by simp only [put_size, hsz]; omega)]; simp
  · rw [eval_other (by decide), eval_same (by simp only [put_size, hsz]; omega)]
  · rw [eval_other (by decide), eval_other (by decide), eval_same (by simp only [put_size, hsz]; omega)]
  · rw [eval_other (by decide), eval_other (by decide), eval_other (by decide), eval_same (by simp only [put_size, hsz]; omega)]
  · exact Nat.zero_le _
  · exact Nat.le_refl _
  · exact below_alloc w _
  · refine ⟨[], ?_⟩
    constructor
    · exact MapAt.made w
    · intro g hg; cases hg
    · exact Nat.zero_le _
    · intro g hg; cases hg
    · intro g hg; cases hg
    · intro r hr; simp at hr
    · intro g hg; cases hg
noncomputable def byBlk : Code :=
  match Try.f82.body with
  | some (.seq _ (.seq _ (.seq (.seq _ c) _))) => c
  | _ => .skip
/-- One round, up to the counter. -/
theorem by_round {w0 : World} {v : Value} {rows : List (List C)} {bm i : Nat} {a : Act} {w : World} {Q : Exit → Act → World → Prop} {d : Nat} (hsm : ∀ n, (C.s v rows).small n) (hty : TyN Try.prog d 40 rows) (hA : ∀ w', Below w0.heap.size w0 w' → ∃ S : Nat → Nat → Prop, (∀ b o, S b o → b < w0.heap.size) ∧ ∀ O : Nat → Nat → Prop, (∀ b o, S b o → ¬ O b o) → ArrOK Try.prog w' O 40 (.s v rows))
    (hl : rows.length ≤ 1000000) (hgr : ∃ G, Groups w0.heap.size w bm (rows.take i) G) (hbel : Below w0.heap.size w0 w) (hbm : w0.heap.size ≤ bm) (hlt : i < rows.length) (hsz : a.tmps.size = 25) (hdf : a.defers = []) (h9 : a.eval (.tmp 9) = .int .i64 i) (h8 : a.eval (.tmp 8) = .int .i64 rows.length) (h7 : a.eval (.tmp 7) = v) (h3 : a.eval (.tmp 3) = .map (some bm))
    (hQ : ∀ a' w', (a'.tmps.size = 25 ∧ a'.defers = [] ∧ a'.eval (.tmp 9) = .int .i64 i ∧ a'.eval (.tmp 8) = .int .i64 rows.length ∧ a'.eval (.tmp 7) = v ∧ a'.eval (.tmp 3) = .map (some bm) ∧ Below w0.heap.size w0 w' ∧ ∃ G, Groups w0.heap.size w' bm (rows.take (i + 1)) G) → Q .normal a' w') : (Code.seq by4 (Code.region 5 by5 true)).wp Try.prog Q a w := by
  obtain ⟨S, hS, hArr⟩ := hA w hbel
  have hrl : rows.length ≤ 9223372036854775807 := by omega
  have hsat : Sat Try.prog (fun j => j < w.heap.size) w ⟨[.s v rows, .s (.map (some bm)) [], .i i], fun _ => 0, 0, fun b o => b < w.heap.size ∧ w0.heap.size ≤ b, fun _ => default⟩ bySt a w := by
    refine Sat.start rfl rfl rfl (fun t sv ht => ?_) hsz (fun _ h => h) (fun b o h => h.1) hdf rfl rfl rfl ?_
    · simp only [bySt, look] at ht
      split at ht
      · rename_i e; subst e; cases ht; exact ⟨h9, fun l hl => by simp only [S0.cells, List.mem_cons, List.not_mem_nil, or_false] at hl; subst hl; trivial⟩
      split at ht
      · rename_i e; subst e; cases ht; exact ⟨h8, fun l hl => by simp only [S0.cells, List.mem_cons, List.not_mem_nil, or_false] at hl; subst hl; trivial⟩
      split at ht
      · rename_i e; subst e; cases ht; exact ⟨h7, fun l hl => by simp only [S0.cells, List.mem_cons, List.not_mem_nil, or_false] at hl; subst hl; exact hArr _ fun b o hb ho => by have := hS b o hb; omega⟩
      split at ht
      · rename_i e; subst e; cases ht; exact ⟨h3, fun l hl => by simp only [S0.cells, List.mem_cons, List.not_mem_nil, or_false] at hl; subst hl; rfl⟩
      cases ht
    · have := Smalls.nil.app (cs := [.s v rows, .s (.map (some bm)) [], .i i]) (fun c hc => by
        simp only [List.mem_cons, List.not_mem_nil, or_false] at hc
        rcases hc with rfl | rfl | rfl
        · exact hsm
        · intro n; cases n <;> simp [C.small]
        · intro n; cases n <;> simp [C.small] <;> omega)
      simpa using this
  refine wp_seq (seg_sound (R := fun _ => True) cNone_ok (Ls := []) (I := fun _ => True) by4_tree (by kernel_rfl) rfl ⟨?_, ?_, trivial⟩ hsat ?_ ?_)
  · rw [den_cmp_le]; show (0 : Int) ≤ i; omega
  · rw [den_cmp_lt]; show (i : Int) < rows.length; omega
  rotate_left
  · intro x st' T' Γ' Ls' hx hk; cases hk
  intro xs Γx a' w' htx _ hρ he hs'
  have hxs : xs = [] := by cases xs with | nil => rfl | cons x xs => exact htx.elim
  subst hxs
  rw [List.append_nil] at hρ
  have hbel2 : Below w.heap.size w w' := hs'.keeps.below
  have ev : ∀ t sv, t < 1000 → look bySt4.sl t = some sv → a'.eval (.tmp t) = sv.den Γx := fun t sv ht hl => by
    have := (hs'.slots t sv hl).1
    unfold slotV at this
    rwa [if_pos ht] at this
  have h5' : a'.eval (.tmp 5) = .pointer (some ⟨Γx.blk 0, 0, none⟩) := ev 5 _ (by omega) rfl
  have h9' : a'.eval (.tmp 9) = .int .i64 i := by rw [ev 9 _ (by omega) rfl]; simp only [SV.den, S0.den, Lf.den, E.den_var, hρ]; rfl
  have h8' : a'.eval (.tmp 8) = .int .i64 rows.length := by rw [ev 8 _ (by omega) rfl]; simp only [SV.den, S0.den, Lf.den, E.den_len, ev_var, hρ]; rfl
  have h7' : a'.eval (.tmp 7) = v := by rw [ev 7 _ (by omega) rfl]; simp only [SV.den, S0.den, Lf.den, ev_var, hρ]; rfl
  have h3' : a'.eval (.tmp 3) = .map (some bm) := by rw [ev 3 _ (by omega) rfl]; simp only [SV.den, S0.den, Lf.den, hρ]; rfl
  have hsz' : a'.tmps.size = 25 := hs'.size
  have hdf' : a'.defers = [] := hs'.defers
  obtain ⟨m1, -, m3, -⟩ := hs'.mem 0 _ (rfl : look bySt4.mem 0 = some (40, [.int (.cell (.var 0) (.var 2) 0), .int (.cell (.var 0) (.var 2) 1), .int (.cell (.var 0) (.var 2) 2)]))
  have hden : dens Γx [.int (.cell (.var 0) (.var 2) 0), .int (.cell (.var 0) (.var 2) 1), .int (.cell (.var 0) (.var 2) 2)] = samOf (rows.getD i []) := by
    unfold dens
    simp only [List.map_cons, List.map_nil, Lf.den, E.den_cell, ev_var, E.den_var, hρ]
    rfl
  rw [hden] at m1
  have hge : w.heap.size ≤ Γx.blk 0 := by simpa using m3
  obtain ⟨G, hG⟩ := hgr
  have hG' := hG.keep hbel2
  have hk : -9223372036854775808 ≤ cell_ (rows.getD i []) 0 ∧ cell_ (rows.getD i []) 0 ≤ 9223372036854775807 := C.int_le (C.small_at hsm i 0)
  obtain ⟨ho1, ho2⟩ := hG'.old (cell_ (rows.getD i []) 0)
  have hB : w0.heap.size ≤ w'.heap.size := by have := hbel.size; have := hbel2.size; omega
  have hflt : (flt (rows.take i) (cell_ (rows.getD i []) 0)).length ≤ 1000000 := by
    have h1 := List.length_filter_le (fun r => cell_ r 0 == cell_ (rows.getD i []) 0) (rows.take i)
    have h2 := List.length_take_le i rows
    unfold flt
    omega
  show (Code.region 5 by5 true).wp Try.prog Q a' w'
  refine wp_mono (wp_region_any mixedOrders (Picks.any (Q := fun e a w => e = .normal ∧ Q .normal a w) (S := Until by5 fun u => Blk u (Γx.blk 0) 40 (samOf (rows.getD i [])) ∧ MapAt u bm G) ?_)) ?_
  rotate_left
  · rintro e a w ⟨rfl, h⟩; exact h
  rw [by5_size]
  refine bySensor_round (B := w0.heap.size) hsz' h3' h5' m1 hG'.map hG'.keys (by have := hG'.len; have := List.length_take_le i rows; simp only [maxLen]; omega) hk ho1 hB hflt (fun g hg => ?_) fun vs v' w1 w2 o hvs q1 q2 q3 q4 q5 q6 q7 => ?_
  · rcases ho2 with h | h
    · rw [h] at hg; cases hg
    · obtain ⟨-, x, hx, -, hxs, hxb⟩ := hG.rows _ h
      have hx2 : (valAt G (cell_ (rows.getD i []) 0) (Value.slice none 0 0)).ownBlock = some x := hx
      rw [hg] at hx2
      cases hx2
      exact ⟨hxb, by omega⟩
  · have hGd : Groups w0.heap.size { w' with drawn := w'.drawn + 1 } bm (rows.take i) G := hG'.keep ⟨rfl, rfl, rfl, Nat.le_refl _, fun _ _ => rfl⟩
    obtain ⟨k1, k2, k3, -⟩ := hGd.step hB hk q1 q2 q3 q4 q5 q6 q7
    have hne : ∀ t, (∀ d ∈ [13, 14, 15, 16, 17, 18, 19, 20, 21, 22], d ≠ t) → (fills ([13, 14, 15, 16, 17, 18, 19, 20, 21, 22].zip vs) a').eval (.tmp t) = a'.eval (.tmp t) := fun t ht => fills_eval fun p hp => ht p.1 (List.of_mem_zip hp).1
    refine hQ _ _ ⟨by rw [fills_size]; exact hsz', by rw [fills_defers]; exact hdf', by rw [hne 9 (by decide)]; exact h9', by rw [hne 8 (by decide)]; exact h8', by rw [hne 7 (by decide)]; exact h7', by rw [hne 3 (by decide)]; exact h3', ?_, _, by rw [List.take_succ_eq_append_getElem hlt] ; rw [show rows[i] = rows.getD i [] from by simp [List.getD_eq_getElem?_getD, hlt]]; exact k1⟩
    refine ⟨?_, ?_, ?_, Nat.le_trans hB k3, fun j hj => ?_⟩
    · show w2.os = _; rw [q2.os, q1.1.os]; exact (hbel2.os).trans hbel.os
    · show w2.tape = _; rw [q2.tape, q1.1.tape]; exact (hbel2.tape).trans hbel.tape
    · show w2.output = _; rw [q2.output, q1.1.output]; exact (hbel2.output).trans hbel.output
    · rw [k2 j (by show j < w'.heap.size; omega) (by omega) fun g hg e => ?_]
      · show w'.heap[j]? = _
        rw [hbel2.block j (by have := hbel.size; omega), hbel.block j hj]
      · obtain ⟨-, x, hx, hBx, -⟩ := hG.rows g hg
        rw [hx] at e
        cases e
        omega
theorem by_loop {w0 : World} {v : Value} {rows : List (List C)} {bm : Nat} {a : Act} {w : World} {Q : Exit → Act → World → Prop} {d : Nat} (hsm : ∀ n, (C.s v rows).small n) (hty : TyN Try.prog d 40 rows) (hA : ∀ w', Below w0.heap.size w0 w' → ∃ S : Nat → Nat → Prop, (∀ b o, S b o → b < w0.heap.size) ∧ ∀ O : Nat → Nat → Prop, (∀ b o, S b o → ¬ O b o) → ArrOK Try.prog w' O 40 (.s v rows))
    (hl : rows.length ≤ 1000000) (hin : ByIn w0 v rows bm 0 a w) (hQ : ∀ a' w', ByIn w0 v rows bm rows.length a' w' → Q .normal a' w') : byBlk.wp Try.prog Q a w := by
  show Code.wp _ (Code.block 0 (Code.loop (Code.seq (Code.region 3 _ _) (Code.seq (Code.cond (.tmp 10) .skip (.exit 0)) (Code.seq (Code.block 1 (Code.seq by4 (Code.region 5 by5 true))) (Code.region 6 _ _)))))) _ _ _
  refine wp_block (wp_loop_ghost (fun n a w => ∃ i, n = rows.length - i ∧ ByIn w0 v rows bm i a w) rows.length ⟨0, by omega, hin⟩ ?_)
  rintro n a w ⟨i, rfl, h⟩
  refine wp_seq (wp_region_list (list_val rfl (v := .bool (decide ((i : Int) < rows.length))) (w' := w) (by simp [execOp, h.s9, h.s8, eqGuard_at_int, binOp_lss]) ?_))
  show Code.wp _ _ _ _ _
  have hsz1 : (a.put (some 10) (.bool (decide ((i : Int) < rows.length)))).tmps.size = 25 := by rw [put_size]; exact h.size
  refine wp_seq (wp_cond (t := decide ((i : Int) < rows.length)) (eval_same (by rw [h.size]; omega)) ?_)
  by_cases hlt : i < rows.length
  · rw [decide_eq_true (by omega), if_pos rfl]
    refine wp_skip ?_
    show Code.wp _ _ _ _ _
    generalize hb1 : Value.bool true = b1 at hsz1
    have h9 : (a.put (some 10) b1).eval (.tmp 9) = .int .i64 i := by rw [eval_other (by decide)]; exact h.s9
    have h8 : (a.put (some 10) b1).eval (.tmp 8) = .int .i64 rows.length := by rw [eval_other (by decide)]; exact h.s8
    have h7 : (a.put (some 10) b1).eval (.tmp 7) = v := by rw [eval_other (by decide)]; exact h.s7
    have h3 : (a.put (some 10) b1).eval (.tmp 3) = .map (some bm) := by rw [eval_other (by decide)]; exact h.s3
    have hdf : (a.put (some 10) b1).defers = [] := by rw [put_defers]; exact h.defers
    have hsz2 : (a.put (some 10) b1).tmps.size = 25 := by rw [put_size]; exact h.size
    generalize a.put (some 10) b1 = a2 at *
    refine wp_seq (wp_block (by_round hsm hty hA hl h.gr h.below h.bmge hlt hsz2 hdf h9 h8 h7 h3 fun a' w' h' => ?_))
    show Code.wp _ _ _ _ _
    obtain ⟨g1, g2, g3, g4, g5, g6, g7, g8⟩ := h'
    refine wp_region_list (list_val rfl (v := .int .i64 (i + 1)) (w' := w') (by
      simp [execOp, g3, eqGuard_at_int, binOp_add, Op.intArith, eval_const]
      exact IntWalk.i64_in _ ⟨by omega, by omega⟩) (list_val rfl (v := .int .i64 (i + 1)) (w' := w') (by simp [execOp, eval_same, g1]) ?_))
    refine ⟨rows.length - (i + 1), by omega, i + 1, rfl, ⟨by simp only [put_size]; exact g1, by simp only [put_defers]; exact g2, by rw [eval_same (by rw [put_size, g1]; omega)]; simp, by rw [eval_other (by decide), eval_other (by decide)]; exact g4, by rw [eval_other (by decide), eval_other (by decide)]; exact g5, by rw [eval_other (by decide), eval_other (by decide)]; exact g6, hlt, h.bmge, g7, g8⟩⟩
  · rw [decide_eq_false (by omega), if_neg (by simp)]
    refine wp_exit ?_
    show Q .normal _ _
    have : i = rows.length := by have := h.le; omega
    subst this
    exact hQ _ _ ⟨by rw [put_size]; exact h.size, by rw [put_defers]; exact h.defers, by rw [eval_other (by decide)]; exact h.s9, by rw [eval_other (by decide)]; exact h.s8, by rw [eval_other (by decide)]; exact h.s7, by rw [eval_other (by decide)]; exact h.s3, h.le, h.bmge, h.below, h.gr⟩
theorem bySensor_ok {w : World} {v : Value} {rows : List (List C)} {Base : Nat → Nat → Prop} (hBase : ∀ b o, Base b o → b < w.heap.size) (ha : LRep Try.prog w Base (.arr 40) v (.s v rows)) (hl : rows.length ≤ 1000000) :
    Calls Try.prog 82 #[v] w fun e w' => ∃ bm G, e = .returned (.map (some bm)) ∧ Below w.heap.size w w' ∧ w.heap.size ≤ bm ∧ Groups w.heap.size w' bm rows G := by
  obtain ⟨hsm, -, hA⟩ := ha
  obtain ⟨v', rows', d, e, hty⟩ := hA.tyN
  cases e
  obtain ⟨ad, cap, hv⟩ := hA.loc
  have hv : v = .slice ad rows.length cap := hv
  refine calls_of_wp Try.func82 rfl ?_
  have hsz : ({ tmps := #[v] ++ Array.replicate (25 - 1) undef, defers := [] } : Act).tmps.size = 25 := by simp
  have h0 : ({ tmps := #[v] ++ Array.replicate (25 - 1) undef, defers := [] } : Act).eval (.tmp 0) = v := by simp [Act.eval]
  have hdf : ({ tmps := #[v] ++ Array.replicate (25 - 1) undef, defers := [] } : Act).defers = [] := rfl
  show Code.wp _ _ _ { tmps := #[v] ++ Array.replicate (25 - 1) undef, defers := [] } w
  generalize ({ tmps := #[v] ++ Array.replicate (25 - 1) undef, defers := [] } : Act) = a0 at *
  refine wp_seq (wp_region_list (list_val rfl (v := .map none) (w' := w) (by simp [execOp, eval_const]) ?_))
  show Code.wp _ _ _ _ _
  refine wp_seq (wp_region_list (list_val rfl (v := .map (some w.heap.size)) (w' := w.alloc (.map #[] 0)) (by simp [execOp, run_makeMap]) (list_val rfl (v := .map (some w.heap.size)) (w' := w.alloc (.map #[] 0)) (by simp [execOp, eval_same, put_size, hsz]) ?_)))
  show Code.wp _ _ _ _ _
  refine wp_seq (wp_seq (wp_region_list (list_val rfl (v := v) (w' := w.alloc (.map #[] 0)) (by simp [execOp, eval_other, put_size, hsz, h0]) (list_val rfl (v := .int .i64 rows.length) (w' := w.alloc (.map #[] 0)) (by
    simp [execOp, resolve, invoke, builtin, eval_same, put_size, hsz, hv]
    rw [run_len_slice _ _ _ _ _ cap (by simp [Program.elem, Try.underlying38])]
    rfl) (list_val rfl (v := .int .i64 0) (w' := w.alloc (.map #[] 0)) (by simp [execOp, eval_const]) ?_)))))
  show Code.wp _ _ _ _ _
  have hin := by_start (w := w) (v := v) (rows := rows) hsz hdf
  generalize (((((((a0.put (some 2) (.map none)).put (some 6) (.map (some w.heap.size))).put (some 3) (.map (some w.heap.size))).put (some 7) v).put (some 8) (.int .i64 rows.length)).put (some 9) (.int .i64 0))) = a1 at *
  obtain ⟨v1, rows1, e1, d1, S, hS, hN⟩ := hA
  cases e1
  refine by_loop hsm hty (fun w' hb => ⟨S, fun b o h => (hS b o h).1, fun O hO => ⟨_, _, rfl, d1, S, fun b o h => ⟨Nat.lt_of_lt_of_le (hS b o h).1 hb.size, hO b o h⟩, hN.keep fun b o h => World.cell?_of_block (hb.block b (hS b o h).1)⟩⟩) hl hin fun a' w' h => ?_
  show Code.wp _ _ _ _ _
  refine wp_seq (wp_region_list (list_val rfl (v := .map (some w.heap.size)) (w' := w') (by simp [execOp, h.s3]) (list_val rfl (v := .map (some w.heap.size)) (w' := w') (by simp [execOp, eval_same, h.size]) ?_)))
  show Code.wp _ _ _ _ _
  refine wp_ret ?_
  obtain ⟨G, hG⟩ := h.gr
  rw [List.take_length] at hG
  refine ⟨by simp only [put_defers]; exact h.defers, .map (some w.heap.size), ?_, _, G, rfl, h.below, h.bmge, hG⟩
  have e2 := eval_same (a := a'.put (some 24) (.map (some w.heap.size))) (d := 2) (v := .map (some w.heap.size)) (by rw [put_size, h.size]; omega)
  rw [results_eq]
  simp only [show Try.f82.results = #[.tmp 2] from rfl]
  simp [resSem]
  simpa [Act.eval] using e2
end Go.Proofs.Ytlbgcjpkegpmlaa
/- Alarms of one sensor; the samples of one sensor: both texts. -/
namespace Go.Proofs.Ytlbgcjpkegpmlaa
open Go.RowKit
set_option linter.unusedSimpArgs false
set_option linter.unusedVariables false

theorem alarm_drop {li ho de n : Int} {rows : List (List C)} {k : Nat} (h : k < rows.length) : alarmL li ho de n (rows.drop k) = if (if cell_ (rows.getD k []) 2 < li then 0 else n + 1) = ho then some (cell_ (rows.getD k []) 1 + de) else alarmL li ho de (if cell_ (rows.getD k []) 2 < li then 0 else n + 1) (rows.drop (k + 1)) := by
  rw [drop_getD h, alarmL]
theorem inR_at {rows : List (List C)} (h : ∀ r ∈ rows, inR r = true) {k : Nat} (hk : k < rows.length) : 0 ≤ cell_ (rows.getD k []) 1 ∧ cell_ (rows.getD k []) 1 ≤ 1099511627176 ∧ -1125899906842624 ≤ cell_ (rows.getD k []) 2 ∧ cell_ (rows.getD k []) 2 ≤ 1125899906842624 := by
  have := h (rows.getD k []) (by simp [List.getD_eq_getElem?_getD, hk])
  simpa [inR] using this
theorem alarms_ok : tab3.ok 83 := by
  refine Tab.of_ct rfl rfl ⟨_, Try.func83, by decide, rfl⟩ ?_ ctF_det
  refine ct_ok (cx := calarms) (Tab.cx_ok all_nil) Try.func83 (bds := []) (T := talarms) (by kernel_rfl) ?_
  unfold talarms
  simp only [VC, allC, List.map_cons, List.map_nil, List.length_cons, List.length_nil, List.getElem?_cons_zero, List.getElem?_cons_succ, List.cons.injEq, C.i.injEq, C.b.injEq, and_true, true_and, forall_const, kindsOf_nil, kindsOf_lf, kindsOf_agg, kindsOf_box, boxKinds_nil, boxKinds_lf, boxKinds_agg, boxKinds_box, List.append_nil, List.cons_append, List.nil_append, den_cmp_le, den_cmp_lt, den_cmp_eq, den_cmp_ne, den_cmp_le', den_cmp_lt', den_cmp_eq', den_cmp_ne', den_and, den_and', den_or, den_or', den_not, den_not', den_blit, den_of, ev_var, at_0, at_1, at_2, at_3, at_4, at_5, at_6, at_7, at_skip, c_int, c_bool, c_arr, c_cnt, c_vec, ev_nil, ev_join, ev_sub3, loc_s, int_i, bool_b, rows_s, cs_nil, cs_cons, E.den_lit, E.den_var, E.den_add, E.den_sub, E.den_mul, E.den_quo, E.den_rem, E.den_max, E.den_min, E.den_len, E.den_wr, E.den_cell, ctAlarms, ctF, sensSh]; intro ch _ _ pe _ _ de _ _ no _ _ st _ _ lo _ _ li _ _ ho _ _ v rows d _ hsm hp; obtain ⟨hho, de0, de1, hlen, hin⟩ := hp; have e1 : ∀ k o, ((C.s v rows).at k o).int = cell_ (rows.getD k []) o := fun _ _ => rfl; simp only [e1]; refine ⟨bds_nil _, fun xs => match xs with | [_, _, .i n, .i i] => 0 ≤ i ∧ i ≤ rows.length ∧ 0 ≤ n ∧ n ≤ i ∧ alarmL li ho de 0 rows = alarmL li ho de n (rows.drop i.toNat) | _ => False, fun xs => match xs with | [_, _, _, .i i] => ((rows.length : Int) - i).toNat | _ => 0, ⟨by omega, by omega, by omega, by omega, rfl⟩, ?_⟩; rintro _ _ _ _ n _ _ i _ _ ⟨i0, i1, n0, n1, hI⟩
  refine ⟨fun hlt => ?_, fun hge => ?_⟩
  · have hz : i.toNat < rows.length := by omega
    have hr := inR_at hin hz
    rw [alarm_drop hz] at hI
    have hmu : ((rows.length : Int) - (i + 1)).toNat < ((rows.length : Int) - i).toNat := by omega
    generalize hrow : rows.getD i.toNat [] = row at *
    refine ⟨i0, hlt, by omega, fun hlow => ?_, fun hhigh => ?_⟩
    · simp only [if_pos hlow, if_neg (show ¬ (0 : Int) = ho by omega)] at hI
      refine ⟨fun h => absurd h (by omega), fun _ => ⟨⟨by omega, by omega, by omega, by omega, ?_⟩, hmu⟩⟩
      rw [hI, show (i + 1).toNat = i.toNat + 1 by omega]
    · simp only [if_neg (show ¬ cell_ row 2 < li by omega)] at hI
      refine ⟨fun h => ⟨by omega, by omega, ?_⟩, fun h => ⟨by omega, ⟨by omega, by omega, by omega, by omega, ?_⟩, hmu⟩⟩
      · rw [hI, if_pos h]; rfl
      · rw [hI, if_neg h, show (i + 1).toNat = i.toNat + 1 by omega]
  · rw [hI, List.drop_eq_nil_of_le (by omega)]; rfl
theorem ralarm_ok : tab3.ok 85 := by
  refine Tab.of_ct rfl rfl ⟨_, Try.func85, by decide, rfl⟩ ?_ ctF_det
  refine ct_ok (cx := cralarm) (Tab.cx_ok all_nil) Try.func85 (bds := []) (T := tralarm) (by kernel_rfl) ?_
  unfold tralarm
  simp only [VC, allC, List.map_cons, List.map_nil, List.length_cons, List.length_nil, List.getElem?_cons_zero, List.getElem?_cons_succ, List.cons.injEq, C.i.injEq, C.b.injEq, and_true, true_and, forall_const, kindsOf_nil, kindsOf_lf, kindsOf_agg, kindsOf_box, boxKinds_nil, boxKinds_lf, boxKinds_agg, boxKinds_box, List.append_nil, List.cons_append, List.nil_append, den_cmp_le, den_cmp_lt, den_cmp_eq, den_cmp_ne, den_cmp_le', den_cmp_lt', den_cmp_eq', den_cmp_ne', den_and, den_and', den_or, den_or', den_not, den_not', den_blit, den_of, ev_var, at_0, at_1, at_2, at_3, at_4, at_5, at_6, at_7, at_skip, c_int, c_bool, c_arr, c_cnt, c_vec, ev_nil, ev_join, ev_sub3, loc_s, int_i, bool_b, rows_s, cs_nil, cs_cons, E.den_lit, E.den_var, E.den_add, E.den_sub, E.den_mul, E.den_quo, E.den_rem, E.den_max, E.den_min, E.den_len, E.den_wr, E.den_cell, ctAlarms, ctF, sensSh]; intro ch _ _ pe _ _ de _ _ no _ _ st _ _ lo _ _ li _ _ ho _ _ v rows d _ hsm hp; obtain ⟨hho, de0, de1, hlen, hin⟩ := hp; have e1 : ∀ k o, ((C.s v rows).at k o).int = cell_ (rows.getD k []) o := fun _ _ => rfl; simp only [e1]; refine ⟨bds_nil _, fun xs => match xs with | [_, _, .i n, .i i] => 0 ≤ i ∧ i ≤ rows.length ∧ 0 ≤ n ∧ n ≤ i ∧ alarmL li ho de 0 rows = alarmL li ho de n (rows.drop i.toNat) | _ => False, fun xs => match xs with | [_, _, _, .i i] => ((rows.length : Int) - i).toNat | _ => 0, ⟨by omega, by omega, by omega, by omega, rfl⟩, ?_⟩; rintro _ _ _ _ n _ _ i _ _ ⟨i0, i1, n0, n1, hI⟩
  refine ⟨fun hlt => ?_, fun hge => ?_⟩
  · have hz : i.toNat < rows.length := by omega
    have hr := inR_at hin hz
    rw [alarm_drop hz] at hI
    have hmu : ((rows.length : Int) - (i + 1)).toNat < ((rows.length : Int) - i).toNat := by omega
    generalize hrow : rows.getD i.toNat [] = row at *
    refine ⟨i0, hlt, fun hlow => ?_, fun hhigh => ?_⟩
    · simp only [if_pos hlow, if_neg (show ¬ (0 : Int) = ho by omega)] at hI
      refine ⟨⟨by omega, by omega, by omega, by omega, ?_⟩, hmu⟩
      rw [hI, show (i + 1).toNat = i.toNat + 1 by omega]
    · simp only [if_neg (show ¬ cell_ row 2 < li by omega)] at hI
      refine ⟨by omega, fun h => ⟨hlt, by omega, by omega, ?_⟩, fun h => ⟨by omega, ⟨by omega, by omega, by omega, by omega, ?_⟩, hmu⟩⟩
      · rw [hI, if_pos h]; rfl
      · rw [hI, if_neg h, show (i + 1).toNat = i.toNat + 1 by omega]
  · rw [hI, List.drop_eq_nil_of_le (by omega)]; rfl
theorem fltS_take {rows : List (List C)} {i : Nat} {k : Int} (h : i < rows.length) : fltS (rows.take (i + 1)) k = fltS (rows.take i) k ++ (if cell_ (rows.getD i []) 0 = k then [rows.getD i []] else []) := by
  rw [List.take_succ_eq_append_getElem h, show rows[i] = rows.getD i [] from by simp [List.getD_eq_getElem?_getD, h]]
  unfold fltS
  rw [List.filter_append]
  congr 1
  generalize rows.getD i [] = r
  by_cases h : cell_ r 0 = k
  · simp [h]
  · simp [h]
theorem row3 {d : Nat} {rows : List (List C)} (h : TyN Try.prog d 40 rows) {k : Nat} (hk : k < rows.length) : rows.getD k [] = [.i (cell_ (rows.getD k []) 0), .i (cell_ (rows.getD k []) 1), .i (cell_ (rows.getD k []) 2)] := by
  obtain ⟨a, b, c, e⟩ := row_ints h (show rows.getD k [] ∈ rows by simp [List.getD_eq_getElem?_getD, hk])
  rw [e]; rfl
theorem fltS_len {rows : List (List C)} {k : Int} : (fltS rows k).length ≤ rows.length := List.length_filter_le _ _
theorem of_ok : tab3.ok 86 := by
  refine Tab.of_ct rfl rfl ⟨_, Try.func86, by decide, rfl⟩ ?_ (fun h => by cases h)
  refine ct_ok (cx := cof) (Tab.cx_ok all_nil) Try.func86 (bds := []) (T := tof) (by kernel_rfl) ?_
  unfold tof
  simp only [VC, allC, List.map_cons, List.map_nil, List.length_cons, List.length_nil, List.getElem?_cons_zero, List.getElem?_cons_succ, List.cons.injEq, C.i.injEq, C.b.injEq, and_true, true_and, forall_const, kindsOf_nil, kindsOf_lf, kindsOf_agg, kindsOf_box, boxKinds_nil, boxKinds_lf, boxKinds_agg, boxKinds_box, List.append_nil, List.cons_append, List.nil_append, den_cmp_le, den_cmp_lt, den_cmp_eq, den_cmp_ne, den_cmp_le', den_cmp_lt', den_cmp_eq', den_cmp_ne', den_and, den_and', den_or, den_or', den_not, den_not', den_blit, den_of, ev_var, at_0, at_1, at_2, at_3, at_4, at_5, at_6, at_7, at_skip, c_int, c_bool, c_arr, c_cnt, c_vec, ev_nil, ev_join, ev_sub3, loc_s, int_i, bool_b, rows_s, cs_nil, cs_cons, E.den_lit, E.den_var, E.den_add, E.den_sub, E.den_mul, E.den_quo, E.den_rem, E.den_max, E.den_min, E.den_len, E.den_wr, E.den_cell, ctOf, ctF]
  intro v rows d hty hsm k _ _ hlen
  have e1 : ∀ k o, ((C.s v rows).at k o).int = cell_ (rows.getD k []) o := fun _ _ => rfl
  simp only [e1]
  refine ⟨bds_nil _, fun xs => match xs with | [.s _ out, .i i] => 0 ≤ i ∧ i ≤ rows.length ∧ out = fltS (rows.take i.toNat) k | _ => False, fun xs => match xs with | [_, .i i] => ((rows.length : Int) - i).toNat | _ => 0, ⟨by omega, by omega, rfl⟩, ?_⟩
  rintro v1 out d1 _ _ i _ _ ⟨i0, i1, hI⟩
  refine ⟨fun hlt => ⟨i0, hlt, ?_⟩, fun hge => ?_⟩
  · have hz : i.toNat < rows.length := by omega
    have hft := fltS_take (k := k) hz
    have hr3 := row3 hty hz
    have hmu : ((rows.length : Int) - (i + 1)).toNat < ((rows.length : Int) - i).toNat := by omega
    have e2 : (i + 1).toNat = i.toNat + 1 := by omega
    have hl : out.length ≤ 200 := by
      have := @fltS_len (rows.take i.toNat) k
      have := List.length_take_le i.toNat rows
      rw [hI]; omega
    generalize hrow : rows.getD i.toNat [] = row at *
    refine ⟨fun h => ⟨hlt, ⟨by omega, fun v3 => ⟨⟨by omega, by omega, ?_⟩, hmu⟩⟩⟩, fun h => ⟨⟨by omega, by omega, ?_⟩, hmu⟩⟩
    · rw [e2, hft, if_pos h, hI, ← hr3]
    · rw [e2, hft, if_neg h, List.append_nil, hI]
  · rw [hI, List.take_of_length_le (by omega)]
end Go.Proofs.Ytlbgcjpkegpmlaa
/- The document's check of samples. -/
namespace Go.Proofs.Ytlbgcjpkegpmlaa
open Go.RowKit
set_option linter.unusedSimpArgs false
set_option linter.unusedVariables false

theorem checkV_8 {n : Int} {rows : List (List C)} (h : 200 < (rows.length : Int)) : checkV n rows = 8 := by unfold checkV; rw [if_pos (by omega)]
theorem checkV_7 {n : Int} {rows : List (List C)} (h : (rows.length : Int) ≤ 200) (h1 : rows.all (inB n) = false) : checkV n rows = 7 := by unfold checkV; rw [if_neg (by omega), if_pos h1]
theorem checkV_2 {n : Int} {rows : List (List C)} (h : (rows.length : Int) ≤ 200) (h1 : rows.all (inB n) = true) (h2 : rows.all inR = false) : checkV n rows = 2 := by unfold checkV; rw [if_neg (by omega), if_neg (by simp [h1]), if_pos h2]
theorem checkV_11 {n : Int} {rows : List (List C)} (h : (rows.length : Int) ≤ 200) (h1 : rows.all (inB n) = true) (h2 : rows.all inR = true) (h3 : rows.all (fun r => ordL (fltS rows (cell_ r 0))) = false) : checkV n rows = 11 := by unfold checkV; rw [if_neg (by omega), if_neg (by simp [h1]), if_neg (by simp [h2]), if_pos h3]
theorem checkV_0 {n : Int} {rows : List (List C)} (h : (rows.length : Int) ≤ 200) (h1 : rows.all (inB n) = true) (h2 : rows.all inR = true) (h3 : rows.all (fun r => ordL (fltS rows (cell_ r 0))) = true) : checkV n rows = 0 := by unfold checkV; rw [if_neg (by omega), if_neg (by simp [h1]), if_neg (by simp [h2]), if_neg (by simp [h3])]
theorem checkV_ok {n : Int} {rows : List (List C)} (h : checkV n rows = 0) : rows.length ≤ 200 ∧ rows.all (inB n) = true ∧ rows.all inR = true ∧ rows.all (fun r => ordL (fltS rows (cell_ r 0))) = true := by
  unfold checkV at h
  split at h
  · omega
  split at h
  · omega
  split at h
  · omega
  split at h
  · omega
  rename_i a b c d
  exact ⟨by omega, by simpa using b, by simpa using c, by simpa using d⟩
theorem fltS_none {rows : List (List C)} {k : Int} (h : ∀ r ∈ rows, cell_ r 0 ≠ k) : fltS rows k = [] := by
  unfold fltS
  rw [List.filter_eq_nil_iff]
  intro r hr
  simpa using h r hr
theorem ord_all {n : Int} {rows : List (List C)} (h : rows.all (inB n) = true) : rows.all (fun r => ordL (fltS rows (cell_ r 0))) = true ↔ ∀ k, 0 ≤ k → k < n → ordL (fltS rows k) = true := by
  rw [List.all_eq_true]
  constructor
  · intro hh k h0 h1
    by_cases he : ∃ r ∈ rows, cell_ r 0 = k
    · obtain ⟨r, hr, rfl⟩ := he
      exact hh r hr
    · rw [fltS_none fun r hr e => he ⟨r, hr, e⟩]; rfl
  · intro hh r hr
    have := List.all_eq_true.1 h r hr
    simp only [inB, decide_eq_true_eq] at this
    exact hh _ this.1 this.2
theorem all_drop {f : List C → Bool} {rows : List (List C)} {k : Nat} (h : k < rows.length) : (rows.drop k).all f = (f (rows.getD k []) && (rows.drop (k + 1)).all f) := by
  rw [drop_getD h, List.all_cons]
theorem ord_drop {t : Int} {rows : List (List C)} {k : Nat} (h : k < rows.length) : ordFrom t (rows.drop k) = (decide (t < cell_ (rows.getD k []) 1) && ordFrom (cell_ (rows.getD k []) 1) (rows.drop (k + 1))) := by
  rw [drop_getD h, ordFrom]
/-- Where the ordered part ends. -/
def OrdI (out : List (List C)) (i : Int) : Prop := 1 ≤ i ∧ (out.length = 0 → i = 1) ∧ (0 < out.length → i ≤ out.length ∧ ordL out = ordFrom (cell_ (out.getD (i - 1).toNat []) 1) (out.drop i.toNat))
theorem OrdI.one (out : List (List C)) : OrdI out 1 := ⟨by omega, fun _ => rfl, fun h => ⟨by omega, by
  cases out with
  | nil => simp at h
  | cons r l => rfl⟩⟩
theorem OrdI.bad {out : List (List C)} {i : Int} (h : OrdI out i) (hlt : i < out.length) (hle : cell_ (out.getD i.toNat []) 1 ≤ cell_ (out.getD (i - 1).toNat []) 1) : ordL out = false := by
  obtain ⟨h1, -, h2⟩ := h
  obtain ⟨-, h2⟩ := h2 (by omega)
  rw [h2, ord_drop (by omega), decide_eq_false (by omega)]
  rfl
theorem OrdI.next {out : List (List C)} {i : Int} (h : OrdI out i) (hlt : i < out.length) (hle : cell_ (out.getD (i - 1).toNat []) 1 < cell_ (out.getD i.toNat []) 1) : OrdI out (i + 1) := by
  obtain ⟨h1, -, h2⟩ := h
  obtain ⟨-, h2⟩ := h2 (by omega)
  rw [ord_drop (by omega), decide_eq_true hle, Bool.true_and] at h2
  exact ⟨by omega, fun h => by omega, fun _ => ⟨by omega, by rw [h2, show (i + 1 - 1).toNat = i.toNat by omega, show (i + 1).toNat = i.toNat + 1 by omega]⟩⟩
theorem OrdI.end_ {out : List (List C)} {i : Int} (h : OrdI out i) (hge : (out.length : Int) ≤ i) : ordL out = true := by
  obtain ⟨h1, h0, h2⟩ := h
  by_cases hz : out.length = 0
  · rw [List.length_eq_zero_iff.1 hz]; rfl
  · obtain ⟨-, h2⟩ := h2 (by omega)
    rw [h2, List.drop_eq_nil_of_le (by omega)]; rfl
theorem rchk_ok : tab3.ok 84 := by
  refine Tab.of_ct rfl rfl ⟨_, Try.func84, by decide, rfl⟩ ?_ ctF_det
  refine ct_ok (cx := crchk) (Tab.cx_ok (all_cons (up3_ok (up_ok between_ok)) (all_cons of_ok all_nil))) Try.func84 (bds := []) (T := trchk) (by kernel_rfl) ?_
  have h1 : crchk.ct 86 = some ctOf := rfl
  unfold trchk
  simp only [VC, allC, List.map_cons, List.map_nil, List.length_cons, List.length_nil, List.getElem?_cons_zero, List.getElem?_cons_succ, List.cons.injEq, C.i.injEq, C.b.injEq, and_true, true_and, forall_const, kindsOf_nil, kindsOf_lf, kindsOf_agg, kindsOf_box, boxKinds_nil, boxKinds_lf, boxKinds_agg, boxKinds_box, List.append_nil, List.cons_append, List.nil_append, den_cmp_le, den_cmp_lt, den_cmp_eq, den_cmp_ne, den_cmp_le', den_cmp_lt', den_cmp_eq', den_cmp_ne', den_and, den_and', den_or, den_or', den_not, den_not', den_blit, den_of, ev_var, at_0, at_1, at_2, at_3, at_4, at_5, at_6, at_7, at_skip, c_int, c_bool, c_arr, c_cnt, c_vec, ev_nil, ev_join, ev_sub3, loc_s, int_i, bool_b, rows_s, cs_nil, cs_cons, E.den_lit, E.den_var, E.den_add, E.den_sub, E.den_mul, E.den_quo, E.den_rem, E.den_max, E.den_min, E.den_len, E.den_wr, E.den_cell, h1, ctRCheck, ctOf, ctF]
  intro v sens d _ hsm v' rows d' hty hsm'
  have e1 : ∀ k o, ((C.s v' rows).at k o).int = cell_ (rows.getD k []) o := fun _ _ => rfl
  have e2 : ∀ v k o (l : List (List C)), ((C.s v l).at k o).int = cell_ (l.getD k []) o := fun _ _ _ _ => rfl
  simp only [e2]
  refine ⟨bds_nil _, fun h => by rw [checkV_8 h], fun hl => ?_⟩
  refine ⟨fun xs => match xs with | [_, .i i] => 0 ≤ i ∧ i ≤ rows.length ∧ rows.all (inB sens.length) = (rows.drop i.toNat).all (inB sens.length) | _ => False, fun xs => match xs with | [_, .i i] => ((rows.length : Int) - i).toNat | _ => 0, ⟨by omega, by omega, rfl⟩, ?_⟩
  rintro z _ _ i _ _ ⟨i0, i1, hI⟩
  refine ⟨fun hlt => ⟨i0, hlt, ?_⟩, fun hge => ?_⟩
  · have hz : i.toNat < rows.length := by omega
    rw [all_drop hz] at hI
    have hmu : ((rows.length : Int) - (i + 1)).toNat < ((rows.length : Int) - i).toNat := by omega
    generalize hrow : rows.getD i.toNat [] = row at *
    have bad : ¬ (0 ≤ cell_ row 0 ∧ cell_ row 0 < (sens.length : Int)) → 7 = checkV sens.length rows := fun h => by rw [checkV_7 hl (by rw [hI, inB, decide_eq_false h]; rfl)]
    refine ⟨fun h => by rw [bad (by omega)], fun h0 => ⟨hlt, fun h => by rw [bad (by omega)], fun h2 => ⟨⟨by omega, by omega, ?_⟩, hmu⟩⟩⟩
    rw [hI, inB, decide_eq_true (by omega), Bool.true_and, show (i + 1).toNat = i.toNat + 1 by omega]
  rw [List.drop_eq_nil_of_le (by omega)] at hI
  refine ⟨fun xs => match xs with | [_, .i i] => 0 ≤ i ∧ i ≤ rows.length ∧ rows.all inR = (rows.drop i.toNat).all inR | _ => False, fun xs => match xs with | [_, .i i] => ((rows.length : Int) - i).toNat | _ => 0, ⟨by omega, by omega, rfl⟩, ?_⟩
  rintro z' _ _ j _ _ ⟨j0, j1, hJ⟩
  refine ⟨fun hlt => ⟨j0, hlt, ?_⟩, fun hge => ?_⟩
  · have hz : j.toNat < rows.length := by omega
    rw [all_drop hz] at hJ
    have hmu : ((rows.length : Int) - (j + 1)).toNat < ((rows.length : Int) - j).toNat := by omega
    generalize hrow : rows.getD j.toNat [] = row at *
    have bad : ¬ (0 ≤ cell_ row 1 ∧ cell_ row 1 ≤ 1099511627176 ∧ -1125899906842624 ≤ cell_ row 2 ∧ cell_ row 2 ≤ 1125899906842624) → 2 = checkV sens.length rows := fun h => by rw [checkV_2 hl hI (by rw [hJ, inR, decide_eq_false h]; rfl)]
    refine ⟨fun h => by rw [bad (by omega)], fun h0 => ⟨hlt, fun h => by rw [bad (by omega)], fun h2 => ⟨⟨by omega, by omega, ?_⟩, hmu⟩⟩⟩
    rw [hJ, inR, decide_eq_true (by omega), Bool.true_and, show (j + 1).toNat = j.toNat + 1 by omega]
  rw [List.drop_eq_nil_of_le (by omega)] at hJ
  have hord := ord_all hI
  refine ⟨fun xs => match xs with | [_, .i k] => 0 ≤ k ∧ k ≤ sens.length ∧ ∀ x, 0 ≤ x → x < k → ordL (fltS rows x) = true | _ => False, fun xs => match xs with | [_, .i k] => ((sens.length : Int) - k).toNat | _ => 0, ⟨by omega, by omega, fun x hx hx' => by omega⟩, ?_⟩
  rintro z2 _ _ k _ _ ⟨k0, k1, hK⟩
  refine ⟨fun hlt => ⟨by omega, ?_⟩, fun hge => ?_⟩
  · rintro vo out do_ _ hso rfl
    refine ⟨fun xs => match xs with | [_, .i i] => i ≤ 201 ∧ OrdI (fltS rows k) i | _ => False, fun xs => match xs with | [_, .i i] => (((fltS rows k).length : Int) - i).toNat | _ => 0, ⟨by omega, OrdI.one _⟩, ?_⟩
    have hfl := @fltS_len rows k
    rintro z3 _ _ m _ _ ⟨m0, hM⟩
    refine ⟨fun hml => ?_, fun hml => ?_⟩
    · have m1 := hM.1
      refine ⟨by omega, hml, by omega, by omega, fun hle => ?_, fun hgt => ⟨⟨by omega, hM.next hml hgt⟩, ?_⟩⟩
      · rw [checkV_11 hl hI hJ]
        cases hA : rows.all (fun r => ordL (fltS rows (cell_ r 0))) with
        | false => rfl
        | true => have := hord.1 hA k k0 hlt; rw [hM.bad hml hle] at this; cases this
      · show (((fltS rows k).length : Int) - (m + 1)).toNat < (((fltS rows k).length : Int) - m).toNat
        omega
    · refine ⟨⟨by omega, by omega, fun x hx hx' => ?_⟩, show ((sens.length : Int) - (k + 1)).toNat < ((sens.length : Int) - k).toNat by omega⟩
      rcases Int.lt_or_eq_of_le (show x ≤ k by omega) with h | rfl
      · exact hK x hx h
      · exact hM.end_ hml
  · rw [checkV_0 hl hI hJ (hord.2 fun x hx hx' => hK x hx (by omega))]
end Go.Proofs.Ytlbgcjpkegpmlaa
/- The first alarm: the document's. -/
namespace Go.Proofs.Ytlbgcjpkegpmlaa
open Go.RowKit
set_option linter.unusedSimpArgs false
set_option linter.unusedVariables false

def alarmAt (sens rows : List (List C)) (k : Int) : Option Int := alarmOf (sens.getD k.toNat []) (fltS rows k)
/-- The first alarm among some sensors. -/
def Best (sens rows : List (List C)) (P : Int → Prop) (o : Option (Int × Int)) : Prop := match o with
  | none => ∀ k, P k → alarmAt sens rows k = none
  | some (s, t) => P s ∧ alarmAt sens rows s = some t ∧ ∀ k u, P k → alarmAt sens rows k = some u → t < u ∨ (t = u ∧ s ≤ k)
theorem Best.uniq {sens rows : List (List C)} {P : Int → Prop} {a b : Option (Int × Int)} (ha : Best sens rows P a) (hb : Best sens rows P b) : a = b := by
  cases a with
  | none => cases b with
    | none => rfl
    | some y => have := ha _ hb.1; rw [hb.2.1] at this; cases this
  | some x => cases b with
    | none => have := hb _ ha.1; rw [ha.2.1] at this; cases this
    | some y =>
      obtain ⟨s, t⟩ := x
      obtain ⟨s', t'⟩ := y
      obtain ⟨h1, h2, h3⟩ := ha
      obtain ⟨g1, g2, g3⟩ := hb
      have := h3 _ _ g1 g2
      have := g3 _ _ h1 h2
      rw [show s = s' by omega, show t = t' by omega]
theorem Best.congr {sens rows : List (List C)} {P P' : Int → Prop} {o : Option (Int × Int)} (h : Best sens rows P o) (hP : ∀ k, P k ↔ P' k) : Best sens rows P' o := by
  rw [show P' = P from funext fun k => propext (hP k).symm]; exact h
/-- More sensors, none of which alarms. -/
theorem Best.more {sens rows : List (List C)} {P P' : Int → Prop} {o : Option (Int × Int)} (h : Best sens rows P o) (h1 : ∀ k, P k → P' k) (h2 : ∀ k, P' k → P k ∨ alarmAt sens rows k = none) : Best sens rows P' o := by
  cases o with
  | none => exact fun k hk => (h2 k hk).elim (h k) id
  | some x => exact ⟨h1 _ h.1, h.2.1, fun k u hk hu => (h2 k hk).elim (fun hp => h.2.2 k u hp hu) fun hn => by rw [hn] at hu; cases hu⟩
/-- One sensor more. -/
def better (o : Option (Int × Int)) (k : Int) (a : Option Int) : Option (Int × Int) := match a, o with
  | none, o => o
  | some t, none => some (k, t)
  | some t, some (s, u) => if t < u ∨ (t = u ∧ k < s) then some (k, t) else some (s, u)
theorem Best.add {sens rows : List (List C)} {P : Int → Prop} {o : Option (Int × Int)} (h : Best sens rows P o) (k : Int) : Best sens rows (fun j => j = k ∨ P j) (better o k (alarmAt sens rows k)) := by
  cases ha : alarmAt sens rows k with
  | none => exact h.more (fun j hj => .inr hj) fun j hj => hj.elim (fun e => .inr (by rw [e, ha])) .inl
  | some t =>
    cases o with
    | none =>
      refine ⟨.inl rfl, ha, fun j u hj hu => ?_⟩
      rcases hj with rfl | hj
      · rw [ha] at hu; cases hu; exact .inr ⟨rfl, Int.le_refl _⟩
      · rw [h j hj] at hu; cases hu
    | some x =>
      obtain ⟨s, u⟩ := x
      obtain ⟨h1, h2, h3⟩ := h
      simp only [better]
      split
      · rename_i hc
        refine ⟨.inl rfl, ha, fun j u' hj hu => ?_⟩
        rcases hj with rfl | hj
        · rw [ha] at hu; cases hu; exact .inr ⟨rfl, Int.le_refl _⟩
        · have := h3 j u' hj hu; omega
      · rename_i hc
        refine ⟨.inr h1, h2, fun j u' hj hu => ?_⟩
        rcases hj with rfl | hj
        · rw [ha] at hu; cases hu; omega
        · exact h3 j u' hj hu
theorem watchL_step {sens rows : List (List C)} {k : Nat} : watchL sens rows (k + 1) = match alarmAt sens rows k, watchL sens rows k with
    | some t, some (s, u) => if t < u then some ((k : Int), t) else some (s, u)
    | some t, none => some ((k : Int), t)
    | none, o => o := rfl
theorem watchL_best {sens rows : List (List C)} : ∀ n : Nat, Best sens rows (fun k => 0 ≤ k ∧ k < n) (watchL sens rows n)
  | 0 => fun k hk => by omega
  | k + 1 => by
    have ih := @watchL_best sens rows k
    have e : watchL sens rows (k + 1) = better (watchL sens rows k) k (alarmAt sens rows k) := by
      rw [watchL_step]
      cases alarmAt sens rows k with
      | none => rfl
      | some t =>
        cases hw : watchL sens rows k with
        | none => rfl
        | some x =>
          obtain ⟨s, u⟩ := x
          rw [hw] at ih
          have := ih.1
          simp only [better]
          by_cases ht : t < u
          · rw [if_pos ht, if_pos (.inl ht)]
          · rw [if_neg ht, if_neg (by omega)]
    rw [e]
    exact (ih.add k).congr fun j => by omega
theorem firstE_mem : ∀ {l : List (List C)}, firstE l = 0 → ∀ r ∈ l, sensRow r = 0
  | [], _, r, h => by cases h
  | x :: l, h, r, hr => by
    rw [firstE] at h
    split at h
    · rename_i hx
      rcases List.mem_cons.1 hr with rfl | hr
      · exact hx
      · exact firstE_mem h r hr
    · rename_i hx; exact absurd h hx
theorem sens_at {sens : List (List C)} (h : sensorsE sens = 0) {k : Nat} (hk : k < sens.length) : 0 ≤ cell_ (sens.getD k []) 2 ∧ cell_ (sens.getD k []) 2 ≤ 600 ∧ 1 ≤ cell_ (sens.getD k []) 7 := by
  unfold sensorsE at h
  split at h
  · omega
  split at h
  · omega
  have hr : sensRow (sens.getD k []) = 0 := firstE_mem h _ (by simp [List.getD_eq_getElem?_getD, hk])
  unfold sensRow at hr
  obtain ⟨-, hso⟩ := sensE_iff.1 hr
  unfold SOk at hso
  exact ⟨hso.2.2.1, hso.2.2.2.1, by unfold cell_; omega⟩
theorem fltS_in {rows : List (List C)} {k : Int} (h : rows.all inR = true) : ∀ r ∈ fltS rows k, inR r = true := fun r hr => List.all_eq_true.1 h r (List.mem_filter.1 hr).1
theorem rwatch_ok : tab3.ok 55 := by
  refine Tab.of_ct rfl rfl ⟨_, Try.func55, by decide, rfl⟩ ?_ ctF_det
  refine ct_ok (cx := crwatch) (Tab.cx_ok (all_cons (up3_ok (up_ok rsensors_ok)) (all_cons rchk_ok (all_cons ralarm_ok (all_cons of_ok all_nil))))) Try.func55 (bds := []) (T := trwatch) (by kernel_rfl) ?_
  have h1 : crwatch.ct 86 = some ctOf := rfl
  have h2 : crwatch.ct 43 = some ctSensors := rfl
  have h3 : crwatch.ct 84 = some ctRCheck := rfl
  have h4 : crwatch.ct 85 = some ctAlarms := rfl
  unfold trwatch
  simp only [VC, allC, List.map_cons, List.map_nil, List.length_cons, List.length_nil, List.getElem?_cons_zero, List.getElem?_cons_succ, List.cons.injEq, C.i.injEq, C.b.injEq, and_true, true_and, forall_const, kindsOf_nil, kindsOf_lf, kindsOf_agg, kindsOf_box, boxKinds_nil, boxKinds_lf, boxKinds_agg, boxKinds_box, List.append_nil, List.cons_append, List.nil_append, den_cmp_le, den_cmp_lt, den_cmp_eq, den_cmp_ne, den_cmp_le', den_cmp_lt', den_cmp_eq', den_cmp_ne', den_and, den_and', den_or, den_or', den_not, den_not', den_blit, den_of, ev_var, at_0, at_1, at_2, at_3, at_4, at_5, at_6, at_7, at_skip, c_int, c_bool, c_arr, c_cnt, c_vec, ev_nil, ev_join, ev_sub3, loc_s, int_i, bool_b, rows_s, cs_nil, cs_cons, E.den_lit, E.den_var, E.den_add, E.den_sub, E.den_mul, E.den_quo, E.den_rem, E.den_max, E.den_min, E.den_len, E.den_wr, E.den_cell, h1, h2, h3, h4, ctWatch, ctSensors, ctRCheck, ctOf, ctAlarms, ctF, sensSh]
  intro v sens d _ hsm v' rows d' hty hsm'
  have e2 : ∀ v k o (l : List (List C)), ((C.s v l).at k o).int = cell_ (l.getD k []) o := fun _ _ _ _ => rfl
  simp only [e2]
  refine ⟨bds_nil _, ?_⟩
  rintro e _ _ rfl
  refine ⟨fun h => by unfold watchV; rw [if_neg h], fun hs => ?_⟩
  rintro e _ _ rfl
  refine ⟨fun h => by unfold watchV; rw [if_pos hs, if_neg h], fun hc => ?_⟩
  obtain ⟨hlen, hin, hir, -⟩ := checkV_ok hc
  have hW : watchV sens rows = watchC (watchL sens rows sens.length) := by unfold watchV; rw [if_pos hs, if_pos hc]
  refine ⟨fun xs => match xs with | [.b f, .i k, .i s, .i t] => 0 ≤ k ∧ k ≤ sens.length ∧ watchC (watchL sens rows k.toNat) = [.i s, .i t, .b f, .i 0] | _ => False, fun xs => match xs with | [_, .i k, _, _] => ((sens.length : Int) - k).toNat | _ => 0, ⟨by omega, by omega, rfl⟩, ?_⟩
  rintro f k _ _ s _ _ t _ _ ⟨k0, k1, hI⟩
  refine ⟨fun hlt => ?_, fun hge => ?_⟩
  · have hz : k.toNat < sens.length := by omega
    have hsa := sens_at hs hz
    have hmu : ((sens.length : Int) - (k + 1)).toNat < ((sens.length : Int) - k).toNat := by omega
    have e3 : (k + 1).toNat = k.toNat + 1 := by omega
    have hst := @watchL_step sens rows k.toNat
    rw [← e3] at hst
    rw [show ((k.toNat : Nat) : Int) = k by omega] at hst
    refine ⟨k0, hlt, by omega, ?_⟩
    rintro vo out do_ _ hso rfl
    have hfl := @fltS_len rows k
    refine ⟨⟨by omega, by omega, by omega, by omega, fltS_in hir⟩, ?_⟩
    rintro u _ _ is hal
    have hal' : [C.i u, C.b is] = alarmC (alarmAt sens rows k) := hal
    cases ha : alarmAt sens rows k with
    | none =>
      rw [ha] at hal' hst
      cases hal'
      refine ⟨fun h => (by cases h), fun _ => ⟨⟨by omega, by omega, ?_⟩, hmu⟩⟩
      rw [hst]; exact hI
    | some u' =>
      rw [ha] at hal' hst
      cases hal'
      cases hw : watchL sens rows k.toNat with
      | none =>
        rw [hw] at hst hI
        cases hI
        refine ⟨fun _ => ⟨fun _ => ⟨⟨by omega, by omega, ?_⟩, hmu⟩, fun h => (by cases h)⟩, fun h => (by cases h)⟩
        rw [hst]; rfl
      | some x =>
        obtain ⟨s', t'⟩ := x
        rw [hw] at hst hI
        cases hI
        refine ⟨fun _ => ⟨fun h => (by cases h), fun _ => ⟨fun hl => ⟨⟨by omega, by omega, ?_⟩, hmu⟩, fun hl => ⟨⟨by omega, by omega, ?_⟩, hmu⟩⟩⟩, fun h => (by cases h)⟩
        · rw [hst]; simp only []; rw [if_pos hl]; rfl
        · rw [hst]; simp only []; rw [if_neg (by omega)]; rfl
  · rw [show k.toNat = sens.length by omega] at hI
    rw [hW, hI]
end Go.Proofs.Ytlbgcjpkegpmlaa
/- Samples made of numbers. -/
namespace Go.Proofs.Ytlbgcjpkegpmlaa
open Go.RowKit
set_option linter.unusedSimpArgs false
set_option linter.unusedVariables false

theorem endL_snoc {pe : Int} {row : List C} : ∀ {l : List (List C)} {last : Int}, endL pe last (l ++ [row]) = (cell_ row 1).tdiv pe
  | [], last => rfl
  | x :: l, last => by show endL pe _ (l ++ [row]) = _; exact endL_snoc
theorem possL_snoc {x : SK} {begin se ph : Int} {row : List C} : ∀ {l : List (List C)} {last : Int}, possL x begin se ph last (l ++ [row]) = (possL x begin se ph last l && decide (stepV x begin se ph (endL x.pe last l) row))
  | [], last => by
    show (decide (stepV x begin se ph last row) && true) = (true && decide (stepV x begin se ph last row))
    rw [Bool.and_true, Bool.true_and]
  | y :: l, last => by
    show (decide (stepV x begin se ph last y) && possL x begin se ph _ (l ++ [row])) = _
    rw [possL_snoc]
    show _ = ((decide (stepV x begin se ph last y) && possL x begin se ph _ l) && _)
    rw [Bool.and_assoc]
    rfl
/-- What a channel says, as it is computed. -/
theorem says_up {ch r g n : Int} (hk : KOk r g) (n1 : n ≤ 20000) (hch : ch = 1 ∨ ch = 2) : (0 < n ∨ (n = 0 ∧ ch = 2) → saysV ch r g n = if ch = 1 then n * r + g * (n * (n - 1)).tdiv 2 else r + n * g) ∧ (¬ (0 < n ∨ (n = 0 ∧ ch = 2)) → saysV ch r g n = 0) := by
  refine ⟨fun h => ?_, fun h => ?_⟩
  · obtain ⟨-, -, e, -⟩ := gain_facts hk (show 0 ≤ n by omega) n1
    unfold saysV gainV flowV
    have hc : KOk r g ∧ 0 ≤ n ∧ n ≤ 20000 := ⟨hk, by omega, n1⟩
    simp only [e, if_pos hc]
  · unfold saysV gainV flowV
    by_cases h0 : n < 0
    · have hc : ¬ (KOk r g ∧ 0 ≤ n ∧ n ≤ 20000) := fun h => by omega
      simp only [if_neg hc]
      split <;> rfl
    · have : n = 0 := by omega
      subst this
      have hc : KOk r g ∧ (0 : Int) ≤ 0 ∧ (0 : Int) ≤ 20000 := ⟨hk, by omega, n1⟩
      rw [if_pos (show ch = 1 by omega), if_pos hc]
      simp
theorem samples_ok : tab.ok 27 := by
  refine Tab.of_ct rfl rfl ⟨_, Try.func27, by decide, rfl⟩ ?_ (fun h => by cases h)
  refine ct_ok (cx := csamples) (Tab.cx_ok (all_cons next_ok all_nil)) Try.func27 (bds := [(1, 0, 100000), (3, 1, 2), (4, 1, 60), (6, 0, 15), (7, 1, 1048576), (8, 0, 5), (11, 0, 16777216), (12, 0, 4096), (13, 0, 20000), (14, 0, 20000)]) (T := tsamples) (by kernel_rfl) ?_
  have h1 : csamples.ct 26 = some ctNext := rfl
  unfold tsamples
  simp only [VC, allC, List.map_cons, List.map_nil, List.length_cons, List.length_nil, List.getElem?_cons_zero, List.getElem?_cons_succ, List.cons.injEq, C.i.injEq, C.b.injEq, and_true, true_and, forall_const, kindsOf_nil, kindsOf_lf, kindsOf_agg, kindsOf_box, boxKinds_nil, boxKinds_lf, boxKinds_agg, boxKinds_box, List.append_nil, List.cons_append, List.nil_append, den_cmp_le, den_cmp_lt, den_cmp_eq, den_cmp_ne, den_cmp_le', den_cmp_lt', den_cmp_eq', den_cmp_ne', den_and, den_and', den_or, den_or', den_not, den_not', den_blit, den_of, ev_var, at_0, at_1, at_2, at_3, at_4, at_5, at_6, at_7, at_skip, c_int, c_bool, c_arr, c_cnt, c_vec, ev_nil, ev_join, ev_sub3, loc_s, int_i, bool_b, rows_s, cs_nil, cs_cons, E.den_lit, E.den_var, E.den_add, E.den_sub, E.den_mul, E.den_quo, E.den_rem, E.den_max, E.den_min, E.den_len, E.den_wr, E.den_cell, h1, ctSamples, ctNext, kickSh, sensSh, ringSh]
  intro v rows d _ hsm at0 _ _ se _ _ ch _ _ pe _ _ de _ _ no _ _ st _ _ lo _ _ li _ _ ho _ _ r _ _ g _ _ begin _ _ last _ _ hp
  obtain ⟨a0, a1, ⟨hs, hk⟩, b0, b1, l0, l1⟩ := hp
  obtain ⟨hch, hso⟩ := sensE_iff.1 hs
  simp only [] at hch hso hk
  unfold SOk at hso
  refine ⟨?_, by omega, ?_⟩
  · unfold KOk at hk
    intro x lo' hi' hm
    simp only [List.mem_cons, List.not_mem_nil, or_false, Prod.mk.injEq] at hm
    rcases hm with ⟨rfl, rfl, rfl⟩ | ⟨rfl, rfl, rfl⟩ | ⟨rfl, rfl, rfl⟩ | ⟨rfl, rfl, rfl⟩ | ⟨rfl, rfl, rfl⟩ | ⟨rfl, rfl, rfl⟩ | ⟨rfl, rfl, rfl⟩ | ⟨rfl, rfl, rfl⟩ | ⟨rfl, rfl, rfl⟩ | ⟨rfl, rfl, rfl⟩ <;> simp only [at_1, at_3, at_4, at_6, at_7, at_skip, at_0, at_5, int_i, List.length_cons, List.length_nil] <;> first | omega | (refine ⟨by omega, ?_⟩; trace_state; omega)
  rintro ph _ _ v0 rows0 d0 _ _ at1 _ _ ⟨p0, p1, rfl, rfl, rfl⟩
  have hX : SKOk ⟨ch, pe, de, no, st, lo, li, ho, r, g⟩ := ⟨hs, hk⟩
  unfold tsamples_3
  simp only [VC, allC, List.map_cons, List.map_nil, List.length_cons, List.length_nil, List.getElem?_cons_zero, List.getElem?_cons_succ, List.cons.injEq, C.i.injEq, C.b.injEq, and_true, true_and, forall_const, kindsOf_nil, kindsOf_lf, kindsOf_agg, kindsOf_box, boxKinds_nil, boxKinds_lf, boxKinds_agg, boxKinds_box, List.append_nil, List.cons_append, List.nil_append, den_cmp_le, den_cmp_lt, den_cmp_eq, den_cmp_ne, den_cmp_le', den_cmp_lt', den_cmp_eq', den_cmp_ne', den_and, den_and', den_or, den_or', den_not, den_not', den_blit, den_of, ev_var, at_0, at_1, at_2, at_3, at_4, at_5, at_6, at_7, at_skip, c_int, c_bool, c_arr, c_cnt, c_vec, ev_nil, ev_join, ev_sub3, loc_s, int_i, bool_b, rows_s, cs_nil, cs_cons, E.den_lit, E.den_var, E.den_add, E.den_sub, E.den_mul, E.den_quo, E.den_rem, E.den_max, E.den_min, E.den_len, E.den_wr, E.den_cell, h1, ctSamples, ctNext, kickSh, sensSh, ringSh]
  have sn := fun l row => @possL_snoc ⟨ch, pe, de, no, st, lo, li, ho, r, g⟩ begin se ph row l (-1)
  have hst : ∀ z row, stepV ⟨ch, pe, de, no, st, lo, li, ho, r, g⟩ begin se ph z row ↔ 0 ≤ cell_ row 1 ∧ cell_ row 1 ≤ 40000 ∧ cell_ row 0 = se ∧ (cell_ row 1).tmod pe = ph ∧ 1 ≤ (cell_ row 1).tdiv pe - z ∧ (cell_ row 1).tdiv pe - z ≤ lo + 1 ∧ measV no st ch r g (cell_ row 1 - begin) (cell_ row 2) := fun z row => Iff.rfl
  have epe : (SK.mk ch pe de no st lo li ho r g).pe = pe := rfl
  have elo : (SK.mk ch pe de no st lo li ho r g).lo = lo := rfl
  generalize hXe : SK.mk ch pe de no st lo li ho r g = X at *
  have fin : ∀ (out : List (List C)) (left t n at' : Int), out.length ≤ 190 → 0 ≤ left → left ≤ lo → t = ph + n * pe → n = endL pe (-1) out + 1 + (lo - left) → possL X begin se ph (-1) out = true → (∀ row ∈ out, cell_ row 1 ≤ last) → at0 + 1 ≤ at' → at' ≤ at0 + 1 + 3 * n → n ≤ last + 1 → (last < t ∨ 190 ≤ out.length) → SampsOf X begin se last out ∧ at0 ≤ at' ∧ at' ≤ at0 + 4 + 3 * last := fun out left t n at' g1 g2 g3 g4 g5 g6 g7 g8 g9 g10 g11 => by
    refine ⟨⟨g1, ph, p0, by rw [epe]; exact p1, g6, g7, fun hlt => ?_⟩, by omega, by omega⟩
    have g12 : last < t := by omega
    have : n * pe ≤ (endL pe (-1) out + 1 + lo) * pe := Int.mul_le_mul_of_nonneg_right (by omega) (by omega)
    rw [epe, elo]
    omega
  refine ⟨fun xs => match xs with | [.s _ out, .i left, .i t, .s rv rr, .i at'] => rv = v0 ∧ rr = rows0 ∧ out.length ≤ 190 ∧ 0 ≤ left ∧ left ≤ lo ∧ ∃ n, 0 ≤ n ∧ n ≤ last + 1 ∧ t = ph + n * pe ∧ t ≤ last + 60 ∧ n = endL pe (-1) out + 1 + (lo - left) ∧ possL X begin se ph (-1) out = true ∧ (∀ row ∈ out, cell_ row 1 ≤ last) ∧ at0 + 1 ≤ at' ∧ at' ≤ at0 + 1 + 3 * n | _ => False, fun xs => match xs with | [_, _, .i t, _, _] => (last + 60 - t).toNat | _ => 0, ?_, ?_⟩
  · refine ⟨rfl, rfl, by simp, by omega, by omega, 0, by omega, by omega, by omega, by omega, ?_⟩
    exact ⟨by show (0 : Int) = -1 + 1 + (lo - lo); omega, rfl, fun row hr => (by cases hr), by omega, by omega⟩
  rintro vo out do_ _ _ left _ _ t _ _ rv rr dr _ _ at' _ _ ⟨rfl, rfl, o1, f0, f1, n, n0, n1, ht, t1, hn, hps, hall, c0, c1⟩
  have npe : n ≤ n * pe := by
    have := Int.mul_le_mul_of_nonneg_left (show 1 ≤ pe by omega) n0
    omega
  refine ⟨fun hle => ⟨fun hlt => ?_, fun hge => ?_⟩, fun hgt => ?_⟩
  rotate_left
  · obtain ⟨k1, k2, k3⟩ := fin out left t n at' o1 f0 f1 ht hn hps hall c0 c1 n1 (.inr (by omega))
    exact ⟨k1, rfl, rfl, k2, k3⟩
  · obtain ⟨k1, k2, k3⟩ := fin out left t n at' o1 f0 f1 ht hn hps hall c0 c1 n1 (.inl (by omega))
    exact ⟨k1, rfl, rfl, k2, k3⟩
  have nl : n ≤ last := by omega
  refine ⟨fun xs => match xs with | [.b sk, .s rv' rr', .i at2] => rv' = rv ∧ rr' = rr ∧ at' ≤ at2 ∧ at2 ≤ at' + 1 ∧ (sk = true → 0 < left) | _ => False, ⟨fun hl => ⟨by omega, ?_⟩, fun hl => ⟨rfl, rfl, by omega, by omega, fun h => by cases h⟩⟩, ?_⟩
  · rintro x _ _ v1 rows1 d1 _ _ at2 _ _ ⟨x0, x1, rfl, rfl, rfl⟩
    exact ⟨rfl, rfl, by omega, by omega, fun _ => hl⟩
  rintro sk v1 rows1 d1 _ _ at2 _ _ ⟨rfl, rfl, c2, c3, hsk⟩
  have tnext : t + pe = ph + (n + 1) * pe := by rw [ht, Int.add_mul]; omega
  have mu : (last + 60 - (t + pe)).toNat < (last + 60 - t).toNat := by omega
  refine ⟨fun h => ?_, fun h => ?_⟩
  · have hl := hsk h
    exact ⟨by omega, by omega, ⟨rfl, rfl, o1, by omega, by omega, n + 1, by omega, by omega, tnext, by omega, by omega, hps, hall, by omega, by omega⟩, mu⟩
  refine ⟨by omega, ?_⟩
  have hn2 : t - begin ≤ 20000 := by omega
  obtain ⟨u1, u2⟩ := says_up (ch := ch) hk hn2 hch
  have sb := @saysV_bd ch r g (t - begin)
  refine ⟨fun xs => match xs with | [.b b] => (b = true ↔ (0 < t - begin ∨ (t - begin = 0 ∧ ch = 2))) | _ => False, ⟨fun h => ⟨fun _ => .inl h, fun _ => rfl⟩, fun h => ⟨fun h' => ?_, fun h' => ⟨fun h => (by cases h), fun h => by omega⟩⟩⟩, ?_⟩
  · show (B.den _ (.cmp .eq (.var 3) (.lit 2)) = true ↔ _)
    rw [den_cmp_eq]
    show (ch = 2 ↔ _)
    omega
  rintro b hb
  refine ⟨fun xs => match xs with | [.i v] => v = saysV ch r g (t - begin) | _ => False, ⟨fun h => ?_, fun h => ?_⟩, ?_⟩
  · have hc := hb.1 h
    have u1 := u1 hc
    obtain ⟨k1, k2, k3, k4, k5⟩ := gain_facts hk (show 0 ≤ t - begin by omega) hn2
    unfold KOk at hk
    have k6 := mul_bd (a := t - begin) (b := g) (A := 20000) (B := 4096) (by omega) (by omega) (by omega) (by omega)
    rw [← k3] at k4 k5
    refine ⟨by omega, by omega, fun h1 => ?_, fun h1 => ?_⟩
    · repeat (refine And.intro (by omega) ?_)
      rw [u1, if_pos h1]
    · refine ⟨by omega, ?_⟩
      rw [u1, if_neg h1]
  · exact (u2 fun h' => by rw [hb.2 h'] at h; cases h).symm
  rintro w _ _ hw
  refine ⟨by omega, ?_⟩
  rintro e0 _ _ v1 rows1 d1 _ _ at3 _ _ ⟨e1, e2, rfl, rfl, rfl⟩
  unfold tsamples_2
  simp only [VC, allC, List.map_cons, List.map_nil, List.length_cons, List.length_nil, List.getElem?_cons_zero, List.getElem?_cons_succ, List.cons.injEq, C.i.injEq, C.b.injEq, and_true, true_and, forall_const, kindsOf_nil, kindsOf_lf, kindsOf_agg, kindsOf_box, boxKinds_nil, boxKinds_lf, boxKinds_agg, boxKinds_box, List.append_nil, List.cons_append, List.nil_append, den_cmp_le, den_cmp_lt, den_cmp_eq, den_cmp_ne, den_cmp_le', den_cmp_lt', den_cmp_eq', den_cmp_ne', den_and, den_and', den_or, den_or', den_not, den_not', den_blit, den_of, ev_var, at_0, at_1, at_2, at_3, at_4, at_5, at_6, at_7, at_skip, c_int, c_bool, c_arr, c_cnt, c_vec, ev_nil, ev_join, ev_sub3, loc_s, int_i, bool_b, rows_s, cs_nil, cs_cons, E.den_lit, E.den_var, E.den_add, E.den_sub, E.den_mul, E.den_quo, E.den_rem, E.den_max, E.den_min, E.den_len, E.den_wr, E.den_cell, h1, ctNext, ringSh]
  refine ⟨by omega, by omega, ?_⟩
  rintro f0 _ _ v1 rows1 d1 _ _ at4 _ _ ⟨f1', f2', rfl, rfl, rfl⟩
  unfold tsamples_1
  simp only [VC, allC, List.map_cons, List.map_nil, List.length_cons, List.length_nil, List.getElem?_cons_zero, List.getElem?_cons_succ, List.cons.injEq, C.i.injEq, C.b.injEq, and_true, true_and, forall_const, kindsOf_nil, kindsOf_lf, kindsOf_agg, kindsOf_box, boxKinds_nil, boxKinds_lf, boxKinds_agg, boxKinds_box, List.append_nil, List.cons_append, List.nil_append, den_cmp_le, den_cmp_lt, den_cmp_eq, den_cmp_ne, den_cmp_le', den_cmp_lt', den_cmp_eq', den_cmp_ne', den_and, den_and', den_or, den_or', den_not, den_not', den_blit, den_of, ev_var, at_0, at_1, at_2, at_3, at_4, at_5, at_6, at_7, at_skip, c_int, c_bool, c_arr, c_cnt, c_vec, ev_nil, ev_join, ev_sub3, loc_s, int_i, bool_b, rows_s, cs_nil, cs_cons, E.den_lit, E.den_var, E.den_add, E.den_sub, E.den_mul, E.den_quo, E.den_rem, E.den_max, E.den_min, E.den_len, E.den_wr, E.den_cell]
  refine ⟨fun xs => match xs with | [.i e] => -no ≤ e ∧ e ≤ no | _ => False, ⟨fun _ => ⟨by omega, by omega⟩, fun _ => ⟨by omega, by omega, by omega⟩⟩, ?_⟩
  rintro e _ _ ⟨g1, g2⟩
  have es := mul_abs (a := e) (b := st) (A := 15) (B := 1048576) (by omega) (by omega) (by omega) (by omega)
  have hm := meas_of (ch := ch) (r := r) (g := g) (no := no) (e := e) (st := st) (n := t - begin) (by omega) hn2 g1 g2
  rw [← hw] at hm sb
  have tm : t.tmod pe = ph ∧ t.tdiv pe = n := by
    rw [Int.tmod_eq_emod_of_nonneg (by omega), Int.tdiv_eq_ediv_of_nonneg (by omega), ht]
    exact ⟨by rw [Int.add_mul_emod_self_right, Int.emod_eq_of_lt p0 p1], by rw [Int.add_mul_ediv_right _ _ (by omega), Int.ediv_eq_zero_of_lt p0 p1, Int.zero_add]⟩
  refine ⟨by omega, by omega, by omega, by simp; omega, ⟨by simp; omega, by omega, by omega, n + 1, by omega, by omega, tnext, by omega, ?_, ?_, ?_, by omega, by omega⟩, mu⟩
  · rw [endL_snoc]
    show n + 1 = t.tdiv pe + 1 + (lo - lo)
    omega
  · rw [sn, hps, epe, Bool.true_and]
    refine decide_eq_true ((hst _ _).2 ⟨by show 0 ≤ t; omega, by show t ≤ 40000; omega, rfl, tm.1, ?_, ?_, hm⟩)
    · show 1 ≤ t.tdiv pe - _
      omega
    · show t.tdiv pe - _ ≤ lo + 1
      omega
  · intro row hr
    rcases List.mem_append.1 hr with hr | hr
    · exact hall row hr
    · simp at hr; subst hr; exact hle
end Go.Proofs.Ytlbgcjpkegpmlaa
/- Alarms do not hang on what comes later, nor on the order among sensors. -/
namespace Go.Proofs.Ytlbgcjpkegpmlaa
open Go.RowKit
set_option linter.unusedSimpArgs false
set_option linter.unusedVariables false

theorem possL_ord {x : SK} {begin se ph : Int} (hp : 1 ≤ x.pe) : ∀ {rows : List (List C)} {last t : Int}, possL x begin se ph last rows = true → (∀ u, 0 ≤ u → last + 1 ≤ u.tdiv x.pe → t < u) → ordFrom t rows = true
  | [], _, _, _, _ => rfl
  | row :: l, last, t, h, ht => by
    rw [possL, Bool.and_eq_true, decide_eq_true_eq] at h
    obtain ⟨⟨h1, h2, h3, h4, h5, h6, h7⟩, hl⟩ := h
    rw [ordFrom, Bool.and_eq_true, decide_eq_true_eq]
    refine ⟨ht _ h1 (by omega), possL_ord hp hl fun u hu hle => ?_⟩
    by_cases h : cell_ row 1 < u
    · exact h
    · rw [Int.tdiv_eq_ediv_of_nonneg hu, Int.tdiv_eq_ediv_of_nonneg h1] at hle
      have := Int.ediv_le_ediv (show 0 < x.pe by omega) (show u ≤ cell_ row 1 by omega)
      omega
theorem meas_bd {no st ch r g n v : Int} (h : measV no st ch r g n v) (s0 : 1 ≤ st) (s1 : st ≤ 1048576) (o0 : 0 ≤ no) (o1 : no ≤ 15) : -1125899906842624 ≤ v ∧ v ≤ 1125899906842624 := by
  have e := meas_eq h
  have b := @saysV_bd ch r g n
  obtain ⟨-, -, h1, h2⟩ := h
  generalize (v - saysV ch r g n).tdiv st = q at *
  rcases Int.le_total 0 q with hq | hq
  · have := mul_bd (a := q) (b := st) (A := 15) (B := 1048576) (by omega) (by omega) (by omega) (by omega)
    omega
  · have := mul_bd (a := -q) (b := st) (A := 15) (B := 1048576) (by omega) (by omega) (by omega) (by omega)
    rw [Int.neg_mul] at this
    omega
theorem possL_rows {x : SK} {begin se ph : Int} (hx : SKOk x) : ∀ {rows : List (List C)} {last : Int}, possL x begin se ph last rows = true → ∀ row ∈ rows, cell_ row 0 = se ∧ 0 ≤ cell_ row 1 ∧ cell_ row 1 ≤ 40000 ∧ -1125899906842624 ≤ cell_ row 2 ∧ cell_ row 2 ≤ 1125899906842624
  | [], _, _, _, h => by cases h
  | row :: l, last, h, r, hr => by
    rw [possL, Bool.and_eq_true, decide_eq_true_eq] at h
    obtain ⟨⟨h1, h2, h3, h4, h5, h6, h7⟩, hl⟩ := h
    rcases List.mem_cons.1 hr with rfl | hr
    · obtain ⟨-, hso⟩ := sensE_iff.1 hx.1
      unfold SOk at hso
      have := meas_bd h7 (by omega) (by omega) (by omega) (by omega)
      exact ⟨h3, h1, h2, this⟩
    · exact possL_rows hx hl r hr
theorem ordFrom_len {T : Int} : ∀ {rows : List (List C)} {t : Int}, ordFrom t rows = true → (∀ r ∈ rows, cell_ r 1 ≤ T) → t ≤ T → (rows.length : Int) ≤ T - t
  | [], t, _, _, h => by simp; omega
  | r :: l, t, h, hT, ht => by
    rw [ordFrom, Bool.and_eq_true, decide_eq_true_eq] at h
    have := ordFrom_len h.2 (fun x hx => hT x (List.mem_cons_of_mem _ hx)) (hT r (List.mem_cons_self ..))
    simp
    omega
theorem ordFrom_L {t : Int} : ∀ {rows : List (List C)}, ordFrom t rows = true → ordL rows = true
  | [], _ => rfl
  | r :: l, h => by rw [ordFrom, Bool.and_eq_true] at h; exact h.2
theorem ordL_from : ∀ {rows : List (List C)}, ordL rows = true → ∃ t, ordFrom t rows = true
  | [], _ => ⟨0, rfl⟩
  | r :: l, h => ⟨cell_ r 1 - 1, by rw [ordFrom, Bool.and_eq_true, decide_eq_true_eq]; exact ⟨by omega, h⟩⟩
theorem ordFrom_weak {t t' : Int} (h : t ≤ t') : ∀ {rows : List (List C)}, ordFrom t' rows = true → ordFrom t rows = true
  | [], _ => rfl
  | r :: l, hr => by
    rw [ordFrom, Bool.and_eq_true, decide_eq_true_eq] at hr ⊢
    exact ⟨by omega, hr.2⟩
theorem ordFrom_filter {p : List C → Bool} : ∀ {rows : List (List C)} {t : Int}, ordFrom t rows = true → ordFrom t (rows.filter p) = true
  | [], _, _ => rfl
  | r :: l, t, h => by
    rw [ordFrom, Bool.and_eq_true, decide_eq_true_eq] at h
    rw [List.filter_cons]
    split
    · rw [ordFrom, Bool.and_eq_true, decide_eq_true_eq]
      exact ⟨h.1, ordFrom_filter h.2⟩
    · exact ordFrom_weak (by omega) (ordFrom_filter h.2)
theorem ordL_filter {p : List C → Bool} {rows : List (List C)} (h : ordL rows = true) : ordL (rows.filter p) = true := by
  obtain ⟨t, ht⟩ := ordL_from h
  exact ordFrom_L (ordFrom_filter ht)
theorem fltS_app {a b : List (List C)} {k : Int} : fltS (a ++ b) k = fltS a k ++ fltS b k := List.filter_append _ _
theorem fltS_self {a : List (List C)} {k : Int} (h : ∀ r ∈ a, cell_ r 0 = k) : fltS a k = a := List.filter_eq_self.2 fun r hr => by simpa using h r hr
theorem fltS_filter {p : List C → Bool} {a : List (List C)} {k : Int} : fltS (a.filter p) k = (fltS a k).filter p := by
  unfold fltS
  rw [List.filter_filter, List.filter_filter]
  congr 1
  funext r
  exact Bool.and_comm _ _
theorem checkV_filter {n : Int} {p : List C → Bool} {rows : List (List C)} (h : checkV n rows = 0) : checkV n (rows.filter p) = 0 := by
  obtain ⟨h1, h2, h3, h4⟩ := checkV_ok h
  have hle := List.length_filter_le p rows
  have hall : ∀ {f : List C → Bool}, rows.all f = true → (rows.filter p).all f = true := fun hf => List.all_eq_true.2 fun r hr => List.all_eq_true.1 hf r (List.mem_filter.1 hr).1
  have h2' := hall h2
  refine checkV_0 (by omega) h2' (hall h3) ((ord_all h2').2 fun k k0 k1 => ?_)
  rw [fltS_filter]
  exact ordL_filter ((ord_all h2).1 h4 k k0 k1)
theorem alarm_late {li ho de : Int} : ∀ {l : List (List C)} {n t0 t : Int}, ordFrom t0 l = true → alarmL li ho de n l = some t → t0 + de < t
  | [], _, _, _, _, h => by cases h
  | r :: l, n, t0, t, hr, h => by
    rw [ordFrom, Bool.and_eq_true, decide_eq_true_eq] at hr
    rw [alarmL] at h
    generalize (if cell_ r 2 < li then (0 : Int) else n + 1) = m at h
    by_cases hm : m = ho
    · rw [if_pos hm] at h; cases h; omega
    · rw [if_neg hm] at h
      have := alarm_late hr.2 h
      omega
theorem filter_late {de T : Int} : ∀ {l : List (List C)} {t0 : Int}, ordFrom t0 l = true → T < t0 + de → l.filter (fun r => decide (cell_ r 1 + de ≤ T)) = []
  | [], _, _, _ => rfl
  | r :: l, t0, h, hT => by
    rw [ordFrom, Bool.and_eq_true, decide_eq_true_eq] at h
    rw [List.filter_cons, decide_eq_false (by omega)]
    exact filter_late h.2 (by omega)
theorem alarm_cut {li ho de T : Int} : ∀ {l : List (List C)} {n t0 : Int}, ordFrom t0 l = true → ∀ t, alarmL li ho de n (l.filter fun r => decide (cell_ r 1 + de ≤ T)) = some t ↔ alarmL li ho de n l = some t ∧ t ≤ T
  | [], n, t0, _, t => by simp [alarmL]
  | r :: l, n, t0, h, t => by
    rw [ordFrom, Bool.and_eq_true, decide_eq_true_eq] at h
    by_cases hp : cell_ r 1 + de ≤ T
    · rw [List.filter_cons, decide_eq_true hp, if_pos rfl, alarmL, alarmL]
      generalize (if cell_ r 2 < li then (0 : Int) else n + 1) = m
      by_cases hm : m = ho
      · rw [if_pos hm, if_pos hm]
        constructor
        · intro e; refine ⟨e, ?_⟩; cases e; omega
        · exact fun e => e.1
      · rw [if_neg hm, if_neg hm]
        exact alarm_cut h.2 t
    · rw [List.filter_cons, decide_eq_false hp, if_neg (by simp), filter_late h.2 (by omega)]
      constructor
      · intro e; cases e
      · rintro ⟨e, ht⟩
        exfalso
        rw [alarmL] at e
        generalize (if cell_ r 2 < li then (0 : Int) else n + 1) = m at e
        by_cases hm : m = ho
        · rw [if_pos hm] at e; cases e; omega
        · rw [if_neg hm] at e
          have := alarm_late h.2 e
          omega
/-- What may matter up to a tick. -/
def upTo (sens : List (List C)) (T : Int) (r : List C) : Bool := decide (cell_ r 1 + cell_ (sens.getD (cell_ r 0).toNat []) 2 ≤ T)
theorem alarmAt_cut {sens rows : List (List C)} {T k : Int} (h : ordL (fltS rows k) = true) (t : Int) : alarmAt sens (rows.filter (upTo sens T)) k = some t ↔ alarmAt sens rows k = some t ∧ t ≤ T := by
  unfold alarmAt alarmOf
  rw [fltS_filter]
  obtain ⟨t0, ht0⟩ := ordL_from h
  have e : (fltS rows k).filter (upTo sens T) = (fltS rows k).filter fun r => decide (cell_ r 1 + cell_ (sens.getD k.toNat []) 2 ≤ T) := by
    refine List.filter_congr fun r hr => ?_
    have : cell_ r 0 = k := by have := (List.mem_filter.1 hr).2; simpa using this
    unfold upTo
    rw [this]
  rw [e]
  exact alarm_cut ht0 t
theorem watch_cut {sens rows : List (List C)} {n : Nat} {s T : Int} (h : ∀ k, 0 ≤ k → k < (n : Int) → ordL (fltS rows k) = true) (hw : watchL sens rows n = some (s, T)) : watchL sens (rows.filter (upTo sens T)) n = some (s, T) := by
  have hb := @watchL_best sens rows n
  rw [hw] at hb
  obtain ⟨h1, h2, h3⟩ := hb
  refine Best.uniq (watchL_best n) ⟨h1, (alarmAt_cut (h s h1.1 h1.2) T).2 ⟨h2, Int.le_refl _⟩, fun k u hk hu => h3 k u hk ((alarmAt_cut (h k hk.1 hk.2) u).1 hu).1⟩
theorem watch_same {sens rows rows' : List (List C)} : ∀ {n : Nat}, (∀ k, 0 ≤ k → k < (n : Int) → fltS rows k = fltS rows' k) → watchL sens rows n = watchL sens rows' n
  | 0, _ => rfl
  | n + 1, h => by
    rw [watchL, watchL, h n (by omega) (by omega), watch_same fun k h0 h1 => h k h0 (by omega)]
theorem sok_of {a b c d e f g h r k : Int} (sg : SensGood a b c d e f g h) (hk : KOk r k) : SKOk ⟨a, b, c, d, e, f, g, h, r, k⟩ := by
  unfold SensGood at sg
  exact ⟨show sensE a b c d e f g h = 0 from sensE_yes (by omega) (by unfold SOk; omega), hk⟩
theorem two_sens {r r' : List C} (h : sensRow r = 0) (h' : sensRow r' = 0) : sensorsE [r, r'] = 0 := by simp [sensorsE, firstE, h, h']
/-- Samples of one sensor, in order, few. -/
structure Good (se : Int) (a : List (List C)) : Prop where
  se : ∀ r ∈ a, cell_ r 0 = se
  inr : ∀ r ∈ a, inR r = true
  ord : ordFrom (-1) a = true
  len : a.length ≤ 91
theorem SampsOf.good {x : SK} {begin se : Int} {a : List (List C)} (hx : SKOk x) (h : SampsOf x begin se 90 a) : Good se a := by
  obtain ⟨h1, ph, h2, h3, h4, h5, -⟩ := h
  obtain ⟨-, hso⟩ := sensE_iff.1 hx.1
  unfold SOk at hso
  have hr := possL_rows hx h4
  have ho : ordFrom (-1) a = true := possL_ord (by omega) h4 fun u hu _ => by omega
  refine ⟨fun r hr' => (hr r hr').1, fun r hr' => ?_, ho, ?_⟩
  · have := hr r hr'
    unfold inR
    exact decide_eq_true (by omega)
  · have := ordFrom_len ho h5 (by omega)
    omega
theorem two_check {a b : List (List C)} (ha : Good 0 a) (hb : Good 1 b) : checkV 2 (a ++ b) = 0 ∧ checkV 2 (b ++ a) = 0 ∧ ∀ k, 0 ≤ k → k < 2 → fltS (a ++ b) k = fltS (b ++ a) k ∧ ordL (fltS (a ++ b) k) = true := by
  have e : ∀ k, 0 ≤ k → k < 2 → fltS (a ++ b) k = fltS (b ++ a) k ∧ ordL (fltS (a ++ b) k) = true := fun k k0 k1 => by
    rw [fltS_app, fltS_app]
    rcases (show k = 0 ∨ k = 1 by omega) with rfl | rfl
    · rw [fltS_self ha.se, fltS_none (rows := b) (k := 0) fun r hr => by rw [hb.se r hr]; decide]
      simp [ordFrom_L ha.ord]
    · rw [fltS_self hb.se, fltS_none (rows := a) (k := 1) fun r hr => by rw [ha.se r hr]; decide]
      simp [ordFrom_L hb.ord]
  have hin : ∀ l : List (List C), (∀ r ∈ l, r ∈ a ∨ r ∈ b) → l.all (inB 2) = true ∧ l.all inR = true := fun l hl => ⟨List.all_eq_true.2 fun r hr => by
      unfold inB
      rcases hl r hr with h | h
      · rw [ha.se r h]; rfl
      · rw [hb.se r h]; rfl, List.all_eq_true.2 fun r hr => (hl r hr).elim (ha.inr r) (hb.inr r)⟩
  have hl := ha.len
  have hl2 := hb.len
  obtain ⟨i1, i2⟩ := hin (a ++ b) fun r hr => List.mem_append.1 hr
  obtain ⟨j1, j2⟩ := hin (b ++ a) fun r hr => (List.mem_append.1 hr).symm
  exact ⟨checkV_0 (by simp; omega) i1 i2 ((ord_all i1).2 fun k k0 k1 => (e k k0 k1).2), checkV_0 (by simp; omega) j1 j2 ((ord_all j1).2 fun k k0 k1 => by rw [← (e k k0 k1).1]; exact (e k k0 k1).2), e⟩
theorem filter_take {p : List C → Bool} {rows : List (List C)} {i : Nat} (h : i < rows.length) : (rows.take (i + 1)).filter p = (rows.take i).filter p ++ (if p (rows.getD i []) then [rows.getD i []] else []) := by
  rw [List.take_succ_eq_append_getElem h, show rows[i] = rows.getD i [] from by simp [List.getD_eq_getElem?_getD, h], List.filter_append, List.filter_cons]
  rfl
end Go.Proofs.Ytlbgcjpkegpmlaa
/- Codes in parts, by the executor and by hand. -/
namespace Go.Proofs.Ytlbgcjpkegpmlaa
open Go.RowKit
set_option linter.unusedSimpArgs false
set_option linter.unusedVariables false

/-- The way to a part of a code. -/
def nav : List Nat → Code → Code
  | [], c => c
  | n :: l, .seq a b => if n = 0 then nav l a else nav l b
  | n :: l, .cond _ a b => if n = 0 then nav l a else nav l b
  | _ :: l, .block _ c => nav l c
  | _ :: l, .loop c => nav l c
  | _, c => c
def bodyOf (f : Func) : Code := f.body.getD .skip
/-- The first parts, one behind another, and what follows. -/
def heads : Nat → Code → List Code
  | n + 1, .seq a b => a :: heads n b
  | _, _ => []
def pre : List Code → Code → Code
  | [], c => c
  | a :: l, c => .seq a (pre l c)
def execL (cx : Cx) : List Code → St → (Ex → St → Option Tree) → Option Tree
  | [], st, k => k .nrm st
  | a :: l, st, k => exec cx a st fun x st' => match x with
    | .nrm => execL cx l st' k
    | x => k x st'
theorem pre_sound {cx : Cx} {R : List C → Prop} {F : Nat → Prop} {w0 : World} (hcx : CxOK cx) : ∀ (l : List Code) (st : St) (k : Ex → St → Option Tree) (T : Tree), execL cx l st k = some T →
    ∀ (Γ : Env) (Ls : List (List C → Prop)) (c : Code) (Q : Exit → Act → World → Prop), KOK cx R F w0 k Γ Ls (Exit.then (c.wp cx.P Q) Q) → Ls.length = st.lvl → VC cx R T Γ.ρ Ls → ∀ a w, Sat cx.P F w0 Γ st a w → (pre l c).wp cx.P Q a w
  | [], st, k, T, h, Γ, Ls, c, Q, hk, hl, hv, a, w, hs => hk .nrm st T Γ Ls h (Ext.refl _) (List.prefix_refl _) hl hv a w hs
  | b :: l, st, k, T, h, Γ, Ls, c, Q, hk, hl, hv, a, w, hs => by
    refine wp_seq (exec_sound (R := R) (F := F) (w0 := w0) hcx b st _ T h Γ Ls _ ?_ hl hv a w hs)
    intro x st' T' Γ' Ls' hk' he hl' hlen hv' a' w' hs'
    cases x with
    | nrm => exact pre_sound hcx l st' k T' hk' Γ' Ls' c Q (hk.mono he hl') hlen hv' a' w' hs'
    | ret => exact hk .ret st' T' Γ' Ls' hk' he hl' hlen hv' a' w' hs'
    | ext i => exact hk (.ext i) st' T' Γ' Ls' hk' he hl' hlen hv' a' w' hs'
theorem join_KOK {cx : Cx} {R : List C → Prop} {F : Nat → Prop} {w0 : World} {st st1 : St} {ps : List Pl} {ks : List Lk} {k : Ex → St → Option Tree} (hok : joinOk st st1 ps ks = true)
    {Γ : Env} {Ls : List (List C → Prop)} (hl : Ls.length = st.lvl) {I : List C → Prop} {a : Act} {w : World} (hs : Sat cx.P F w0 Γ st a w) {Q : Exit → Act → World → Prop}
    (hn : ∀ xs Γx a' w', CTy cx.P ks xs → I xs → Γx.ρ = Γ.ρ ++ xs → Ext Γ Γx → Sat cx.P F w0 Γx st1 a' w' → Q .normal a' w')
    (hk : ∀ x st' T' Γ' Ls', x ≠ .nrm → k x st' = some T' → Ext Γ Γ' → Ls'.length = st'.lvl → VC cx R T' Γ'.ρ Ls' → ∀ a w, Sat cx.P F w0 Γ' st' a w → Q x.out a w) : KOK cx R F w0 (joinK st st1 ps ks k) Γ (Ls ++ [I]) Q := by
  obtain ⟨c2, c4, c5, c6, c7, c8⟩ := joinOk_spec hok
  have hlen : Γ.ρ.length = st.nx := hs.len
  have hnum1 : Num st1.bds Γ.ρ := by rw [c7]; exact hs.num
  intro e st' T' Γ' Ls' hk' he' hl' hlen' hv' a' w' hs'
  cases e with
  | ext i => exact hk (.ext i) st' T' Γ' Ls' (by intro h; cases h) hk' he' hlen' hv' a' w' hs'
  | ret => exact hk .ret st' T' Γ' Ls' (by intro h; cases h) hk' he' hlen' hv' a' w' hs'
  | nrm =>
    simp only [joinK, joinEnd] at hk'
    split at hk'
    · rename_i hc
      simp only [Bool.and_eq_true] at hc
      obtain ⟨⟨d1, d2⟩, d3⟩ := hc
      split at hk'
      · rename_i vals hvals
        split at hk'
        · rename_i hks'
          cases hk'
          obtain ⟨hob', hback⟩ := VC.obT hv'
          obtain ⟨l, hl2⟩ := he'.ρ
          obtain ⟨hty', hsat'⟩ := hs'.rebase (st1 := st1) (ρ0 := Γ.ρ) ⟨l, hl2⟩ (by rw [hlen]; exact d1) (by rw [hlen]; exact hvals) hks' hob' (by rw [hlen]; exact c2) (Nat.eq_of_beq_eq_true d3) (Nat.le_of_ble_eq_true d2) (by rw [hlen]; exact c4) hnum1
          have hget : Ls'[st.lvl]? = some I := by
            obtain ⟨m, rfl⟩ := hl'
            rw [List.append_assoc, List.getElem?_append_right (by omega), hl]
            simp
          simp only [VC, hget] at hback
          exact hn _ { Γ' with ρ := Γ.ρ ++ cs_ Γ'.ρ vals, nb := st1.nb } a' w' hty' hback rfl ⟨⟨_, rfl⟩, fun b hb => he'.blk b hb, by rw [hs.nb]; exact c5, he'.base, he'.up⟩ hsat'
        · cases hk'; exact hv'.elim
      · cases hk'; exact hv'.elim
    · cases hk'; exact hv'.elim
/-- A code's first parts by the executor, that end in a known state. -/
theorem pre_seg {cx : Cx} {R : List C → Prop} {F : Nat → Prop} {w0 : World} (hcx : CxOK cx) {l : List Code} {c : Code} {st st1 : St} {ps : List Pl} {ks : List Lk} {k : Ex → St → Option Tree} {T : Tree} (hT : execL cx l { st with lvl := st.lvl + 1 } (joinK st st1 ps ks k) = some T) (hok : joinOk st st1 ps ks = true)
    {Γ : Env} {Ls : List (List C → Prop)} (hl : Ls.length = st.lvl) {I : List C → Prop} (hv : VC cx R T Γ.ρ (Ls ++ [I])) {a : Act} {w : World} (hs : Sat cx.P F w0 Γ st a w) {Q : Exit → Act → World → Prop}
    (hn : ∀ xs Γx a' w', CTy cx.P ks xs → I xs → Γx.ρ = Γ.ρ ++ xs → Ext Γ Γx → Sat cx.P F w0 Γx st1 a' w' → c.wp cx.P Q a' w')
    (hk : ∀ x st' T' Γ' Ls', x ≠ .nrm → k x st' = some T' → Ext Γ Γ' → Ls'.length = st'.lvl → VC cx R T' Γ'.ρ Ls' → ∀ a w, Sat cx.P F w0 Γ' st' a w → Q x.out a w) : (pre l c).wp cx.P Q a w := by
  refine pre_sound (R := R) (F := F) (w0 := w0) hcx l _ _ T hT Γ (Ls ++ [I]) c Q (join_KOK hok hl hs (fun xs Γx a' w' h1 h2 h3 h4 h5 => hn xs Γx a' w' h1 h2 h3 h4 h5) fun x st' T' Γ' Ls' hx hk' he hlen hv' a' w' hs' => ?_) (by simp [hl]) hv a w (hs.relvl _)
  have := hk x st' T' Γ' Ls' hx hk' he hlen hv' a' w' hs'
  cases x with
  | nrm => exact absurd rfl hx
  | ret => exact this
  | ext i => exact this
/-- A state of slots and blocks. -/
theorem Sat.bare {P : Program} {F : Nat → Prop} {w0 : World} {Γ : Env} {st : St} {a : Act} {w : World} (h2 : st.vec = []) (h3 : st.clo = []) (hm : ∀ b mb, look st.mem b = some mb → Blk w (Γ.blk b) mb.1 (dens Γ mb.2) ∧ (∀ l ∈ mb.2, ∀ O, l.ok P w O Γ) ∧ ¬ F (Γ.blk b) ∧ b < st.nb)
    (hi : ∀ i j x y, look st.mem i = some x → look st.mem j = some y → Γ.blk i = Γ.blk j → i = j)
    (h4 : ∀ t sv, look st.sl t = some sv → slotV Γ a t = sv.den Γ ∧ sv.ok P w (fun b o => Γ.base b o ∨ ∃ j mb, look st.mem j = some mb ∧ Γ.blk j = b) Γ) (h5 : a.tmps.size = st.nt) (hk : Keeps F w0 w) (h6 : ∀ i, F i → i < w0.heap.size) (h7 : ∀ b o, Γ.base b o → b < w.heap.size)
    (h8 : a.defers = []) (h9 : Γ.ρ.length = st.nx) (h10 : Γ.nb = st.nb) (h11 : st.bds = []) (h12 : Smalls Γ.ρ) : Sat P F w0 Γ st a w := by
  have hown : ∀ b o, Own Γ st b o → Γ.base b o ∨ ∃ j mb, look st.mem j = some mb ∧ Γ.blk j = b := fun b o h => by
    rcases h with h | ⟨j, mb, h, e⟩ | ⟨i, e, h, -⟩
    · exact .inl h
    · exact .inr ⟨j, mb, h, e⟩
    · rw [h2] at h; cases h
  refine ⟨fun t sv ht => ⟨(h4 t sv ht).1, SV.ok_anti (h4 t sv ht).2 hown⟩, h5, fun b mb hb => ?_, fun i e he => ?_, fun i e he => ?_, fun s j s' j' b h1 h2' => ?_, hk, h6, h7, h8, h9, h10, ⟨by rw [h11]; exact bds_nil _, h12⟩⟩
  · obtain ⟨m1, m2, m3, m4⟩ := hm b mb hb
    exact ⟨m1, fun l hl => m2 l hl _, m3, m4⟩
  · rw [h2] at he; cases he
  · rw [h3] at he; cases he
  · rcases h1.inv with ⟨rfl, mb, hb, rfl⟩ | ⟨rfl, e, he, -⟩
    · rcases h2'.inv with ⟨rfl, mb', hb', e'⟩ | ⟨rfl, e, he, -⟩
      · exact ⟨rfl, hi _ _ _ _ hb hb' e'.symm⟩
      · rw [h2] at he; cases he
    · rw [h2] at he; cases he
/-- A call, by hand. -/
theorem op_call {P : Program} {o : Oper} {a : Act} {w : World} {f : FuncId} {args : Array Value} {K : Act → World → Prop} {Q : Exit → Act → World → Prop} (h : (execOp a.eval o).run P w = .ok (.enter f args) w) (hk : Calls P f args w fun e w' => ∃ v, e = .returned v ∧ K (a.put o.dst v) w') : o.wp P a w K Q := by
  unfold Oper.wp
  rw [h]
  refine Calls.mono hk fun e w' he => ?_
  obtain ⟨v, rfl, h⟩ := he
  exact h
theorem list_call {P : Program} {ops : Array Oper} {Q : Exit → Act → World → Prop} {o : Oper} {rest : List Oper} {a : Act} {w : World} {f : FuncId} {args : Array Value} (hg : o.guard = none) (h : (execOp a.eval o).run P w = .ok (.enter f args) w) (hk : Calls P f args w fun e w' => ∃ v, e = .returned v ∧ wpList P ops Q rest (a.put o.dst v) w') : wpList P ops Q (o :: rest) a w := by
  unfold wpList
  rw [if_pos (by simp [Region.wanted, hg])]
  exact .inl (op_call h hk)
/-- What an iterator has not handed out yet. -/
def left : Prs → List Int → Nat
  | [], _ => 0
  | g :: G, seen => (if g.1 ∈ seen then 0 else 1) + left G seen
theorem left_le {k : Int} {seen : List Int} : ∀ {G : Prs}, left G (k :: seen) ≤ left G seen
  | [] => Nat.le_refl _
  | g :: G => by
    have ih := @left_le k seen G
    simp only [left]
    by_cases h : g.1 ∈ seen
    · rw [if_pos h, if_pos (List.mem_cons_of_mem _ h)]; omega
    · rw [if_neg h]; split <;> omega
theorem left_lt {seen : List Int} {g : Int × Value} : ∀ {G : Prs}, g ∈ G → g.1 ∉ seen → left G (g.1 :: seen) < left G seen
  | [], h, _ => by cases h
  | x :: G, h, hn => by
    have hle := @left_le g.1 seen G
    simp only [left]
    rcases List.mem_cons.1 h with rfl | h
    · rw [if_neg hn, if_pos (List.mem_cons_self ..)]; omega
    · have ih := left_lt h hn
      by_cases h : x.1 ∈ seen
      · rw [if_pos h, if_pos (List.mem_cons_of_mem _ h)]; omega
      · rw [if_neg h]; split <;> omega
end Go.Proofs.Ytlbgcjpkegpmlaa
/- kick.check: its states. -/
namespace Go.Proofs.Ytlbgcjpkegpmlaa
open Go.RowKit
set_option linter.unusedSimpArgs false
set_option linter.unusedVariables false

def endK (cx : Cx) (fn : Func) (ct : Ct) : Ex → St → Option Tree := fun x st => match x with
  | .ext _ => none
  | _ => endOf cx fn ct st
def chkSt1 : St := { sl := [(1, some (.one (.lf (.arr 40 (.var 1)))))], mem := [], nt := 41, nb := 0, nx := 2, lvl := 1, bds := [] }
def chkStI : St := { sl := [(6, some (.one (.lf (.arr 40 (.var 2))))), (18, some (.one (.lf (.clo 3))))], mem := [], nt := 41, nb := 0, nx := 4, lvl := 0, bds := [] }
def chkStE : St := { sl := [(18, some (.one (.lf (.clo 3))))], mem := [], nt := 41, nb := 0, nx := 4, lvl := 1, bds := [] }
def chkStZ : St := { sl := [], mem := [], nt := 41, nb := 0, nx := 2, lvl := 0, bds := [] }
theorem creps_rows {w : World} {O : Nat → Nat → Prop} {l : List (List C)} (h : ∀ r ∈ l, r = [.i (cell_ r 0), .i (cell_ r 1), .i (cell_ r 2)] ∧ ∀ j, -9223372036854775808 ≤ cell_ r j ∧ cell_ r j ≤ 9223372036854775807) : CReps Try.prog w O (rowsK l.length [.int, .int, .int]) (cellsV l) l.flatten := by
  have := CReps.rows (P := Try.prog) (w := w) (O := O) (ks := [.int, .int, .int]) (rs := l.map fun r => ((samOf r).toList, r)) (fun r hr => by
    obtain ⟨x, hx, rfl⟩ := List.mem_map.1 hr
    obtain ⟨h1, h2⟩ := h x hx
    have c : ∀ j, CRep Try.prog w O .int (.int .i64 (cell_ x j)) (.i (cell_ x j)) := fun j => ⟨fun n => by cases n <;> exact h2 j, _, rfl, rfl⟩
    show CReps _ _ _ _ (samOf x).toList x
    rw [h1]
    exact ⟨c 0, c 1, c 2, trivial⟩)
  rw [List.length_map, List.flatMap_map, List.flatMap_map] at this
  simpa [cellsV, List.flatMap_id'] using this
end Go.Proofs.Ytlbgcjpkegpmlaa
/- What is to be shown of each function, as the executor has it. Printed by trees.py. -/
namespace Go.Proofs.Ytlbgcjpkegpmlaa
noncomputable def flchk1 : List (Nat × Func) := [(92, Try.f92), (96, Try.f96), (93, Try.f93), (94, Try.f94)]
theorem fxchk1 : ∀ p ∈ flchk1, FnOK p := fns_cons ⟨Try.func92, ⟨_, Try.func92, by decide, rfl⟩⟩ (fns_cons ⟨Try.func96, ⟨_, Try.func96, by decide, rfl⟩⟩ (fns_cons ⟨Try.func93, ⟨_, Try.func93, by decide, rfl⟩⟩ (fns_cons ⟨Try.func94, ⟨_, Try.func94, by decide, rfl⟩⟩ (fns_nil))))
noncomputable def cchk1 : Cx := tab3.only [68] (fun _ => []) flchk1 4 [] (fun _ => none)
def tchk1 : Tree :=
  (.split (.cmp .lt (.lit 200) (.len (.var 1))) (.ret [(.int (.lit 8))]) (.arr [] (.loop [.int, .int] [(.int (.lit 0)), (.int (.lit 0))] (.split (.cmp .lt (.var 4) (.len (.var 1))) (.ob (.cmp .le (.lit 0) (.var 4)) (.ob (.cmp .lt (.var 4) (.len (.var 1))) (.split (.cmp .lt (.cell (.var 1) (.var 4) 0) (.lit 0)) (.ret [(.int (.lit 7))]) (.split (.cmp .le (.var 0) (.cell (.var 1) (.var 4) 0)) (.ret [(.int (.lit 7))]) (.back 1 [(.int (.var 3)), (.int (.add (.var 4) (.lit 1)))]))))) (.loop [.int, .int] [(.int (.lit 0)), (.int (.lit 0))] (.split (.cmp .lt (.var 6) (.len (.var 1))) (.ob (.cmp .le (.lit 0) (.var 6)) (.ob (.cmp .lt (.var 6) (.len (.var 1))) (.split (.not (.and (.cmp .le (.lit 0) (.cell (.var 1) (.var 6) 1)) (.cmp .le (.cell (.var 1) (.var 6) 1) (.lit 1099511627176)))) (.ret [(.int (.lit 2))]) (.split (.not (.and (.cmp .le (.lit (-1125899906842624)) (.cell (.var 1) (.var 6) 2)) (.cmp .le (.cell (.var 1) (.var 6) 2) (.lit 1125899906842624)))) (.ret [(.int (.lit 2))]) (.back 2 [(.int (.var 5)), (.int (.add (.var 6) (.lit 1)))]))))) (.back 0 [])))))))
noncomputable def cchk2 : Cx := tab3.only [] (fun _ => []) [] 0 [] (fun _ => none)
def tchk2 : Tree :=
  (.loop [.int] [(.int (.lit 1))] (.split (.cmp .lt (.var 4) (.len (.var 2))) (.ob (.cmp .le (.lit 0) (.var 4)) (.ob (.cmp .lt (.var 4) (.len (.var 2))) (.ob (.cmp .le (.lit 0) (.sub (.var 4) (.lit 1))) (.ob (.cmp .lt (.sub (.var 4) (.lit 1)) (.len (.var 2))) (.split (.cmp .le (.cell (.var 2) (.var 4) 1) (.cell (.var 2) (.sub (.var 4) (.lit 1)) 1)) (.ret [(.int (.lit 11))]) (.back 1 [(.int (.add (.var 4) (.lit 1)))])))))) (.back 0 [])))
end Go.Proofs.Ytlbgcjpkegpmlaa
/- A loop over a map, by hand. -/
namespace Go.Proofs.Ytlbgcjpkegpmlaa
open Go.RowKit
set_option linter.unusedSimpArgs false
set_option linter.unusedVariables false

/-- What a round's body hands on. -/
def roundQ (J : Act → World → Prop) (Q : Exit → Act → World → Prop) : Exit → Act → World → Prop
  | .normal, a, w => J a w
  | .ret, a, w => Q .ret a w
  | _, _, _ => False
theorem range_loop {P : Program} {b0 b1 idN tI tN cN nt bm r : Nat} {o1 o2 : Oper} {body : Code} {G : Prs} {J : List Int → Act → World → Prop} {Q : Exit → Act → World → Prop}
    (h1 : o1.op = .next (.tmp tI) false) (h1d : o1.dst = some tN) (h1g : o1.guard = none) (h2 : o2.op = .extract (.tmp tN) 0) (h2d : o2.dst = some cN) (h2g : o2.guard = none) (hN : tN < nt) (hC : cN < nt) (hNC : tN ≠ cN) (hbr : bm ≠ r)
    (hJ : ∀ seen a w, J seen a w → IterAt w r bm G seen ∧ a.eval (.tmp tI) = .pointer (some ⟨r, 0, none⟩) ∧ a.tmps.size = nt)
    (hstep : ∀ seen a w g w' v, J seen a w → g ∈ G → g.1 ∉ seen → IterAt w' r bm G (g.1 :: seen) → w'.heap.size = w.heap.size → (∀ i, i ≠ r → w'.heap[i]? = w.heap[i]?) → w'.os = w.os → w'.tape = w.tape → w'.output = w.output →
      (∀ u, u.heap[bm]? = w'.heap[bm]? → u.heap[r]? = w'.heap[r]? → (Instr.entry (.pointer (some ⟨r, 0, none⟩))).run P u = .ok (.tuple #[.int .i64 g.1, g.2]) u) → body.wp P (roundQ (J (g.1 :: seen)) Q) ((a.put (some tN) v).put (some cN) (.bool true)) w')
    (hend : ∀ seen a w v, J seen a w → (∀ g ∈ G, g.1 ∈ seen) → Q .normal ((a.put (some tN) v).put (some cN) (.bool false)) w) {a : Act} {w : World} (h0 : J [] a w) :
    (Code.block b0 (Code.loop (Code.seq (Code.region idN #[o1, o2] false) (Code.seq (Code.cond (.tmp cN) .skip (.exit b0)) (Code.block b1 body))))).wp P Q a w := by
  refine wp_block (wp_loop_ghost (fun n a w => ∃ seen, n = left G seen ∧ J seen a w) (left G []) ⟨[], rfl, h0⟩ ?_)
  rintro n a w ⟨seen, rfl, hj⟩
  obtain ⟨hit, hp, hsz⟩ := hJ seen a w hj
  rcases hit.next (P := P) o1.type hbr with ⟨hall, hrun⟩ | ⟨g, hg, hns, w', hrun, hit', hs', hb', ho', ht', hu', hent⟩
  · refine wp_seq (wp_region_list (list_val h1g (v := .tuple #[.bool false]) (w' := w) (by simp [execOp, h1, hp, hrun]) (list_val h2g (v := .bool false) (w' := w) (by rw [h1d]; simp [execOp, h2, eval_same (show tN < a.tmps.size by omega), Instr.extract]) ?_)))
    show Code.wp _ _ _ _ _
    rw [h1d, h2d]
    refine wp_seq (wp_cond (t := false) (eval_same (by rw [put_size]; omega)) ?_)
    refine wp_exit ?_
    show (if b0 = b0 then Q .normal _ _ else _)
    rw [if_pos rfl]
    exact hend seen a w _ hj hall
  · refine wp_seq (wp_region_list (list_val h1g (v := .tuple #[.bool true, .int .i64 g.1, g.2]) (w' := w') (by simp [execOp, h1, hp, hrun]) (list_val h2g (v := .bool true) (w' := w') (by rw [h1d]; simp [execOp, h2, eval_same (show tN < a.tmps.size by omega), Instr.extract]) ?_)))
    show Code.wp _ _ _ _ _
    rw [h1d, h2d]
    refine wp_seq (wp_cond (t := true) (eval_same (by rw [put_size]; omega)) ?_)
    refine wp_skip ?_
    show Code.wp _ _ _ _ _
    refine wp_block (wp_mono (hstep seen a w g w' (.tuple #[.bool true, .int .i64 g.1, g.2]) hj hg hns hit' hs' hb' ho' ht' hu' hent) ?_)
    intro e a2 w2 hq
    cases e with
    | normal => exact ⟨left G (g.1 :: seen), left_lt hg hns, g.1 :: seen, rfl, hq⟩
    | ret => exact hq
    | exit i => exact hq.elim
    | goto l => exact hq.elim
    | panic c => exact hq.elim
    | outgrown => exact hq.elim
end Go.Proofs.Ytlbgcjpkegpmlaa
/- kick.check. -/
namespace Go.Proofs.Ytlbgcjpkegpmlaa
open Go.RowKit
set_option linter.unusedSimpArgs false
set_option linter.unusedVariables false

theorem Groups.arr {B : Nat} {w : World} {b d : Nat} {v : Value} {rows : List (List C)} {G : Prs} (h : Groups B w b rows G) (hty : TyN Try.prog d 40 rows) (hsm : ∀ n, (C.s v rows).small n) {g : Int × Value} (hg : g ∈ G) {O : Nat → Nat → Prop} (hO : ∀ x, B ≤ x → ∀ o, ¬ O x o) :
    ArrOK Try.prog w O 40 (.s g.2 (fltS rows g.1)) ∧ ∀ n, (C.s g.2 (fltS rows g.1)).small n := by
  obtain ⟨h1, x, hx, hBx, -, -⟩ := h.rows g hg
  have hr : ∀ r ∈ fltS rows g.1, r = [.i (cell_ r 0), .i (cell_ r 1), .i (cell_ r 2)] ∧ ∀ j, -9223372036854775808 ≤ cell_ r j ∧ cell_ r j ≤ 9223372036854775807 := fun r hr => by
    have hm : r ∈ rows := (List.mem_filter.1 hr).1
    obtain ⟨i, hi, hir⟩ := List.getElem_of_mem hm
    have e : rows.getD i [] = r := by simp [List.getD_eq_getElem?_getD, hi, hir]
    have := row3 hty hi
    rw [e] at this
    refine ⟨this, fun j => ?_⟩
    have h2 := C.int_le (C.small_at hsm i j)
    have e2 : ((C.s v rows).at i j).int = cell_ (rows.getD i []) j := rfl
    rw [e2, e] at h2
    exact h2
  have hv : VecOK Try.prog w O 40 g.2 (.s g.2 (fltS rows g.1)) := by
    refine ⟨[.int, .int, .int], cellsV (fltS rows g.1), kinds_sam, ⟨_, rfl⟩, fun r hr' => by rw [(hr r hr').1]; rfl, creps_rows hr, h1.1, h1.2.imp id fun ⟨g', cap, cur, e, _, rest⟩ => ⟨g', cap, cur, e, Nat.zero_le _, rest⟩⟩
  refine ⟨hv.arr (fun _ _ h => h) fun b hb o => hO b (by rw [hx] at hb; cases hb; exact hBx) o, C.small_rows (.inl hsm) (List.length_filter_le _ _) (fun r hr => (List.mem_filter.1 hr).1) _⟩
theorem chk_split : bodyOf Try.f81 = pre (heads 4 (bodyOf Try.f81)) (nav [1, 1, 1, 1] (bodyOf Try.f81)) := by kernel_rfl
theorem chk_tree1 : execL cchk1 (heads 4 (bodyOf Try.f81)) { startOf Try.f81 ctCheckS [] [] with lvl := (startOf Try.f81 ctCheckS [] []).lvl + 1 } (joinK (startOf Try.f81 ctCheckS [] []) chkSt1 [] [] (endK cchk1 Try.f81 ctCheckS)) = some tchk1 := by kernel_rfl
theorem chk_tree2 : exec cchk1 (nav [1, 1, 1, 1, 0, 1, 0, 0, 1, 1, 0, 1] (bodyOf Try.f81)) { chkStI with lvl := chkStI.lvl + 1 } (joinK chkStI chkStE [] [] (endK cchk1 Try.f81 ctCheckS)) = some tchk2 := by kernel_rfl
theorem chk_cx : CxOK cchk1 := Tab.cx_ok (all_cons (up3_ok (up_ok within_ok)) all_nil) fxchk1
/-- What the first part says. -/
theorem chk_vc1 {R : List C → Prop} {n : Int} {v : Value} {rows : List (List C)} (hR : ∀ e, e = checkV n rows → R [.i e]) :
    VC cchk1 R tchk1 [.i n, .s v rows] [fun _ => rows.length ≤ 200 ∧ rows.all (inB n) = true ∧ rows.all inR = true] := by
  unfold tchk1
  simp only [VC, allC, List.map_cons, List.map_nil, List.length_cons, List.length_nil, List.getElem?_cons_zero, List.getElem?_cons_succ, List.cons.injEq, C.i.injEq, C.b.injEq, and_true, true_and, forall_const, kindsOf_nil, kindsOf_lf, kindsOf_agg, kindsOf_box, boxKinds_nil, boxKinds_lf, boxKinds_agg, boxKinds_box, List.append_nil, List.cons_append, List.nil_append, den_cmp_le, den_cmp_lt, den_cmp_eq, den_cmp_ne, den_cmp_le', den_cmp_lt', den_cmp_eq', den_cmp_ne', den_and, den_and', den_or, den_or', den_not, den_not', den_blit, den_of, ev_var, at_0, at_1, at_2, at_3, at_4, at_5, at_6, at_7, at_skip, c_int, c_bool, c_arr, c_cnt, c_vec, ev_nil, ev_join, ev_sub3, loc_s, int_i, bool_b, rows_s, cs_nil, cs_cons, E.den_lit, E.den_var, E.den_add, E.den_sub, E.den_mul, E.den_quo, E.den_rem, E.den_max, E.den_min, E.den_len, E.den_wr, E.den_cell]
  have e2 : ∀ v k o (l : List (List C)), ((C.s v l).at k o).int = cell_ (l.getD k []) o := fun _ _ _ _ => rfl
  simp only [e2]
  refine ⟨fun h => hR _ (checkV_8 h).symm, fun hl => ?_⟩
  refine ⟨fun xs => match xs with | [_, .i i] => 0 ≤ i ∧ i ≤ rows.length ∧ rows.all (inB n) = (rows.drop i.toNat).all (inB n) | _ => False, fun xs => match xs with | [_, .i i] => ((rows.length : Int) - i).toNat | _ => 0, ⟨by omega, by omega, rfl⟩, ?_⟩
  rintro z _ _ i _ _ ⟨i0, i1, hI⟩
  refine ⟨fun hlt => ⟨i0, hlt, ?_⟩, fun hge => ?_⟩
  · have hz : i.toNat < rows.length := by omega
    rw [all_drop hz] at hI
    have hmu : ((rows.length : Int) - (i + 1)).toNat < ((rows.length : Int) - i).toNat := by omega
    generalize hrow : rows.getD i.toNat [] = row at *
    have bad : ¬ (0 ≤ cell_ row 0 ∧ cell_ row 0 < n) → R [.i 7] := fun h => hR _ (by rw [checkV_7 hl (by rw [hI, inB, decide_eq_false h]; rfl)])
    refine ⟨fun h => bad (by omega), fun h0 => ⟨fun h => bad (by omega), fun h2 => ⟨⟨by omega, by omega, ?_⟩, hmu⟩⟩⟩
    rw [hI, inB, decide_eq_true (by omega), Bool.true_and, show (i + 1).toNat = i.toNat + 1 by omega]
  rw [List.drop_eq_nil_of_le (by omega)] at hI
  refine ⟨fun xs => match xs with | [_, .i i] => 0 ≤ i ∧ i ≤ rows.length ∧ rows.all inR = (rows.drop i.toNat).all inR | _ => False, fun xs => match xs with | [_, .i i] => ((rows.length : Int) - i).toNat | _ => 0, ⟨by omega, by omega, rfl⟩, ?_⟩
  rintro z' _ _ j _ _ ⟨j0, j1, hJ⟩
  refine ⟨fun hlt => ⟨j0, hlt, ?_⟩, fun hge => ?_⟩
  · have hz : j.toNat < rows.length := by omega
    rw [all_drop hz] at hJ
    have hmu : ((rows.length : Int) - (j + 1)).toNat < ((rows.length : Int) - j).toNat := by omega
    generalize hrow : rows.getD j.toNat [] = row at *
    have bad : ¬ (0 ≤ cell_ row 1 ∧ cell_ row 1 ≤ 1099511627176 ∧ -1125899906842624 ≤ cell_ row 2 ∧ cell_ row 2 ≤ 1125899906842624) → R [.i 2] := fun h => hR _ (by rw [checkV_2 hl hI (by rw [hJ, inR, decide_eq_false h]; rfl)])
    refine ⟨fun h => bad (by omega), fun h0 => ⟨fun h => bad (by omega), fun h2 => ⟨⟨by omega, by omega, ?_⟩, hmu⟩⟩⟩
    rw [hJ, inR, decide_eq_true (by omega), Bool.true_and, show (j + 1).toNat = j.toNat + 1 by omega]
  rw [List.drop_eq_nil_of_le (by omega)] at hJ
  exact ⟨by omega, hI, hJ⟩
/-- What a round says. -/
theorem chk_vc2 {R : List C → Prop} {n : Int} {v gv : Value} {rows out : List (List C)} {p : C} (hl : out.length ≤ 200) (hR : ordL out = false → R [.i 11]) :
    VC cchk1 R tchk2 [.i n, .s v rows, .s gv out, p] [fun _ => ordL out = true] := by
  unfold tchk2
  simp only [VC, allC, List.map_cons, List.map_nil, List.length_cons, List.length_nil, List.getElem?_cons_zero, List.getElem?_cons_succ, List.cons.injEq, C.i.injEq, C.b.injEq, and_true, true_and, forall_const, kindsOf_nil, kindsOf_lf, kindsOf_agg, kindsOf_box, boxKinds_nil, boxKinds_lf, boxKinds_agg, boxKinds_box, List.append_nil, List.cons_append, List.nil_append, den_cmp_le, den_cmp_lt, den_cmp_eq, den_cmp_ne, den_cmp_le', den_cmp_lt', den_cmp_eq', den_cmp_ne', den_and, den_and', den_or, den_or', den_not, den_not', den_blit, den_of, ev_var, at_0, at_1, at_2, at_3, at_4, at_5, at_6, at_7, at_skip, c_int, c_bool, c_arr, c_cnt, c_vec, ev_nil, ev_join, ev_sub3, loc_s, int_i, bool_b, rows_s, cs_nil, cs_cons, E.den_lit, E.den_var, E.den_add, E.den_sub, E.den_mul, E.den_quo, E.den_rem, E.den_max, E.den_min, E.den_len, E.den_wr, E.den_cell]
  have e2 : ∀ v k o (l : List (List C)), ((C.s v l).at k o).int = cell_ (l.getD k []) o := fun _ _ _ _ => rfl
  simp only [e2]
  refine ⟨fun xs => match xs with | [.i i] => i ≤ 201 ∧ OrdI out i | _ => False, fun xs => match xs with | [.i i] => ((out.length : Int) - i).toNat | _ => 0, ⟨by omega, OrdI.one _⟩, ?_⟩
  rintro m _ _ ⟨m0, hM⟩
  refine ⟨fun hml => ?_, fun hml => hM.end_ hml⟩
  have m1 := hM.1
  refine ⟨by omega, hml, by omega, by omega, fun hle => hR (hM.bad hml hle), fun hgt => ⟨⟨by omega, hM.next hml hgt⟩, ?_⟩⟩
  show ((out.length : Int) - (m + 1)).toNat < ((out.length : Int) - m).toNat
  omega
end Go.Proofs.Ytlbgcjpkegpmlaa
/- kick.check: its contract. -/
namespace Go.Proofs.Ytlbgcjpkegpmlaa
open Go.RowKit
set_option linter.unusedSimpArgs false
set_option linter.unusedVariables false

theorem below_trans {a b c : World} (h : Below a.heap.size a b) (k : Below b.heap.size b c) : Below a.heap.size a c :=
  ⟨k.os.trans h.os, k.tape.trans h.tape, k.output.trans h.output, Nat.le_trans h.size k.size, fun i hi => (k.block i (Nat.lt_of_lt_of_le hi h.size)).trans (h.block i hi)⟩
structure ChkIn (wg : World) (bm : Nat) (rows : List (List C)) (G : Prs) (seen : List Int) (a : Act) (w : World) : Prop where
  it : IterAt w wg.heap.size bm G seen
  s18 : a.eval (.tmp 18) = .pointer (some ⟨wg.heap.size, 0, none⟩)
  size : a.tmps.size = 41
  defers : a.defers = []
  below : Below wg.heap.size wg w
  lt : wg.heap.size < w.heap.size
  ord : ∀ g ∈ G, g.1 ∈ seen → ordL (fltS rows g.1) = true
/-- One round behind the iterator's step. -/
theorem chk_round {F : Nat → Prop} {w0 wp wg : World} {Γ : Env} {n : Int} {v : Value} {rows : List (List C)} {d bm : Nat} {G : Prs} {Q : Exit → Act → World → Prop} {R : List C → Prop}
    (hρ : Γ.ρ = [.i n, .s v rows]) (hnb : Γ.nb = 0) (hsm : ∀ k, (C.s v rows).small k) (hsn : ∀ k, (C.i n).small k) (hty : TyN Try.prog d 40 rows) (hF : ∀ i, F i → i < w0.heap.size) (hb : ∀ b o, Γ.base b o → b < wp.heap.size)
    (hk0 : Keeps F w0 wp) (hpg : Below wp.heap.size wp wg) (hG : Groups wp.heap.size wg bm rows G) (hl : rows.length ≤ 200) (hR : ∀ k, ordL (fltS rows k) = false → (∃ g ∈ G, g.1 = k) → R [.i 11])
    (hk : KOK cchk1 R F w0 (endK cchk1 Try.f81 ctCheckS) Γ [] Q) {seen : List Int} {a : Act} {w w' : World} {g : Int × Value} {u : Value} (hin : ChkIn wg bm rows G seen a w) (hg : g ∈ G) (hit : IterAt w' wg.heap.size bm G (g.1 :: seen)) (hs : w'.heap.size = w.heap.size) (hbl : ∀ i, i ≠ wg.heap.size → w'.heap[i]? = w.heap[i]?) (ho : w'.os = w.os) (ht : w'.tape = w.tape) (hu : w'.output = w.output)
    (hent : ∀ u, u.heap[bm]? = w'.heap[bm]? → u.heap[wg.heap.size]? = w'.heap[wg.heap.size]? → (Instr.entry (.pointer (some ⟨wg.heap.size, 0, none⟩))).run Try.prog u = .ok (.tuple #[.int .i64 g.1, g.2]) u) :
    (nav [1, 1, 1, 1, 0, 1, 0, 0, 1, 1, 0] (bodyOf Try.f81)).wp Try.prog (roundQ (ChkIn wg bm rows G (g.1 :: seen)) Q) ((a.put (some 19) u).put (some 20) (.bool true)) w' := by
  have hbg : Below wg.heap.size wg w' := ⟨ho.trans hin.below.os, ht.trans hin.below.tape, hu.trans hin.below.output, by have := hin.below.size; omega, fun i hi => (hbl i (by omega)).trans (hin.below.block i hi)⟩
  have hbp : Below wp.heap.size wp w' := below_trans hpg hbg
  generalize hb1 : Value.bool true = b1
  have h18 : ((a.put (some 19) u).put (some 20) b1).eval (.tmp 18) = .pointer (some ⟨wg.heap.size, 0, none⟩) := by rw [eval_other (by decide), eval_other (by decide)]; exact hin.s18
  have hsz : ((a.put (some 19) u).put (some 20) b1).tmps.size = 41 := by rw [put_size, put_size]; exact hin.size
  have hdf : ((a.put (some 19) u).put (some 20) b1).defers = [] := by rw [put_defers, put_defers]; exact hin.defers
  generalize (a.put (some 19) u).put (some 20) b1 = a2 at *
  show (Code.seq (Code.region 9 _ _) (nav [1, 1, 1, 1, 0, 1, 0, 0, 1, 1, 0, 1] (bodyOf Try.f81))).wp _ _ _ _
  refine wp_seq (wp_region_list (list_val rfl (v := .tuple #[.int .i64 g.1, g.2]) (w' := w') (by simp [execOp, h18, hent w' rfl rfl]) (list_val rfl (v := g.2) (w' := w') (by simp [execOp, eval_same (show 21 < a2.tmps.size by omega), Instr.extract]) (list_val rfl (v := g.2) (w' := w') (by simp [execOp, eval_same, put_size, hsz]) ?_))))
  show Code.wp _ _ _ _ _
  have h6 : (((a2.put (some 21) (.tuple #[.int .i64 g.1, g.2])).put (some 22) g.2).put (some 6) g.2).eval (.tmp 6) = g.2 := eval_same (by rw [put_size, put_size]; omega)
  have h18' : (((a2.put (some 21) (.tuple #[.int .i64 g.1, g.2])).put (some 22) g.2).put (some 6) g.2).eval (.tmp 18) = .pointer (some ⟨wg.heap.size, 0, none⟩) := by rw [eval_other (by decide), eval_other (by decide), eval_other (by decide)]; exact h18
  have hsz' : (((a2.put (some 21) (.tuple #[.int .i64 g.1, g.2])).put (some 22) g.2).put (some 6) g.2).tmps.size = 41 := by rw [put_size, put_size, put_size]; exact hsz
  have hdf' : (((a2.put (some 21) (.tuple #[.int .i64 g.1, g.2])).put (some 22) g.2).put (some 6) g.2).defers = [] := by rw [put_defers, put_defers, put_defers]; exact hdf
  generalize ((a2.put (some 21) (.tuple #[.int .i64 g.1, g.2])).put (some 22) g.2).put (some 6) g.2 = a3 at *
  obtain ⟨hga, hgs⟩ := (hG.keep hbg).arr hty hsm hg (O := Γ.base) fun x hx o hxo => by have := hb x o hxo; omega
  have hsat : Sat Try.prog (fun i => i < w'.heap.size) w' { Γ with ρ := [.i n, .s v rows, .s g.2 (fltS rows g.1), .s (.pointer (some ⟨wg.heap.size, 0, none⟩)) []] } chkStI a3 w' := by
    refine Sat.bare rfl rfl (fun b mb h => by cases h) (fun i j x y h => by cases h) (fun t sv ht => ?_) hsz' (Keeps.refl _ _) (fun _ h => h) (fun b o h => by have := hb b o h; have := hbp.size; omega) hdf' rfl hnb rfl ?_
    · simp only [chkStI, look] at ht
      split at ht
      · rename_i e; subst e; cases ht; exact ⟨h6, fun l hl => by
          simp only [S0.cells, List.mem_cons, List.not_mem_nil, or_false] at hl; subst hl
          exact hga.keep (Nat.le_refl _) fun b o _ hno => ⟨rfl, fun h => h.elim hno fun ⟨j, mb, h, _⟩ => by cases h⟩⟩
      split at ht
      · rename_i e; subst e; cases ht; exact ⟨h18', fun l hl => by simp only [S0.cells, List.mem_cons, List.not_mem_nil, or_false] at hl; subst hl; rfl⟩
      cases ht
    · have := Smalls.nil.app (cs := [.i n, .s v rows, .s g.2 (fltS rows g.1), .s (.pointer (some ⟨wg.heap.size, 0, none⟩)) []]) (fun c hc => by
        simp only [List.mem_cons, List.not_mem_nil, or_false] at hc
        rcases hc with rfl | rfl | rfl | rfl
        · exact hsn
        · exact hsm
        · exact hgs
        · intro n; cases n <;> simp [C.small])
      simpa using this
  have hlen := @fltS_len rows g.1
  have hext : Ext Γ { Γ with ρ := [.i n, .s v rows, .s g.2 (fltS rows g.1), .s (.pointer (some ⟨wg.heap.size, 0, none⟩)) []] } := ⟨⟨[.s g.2 (fltS rows g.1), .s (.pointer (some ⟨wg.heap.size, 0, none⟩)) []], by rw [hρ]; rfl⟩, fun _ _ => rfl, Nat.le_refl _, rfl, rfl⟩
  refine seg_sound (R := R) chk_cx (Ls := []) (I := fun _ => ordL (fltS rows g.1) = true) chk_tree2 (by kernel_rfl) rfl (chk_vc2 (by omega) fun h => hR _ h ⟨g, hg, rfl⟩) hsat ?_ ?_
  · intro xs Γx a' w2 hxs hI hρ' he hs'
    have hbw : Below w'.heap.size w' w2 := hs'.keeps.below
    have hm := (hG.keep hbg).map.lt
    have h18'' : a'.eval (.tmp 18) = .pointer (some ⟨wg.heap.size, 0, none⟩) := by
      have hx : xs = [] := by cases xs with | nil => rfl | cons x xs => exact hxs.elim
      subst hx
      have := (hs'.slots 18 _ (rfl : look chkStE.sl 18 = some (.one (.lf (.clo 3))))).1
      unfold slotV at this
      rw [if_pos (by decide)] at this
      refine Eq.trans this ?_
      simp only [SV.den, S0.den, Lf.den, hρ']
      rfl
    have hlt := hin.lt
    refine ⟨hit.kept (hbw.block _ hm) (hbw.block _ (by omega)), h18'', hs'.size, hs'.defers, ⟨hbw.os.trans hbg.os, hbw.tape.trans hbg.tape, hbw.output.trans hbg.output, Nat.le_trans hbg.size hbw.size, fun i hi => (hbw.block i (by have := hbg.size; omega)).trans (hbg.block i hi)⟩, by have := hbw.size; omega, fun g' hg' hs => ?_⟩
    rcases List.mem_cons.1 hs with h | h
    · rw [h]; exact hI
    · exact hin.ord g' hg' h
  · intro x st' T' Γ' Ls' hx hk' he hlen' hv' a' w2 hs'
    have hbw : Below w'.heap.size w' w2 := hs'.keeps.below
    have hkF : Keeps F w0 w2 := (hk0.trans (Keeps.of_below hbp fun i hi => by have := hF i hi; have := hk0.size; omega)).trans (Keeps.of_below hbw fun i hi => by have := hF i hi; have := hk0.size; have := hbp.size; omega)
    have := hk x st' T' Γ' Ls' hk' (hext.trans he) (List.nil_prefix) hlen' hv' a' w2 (hs'.back (base' := Γ'.base) (fun i hi => by have := hF i hi; have := hk0.size; have := hbp.size; omega) hkF hF fun _ _ h => h)
    cases x with
    | nrm => exact absurd rfl hx
    | ret => exact this
    | ext i => cases hk'
end Go.Proofs.Ytlbgcjpkegpmlaa
/- kick.check: its contract. -/
namespace Go.Proofs.Ytlbgcjpkegpmlaa
open Go.RowKit
set_option linter.unusedSimpArgs false
set_option linter.unusedVariables false

theorem callable_bySensor : Callable Try.prog 82 := ⟨_, Try.func82, by decide, rfl⟩
/-- From the samples' map on. -/
theorem chk_rest {F : Nat → Prop} {w0 wp : World} {Γ : Env} {n : Int} {v : Value} {rows : List (List C)} {d : Nat} {Q : Exit → Act → World → Prop} {R : List C → Prop}
    (hρ : Γ.ρ = [.i n, .s v rows]) (hnb : Γ.nb = 0) (hsm : ∀ k, (C.s v rows).small k) (hsn : ∀ k, (C.i n).small k) (hty : TyN Try.prog d 40 rows) (hF : ∀ i, F i → i < w0.heap.size) (hb : ∀ b o, Γ.base b o → b < wp.heap.size)
    (hk0 : Keeps F w0 wp) (hl : rows.length ≤ 200) (hA : ArrOK Try.prog wp Γ.base 40 (.s v rows)) (hRb : rows.all (fun r => ordL (fltS rows (cell_ r 0))) = false → R [.i 11]) (hR0 : rows.all (fun r => ordL (fltS rows (cell_ r 0))) = true → R [.i 0])
    (hk : KOK cchk1 R F w0 (endK cchk1 Try.f81 ctCheckS) Γ [] Q) {a : Act} (hsz : a.tmps.size = 41) (hdf : a.defers = []) (h1 : a.eval (.tmp 1) = v) :
    (nav [1, 1, 1, 1] (bodyOf Try.f81)).wp Try.prog Q a wp := by
  have hloc : v = (C.s v rows).loc := by
    obtain ⟨v', rows', e, d', S, hS, hN⟩ := hA
    cases e
    rfl
  show (Code.seq (Code.seq (Code.region 7 _ _) (Code.block 0 (Code.loop (Code.seq (Code.region 8 _ _) (Code.seq (Code.cond (.tmp 20) .skip (.exit 0)) (Code.block 1 (nav [1, 1, 1, 1, 0, 1, 0, 0, 1, 1, 0] (bodyOf Try.f81)))))))) (Code.seq (Code.region 15 _ _) Code.ret)).wp _ _ _ _
  refine wp_seq (wp_seq (wp_region_list (list_val rfl (v := v) (w' := wp) (by simp [execOp, h1]) (list_call rfl (f := 82) (args := #[v]) (by
    simp [execOp, resolve, invoke, eval_same, put_size, hsz, eval_const]
    exact run_callFunc' callable_bySensor _ _) ?_))))
  refine Calls.mono (bySensor_ok (Base := Γ.base) hb ⟨hsm, hloc, hA⟩ (by omega)) fun e wg he => ?_
  obtain ⟨bm, G, rfl, hpg, hbm, hG⟩ := he
  refine ⟨_, rfl, ?_⟩
  obtain ⟨o, hrg, hit⟩ := IterAt.start (P := Try.prog) (t := 115) Try.underlying115 hG.map
  refine list_val rfl (v := .pointer (some ⟨wg.heap.size, 0, none⟩)) (w' := wg.alloc o) (by simp [execOp, eval_same, put_size, hsz, hrg]) ?_
  show Code.wp _ _ _ _ _
  have hord : ∀ seen : List Int, (∀ g ∈ G, g.1 ∈ seen) → (∀ g ∈ G, g.1 ∈ seen → ordL (fltS rows g.1) = true) → rows.all (fun r => ordL (fltS rows (cell_ r 0))) = true := fun seen ha ho => by
    rw [List.all_eq_true]
    intro r hr
    obtain ⟨g, hg, e⟩ := hG.all r hr
    rw [← e]
    exact ho g hg (ha g hg)
  have hRk : ∀ k, ordL (fltS rows k) = false → (∃ g ∈ G, g.1 = k) → R [.i 11] := fun k hk ⟨g, hg, e⟩ => hRb (by
    obtain ⟨r, hr, e'⟩ := hG.has g hg
    cases ha : rows.all (fun r => ordL (fltS rows (cell_ r 0))) with
    | false => rfl
    | true =>
      have : ordL (fltS rows (cell_ r 0)) = true := List.all_eq_true.1 ha r hr
      rw [← e', e, hk] at this
      cases this)
  refine range_loop (nt := 41) (tI := 18) (tN := 19) (cN := 20) (bm := bm) (r := wg.heap.size) (G := G) (J := ChkIn wg bm rows G) rfl rfl rfl rfl rfl rfl (by decide) (by decide) (by decide) (by have := hG.map.lt; omega) (fun seen a w h => ⟨h.it, h.s18, h.size⟩) ?_ ?_ ?_
  · intro seen a2 w2 g w3 u hin hg hns hit' hs hbl ho ht hu hent
    exact wp_mono (chk_round (Q := Q) hρ hnb hsm hsn hty hF hb hk0 hpg hG hl hRk hk hin hg hit' hs hbl ho ht hu hent) fun e a w h => by cases e <;> exact h
  · intro seen a2 w2 u hin hall
    show (Code.seq (Code.region 15 _ _) Code.ret).wp _ _ _ _
    refine wp_seq (wp_region_list (list_val rfl (v := .int .i64 0) (w' := w2) (by simp [execOp, eval_const]) ?_))
    show Code.wp _ _ _ _ _
    refine wp_ret ?_
    have hsz2 : (((a2.put (some 19) u).put (some 20) (.bool false)).put (some 4) (.int .i64 0)).tmps.size = 41 := by rw [put_size, put_size, put_size]; exact hin.size
    have hdf2 : (((a2.put (some 19) u).put (some 20) (.bool false)).put (some 4) (.int .i64 0)).defers = [] := by rw [put_defers, put_defers, put_defers]; exact hin.defers
    have h4 : (((a2.put (some 19) u).put (some 20) (.bool false)).put (some 4) (.int .i64 0)).eval (.tmp 4) = .int .i64 0 := eval_same (by rw [put_size, put_size, hin.size]; omega)
    generalize ((a2.put (some 19) u).put (some 20) (.bool false)).put (some 4) (.int .i64 0) = a4 at *
    have hbp : Below wp.heap.size wp w2 := below_trans hpg hin.below
    refine hk .ret { chkStZ with sl := [(4, some (.one (.lf (.int (.lit 0)))))] } (.ret [.int (.lit 0)]) Γ [] (by kernel_rfl) (Ext.refl _) (List.prefix_refl _) rfl (hR0 (hord seen hall hin.ord)) a4 w2 (Sat.bare rfl rfl (fun b mb h => by cases h) (fun i j x y h => by cases h) (fun t sv ht => ?_) hsz2 (hk0.trans (Keeps.of_below hbp fun i hi => by have := hF i hi; have := hk0.size; omega)) hF (fun b o h => by have := hb b o h; have := hbp.size; omega) hdf2 (by rw [hρ]; rfl) hnb rfl ?_)
    · simp only [look] at ht
      split at ht
      · rename_i e; subst e; cases ht; exact ⟨h4, fun l hl => by simp only [S0.cells, List.mem_cons, List.not_mem_nil, or_false] at hl; subst hl; trivial⟩
      cases ht
    · rw [hρ]
      have := Smalls.nil.app (cs := [.i n, .s v rows]) (fun c hc => by
        simp only [List.mem_cons, List.not_mem_nil, or_false] at hc
        rcases hc with rfl | rfl
        · exact hsn
        · exact hsm)
      simpa using this
  · have hsz1 : ((a.put (some 16) v).put (some 17) (.map (some bm))).tmps.size = 41 := by rw [put_size, put_size]; exact hsz
    refine ⟨hit, eval_same (Nat.lt_of_lt_of_eq (by decide : 18 < 41) hsz1.symm), by rw [put_size]; exact hsz1, by simp only [put_defers]; exact hdf, below_alloc _ _, ?_, fun g _ h => by cases h⟩
    obtain ⟨es, clock, since, sn, c0, h1, h2, h3, h4, h5⟩ := hit
    exact (Array.getElem?_eq_some_iff.1 h4).1
theorem check_ok : tab3.ok 81 := by
  refine Tab.of_ct rfl rfl ⟨_, Try.func81, by decide, rfl⟩ ?_ ctF_det
  refine ct_ok_open (cx := cchk1) (bds := []) chk_cx Try.func81 (c := bodyOf Try.f81) rfl ⟨by decide, by decide, by decide⟩ fun cs hcs _ => ⟨bds_nil _, fun F w0 Γ a w Q hρ hs hk => ?_⟩
  obtain ⟨n, v, rows, d, rfl, hty⟩ : ∃ n v rows d, cs = [.i n, .s v rows] ∧ TyN Try.prog d 40 rows := by
    match cs, hcs with
    | [c1, c2], ⟨⟨_, n, e1⟩, ⟨_, v, rows, d, e2, hty⟩, _⟩ => exact ⟨n, v, rows, d, by rw [e1, e2], hty⟩
  have hsmall := fun c hc => CTy.small hcs (c := c) hc
  rw [chk_split]
  refine pre_seg (R := ctCheckS.post [.i n, .s v rows]) chk_cx (Ls := []) chk_tree1 (by kernel_rfl) rfl (I := fun _ => rows.length ≤ 200 ∧ rows.all (inB n) = true ∧ rows.all inR = true) (by rw [hρ]; exact chk_vc1 fun e he => by rw [he]; exact rfl) hs ?_ ?_
  · intro xs Γx a' wp hxs hI hρ' he hs'
    obtain ⟨hl, hi, hr⟩ := hI
    have hx : xs = [] := by cases xs with | nil => rfl | cons x xs => exact hxs.elim
    subst hx
    rw [List.append_nil, hρ] at hρ'
    have hsl := hs'.slots 1 _ (rfl : look chkSt1.sl 1 = some (.one (.lf (.arr 40 (.var 1)))))
    have h1 : a'.eval (.tmp 1) = v := by
      have := hsl.1
      unfold slotV at this
      rw [if_pos (by decide)] at this
      refine Eq.trans this ?_
      simp only [SV.den, S0.den, Lf.den, ev_var, hρ']
      rfl
    have hA : ArrOK Try.prog wp Γx.base 40 (.s v rows) := by
      have := hsl.2 (.arr 40 (.var 1)) (by simp [S0.cells])
      have h2 : ArrOK Try.prog wp (Own Γx chkSt1) 40 ((E.var 1).ev Γx.ρ) := this
      rw [show (E.var 1).ev Γx.ρ = .s v rows by rw [ev_var, hρ']; rfl] at h2
      exact h2.keep (Nat.le_refl _) fun b o _ hno => ⟨rfl, fun h => hno (.inl h)⟩
    refine chk_rest (Γ := Γx) (R := ctCheckS.post [.i n, .s v rows]) hρ' hs'.nb (hsmall _ (by simp)) (hsmall _ (by simp)) hty hs'.fold (fun b o h => hs'.base b o h) hs'.keeps hl hA (fun h => ?_) (fun h => ?_) (hk.mono he (List.prefix_refl _)) hs'.size hs'.defers h1
    · rw [← checkV_11 (by omega) hi hr h]; exact rfl
    · rw [← checkV_0 (by omega) hi hr h]; exact rfl
  · intro x st' T' Γ' Ls' hx hk' he hlen' hv' a' w' hs'
    exact hk x st' T' Γ' Ls' hk' he (List.nil_prefix) hlen' hv' a' w' hs'
end Go.Proofs.Ytlbgcjpkegpmlaa
/- kick.Watch: its states; the sensors' alarms by kick. -/
namespace Go.Proofs.Ytlbgcjpkegpmlaa
open Go.RowKit
set_option linter.unusedSimpArgs false
set_option linter.unusedVariables false

def watSt1 : St := { sl := [(0, some (.one (.lf (.arr 23 (.var 0))))), (1, some (.one (.lf (.arr 40 (.var 1))))), (4, some (.one (.lf (.ptr 0 0)))), (9, some (.one (.lf (.ptr 1 0)))), (10, some (.one (.lf (.bool (.lit false)))))], mem := [(1, some (81, [.int (.lit 0), .int (.lit 0)])), (0, some (81, [.int (.lit 0), .int (.lit 0)]))], nt := 74, nb := 2, nx := 2, lvl := 1, bds := [] }
def watStI : St := { sl := [(0, some (.one (.lf (.arr 23 (.var 0))))), (4, some (.one (.lf (.ptr 0 0)))), (9, some (.one (.lf (.ptr 1 0)))), (10, some (.one (.lf (.bool (.of (.var 2)))))), (11, some (.one (.lf (.int (.var 5))))), (12, some (.one (.lf (.arr 40 (.var 6))))), (31, some (.one (.lf (.clo 7))))], mem := [(1, some (81, [.int (.var 3), .int (.var 4)])), (0, some (81, [.int (.lit 0), .int (.lit 0)]))], nt := 74, nb := 2, nx := 8, lvl := 0, bds := [] }
def watStE : St := { sl := [(0, some (.one (.lf (.arr 23 (.var 0))))), (4, some (.one (.lf (.ptr 0 0)))), (9, some (.one (.lf (.ptr 1 0)))), (10, some (.one (.lf (.bool (.of (.var 8)))))), (31, some (.one (.lf (.clo 7))))], mem := [(1, some (81, [.int (.var 9), .int (.var 10)])), (0, some (81, [.int (.lit 0), .int (.lit 0)]))], nt := 74, nb := 2, nx := 11, lvl := 1, bds := [] }
def watStF : St := { sl := [(4, some (.one (.lf (.ptr 0 0)))), (9, some (.one (.lf (.ptr 1 0)))), (10, some (.one (.lf (.bool (.of (.var 2))))))], mem := [(1, some (81, [.int (.var 3), .int (.var 4)])), (0, some (81, [.int (.lit 0), .int (.lit 0)]))], nt := 74, nb := 2, nx := 5, lvl := 0, bds := [] }
end Go.Proofs.Ytlbgcjpkegpmlaa
/- What is to be shown of each function, as the executor has it. Printed by trees.py. -/
namespace Go.Proofs.Ytlbgcjpkegpmlaa
noncomputable def cwat1 : Cx := tab3.only [42, 81, 83] (fun _ => []) [] 0 [] (fun _ => none)
def twat1 : Tree :=
  (.call 42 [(.arr 23 (.var 0))] (.split (.cmp .ne (.var 2) (.lit 0)) (.ret [(.int (.lit 0)), (.int (.lit 0)), (.bool (.lit false)), (.int (.var 2))]) (.call 81 [(.int (.len (.var 0))), (.arr 40 (.var 1))] (.split (.cmp .ne (.var 3) (.lit 0)) (.ret [(.int (.lit 0)), (.int (.lit 0)), (.bool (.lit false)), (.int (.var 3))]) (.back 0 [])))))
noncomputable def cwat2 : Cx := tab3.only [42, 81, 83] (fun _ => []) [] 0 [] (fun _ => none)
def twat2 : Tree :=
  (.ob (.cmp .le (.lit 0) (.var 5)) (.ob (.cmp .lt (.var 5) (.len (.var 0))) (.call 83 [(.int (.cell (.var 0) (.var 5) 0)), (.int (.cell (.var 0) (.var 5) 1)), (.int (.cell (.var 0) (.var 5) 2)), (.int (.cell (.var 0) (.var 5) 3)), (.int (.cell (.var 0) (.var 5) 4)), (.int (.cell (.var 0) (.var 5) 5)), (.int (.cell (.var 0) (.var 5) 6)), (.int (.cell (.var 0) (.var 5) 7)), (.arr 40 (.var 6))] (.split (.of (.var 9)) (.split (.not (.of (.var 2))) (.back 0 [(.bool (.lit true)), (.int (.var 5)), (.int (.var 8))]) (.split (.cmp .lt (.var 8) (.var 4)) (.back 0 [(.bool (.lit true)), (.int (.var 5)), (.int (.var 8))]) (.split (.cmp .eq (.var 8) (.var 4)) (.split (.cmp .lt (.var 5) (.var 3)) (.back 0 [(.bool (.lit true)), (.int (.var 5)), (.int (.var 8))]) (.back 0 [(.bool (.of (.var 2))), (.int (.var 3)), (.int (.var 4))])) (.back 0 [(.bool (.of (.var 2))), (.int (.var 3)), (.int (.var 4))])))) (.back 0 [(.bool (.of (.var 2))), (.int (.var 3)), (.int (.var 4))])))))
noncomputable def cwat3 : Cx := tab3.only [42, 81, 83] (fun _ => []) [] 0 [] (fun _ => none)
def twat3 : Tree :=
  (.ret [(.int (.var 3)), (.int (.var 4)), (.bool (.of (.var 2))), (.int (.lit 0))])
end Go.Proofs.Ytlbgcjpkegpmlaa
/- kick.alarms in the table; kick.Watch's parts. -/
namespace Go.Proofs.Ytlbgcjpkegpmlaa
open Go.RowKit
set_option linter.unusedSimpArgs false
set_option linter.unusedVariables false

theorem wat_split : bodyOf Try.f54 = pre (heads 5 (bodyOf Try.f54)) (nav [1, 1, 1, 1, 1] (bodyOf Try.f54)) := by kernel_rfl
theorem wat_tree1 : execL cwat1 (heads 5 (bodyOf Try.f54)) { startOf Try.f54 ctWatch [] [] with lvl := (startOf Try.f54 ctWatch [] []).lvl + 1 } (joinK (startOf Try.f54 ctWatch [] []) watSt1 [] [] (endK cwat1 Try.f54 ctWatch)) = some twat1 := by kernel_rfl
theorem wat_tree2 : exec cwat1 (nav [1, 1, 1, 1, 1, 0, 1, 0, 0, 1, 1, 0, 1] (bodyOf Try.f54)) { watStI with lvl := watStI.lvl + 1 } (joinK watStI watStE [.slot 10, .blk 1] [.bool, .int, .int] fun _ _ => none) = some twat2 := by kernel_rfl
theorem wat_tree3 : exec cwat1 (nav [1, 1, 1, 1, 1, 1] (bodyOf Try.f54)) watStF (endK cwat1 Try.f54 ctWatch) = some twat3 := by kernel_rfl
theorem wat_cx : CxOK cwat1 := Tab.cx_ok (all_cons (up3_ok (up_ok sensors_ok)) (all_cons check_ok (all_cons alarms_ok all_nil)))
theorem wat_vc1 {R : List C → Prop} {sv v : Value} {sens rows : List (List C)} (hR : ∀ e, sensorsE sens ≠ 0 ∨ checkV sens.length rows ≠ 0 → [C.i 0, .i 0, .b false, .i e] = watchV sens rows → R [.i 0, .i 0, .b false, .i e]) :
    VC cwat1 R twat1 [.s sv sens, .s v rows] [fun _ => sensorsE sens = 0 ∧ checkV sens.length rows = 0] := by
  have h1 : cwat1.ct 42 = some ctSensors := rfl
  have h2 : cwat1.ct 81 = some ctCheckS := rfl
  unfold twat1
  simp only [VC, allC, List.map_cons, List.map_nil, List.length_cons, List.length_nil, List.getElem?_cons_zero, List.getElem?_cons_succ, List.cons.injEq, C.i.injEq, C.b.injEq, and_true, true_and, forall_const, kindsOf_nil, kindsOf_lf, kindsOf_agg, kindsOf_box, boxKinds_nil, boxKinds_lf, boxKinds_agg, boxKinds_box, List.append_nil, List.cons_append, List.nil_append, den_cmp_le, den_cmp_lt, den_cmp_eq, den_cmp_ne, den_cmp_le', den_cmp_lt', den_cmp_eq', den_cmp_ne', den_and, den_and', den_or, den_or', den_not, den_not', den_blit, den_of, ev_var, at_0, at_1, at_2, at_3, at_4, at_5, at_6, at_7, at_skip, c_int, c_bool, c_arr, c_cnt, c_vec, ev_nil, ev_join, ev_sub3, loc_s, int_i, bool_b, rows_s, cs_nil, cs_cons, E.den_lit, E.den_var, E.den_add, E.den_sub, E.den_mul, E.den_quo, E.den_rem, E.den_max, E.den_min, E.den_len, E.den_wr, E.den_cell, h1, h2, ctSensors, ctCheckS, ctF]
  rintro e _ _ rfl
  refine ⟨fun h => hR _ (.inl h) (by unfold watchV; rw [if_neg h]), fun hs => ?_⟩
  rintro e _ _ rfl
  exact ⟨fun h => hR _ (.inr h) (by unfold watchV; rw [if_pos hs, if_neg h]), fun hc => ⟨hs, hc⟩⟩
def WatI (o : Option (Int × Int)) (xs : List C) : Prop := match xs with
  | [.b f, .i s, .i t] => watchC o = [.i s, .i t, .b f, .i 0]
  | _ => False
theorem wat_vc2 {R : List C → Prop} {sv v gv : Value} {sens rows : List (List C)} {f : Bool} {s t k : Int} {p : C} {o : Option (Int × Int)} (hs : sensorsE sens = 0) (hl : rows.length ≤ 200) (hir : rows.all inR = true) (k0 : 0 ≤ k) (k1 : k < sens.length) (ho : WatI o [.b f, .i s, .i t]) :
    VC cwat1 R twat2 [.s sv sens, .s v rows, .b f, .i s, .i t, .i k, .s gv (fltS rows k), p] [WatI (better o k (alarmAt sens rows k))] := by
  have h1 : cwat1.ct 83 = some ctAlarms := rfl
  unfold twat2
  simp only [VC, allC, List.map_cons, List.map_nil, List.length_cons, List.length_nil, List.getElem?_cons_zero, List.getElem?_cons_succ, List.cons.injEq, C.i.injEq, C.b.injEq, and_true, true_and, forall_const, kindsOf_nil, kindsOf_lf, kindsOf_agg, kindsOf_box, boxKinds_nil, boxKinds_lf, boxKinds_agg, boxKinds_box, List.append_nil, List.cons_append, List.nil_append, den_cmp_le, den_cmp_lt, den_cmp_eq, den_cmp_ne, den_cmp_le', den_cmp_lt', den_cmp_eq', den_cmp_ne', den_and, den_and', den_or, den_or', den_not, den_not', den_blit, den_of, ev_var, at_0, at_1, at_2, at_3, at_4, at_5, at_6, at_7, at_skip, c_int, c_bool, c_arr, c_cnt, c_vec, ev_nil, ev_join, ev_sub3, loc_s, int_i, bool_b, rows_s, cs_nil, cs_cons, E.den_lit, E.den_var, E.den_add, E.den_sub, E.den_mul, E.den_quo, E.den_rem, E.den_max, E.den_min, E.den_len, E.den_wr, E.den_cell, h1, ctAlarms, ctF, sensSh]
  have e2 : ∀ v k o (l : List (List C)), ((C.s v l).at k o).int = cell_ (l.getD k []) o := fun _ _ _ _ => rfl
  simp only [e2]
  have hz : k.toNat < sens.length := by omega
  have hsa := sens_at hs hz
  have hfl := @fltS_len rows k
  refine ⟨k0, k1, ⟨by omega, by omega, by omega, by omega, fltS_in hir⟩, ?_⟩
  rintro u _ _ is hal
  have hal' : [C.i u, C.b is] = alarmC (alarmAt sens rows k) := hal
  cases ha : alarmAt sens rows k with
  | none =>
    rw [ha] at hal'
    cases hal'
    exact ⟨fun h => (by cases h), fun _ => ho⟩
  | some u' =>
    rw [ha] at hal'
    cases hal'
    cases o with
    | none =>
      have ho' : watchC none = [.i s, .i t, .b f, .i 0] := ho
      cases ho'
      exact ⟨fun _ => ⟨fun _ => rfl, fun h => (by cases h)⟩, fun h => (by cases h)⟩
    | some x =>
      obtain ⟨s', t'⟩ := x
      have ho' : watchC (some (s', t')) = [.i s, .i t, .b f, .i 0] := ho
      cases ho'
      have yes : (u < t ∨ (u = t ∧ k < s)) → WatI (better (some (s, t)) k (some u)) [.b true, .i k, .i u] := fun h => by simp only [better]; rw [if_pos h]; exact rfl
      have no : ¬ (u < t ∨ (u = t ∧ k < s)) → WatI (better (some (s, t)) k (some u)) [.b true, .i s, .i t] := fun h => by simp only [better]; rw [if_neg h]; exact rfl
      exact ⟨fun _ => ⟨fun h => (by cases h), fun _ => ⟨fun hl => yes (.inl hl), fun hl => ⟨fun he => ⟨fun hks => yes (.inr ⟨he, hks⟩), fun hks => no (by omega)⟩, fun he => no (by omega)⟩⟩⟩, fun h => (by cases h)⟩
end Go.Proofs.Ytlbgcjpkegpmlaa
/- kick.Watch: a round. -/
namespace Go.Proofs.Ytlbgcjpkegpmlaa
open Go.RowKit
set_option linter.unusedSimpArgs false
set_option linter.unusedVariables false

abbrev I64 (n : Int) : Prop := -9223372036854775808 ≤ n ∧ n ≤ 9223372036854775807
structure WatIn (wg : World) (bm b4 b9 : Nat) (sv : Value) (sens rows : List (List C)) (G : Prs) (seen : List Int) (a : Act) (w : World) : Prop where
  it : IterAt w wg.heap.size bm G seen
  s31 : a.eval (.tmp 31) = .pointer (some ⟨wg.heap.size, 0, none⟩)
  s0 : a.eval (.tmp 0) = sv
  s4 : a.eval (.tmp 4) = .pointer (some ⟨b4, 0, none⟩)
  s9 : a.eval (.tmp 9) = .pointer (some ⟨b9, 0, none⟩)
  size : a.tmps.size = 74
  defers : a.defers = []
  os : w.os = wg.os
  tape : w.tape = wg.tape
  output : w.output = wg.output
  lt : wg.heap.size < w.heap.size
  blk : ∀ i, i < wg.heap.size → i ≠ b4 → i ≠ b9 → w.heap[i]? = wg.heap[i]?
  blk4 : Blk w b4 81 #[.int .i64 0, .int .i64 0]
  sub : ∀ k ∈ seen, ∃ g ∈ G, g.1 = k
  best : ∃ o f s t, a.eval (.tmp 10) = .bool f ∧ Blk w b9 81 #[.int .i64 s, .int .i64 t] ∧ WatI o [.b f, .i s, .i t] ∧ Best sens rows (fun k => k ∈ seen) o ∧ I64 s ∧ I64 t
/-- What is kept of what was there: all but the two alarms. -/
structure WatKeep (wg w : World) (b4 b9 : Nat) : Prop where
  os : w.os = wg.os
  tape : w.tape = wg.tape
  output : w.output = wg.output
  size : wg.heap.size ≤ w.heap.size
  blk : ∀ i, i < wg.heap.size → i ≠ b4 → i ≠ b9 → w.heap[i]? = wg.heap[i]?
theorem WatKeep.arr {wg w : World} {b4 b9 : Nat} (h : WatKeep wg w b4 b9) {O O' : Nat → Nat → Prop} {t : TypeId} {c : C} (ha : ArrOK Try.prog wg O t c) (h4 : ∀ o, O b4 o) (h9 : ∀ o, O b9 o) (hO : ∀ b o, b < wg.heap.size → O' b o → O b o) : ArrOK Try.prog w O' t c :=
  ha.keep h.size fun b o hb hno => ⟨World.cell?_of_block (h.blk b hb (fun e => hno (e ▸ h4 o)) fun e => hno (e ▸ h9 o)), fun h' => hno (hO b o hb h')⟩
theorem WatKeep.keeps {wg w : World} {b4 b9 : Nat} (h : WatKeep wg w b4 b9) {F : Nat → Prop} (hF : ∀ i, F i → i < wg.heap.size) (h4 : ¬ F b4) (h9 : ¬ F b9) : Keeps F wg w :=
  ⟨h.os, h.tape, h.output, h.size, fun i hi => h.blk i (hF i hi) (fun e => h4 (e ▸ hi)) fun e => h9 (e ▸ hi)⟩
theorem Groups.keepW {B : Nat} {wg w : World} {b b4 b9 : Nat} {l : List (List C)} {G : Prs} (h : Groups B wg b l G) (hk : WatKeep wg w b4 b9) (hb : B ≤ b) (h4 : b4 < B) (h9 : b9 < B) : Groups B w b l G := by
  refine ⟨h.map.kept (hk.blk b h.map.lt (by omega) (by omega)), h.keys, h.len, fun g hg => ?_, h.apart, h.all, h.has⟩
  obtain ⟨h1, x, h2, h3, h4', h5⟩ := h.rows g hg
  refine ⟨⟨h1.1, h1.2.imp id fun ⟨g', cap, cur, e, hB, hc, rest⟩ => ⟨g', cap, cur, e, hB, ?_, rest⟩⟩, x, h2, h3, Nat.lt_of_lt_of_le h4' hk.size, h5⟩
  rw [hk.blk g' (Array.getElem?_eq_some_iff.1 hc).1 (by omega) (by omega)]
  exact hc
theorem wat_round {wp wg : World} {Γ : Env} {sv v : Value} {sens rows : List (List C)} {d bm b4 b9 : Nat} {G : Prs} {Q : Exit → Act → World → Prop} 
    (hnb : Γ.nb = 2) (hb4 : Γ.blk 0 = b4) (hb9 : Γ.blk 1 = b9) (h49 : b4 ≠ b9) (l4 : b4 < wp.heap.size) (l9 : b9 < wp.heap.size) (hsv : ∀ k, (C.s sv sens).small k) (hsm : ∀ k, (C.s v rows).small k) (hty : TyN Try.prog d 40 rows) (hb : ∀ b o, Γ.base b o → b < wp.heap.size)
    (hpg : Below wp.heap.size wp wg) (hbm : wp.heap.size ≤ bm) (hG : Groups wp.heap.size wg bm rows G) (hS : ArrOK Try.prog wg (fun b o => Γ.base b o ∨ b = b4 ∨ b = b9) 23 (.s sv sens))
    (hs0 : sensorsE sens = 0) (hl : rows.length ≤ 200) (hib : rows.all (inB sens.length) = true) (hir : rows.all inR = true)
    {seen : List Int} {a : Act} {w w' : World} {g : Int × Value} {u : Value} (hin : WatIn wg bm b4 b9 sv sens rows G seen a w) (hg : g ∈ G) (hit : IterAt w' wg.heap.size bm G (g.1 :: seen)) (hs : w'.heap.size = w.heap.size) (hbl : ∀ i, i ≠ wg.heap.size → w'.heap[i]? = w.heap[i]?) (ho : w'.os = w.os) (ht : w'.tape = w.tape) (hu : w'.output = w.output)
    (hent : ∀ u, u.heap[bm]? = w'.heap[bm]? → u.heap[wg.heap.size]? = w'.heap[wg.heap.size]? → (Instr.entry (.pointer (some ⟨wg.heap.size, 0, none⟩))).run Try.prog u = .ok (.tuple #[.int .i64 g.1, g.2]) u) :
    (nav [1, 1, 1, 1, 1, 0, 1, 0, 0, 1, 1, 0] (bodyOf Try.f54)).wp Try.prog (roundQ (WatIn wg bm b4 b9 sv sens rows G (g.1 :: seen)) Q) ((a.put (some 32) u).put (some 33) (.bool true)) w' := by
  have hpgs := hpg.size
  have hkw : WatKeep wg w' b4 b9 := ⟨ho.trans hin.os, ht.trans hin.tape, hu.trans hin.output, by have := hin.lt; omega, fun i hi h4 h9 => (hbl i (by omega)).trans (hin.blk i hi h4 h9)⟩
  obtain ⟨o, f, s, t, e10, hB9, hW, hBest, hbs, hbt⟩ := hin.best
  have hB9' : Blk w' b9 81 #[.int .i64 s, .int .i64 t] := (hbl b9 (by omega)).trans hB9
  have hB4' : Blk w' b4 81 #[.int .i64 0, .int .i64 0] := (hbl b4 (by omega)).trans hin.blk4
  generalize hb1 : Value.bool true = b1
  have q : ∀ x, x ≠ 32 → x ≠ 33 → ((a.put (some 32) u).put (some 33) b1).eval (.tmp x) = a.eval (.tmp x) := fun x h1 h2 => by rw [eval_other h2, eval_other h1]
  have h31 := (q 31 (by decide) (by decide)).trans hin.s31
  have h0 := (q 0 (by decide) (by decide)).trans hin.s0
  have h4 := (q 4 (by decide) (by decide)).trans hin.s4
  have h9 := (q 9 (by decide) (by decide)).trans hin.s9
  have h10 := (q 10 (by decide) (by decide)).trans e10
  have hsz : ((a.put (some 32) u).put (some 33) b1).tmps.size = 74 := by rw [put_size, put_size]; exact hin.size
  have hdf : ((a.put (some 32) u).put (some 33) b1).defers = [] := by rw [put_defers, put_defers]; exact hin.defers
  clear q
  generalize (a.put (some 32) u).put (some 33) b1 = a2 at *
  show (Code.seq (Code.region 11 _ _) (nav [1, 1, 1, 1, 1, 0, 1, 0, 0, 1, 1, 0, 1] (bodyOf Try.f54))).wp _ _ _ _
  refine wp_seq (wp_region_list (list_val rfl (v := .tuple #[.int .i64 g.1, g.2]) (w' := w') (by simp [execOp, h31, hent w' rfl rfl]) (list_val rfl (v := .int .i64 g.1) (w' := w') (by simp [execOp, eval_same (show 34 < a2.tmps.size by omega), Instr.extract]) (list_val rfl (v := g.2) (w' := w') (by
    have e : ((a2.put (some 34) (.tuple #[.int .i64 g.1, g.2])).put (some 35) (.int .i64 g.1)).eval (.tmp 34) = .tuple #[.int .i64 g.1, g.2] := by rw [eval_other (by decide)]; exact eval_same (by omega)
    simp [execOp, e, Instr.extract]) (list_val rfl (v := .int .i64 g.1) (w' := w') (by
    have e : (((a2.put (some 34) (.tuple #[.int .i64 g.1, g.2])).put (some 35) (.int .i64 g.1)).put (some 36) g.2).eval (.tmp 35) = .int .i64 g.1 := by rw [eval_other (by decide)]; exact eval_same (by rw [put_size]; omega)
    simp [execOp, e]) (list_val rfl (v := g.2) (w' := w') (by
    have e : ((((a2.put (some 34) (.tuple #[.int .i64 g.1, g.2])).put (some 35) (.int .i64 g.1)).put (some 36) g.2).put (some 11) (.int .i64 g.1)).eval (.tmp 36) = g.2 := by rw [eval_other (by decide)]; exact eval_same (by rw [put_size, put_size]; omega)
    simp [execOp, e]) ?_))))))
  show Code.wp _ _ _ _ _
  have q : ∀ x, x ≠ 34 → x ≠ 35 → x ≠ 36 → x ≠ 11 → x ≠ 12 → (((((a2.put (some 34) (.tuple #[.int .i64 g.1, g.2])).put (some 35) (.int .i64 g.1)).put (some 36) g.2).put (some 11) (.int .i64 g.1)).put (some 12) g.2).eval (.tmp x) = a2.eval (.tmp x) := fun x h1 h2 h3 h4 h5 => by rw [eval_other h5, eval_other h4, eval_other h3, eval_other h2, eval_other h1]
  have g31 := (q 31 (by decide) (by decide) (by decide) (by decide) (by decide)).trans h31
  have g0 := (q 0 (by decide) (by decide) (by decide) (by decide) (by decide)).trans h0
  have g4 := (q 4 (by decide) (by decide) (by decide) (by decide) (by decide)).trans h4
  have g9 := (q 9 (by decide) (by decide) (by decide) (by decide) (by decide)).trans h9
  have g10 := (q 10 (by decide) (by decide) (by decide) (by decide) (by decide)).trans h10
  have g12 : (((((a2.put (some 34) (.tuple #[.int .i64 g.1, g.2])).put (some 35) (.int .i64 g.1)).put (some 36) g.2).put (some 11) (.int .i64 g.1)).put (some 12) g.2).eval (.tmp 12) = g.2 := eval_same (by simp only [put_size]; omega)
  have g11 : (((((a2.put (some 34) (.tuple #[.int .i64 g.1, g.2])).put (some 35) (.int .i64 g.1)).put (some 36) g.2).put (some 11) (.int .i64 g.1)).put (some 12) g.2).eval (.tmp 11) = .int .i64 g.1 := by rw [eval_other (by decide)]; exact eval_same (by simp only [put_size]; omega)
  have hsz' : (((((a2.put (some 34) (.tuple #[.int .i64 g.1, g.2])).put (some 35) (.int .i64 g.1)).put (some 36) g.2).put (some 11) (.int .i64 g.1)).put (some 12) g.2).tmps.size = 74 := by simp only [put_size]; exact hsz
  have hdf' : (((((a2.put (some 34) (.tuple #[.int .i64 g.1, g.2])).put (some 35) (.int .i64 g.1)).put (some 36) g.2).put (some 11) (.int .i64 g.1)).put (some 12) g.2).defers = [] := by simp only [put_defers]; exact hdf
  clear q
  generalize ((((a2.put (some 34) (.tuple #[.int .i64 g.1, g.2])).put (some 35) (.int .i64 g.1)).put (some 36) g.2).put (some 11) (.int .i64 g.1)).put (some 12) g.2 = a3 at *
  have hGk := hG.keepW hkw hbm l4 l9
  obtain ⟨hga, hgs⟩ := hGk.arr hty hsm hg (O := fun b o => Γ.base b o ∨ b = b4 ∨ b = b9) fun x hx o hxo => by
    rcases hxo with h | h | h
    · have := hb x o h; omega
    · omega
    · omega
  have hSk := hkw.arr (O' := fun b o => Γ.base b o ∨ b = b4 ∨ b = b9) hS (fun _ => .inr (.inl rfl)) (fun _ => .inr (.inr rfl)) fun _ _ _ h => h
  have hk : I64 g.1 := hG.keys g hg
  have hkr : 0 ≤ g.1 ∧ g.1 < sens.length := by
    obtain ⟨r, hr, e⟩ := hG.has g hg
    have := List.all_eq_true.1 hib r hr
    rw [e]
    simpa [inB] using this
  have hmem : ∀ b mb, look watStI.mem b = some mb → (b = 1 ∧ mb = (81, [.int (.var 3), .int (.var 4)])) ∨ (b = 0 ∧ mb = (81, [.int (.lit 0), .int (.lit 0)])) := fun b mb h => by
    simp only [watStI, look] at h
    split at h
    · rename_i e; subst e; cases h; exact .inl ⟨rfl, rfl⟩
    split at h
    · rename_i e; subst e; cases h; exact .inr ⟨rfl, rfl⟩
    cases h
  have hw'lt := hin.lt
  have hsat : Sat Try.prog (fun i => i < w'.heap.size ∧ i ≠ b4 ∧ i ≠ b9) w' { Γ with ρ := [.s sv sens, .s v rows, .b f, .i s, .i t, .i g.1, .s g.2 (fltS rows g.1), .s (.pointer (some ⟨wg.heap.size, 0, none⟩)) []] } watStI a3 w' := by
    refine Sat.bare rfl rfl (fun b mb h => ?_) (fun i j x y h1 h2 e => ?_) (fun t sv ht => ?_) hsz' (Keeps.refl _ _) (fun _ h => h.1) (fun b o h => by have := hb b o h; omega) hdf' rfl hnb rfl ?_
    · rcases hmem b mb h with ⟨rfl, rfl⟩ | ⟨rfl, rfl⟩
      · refine ⟨?_, fun l hl O => ?_, fun h => h.2.2 hb9, by decide⟩
        · show Blk w' (Γ.blk 1) _ _
          rw [hb9]; exact hB9'
        · simp only [List.mem_cons, List.not_mem_nil, or_false] at hl
          rcases hl with rfl | rfl <;> trivial
      · refine ⟨?_, fun l hl O => ?_, fun h => h.2.1 hb4, by decide⟩
        · show Blk w' (Γ.blk 0) _ _
          rw [hb4]; exact hB4'
        · simp only [List.mem_cons, List.not_mem_nil, or_false] at hl
          rcases hl with rfl | rfl <;> trivial
    · have e' : Γ.blk i = Γ.blk j := e
      rcases hmem i x h1 with ⟨rfl, -⟩ | ⟨rfl, -⟩ <;> rcases hmem j y h2 with ⟨rfl, -⟩ | ⟨rfl, -⟩
      · rfl
      · exact absurd (hb4.symm.trans (e'.symm.trans hb9)) h49
      · exact absurd (hb4.symm.trans (e'.trans hb9)) h49
      · rfl
    · have hO : ∀ b o, (Γ.base b o ∨ ∃ j mb, look watStI.mem j = some mb ∧ Γ.blk j = b) → (Γ.base b o ∨ b = b4 ∨ b = b9) := fun b o h => by
        rcases h with h | ⟨j, mb, h, e⟩
        · exact .inl h
        · rcases hmem j mb h with ⟨rfl, -⟩ | ⟨rfl, -⟩
          · exact .inr (.inr (e.symm.trans hb9))
          · exact .inr (.inl (e.symm.trans hb4))
      simp only [watStI, look] at ht
      split at ht
      · rename_i e; subst e; cases ht; exact ⟨g0, fun l hl => by
          simp only [S0.cells, List.mem_cons, List.not_mem_nil, or_false] at hl; subst hl
          exact hSk.keep (Nat.le_refl _) fun b o _ hno => ⟨rfl, fun h => hno (hO b o h)⟩⟩
      split at ht
      · rename_i e; subst e; cases ht; exact ⟨by show a3.eval (.tmp 4) = .pointer (some ⟨Γ.blk 0, 0, none⟩); rw [hb4]; exact g4, fun l hl => by simp only [S0.cells, List.mem_cons, List.not_mem_nil, or_false] at hl; subst hl; trivial⟩
      split at ht
      · rename_i e; subst e; cases ht; exact ⟨by show a3.eval (.tmp 9) = .pointer (some ⟨Γ.blk 1, 0, none⟩); rw [hb9]; exact g9, fun l hl => by simp only [S0.cells, List.mem_cons, List.not_mem_nil, or_false] at hl; subst hl; trivial⟩
      split at ht
      · rename_i e; subst e; cases ht; exact ⟨g10, fun l hl => by simp only [S0.cells, List.mem_cons, List.not_mem_nil, or_false] at hl; subst hl; trivial⟩
      split at ht
      · rename_i e; subst e; cases ht; exact ⟨g11, fun l hl => by simp only [S0.cells, List.mem_cons, List.not_mem_nil, or_false] at hl; subst hl; trivial⟩
      split at ht
      · rename_i e; subst e; cases ht; exact ⟨g12, fun l hl => by
          simp only [S0.cells, List.mem_cons, List.not_mem_nil, or_false] at hl; subst hl
          exact hga.keep (Nat.le_refl _) fun b o _ hno => ⟨rfl, fun h => hno (hO b o h)⟩⟩
      split at ht
      · rename_i e; subst e; cases ht; exact ⟨g31, fun l hl => by simp only [S0.cells, List.mem_cons, List.not_mem_nil, or_false] at hl; subst hl; rfl⟩
      cases ht
    · have := Smalls.nil.app (cs := [.s sv sens, .s v rows, .b f, .i s, .i t, .i g.1, .s g.2 (fltS rows g.1), .s (.pointer (some ⟨wg.heap.size, 0, none⟩)) []]) (fun c hc => by
        simp only [List.mem_cons, List.not_mem_nil, or_false] at hc
        rcases hc with rfl | rfl | rfl | rfl | rfl | rfl | rfl | rfl
        · exact hsv
        · exact hsm
        · intro n; cases n <;> simp [C.small]
        · intro n; cases n <;> exact hbs
        · intro n; cases n <;> exact hbt
        · intro n; cases n <;> exact hk
        · exact hgs
        · intro n; cases n <;> simp [C.small])
      simpa using this
  refine seg_sound (R := fun _ => True) wat_cx (Ls := []) (I := WatI (better o g.1 (alarmAt sens rows g.1))) wat_tree2 (by kernel_rfl) rfl (wat_vc2 hs0 hl hir hkr.1 hkr.2 hW) hsat ?_ ?_
  · intro xs Γx a' w2 hxs hI hρ' he hs'
    obtain ⟨f', s', t', rfl, is', it'⟩ : ∃ f' s' t', xs = [.b f', .i s', .i t'] ∧ I64 s' ∧ I64 t' := by
      match xs, hxs with
      | [c1, c2, c3], ⟨⟨_, f', e1⟩, ⟨h2, s', e2⟩, ⟨h3, t', e3⟩, _⟩ => 
        subst e1 e2 e3
        exact ⟨f', s', t', rfl, h2 0, h3 0⟩
    have hkp := hs'.keeps
    have ev : ∀ t sv, t < 1000 → look watStE.sl t = some sv → a'.eval (.tmp t) = sv.den Γx := fun t sv ht hl => by
      have := (hs'.slots t sv hl).1
      unfold slotV at this
      rwa [if_pos ht] at this
    have eb : ∀ j, j < 2 → Γx.blk j = Γ.blk j := fun j hj => he.blk j (by show j < Γ.nb; omega)
    have m1 := (hs'.mem 1 _ (rfl : look watStE.mem 1 = some (81, [.int (.var 9), .int (.var 10)]))).1
    have m0 := (hs'.mem 0 _ (rfl : look watStE.mem 0 = some (81, [.int (.lit 0), .int (.lit 0)]))).1
    rw [eb 1 (by omega), hb9] at m1
    rw [eb 0 (by omega), hb4] at m0
    have hm := hGk.map.lt
    have hbmg := hG.map.lt
    have hks := hkp.size
    refine ⟨hit.kept (hkp.block _ ⟨hm, by omega, by omega⟩) (hkp.block _ ⟨by omega, by omega, by omega⟩), ?_, ?_, ?_, ?_, hs'.size, hs'.defers, hkp.os.trans hkw.os, hkp.tape.trans hkw.tape, hkp.output.trans hkw.output, by omega, fun i hi h4 h9 => (hkp.block i ⟨by omega, h4, h9⟩).trans (hkw.blk i hi h4 h9), m0, fun k hk => ?_, better o g.1 (alarmAt sens rows g.1), f', s', t', ?_, ?_, hI, (hBest.add g.1).congr fun j => by simp, is', it'⟩
    · refine (ev 31 _ (by decide) rfl).trans ?_
      simp only [SV.den, S0.den, Lf.den, hρ']; rfl
    · refine (ev 0 _ (by decide) rfl).trans ?_
      simp only [SV.den, S0.den, Lf.den, ev_var, hρ']
      obtain ⟨v1, r1, e, -⟩ := hS
      cases e; rfl
    · refine (ev 4 _ (by decide) rfl).trans ?_
      simp only [SV.den, S0.den, Lf.den, eb 0 (by omega), hb4]
    · refine (ev 9 _ (by decide) rfl).trans ?_
      simp only [SV.den, S0.den, Lf.den, eb 1 (by omega), hb9]
    · rcases List.mem_cons.1 hk with rfl | hk
      · exact ⟨g, hg, rfl⟩
      · exact hin.sub k hk
    · refine (ev 10 _ (by decide) rfl).trans ?_
      simp only [SV.den, S0.den, Lf.den, hρ']; rfl
    · have : dens Γx [.int (.var 9), .int (.var 10)] = #[.int .i64 s', .int .i64 t'] := by
        unfold dens
        simp only [List.map_cons, List.map_nil, Lf.den, E.den_var, hρ']
        rfl
      rw [this] at m1
      exact m1
  · intro x st' T' Γ' Ls' hx hk' he hlen' hv' a' w2 hs'
    cases hk'
end Go.Proofs.Ytlbgcjpkegpmlaa
