/- Texts laid into one: XB3 XB4 XD1 XD2 XD3 XW XDC XM X6 XF XDG S T. -/
import Derived.Test.YtlbgcjpkegpmlaaCounts8
import Derived.Below
/- The samples of each sensor, in a map. -/
namespace Go.Proofs.Ytlbgcjpkegpmlaa
open Go.RowKit
open Go.ChangeMaps (setBlock heap_setBlock_same heap_setBlock_other)
set_option linter.unusedSimpArgs false
set_option linter.unusedVariables false

def flt (l : List (List C)) (k : Int) : List (List C) := l.filter fun r => cell_ r 0 == k
def samOf (r : List C) : Array Value := sam (cell_ r 0) (cell_ r 1) (cell_ r 2)
def cellsV (l : List (List C)) : List Value := l.flatMap fun r => (samOf r).toList
theorem flt_snoc {l : List (List C)} {r : List C} {k : Int} : flt (l ++ [r]) k = flt l k ++ (if cell_ r 0 = k then [r] else []) := by
  unfold flt
  rw [List.filter_append]
  congr 1
  by_cases h : cell_ r 0 = k
  · simp [h]
  · simp [h]
structure Groups (B : Nat) (w : World) (b : Nat) (l : List (List C)) (G : Prs) : Prop where
  map : MapAt w b G
  keys : ∀ g ∈ G, -9223372036854775808 ≤ g.1 ∧ g.1 ≤ 9223372036854775807
  len : G.length ≤ l.length
  rows : ∀ g ∈ G, w.ownsRow B 40 3 g.2 (flt l g.1).length (cellsV (flt l g.1)) ∧ ∃ x, g.2.ownBlock = some x ∧ B ≤ x ∧ x < w.heap.size ∧ x ≠ b
  apart : ∀ g ∈ G, ∀ h ∈ G, g.2.ownBlock = h.2.ownBlock → g.1 = h.1
  all : ∀ r ∈ l, ∃ g ∈ G, g.1 = cell_ r 0
  has : ∀ g ∈ G, ∃ r ∈ l, g.1 = cell_ r 0
theorem Groups.empty {B : Nat} {w : World} {b : Nat} {l : List (List C)} {G : Prs} (h : Groups B w b l G) {k : Int} (hk : ∀ g ∈ G, g.1 ≠ k) : flt l k = [] := by
  unfold flt
  rw [List.filter_eq_nil_iff]
  intro r hr
  obtain ⟨g, hg, e⟩ := h.all r hr
  have := hk g hg
  simp
  intro e'
  exact this (by rw [e, e'])
theorem Groups.old {B : Nat} {w : World} {b : Nat} {l : List (List C)} {G : Prs} (h : Groups B w b l G) (k : Int) :
    w.ownsRow B 40 3 (valAt G k (.slice none 0 0)) (flt l k).length (cellsV (flt l k)) ∧ ((valAt G k (.slice none 0 0)).ownBlock = none ∨ (k, valAt G k (.slice none 0 0)) ∈ G) := by
  by_cases hk : ∃ g ∈ G, g.1 = k
  · obtain ⟨g, hg, rfl⟩ := hk
    rw [valAt_some h.map.nodup (show (g.1, g.2) ∈ G from hg)]
    exact ⟨(h.rows g hg).1, .inr hg⟩
  · have hk' : ∀ g ∈ G, g.1 ≠ k := fun g hg e => hk ⟨g, hg, e⟩
    rw [valAt_none hk', h.empty hk']
    exact ⟨World.ownsRow_nil _ _ _ _, .inl rfl⟩
/-- One sample more. -/
theorem Groups.step {B : Nat} {w w1 w2 : World} {b : Nat} {l : List (List C)} {G : Prs} (h : Groups B w b l G) (hB : B ≤ w.heap.size) {r : List C} (hk : -9223372036854775808 ≤ cell_ r 0 ∧ cell_ r 0 ≤ 9223372036854775807) {v' : Value} {o : Obj} (h1 : Below w.heap.size w w1 ∧ w1.heap.size = w.heap.size + 1) (hg : w1.grownBy w2 (valAt G (cell_ r 0) (.slice none 0 0)).ownBlock)
    (hown : w2.ownsRow B 40 3 v' ((flt l (cell_ r 0)).length + 1) (cellsV (flt l (cell_ r 0)) ++ (samOf r).toList)) (hnn : v' ≠ .slice none 0 0) (hloc : v'.ownBlock = (valAt G (cell_ r 0) (.slice none 0 0)).ownBlock ∨ v'.ownBlock = some w1.heap.size)
    (hm : MapAt (setBlock w2 b o) b (putG G (cell_ r 0) v')) (hoth : ∀ i, i ≠ b → (setBlock w2 b o).heap[i]? = w2.heap[i]?) :
    Groups B (setBlock w2 b o) b (l ++ [r]) (putG G (cell_ r 0) v') ∧ (∀ i, i < w.heap.size → i ≠ b → (∀ g ∈ G, g.2.ownBlock ≠ some i) → (setBlock w2 b o).heap[i]? = w.heap[i]?) ∧ w.heap.size ≤ (setBlock w2 b o).heap.size ∧ ∀ g ∈ putG G (cell_ r 0) v', ∀ x, g.2.ownBlock = some x → (∃ g' ∈ G, g'.2.ownBlock = some x) ∨ w.heap.size ≤ x := by
  have hnd := h.map.nodup
  have hblt := h.map.lt
  obtain ⟨-, hold⟩ := h.old (cell_ r 0)
  have hs2 : w.heap.size ≤ w2.heap.size := by have := hg.size; omega
  have hsz : (setBlock w2 b o).heap.size = w2.heap.size := by simp [setBlock]
  have hg3 : w2.grownBy (setBlock w2 b o) (some b) := ⟨rfl, rfl, rfl, by rw [hsz]; exact Nat.le_refl _, fun i _ hi => hoth i fun e => hi (by rw [e])⟩
  have hg1 : w.grownBy w1 none := ⟨h1.1.os, h1.1.tape, h1.1.output, h1.1.size, fun i hi _ => h1.1.block i hi⟩
  have hv' : ∃ x, v'.ownBlock = some x ∧ B ≤ x ∧ x < w2.heap.size ∧ x ≠ b ∧ ((∃ g ∈ G, g.2.ownBlock = some x ∧ g.1 = cell_ r 0) ∨ w.heap.size ≤ x) := by
    rcases hown.2 with ⟨e, -⟩ | ⟨g, cap, cur, e, hBg, hgg, -⟩
    · exact absurd e hnn
    · have hob : v'.ownBlock = some g := by rw [e]; rfl
      refine ⟨g, hob, hBg, (Array.getElem?_eq_some_iff.1 hgg).1, ?_⟩
      rcases hloc with hl | hl
      · rcases hold with ho | ho
        · rw [hl, ho] at hob; cases hob
        · rw [hl] at hob
          obtain ⟨x, hx, -, -, hxb⟩ := (h.rows _ ho).2
          rw [hob] at hx
          cases hx
          exact ⟨hxb, .inl ⟨_, ho, hob, rfl⟩⟩
      · rw [hl] at hob
        cases hob
        exact ⟨by omega, .inr (by omega)⟩
  obtain ⟨x', hx', hBx', hlt', hb', hwho⟩ := hv'
  have hkept : ∀ g ∈ G, g.1 ≠ cell_ r 0 → (setBlock w2 b o).ownsRow B 40 3 g.2 (flt l g.1).length (cellsV (flt l g.1)) := fun g hgm hne => by
    obtain ⟨ho, x, hx, -, hxs, hxb⟩ := h.rows g hgm
    refine ((ho.kept hg1 (.inr (by rw [hx]; simp))).kept hg (.inr fun e => ?_)).kept hg3 (.inr (by rw [hx]; simpa using hxb))
    rcases hold with h' | h'
    · rw [h'] at e; rw [hx] at e; cases e
    · exact hne (h.apart g hgm _ h' e)
  refine ⟨⟨hm, fun g hgm => ?_, ?_, fun g hgm => ?_, fun g hgm g' hgm' e => ?_, fun r' hr' => ?_, fun g hgm => ?_⟩, fun i hi hib hig => ?_, by rw [hsz]; exact hs2, fun g hgm x hx => ?_⟩
  · rcases (putG_mem hnd).1 hgm with rfl | ⟨hgm, -⟩
    · exact hk
    · exact h.keys g hgm
  · have := @putG_len (cell_ r 0) v' G
    have := h.len
    simp
    omega
  · rcases (putG_mem hnd).1 hgm with rfl | ⟨hgm, hne⟩
    · refine ⟨?_, x', hx', hBx', by rw [hsz]; exact hlt', hb'⟩
      rw [flt_snoc, if_pos rfl, List.length_append]
      unfold cellsV at hown ⊢
      rw [List.flatMap_append]
      simp only [List.flatMap_cons, List.flatMap_nil, List.append_nil]
      exact hown.kept hg3 (.inr (by rw [hx']; simpa using hb'))
    · rw [flt_snoc, if_neg (Ne.symm hne), List.append_nil]
      obtain ⟨-, x, hx, hBx, hxs, hxb⟩ := h.rows g hgm
      exact ⟨hkept g hgm hne, x, hx, hBx, by rw [hsz]; omega, hxb⟩
  · have two : ∀ g ∈ G, g.1 ≠ cell_ r 0 → g.2.ownBlock ≠ v'.ownBlock := fun g hgm hne e => by
      rw [hx'] at e
      rcases hwho with ⟨g0, hg0, e0, e1⟩ | hge
      · exact hne ((h.apart g hgm g0 hg0 (e.trans e0.symm)).trans e1)
      · obtain ⟨-, x, hx, -, hxs, -⟩ := h.rows g hgm
        rw [hx] at e
        cases e
        omega
    rcases (putG_mem hnd).1 hgm with rfl | ⟨hgm, hne⟩
    · rcases (putG_mem hnd).1 hgm' with rfl | ⟨hgm', hne'⟩
      · rfl
      · exact absurd e.symm (two g' hgm' hne')
    · rcases (putG_mem hnd).1 hgm' with rfl | ⟨hgm', hne'⟩
      · exact absurd e (two g hgm hne)
      · exact h.apart g hgm g' hgm' e
  · rcases List.mem_append.1 hr' with hr' | hr'
    · obtain ⟨g, hgm, e⟩ := h.all r' hr'
      by_cases hne : g.1 = cell_ r 0
      · exact ⟨_, (putG_mem hnd).2 (.inl rfl), by rw [← e]; exact hne.symm⟩
      · exact ⟨g, (putG_mem hnd).2 (.inr ⟨hgm, hne⟩), e⟩
    · simp only [List.mem_cons, List.not_mem_nil, or_false] at hr'
      subst hr'
      exact ⟨_, (putG_mem hnd).2 (.inl rfl), rfl⟩
  · rcases (putG_mem hnd).1 hgm with rfl | ⟨hgm, -⟩
    · exact ⟨r, by simp, rfl⟩
    · obtain ⟨r', hr', e⟩ := h.has g hgm
      exact ⟨r', by simp [hr'], e⟩
  · rw [hoth i hib]
    refine (hg.block i (by omega) fun e => ?_).trans (h1.1.block i hi)
    rcases hold with h' | h'
    · rw [h'] at e; cases e
    · exact hig _ h' e.symm
  · rcases (putG_mem hnd).1 hgm with rfl | ⟨hgm, -⟩
    · have hx2 : v'.ownBlock = some x := hx
      rw [hx'] at hx2
      cases hx2
      rcases hwho with ⟨g0, hg0, e0, -⟩ | hge
      · exact .inl ⟨g0, hg0, e0⟩
      · exact .inr hge
    · exact .inl ⟨g, hgm, hx⟩
end Go.Proofs.Ytlbgcjpkegpmlaa
/- kick.bySensor. -/
namespace Go.Proofs.Ytlbgcjpkegpmlaa
open Go.RowKit
open Go.ChangeMaps (setBlock heap_setBlock_same heap_setBlock_other)
set_option linter.unusedSimpArgs false
set_option linter.unusedVariables false

noncomputable def cNone : Cx := tab.only [] (fun _ => [])
theorem cNone_ok : CxOK cNone := Tab.cx_ok all_nil
/-- At the loop's head; behind the row's copy. -/
def bySt : St := { sl := [(9, some (.one (.lf (.int (.var 2))))), (8, some (.one (.lf (.int (.len (.var 0)))))), (7, some (.one (.lf (.arr 40 (.var 0))))), (3, some (.one (.lf (.clo 1))))], mem := [], nt := 25, nb := 0, nx := 3, lvl := 0, bds := [] }
def bySt4 : St := { bySt with sl := (5, some (.one (.lf (.ptr 0 0)))) :: bySt.sl, mem := [(0, some (40, [.int (.cell (.var 0) (.var 2) 0), .int (.cell (.var 0) (.var 2) 1), .int (.cell (.var 0) (.var 2) 2)]))], nb := 1, lvl := 1 }
noncomputable def by4 : Code :=
  match Try.f82.body with
  | some (.seq _ (.seq _ (.seq (.seq _ (.block _ (.loop (.seq _ (.seq _ (.seq (.block _ (.seq c _)) _)))))) _))) => c
  | _ => .skip
def by4T : Tree := .ob (.cmp .le (.lit 0) (.var 2)) (.ob (.cmp .lt (.var 2) (.len (.var 0))) (.back 0 []))
theorem by4_tree : exec cNone by4 { bySt with lvl := bySt.lvl + 1 } (joinK bySt bySt4 [] [] fun _ _ => none) = some by4T := by kernel_rfl
/-- A state in which only slots are known. -/
theorem Sat.start {P : Program} {F : Nat → Prop} {Γ : Env} {st : St} {a : Act} {w : World} (h1 : st.mem = []) (h2 : st.vec = []) (h3 : st.clo = []) (h4 : ∀ t sv, look st.sl t = some sv → slotV Γ a t = sv.den Γ ∧ sv.ok P w Γ.base Γ) (h5 : a.tmps.size = st.nt) (h6 : ∀ i, F i → i < w.heap.size) (h7 : ∀ b o, Γ.base b o → b < w.heap.size)
    (h8 : a.defers = []) (h9 : Γ.ρ.length = st.nx) (h10 : Γ.nb = st.nb) (h11 : st.bds = []) (h12 : Smalls Γ.ρ) : Sat P F w Γ st a w := by
  have hown : ∀ b o, Own Γ st b o → Γ.base b o := fun b o h => by
    rcases Own.iff.1 h with h | ⟨s, j, h⟩
    · exact h
    · rcases h.inv with ⟨-, mb, hm, -⟩ | ⟨-, e, he, -⟩
      · rw [h1] at hm; cases hm
      · rw [h2] at he; cases he
  refine ⟨fun t sv ht => ⟨(h4 t sv ht).1, SV.ok_anti (h4 t sv ht).2 hown⟩, h5, fun b mb hm => ?_, fun i e he => ?_, fun i e he => ?_, fun s j s' j' b h => ?_, Keeps.refl _ _, h6, h7, h8, h9, h10, ⟨by rw [h11]; exact bds_nil _, h12⟩⟩
  · rw [h1] at hm; cases hm
  · rw [h2] at he; cases he
  · rw [h3] at he; cases he
  · rcases h.inv with ⟨-, mb, hm, -⟩ | ⟨-, e, he, -⟩
    · rw [h1] at hm; cases hm
    · rw [h2] at he; cases he
theorem Groups.keep {B : Nat} {w w' : World} {b : Nat} {l : List (List C)} {G : Prs} (h : Groups B w b l G) (hb : Below w.heap.size w w') : Groups B w' b l G := by
  have hg : w.grownBy w' none := ⟨hb.os, hb.tape, hb.output, hb.size, fun i hi _ => hb.block i hi⟩
  refine ⟨h.map.kept (hb.block b h.map.lt), h.keys, h.len, fun g hg' => ?_, h.apart, h.all, h.has⟩
  obtain ⟨h1, x, h2, h3, h4, h5⟩ := h.rows g hg'
  exact ⟨h1.kept hg (.inr (by rw [h2]; simp)), x, h2, h3, Nat.lt_of_lt_of_le h4 hb.size, h5⟩
theorem fills_eval {t : Nat} : ∀ {l : List (Tmp × Value)} {a : Act}, (∀ p ∈ l, p.1 ≠ t) → (fills l a).eval (.tmp t) = a.eval (.tmp t)
  | [], _, _ => rfl
  | (d, v) :: l, a, h => by
    show (fills l (a.put (some d) v)).eval (.tmp t) = _
    rw [fills_eval fun p hp => h p (by simp [hp]), eval_other (Ne.symm (h (d, v) (by simp)))]
theorem fills_size : ∀ {l : List (Tmp × Value)} {a : Act}, (fills l a).tmps.size = a.tmps.size
  | [], _ => rfl
  | (d, v) :: l, a => by
    show (fills l (a.put (some d) v)).tmps.size = _
    rw [fills_size, put_size]
theorem fills_defers : ∀ {l : List (Tmp × Value)} {a : Act}, (fills l a).defers = a.defers
  | [], _ => rfl
  | (d, v) :: l, a => by
    show (fills l (a.put (some d) v)).defers = _
    rw [fills_defers]; rfl
/-- What a round hands on. -/
structure ByIn (w0 : World) (v : Value) (rows : List (List C)) (bm i : Nat) (a : Act) (w : World) : Prop where
  size : a.tmps.size = 25
  defers : a.defers = []
  s9 : a.eval (.tmp 9) = .int .i64 i
  s8 : a.eval (.tmp 8) = .int .i64 rows.length
  s7 : a.eval (.tmp 7) = v
  s3 : a.eval (.tmp 3) = .map (some bm)
  le : i ≤ rows.length
  bmge : w0.heap.size ≤ bm
  below : Below w0.heap.size w0 w
  gr : ∃ G, Groups w0.heap.size w bm (rows.take i) G
theorem row_ints {d : Nat} {rows : List (List C)} (h : TyN Try.prog d 40 rows) {r : List C} (hr : r ∈ rows) : ∃ a b c, r = [.i a, .i b, .i c] := by
  cases d with
  | zero => exact h.elim
  | succ d =>
    obtain ⟨ks, hk, hh⟩ := h
    rw [kinds_sam] at hk
    cases hk
    obtain ⟨hl, hc⟩ := hh r hr
    obtain ⟨c0, h0, n0, rfl⟩ := hc 0 .int rfl
    obtain ⟨c1, h1, n1, rfl⟩ := hc 1 .int rfl
    obtain ⟨c2, h2, n2, rfl⟩ := hc 2 .int rfl
    match r, hl, h0, h1, h2 with
    | [a, b, c], _, h0, h1, h2 =>
      simp at h0 h1 h2
      exact ⟨n0, n1, n2, by rw [h0, h1, h2]⟩
theorem eval_const {a : Act} {v : Value} : a.eval (.const v) = v := rfl
theorem put_defers {a : Act} {d : Option Tmp} {v : Value} : (a.put d v).defers = a.defers := by cases d <;> rfl
theorem by_start {w : World} {v : Value} {rows : List (List C)} {a0 : Act} (hsz : a0.tmps.size = 25) (hdf : a0.defers = []) : ByIn w v rows w.heap.size 0 (((((((a0.put (some 2) (.map none)).put (some 6) (.map (some w.heap.size))).put (some 3) (.map (some w.heap.size))).put (some 7) v).put (some 8) (.int .i64 rows.length)).put (some 9) (.int .i64 0))) (w.alloc (.map #[] 0)) := by
  constructor
  · simp only [put_size, hsz]
  · simp only [put_defers]; exact hdf
  · rw [eval_same (by simp only [put_size, hsz]; omega)]; simp
  · rw [eval_other (by decide), eval_same (by simp only [put_size, hsz]; omega)]
  · rw [eval_other (by decide), eval_other (by decide), eval_same (by simp only [put_size, hsz]; omega)]
  · rw [eval_other (by decide), eval_other (by decide), eval_other (by decide), eval_same (by simp only [put_size, hsz]; omega)]
  · exact Nat.zero_le _
  · exact Nat.le_refl _
  · exact below_alloc w _
  · refine ⟨[], ?_⟩
    constructor
    · exact MapAt.made w
    · intro g hg; cases hg
    · exact Nat.zero_le _
    · intro g hg; cases hg
    · intro g hg; cases hg
    · intro r hr; simp at hr
    · intro g hg; cases hg
noncomputable def byBlk : Code :=
  match Try.f82.body with
  | some (.seq _ (.seq _ (.seq (.seq _ c) _))) => c
  | _ => .skip
/-- One round, up to the counter. -/
theorem by_round {w0 : World} {v : Value} {rows : List (List C)} {bm i : Nat} {a : Act} {w : World} {Q : Exit → Act → World → Prop} {d : Nat} (hsm : ∀ n, (C.s v rows).small n) (hty : TyN Try.prog d 40 rows) (hA : ∀ w', Below w0.heap.size w0 w' → ∃ S : Nat → Nat → Prop, (∀ b o, S b o → b < w0.heap.size) ∧ ∀ O : Nat → Nat → Prop, (∀ b o, S b o → ¬ O b o) → ArrOK Try.prog w' O 40 (.s v rows))
    (hl : rows.length ≤ 1000000) (hgr : ∃ G, Groups w0.heap.size w bm (rows.take i) G) (hbel : Below w0.heap.size w0 w) (hbm : w0.heap.size ≤ bm) (hlt : i < rows.length) (hsz : a.tmps.size = 25) (hdf : a.defers = []) (h9 : a.eval (.tmp 9) = .int .i64 i) (h8 : a.eval (.tmp 8) = .int .i64 rows.length) (h7 : a.eval (.tmp 7) = v) (h3 : a.eval (.tmp 3) = .map (some bm))
    (hQ : ∀ a' w', (a'.tmps.size = 25 ∧ a'.defers = [] ∧ a'.eval (.tmp 9) = .int .i64 i ∧ a'.eval (.tmp 8) = .int .i64 rows.length ∧ a'.eval (.tmp 7) = v ∧ a'.eval (.tmp 3) = .map (some bm) ∧ Below w0.heap.size w0 w' ∧ ∃ G, Groups w0.heap.size w' bm (rows.take (i + 1)) G) → Q .normal a' w') : (Code.seq by4 (Code.region 5 by5 true)).wp Try.prog Q a w := by
  obtain ⟨S, hS, hArr⟩ := hA w hbel
  have hrl : rows.length ≤ 9223372036854775807 := by omega
  have hsat : Sat Try.prog (fun j => j < w.heap.size) w ⟨[.s v rows, .s (.map (some bm)) [], .i i], fun _ => 0, 0, fun b o => b < w.heap.size ∧ w0.heap.size ≤ b, fun _ => default⟩ bySt a w := by
    refine Sat.start rfl rfl rfl (fun t sv ht => ?_) hsz (fun _ h => h) (fun b o h => h.1) hdf rfl rfl rfl ?_
    · simp only [bySt, look] at ht
      split at ht
      · rename_i e; subst e; cases ht; exact ⟨h9, fun l hl => by simp only [S0.cells, List.mem_cons, List.not_mem_nil, or_false] at hl; subst hl; trivial⟩
      split at ht
      · rename_i e; subst e; cases ht; exact ⟨h8, fun l hl => by simp only [S0.cells, List.mem_cons, List.not_mem_nil, or_false] at hl; subst hl; trivial⟩
      split at ht
      · rename_i e; subst e; cases ht; exact ⟨h7, fun l hl => by simp only [S0.cells, List.mem_cons, List.not_mem_nil, or_false] at hl; subst hl; exact hArr _ fun b o hb ho => by have := hS b o hb; omega⟩
      split at ht
      · rename_i e; subst e; cases ht; exact ⟨h3, fun l hl => by simp only [S0.cells, List.mem_cons, List.not_mem_nil, or_false] at hl; subst hl; rfl⟩
      cases ht
    · have := Smalls.nil.app (cs := [.s v rows, .s (.map (some bm)) [], .i i]) (fun c hc => by
        simp only [List.mem_cons, List.not_mem_nil, or_false] at hc
        rcases hc with rfl | rfl | rfl
        · exact hsm
        · intro n; cases n <;> simp [C.small]
        · intro n; cases n <;> simp [C.small] <;> omega)
      simpa using this
  refine wp_seq (seg_sound (R := fun _ => True) cNone_ok (Ls := []) (I := fun _ => True) by4_tree (by kernel_rfl) rfl ⟨?_, ?_, trivial⟩ hsat ?_ ?_)
  · rw [den_cmp_le]; show (0 : Int) ≤ i; omega
  · rw [den_cmp_lt]; show (i : Int) < rows.length; omega
  rotate_left
  · intro x st' T' Γ' Ls' hx hk; cases hk
  intro xs Γx a' w' htx _ hρ he hs'
  have hxs : xs = [] := by cases xs with | nil => rfl | cons x xs => exact htx.elim
  subst hxs
  rw [List.append_nil] at hρ
  have hbel2 : Below w.heap.size w w' := hs'.keeps.below
  have ev : ∀ t sv, t < 1000 → look bySt4.sl t = some sv → a'.eval (.tmp t) = sv.den Γx := fun t sv ht hl => by
    have := (hs'.slots t sv hl).1
    unfold slotV at this
    rwa [if_pos ht] at this
  have h5' : a'.eval (.tmp 5) = .pointer (some ⟨Γx.blk 0, 0, none⟩) := ev 5 _ (by omega) rfl
  have h9' : a'.eval (.tmp 9) = .int .i64 i := by rw [ev 9 _ (by omega) rfl]; simp only [SV.den, S0.den, Lf.den, E.den_var, hρ]; rfl
  have h8' : a'.eval (.tmp 8) = .int .i64 rows.length := by rw [ev 8 _ (by omega) rfl]; simp only [SV.den, S0.den, Lf.den, E.den_len, ev_var, hρ]; rfl
  have h7' : a'.eval (.tmp 7) = v := by rw [ev 7 _ (by omega) rfl]; simp only [SV.den, S0.den, Lf.den, ev_var, hρ]; rfl
  have h3' : a'.eval (.tmp 3) = .map (some bm) := by rw [ev 3 _ (by omega) rfl]; simp only [SV.den, S0.den, Lf.den, hρ]; rfl
  have hsz' : a'.tmps.size = 25 := hs'.size
  have hdf' : a'.defers = [] := hs'.defers
  obtain ⟨m1, -, m3, -⟩ := hs'.mem 0 _ (rfl : look bySt4.mem 0 = some (40, [.int (.cell (.var 0) (.var 2) 0), .int (.cell (.var 0) (.var 2) 1), .int (.cell (.var 0) (.var 2) 2)]))
  have hden : dens Γx [.int (.cell (.var 0) (.var 2) 0), .int (.cell (.var 0) (.var 2) 1), .int (.cell (.var 0) (.var 2) 2)] = samOf (rows.getD i []) := by
    unfold dens
    simp only [List.map_cons, List.map_nil, Lf.den, E.den_cell, ev_var, E.den_var, hρ]
    rfl
  rw [hden] at m1
  have hge : w.heap.size ≤ Γx.blk 0 := by simpa using m3
  obtain ⟨G, hG⟩ := hgr
  have hG' := hG.keep hbel2
  have hk : -9223372036854775808 ≤ cell_ (rows.getD i []) 0 ∧ cell_ (rows.getD i []) 0 ≤ 9223372036854775807 := C.int_le (C.small_at hsm i 0)
  obtain ⟨ho1, ho2⟩ := hG'.old (cell_ (rows.getD i []) 0)
  have hB : w0.heap.size ≤ w'.heap.size := by have := hbel.size; have := hbel2.size; omega
  have hflt : (flt (rows.take i) (cell_ (rows.getD i []) 0)).length ≤ 1000000 := by
    have h1 := List.length_filter_le (fun r => cell_ r 0 == cell_ (rows.getD i []) 0) (rows.take i)
    have h2 := List.length_take_le i rows
    unfold flt
    omega
  show (Code.region 5 by5 true).wp Try.prog Q a' w'
  refine wp_mono (wp_region_any mixedOrders (Picks.any (Q := fun e a w => e = .normal ∧ Q .normal a w) (S := Until by5 fun u => Blk u (Γx.blk 0) 40 (samOf (rows.getD i [])) ∧ MapAt u bm G) ?_)) ?_
  rotate_left
  · rintro e a w ⟨rfl, h⟩; exact h
  rw [by5_size]
  refine bySensor_round (B := w0.heap.size) hsz' h3' h5' m1 hG'.map hG'.keys (by have := hG'.len; have := List.length_take_le i rows; simp only [maxLen]; omega) hk ho1 hB hflt (fun g hg => ?_) fun vs v' w1 w2 o hvs q1 q2 q3 q4 q5 q6 q7 => ?_
  · rcases ho2 with h | h
    · rw [h] at hg; cases hg
    · obtain ⟨-, x, hx, -, hxs, hxb⟩ := hG.rows _ h
      have hx2 : (valAt G (cell_ (rows.getD i []) 0) (Value.slice none 0 0)).ownBlock = some x := hx
      rw [hg] at hx2
      cases hx2
      exact ⟨hxb, by omega⟩
  · have hGd : Groups w0.heap.size { w' with drawn := w'.drawn + 1 } bm (rows.take i) G := hG'.keep ⟨rfl, rfl, rfl, Nat.le_refl _, fun _ _ => rfl⟩
    obtain ⟨k1, k2, k3, -⟩ := hGd.step hB hk q1 q2 q3 q4 q5 q6 q7
    have hne : ∀ t, (∀ d ∈ [13, 14, 15, 16, 17, 18, 19, 20, 21, 22], d ≠ t) → (fills ([13, 14, 15, 16, 17, 18, 19, 20, 21, 22].zip vs) a').eval (.tmp t) = a'.eval (.tmp t) := fun t ht => fills_eval fun p hp => ht p.1 (List.of_mem_zip hp).1
    refine hQ _ _ ⟨by rw [fills_size]; exact hsz', by rw [fills_defers]; exact hdf', by rw [hne 9 (by decide)]; exact h9', by rw [hne 8 (by decide)]; exact h8', by rw [hne 7 (by decide)]; exact h7', by rw [hne 3 (by decide)]; exact h3', ?_, _, by rw [List.take_succ_eq_append_getElem hlt] ; rw [show rows[i] = rows.getD i [] from by simp [List.getD_eq_getElem?_getD, hlt]]; exact k1⟩
    refine ⟨?_, ?_, ?_, Nat.le_trans hB k3, fun j hj => ?_⟩
    · show w2.os = _; rw [q2.os, q1.1.os]; exact (hbel2.os).trans hbel.os
    · show w2.tape = _; rw [q2.tape, q1.1.tape]; exact (hbel2.tape).trans hbel.tape
    · show w2.output = _; rw [q2.output, q1.1.output]; exact (hbel2.output).trans hbel.output
    · rw [k2 j (by show j < w'.heap.size; omega) (by omega) fun g hg e => ?_]
      · show w'.heap[j]? = _
        rw [hbel2.block j (by have := hbel.size; omega), hbel.block j hj]
      · obtain ⟨-, x, hx, hBx, -⟩ := hG.rows g hg
        rw [hx] at e
        cases e
        omega
theorem by_loop {w0 : World} {v : Value} {rows : List (List C)} {bm : Nat} {a : Act} {w : World} {Q : Exit → Act → World → Prop} {d : Nat} (hsm : ∀ n, (C.s v rows).small n) (hty : TyN Try.prog d 40 rows) (hA : ∀ w', Below w0.heap.size w0 w' → ∃ S : Nat → Nat → Prop, (∀ b o, S b o → b < w0.heap.size) ∧ ∀ O : Nat → Nat → Prop, (∀ b o, S b o → ¬ O b o) → ArrOK Try.prog w' O 40 (.s v rows))
    (hl : rows.length ≤ 1000000) (hin : ByIn w0 v rows bm 0 a w) (hQ : ∀ a' w', ByIn w0 v rows bm rows.length a' w' → Q .normal a' w') : byBlk.wp Try.prog Q a w := by
  show Code.wp _ (Code.block 0 (Code.loop (Code.seq (Code.region 3 _ _) (Code.seq (Code.cond (.tmp 10) .skip (.exit 0)) (Code.seq (Code.block 1 (Code.seq by4 (Code.region 5 by5 true))) (Code.region 6 _ _)))))) _ _ _
  refine wp_block (wp_loop_ghost (fun n a w => ∃ i, n = rows.length - i ∧ ByIn w0 v rows bm i a w) rows.length ⟨0, by omega, hin⟩ ?_)
  rintro n a w ⟨i, rfl, h⟩
  refine wp_seq (wp_region_list (list_val rfl (v := .bool (decide ((i : Int) < rows.length))) (w' := w) (by simp [execOp, h.s9, h.s8, eqGuard_at_int, binOp_lss]) ?_))
  show Code.wp _ _ _ _ _
  have hsz1 : (a.put (some 10) (.bool (decide ((i : Int) < rows.length)))).tmps.size = 25 := by rw [put_size]; exact h.size
  refine wp_seq (wp_cond (t := decide ((i : Int) < rows.length)) (eval_same (by rw [h.size]; omega)) ?_)
  by_cases hlt : i < rows.length
  · rw [decide_eq_true (by omega), if_pos rfl]
    refine wp_skip ?_
    show Code.wp _ _ _ _ _
    generalize hb1 : Value.bool true = b1 at hsz1
    have h9 : (a.put (some 10) b1).eval (.tmp 9) = .int .i64 i := by rw [eval_other (by decide)]; exact h.s9
    have h8 : (a.put (some 10) b1).eval (.tmp 8) = .int .i64 rows.length := by rw [eval_other (by decide)]; exact h.s8
    have h7 : (a.put (some 10) b1).eval (.tmp 7) = v := by rw [eval_other (by decide)]; exact h.s7
    have h3 : (a.put (some 10) b1).eval (.tmp 3) = .map (some bm) := by rw [eval_other (by decide)]; exact h.s3
    have hdf : (a.put (some 10) b1).defers = [] := by rw [put_defers]; exact h.defers
    have hsz2 : (a.put (some 10) b1).tmps.size = 25 := by rw [put_size]; exact h.size
    generalize a.put (some 10) b1 = a2 at *
    refine wp_seq (wp_block (by_round hsm hty hA hl h.gr h.below h.bmge hlt hsz2 hdf h9 h8 h7 h3 fun a' w' h' => ?_))
    show Code.wp _ _ _ _ _
    obtain ⟨g1, g2, g3, g4, g5, g6, g7, g8⟩ := h'
    refine wp_region_list (list_val rfl (v := .int .i64 (i + 1)) (w' := w') (by
      simp [execOp, g3, eqGuard_at_int, binOp_add, Op.intArith, eval_const]
      exact IntWalk.i64_in _ ⟨by omega, by omega⟩) (list_val rfl (v := .int .i64 (i + 1)) (w' := w') (by simp [execOp, eval_same, g1]) ?_))
    refine ⟨rows.length - (i + 1), by omega, i + 1, rfl, ⟨by simp only [put_size]; exact g1, by simp only [put_defers]; exact g2, by rw [eval_same (by rw [put_size, g1]; omega)]; simp, by rw [eval_other (by decide), eval_other (by decide)]; exact g4, by rw [eval_other (by decide), eval_other (by decide)]; exact g5, by rw [eval_other (by decide), eval_other (by decide)]; exact g6, hlt, h.bmge, g7, g8⟩⟩
  · rw [decide_eq_false (by omega), if_neg (by simp)]
    refine wp_exit ?_
    show Q .normal _ _
    have : i = rows.length := by have := h.le; omega
    subst this
    exact hQ _ _ ⟨by rw [put_size]; exact h.size, by rw [put_defers]; exact h.defers, by rw [eval_other (by decide)]; exact h.s9, by rw [eval_other (by decide)]; exact h.s8, by rw [eval_other (by decide)]; exact h.s7, by rw [eval_other (by decide)]; exact h.s3, h.le, h.bmge, h.below, h.gr⟩
theorem bySensor_ok {w : World} {v : Value} {rows : List (List C)} {Base : Nat → Nat → Prop} (hBase : ∀ b o, Base b o → b < w.heap.size) (ha : LRep Try.prog w Base (.arr 40) v (.s v rows)) (hl : rows.length ≤ 1000000) :
    Calls Try.prog 82 #[v] w fun e w' => ∃ bm G, e = .returned (.map (some bm)) ∧ Below w.heap.size w w' ∧ w.heap.size ≤ bm ∧ Groups w.heap.size w' bm rows G := by
  obtain ⟨hsm, -, hA⟩ := ha
  obtain ⟨v', rows', d, e, hty⟩ := hA.tyN
  cases e
  obtain ⟨ad, cap, hv⟩ := hA.loc
  have hv : v = .slice ad rows.length cap := hv
  refine calls_of_wp Try.func82 rfl ?_
  have hsz : ({ tmps := #[v] ++ Array.replicate (25 - 1) undef, defers := [] } : Act).tmps.size = 25 := by simp
  have h0 : ({ tmps := #[v] ++ Array.replicate (25 - 1) undef, defers := [] } : Act).eval (.tmp 0) = v := by simp [Act.eval]
  have hdf : ({ tmps := #[v] ++ Array.replicate (25 - 1) undef, defers := [] } : Act).defers = [] := rfl
  show Code.wp _ _ _ { tmps := #[v] ++ Array.replicate (25 - 1) undef, defers := [] } w
  generalize ({ tmps := #[v] ++ Array.replicate (25 - 1) undef, defers := [] } : Act) = a0 at *
  refine wp_seq (wp_region_list (list_val rfl (v := .map none) (w' := w) (by simp [execOp, eval_const]) ?_))
  show Code.wp _ _ _ _ _
  refine wp_seq (wp_region_list (list_val rfl (v := .map (some w.heap.size)) (w' := w.alloc (.map #[] 0)) (by simp [execOp, run_makeMap]) (list_val rfl (v := .map (some w.heap.size)) (w' := w.alloc (.map #[] 0)) (by simp [execOp, eval_same, put_size, hsz]) ?_)))
  show Code.wp _ _ _ _ _
  refine wp_seq (wp_seq (wp_region_list (list_val rfl (v := v) (w' := w.alloc (.map #[] 0)) (by simp [execOp, eval_other, put_size, hsz, h0]) (list_val rfl (v := .int .i64 rows.length) (w' := w.alloc (.map #[] 0)) (by
    simp [execOp, resolve, invoke, builtin, eval_same, put_size, hsz, hv]
    rw [run_len_slice _ _ _ _ _ cap (by simp [Program.elem, Try.underlying38])]
    rfl) (list_val rfl (v := .int .i64 0) (w' := w.alloc (.map #[] 0)) (by simp [execOp, eval_const]) ?_)))))
  show Code.wp _ _ _ _ _
  have hin := by_start (w := w) (v := v) (rows := rows) hsz hdf
  generalize (((((((a0.put (some 2) (.map none)).put (some 6) (.map (some w.heap.size))).put (some 3) (.map (some w.heap.size))).put (some 7) v).put (some 8) (.int .i64 rows.length)).put (some 9) (.int .i64 0))) = a1 at *
  obtain ⟨v1, rows1, e1, d1, S, hS, hN⟩ := hA
  cases e1
  refine by_loop hsm hty (fun w' hb => ⟨S, fun b o h => (hS b o h).1, fun O hO => ⟨_, _, rfl, d1, S, fun b o h => ⟨Nat.lt_of_lt_of_le (hS b o h).1 hb.size, hO b o h⟩, hN.keep fun b o h => World.cell?_of_block (hb.block b (hS b o h).1)⟩⟩) hl hin fun a' w' h => ?_
  show Code.wp _ _ _ _ _
  refine wp_seq (wp_region_list (list_val rfl (v := .map (some w.heap.size)) (w' := w') (by simp [execOp, h.s3]) (list_val rfl (v := .map (some w.heap.size)) (w' := w') (by simp [execOp, eval_same, h.size]) ?_)))
  show Code.wp _ _ _ _ _
  refine wp_ret ?_
  obtain ⟨G, hG⟩ := h.gr
  rw [List.take_length] at hG
  refine ⟨by simp only [put_defers]; exact h.defers, .map (some w.heap.size), ?_, _, G, rfl, h.below, h.bmge, hG⟩
  have e2 := eval_same (a := a'.put (some 24) (.map (some w.heap.size))) (d := 2) (v := .map (some w.heap.size)) (by rw [put_size, h.size]; omega)
  rw [results_eq]
  simp only [show Try.f82.results = #[.tmp 2] from rfl]
  simp [resSem]
  simpa [Act.eval] using e2
end Go.Proofs.Ytlbgcjpkegpmlaa
/- Alarms of one sensor; the samples of one sensor: both texts. -/
namespace Go.Proofs.Ytlbgcjpkegpmlaa
open Go.RowKit
set_option linter.unusedSimpArgs false
set_option linter.unusedVariables false

theorem alarm_drop {li ho de n : Int} {rows : List (List C)} {k : Nat} (h : k < rows.length) : alarmL li ho de n (rows.drop k) = if (if cell_ (rows.getD k []) 2 < li then 0 else n + 1) = ho then some (cell_ (rows.getD k []) 1 + de) else alarmL li ho de (if cell_ (rows.getD k []) 2 < li then 0 else n + 1) (rows.drop (k + 1)) := by
  rw [drop_getD h, alarmL]
theorem inR_at {rows : List (List C)} (h : ∀ r ∈ rows, inR r = true) {k : Nat} (hk : k < rows.length) : 0 ≤ cell_ (rows.getD k []) 1 ∧ cell_ (rows.getD k []) 1 ≤ 1099511627176 ∧ -1125899906842624 ≤ cell_ (rows.getD k []) 2 ∧ cell_ (rows.getD k []) 2 ≤ 1125899906842624 := by
  have := h (rows.getD k []) (by simp [List.getD_eq_getElem?_getD, hk])
  simpa [inR] using this
theorem alarms_ok : tab3.ok 83 := by
  refine Tab.of_ct rfl rfl ⟨_, Try.func83, by decide, rfl⟩ ?_ ctF_det
  refine ct_ok (cx := calarms) (Tab.cx_ok all_nil) Try.func83 (bds := []) (T := talarms) (by kernel_rfl) ?_
  unfold talarms
  simp only [VC, allC, List.map_cons, List.map_nil, List.length_cons, List.length_nil, List.getElem?_cons_zero, List.getElem?_cons_succ, List.cons.injEq, C.i.injEq, C.b.injEq, and_true, true_and, forall_const, kindsOf_nil, kindsOf_lf, kindsOf_agg, kindsOf_box, boxKinds_nil, boxKinds_lf, boxKinds_agg, boxKinds_box, List.append_nil, List.cons_append, List.nil_append, den_cmp_le, den_cmp_lt, den_cmp_eq, den_cmp_ne, den_cmp_le', den_cmp_lt', den_cmp_eq', den_cmp_ne', den_and, den_and', den_or, den_or', den_not, den_not', den_blit, den_of, ev_var, at_0, at_1, at_2, at_3, at_4, at_5, at_6, at_7, at_skip, c_int, c_bool, c_arr, c_cnt, c_vec, ev_nil, ev_join, ev_sub3, loc_s, int_i, bool_b, rows_s, cs_nil, cs_cons, E.den_lit, E.den_var, E.den_add, E.den_sub, E.den_mul, E.den_quo, E.den_rem, E.den_max, E.den_min, E.den_len, E.den_wr, E.den_cell, ctAlarms, ctF, sensSh]; intro ch _ _ pe _ _ de _ _ no _ _ st _ _ lo _ _ li _ _ ho _ _ v rows d _ hsm hp; obtain ⟨hho, de0, de1, hlen, hin⟩ := hp; have e1 : ∀ k o, ((C.s v rows).at k o).int = cell_ (rows.getD k []) o := fun _ _ => rfl; simp only [e1]; refine ⟨bds_nil _, fun xs => match xs with | [_, _, .i n, .i i] => 0 ≤ i ∧ i ≤ rows.length ∧ 0 ≤ n ∧ n ≤ i ∧ alarmL li ho de 0 rows = alarmL li ho de n (rows.drop i.toNat) | _ => False, fun xs => match xs with | [_, _, _, .i i] => ((rows.length : Int) - i).toNat | _ => 0, ⟨by omega, by omega, by omega, by omega, rfl⟩, ?_⟩; rintro _ _ _ _ n _ _ i _ _ ⟨i0, i1, n0, n1, hI⟩
  refine ⟨fun hlt => ?_, fun hge => ?_⟩
  · have hz : i.toNat < rows.length := by omega
    have hr := inR_at hin hz
    rw [alarm_drop hz] at hI
    have hmu : ((rows.length : Int) - (i + 1)).toNat < ((rows.length : Int) - i).toNat := by omega
    generalize hrow : rows.getD i.toNat [] = row at *
    refine ⟨i0, hlt, by omega, fun hlow => ?_, fun hhigh => ?_⟩
    · simp only [if_pos hlow, if_neg (show ¬ (0 : Int) = ho by omega)] at hI
      refine ⟨fun h => absurd h (by omega), fun _ => ⟨⟨by omega, by omega, by omega, by omega, ?_⟩, hmu⟩⟩
      rw [hI, show (i + 1).toNat = i.toNat + 1 by omega]
    · simp only [if_neg (show ¬ cell_ row 2 < li by omega)] at hI
      refine ⟨fun h => ⟨by omega, by omega, ?_⟩, fun h => ⟨by omega, ⟨by omega, by omega, by omega, by omega, ?_⟩, hmu⟩⟩
      · rw [hI, if_pos h]; rfl
      · rw [hI, if_neg h, show (i + 1).toNat = i.toNat + 1 by omega]
  · rw [hI, List.drop_eq_nil_of_le (by omega)]; rfl
theorem ralarm_ok : tab3.ok 85 := by
  refine Tab.of_ct rfl rfl ⟨_, Try.func85, by decide, rfl⟩ ?_ ctF_det
  refine ct_ok (cx := cralarm) (Tab.cx_ok all_nil) Try.func85 (bds := []) (T := tralarm) (by kernel_rfl) ?_
  unfold tralarm
  simp only [VC, allC, List.map_cons, List.map_nil, List.length_cons, List.length_nil, List.getElem?_cons_zero, List.getElem?_cons_succ, List.cons.injEq, C.i.injEq, C.b.injEq, and_true, true_and, forall_const, kindsOf_nil, kindsOf_lf, kindsOf_agg, kindsOf_box, boxKinds_nil, boxKinds_lf, boxKinds_agg, boxKinds_box, List.append_nil, List.cons_append, List.nil_append, den_cmp_le, den_cmp_lt, den_cmp_eq, den_cmp_ne, den_cmp_le', den_cmp_lt', den_cmp_eq', den_cmp_ne', den_and, den_and', den_or, den_or', den_not, den_not', den_blit, den_of, ev_var, at_0, at_1, at_2, at_3, at_4, at_5, at_6, at_7, at_skip, c_int, c_bool, c_arr, c_cnt, c_vec, ev_nil, ev_join, ev_sub3, loc_s, int_i, bool_b, rows_s, cs_nil, cs_cons, E.den_lit, E.den_var, E.den_add, E.den_sub, E.den_mul, E.den_quo, E.den_rem, E.den_max, E.den_min, E.den_len, E.den_wr, E.den_cell, ctAlarms, ctF, sensSh]; intro ch _ _ pe _ _ de _ _ no _ _ st _ _ lo _ _ li _ _ ho _ _ v rows d _ hsm hp; obtain ⟨hho, de0, de1, hlen, hin⟩ := hp; have e1 : ∀ k o, ((C.s v rows).at k o).int = cell_ (rows.getD k []) o := fun _ _ => rfl; simp only [e1]; refine ⟨bds_nil _, fun xs => match xs with | [_, _, .i n, .i i] => 0 ≤ i ∧ i ≤ rows.length ∧ 0 ≤ n ∧ n ≤ i ∧ alarmL li ho de 0 rows = alarmL li ho de n (rows.drop i.toNat) | _ => False, fun xs => match xs with | [_, _, _, .i i] => ((rows.length : Int) - i).toNat | _ => 0, ⟨by omega, by omega, by omega, by omega, rfl⟩, ?_⟩; rintro _ _ _ _ n _ _ i _ _ ⟨i0, i1, n0, n1, hI⟩
  refine ⟨fun hlt => ?_, fun hge => ?_⟩
  · have hz : i.toNat < rows.length := by omega
    have hr := inR_at hin hz
    rw [alarm_drop hz] at hI
    have hmu : ((rows.length : Int) - (i + 1)).toNat < ((rows.length : Int) - i).toNat := by omega
    generalize hrow : rows.getD i.toNat [] = row at *
    refine ⟨i0, hlt, fun hlow => ?_, fun hhigh => ?_⟩
    · simp only [if_pos hlow, if_neg (show ¬ (0 : Int) = ho by omega)] at hI
      refine ⟨⟨by omega, by omega, by omega, by omega, ?_⟩, hmu⟩
      rw [hI, show (i + 1).toNat = i.toNat + 1 by omega]
    · simp only [if_neg (show ¬ cell_ row 2 < li by omega)] at hI
      refine ⟨by omega, fun h => ⟨hlt, by omega, by omega, ?_⟩, fun h => ⟨by omega, ⟨by omega, by omega, by omega, by omega, ?_⟩, hmu⟩⟩
      · rw [hI, if_pos h]; rfl
      · rw [hI, if_neg h, show (i + 1).toNat = i.toNat + 1 by omega]
  · rw [hI, List.drop_eq_nil_of_le (by omega)]; rfl
theorem fltS_take {rows : List (List C)} {i : Nat} {k : Int} (h : i < rows.length) : fltS (rows.take (i + 1)) k = fltS (rows.take i) k ++ (if cell_ (rows.getD i []) 0 = k then [rows.getD i []] else []) := by
  rw [List.take_succ_eq_append_getElem h, show rows[i] = rows.getD i [] from by simp [List.getD_eq_getElem?_getD, h]]
  unfold fltS
  rw [List.filter_append]
  congr 1
  generalize rows.getD i [] = r
  by_cases h : cell_ r 0 = k
  · simp [h]
  · simp [h]
theorem row3 {d : Nat} {rows : List (List C)} (h : TyN Try.prog d 40 rows) {k : Nat} (hk : k < rows.length) : rows.getD k [] = [.i (cell_ (rows.getD k []) 0), .i (cell_ (rows.getD k []) 1), .i (cell_ (rows.getD k []) 2)] := by
  obtain ⟨a, b, c, e⟩ := row_ints h (show rows.getD k [] ∈ rows by simp [List.getD_eq_getElem?_getD, hk])
  rw [e]; rfl
theorem fltS_len {rows : List (List C)} {k : Int} : (fltS rows k).length ≤ rows.length := List.length_filter_le _ _
theorem of_ok : tab3.ok 86 := by
  refine Tab.of_ct rfl rfl ⟨_, Try.func86, by decide, rfl⟩ ?_ (fun h => by cases h)
  refine ct_ok (cx := cof) (Tab.cx_ok all_nil) Try.func86 (bds := []) (T := tof) (by kernel_rfl) ?_
  unfold tof
  simp only [VC, allC, List.map_cons, List.map_nil, List.length_cons, List.length_nil, List.getElem?_cons_zero, List.getElem?_cons_succ, List.cons.injEq, C.i.injEq, C.b.injEq, and_true, true_and, forall_const, kindsOf_nil, kindsOf_lf, kindsOf_agg, kindsOf_box, boxKinds_nil, boxKinds_lf, boxKinds_agg, boxKinds_box, List.append_nil, List.cons_append, List.nil_append, den_cmp_le, den_cmp_lt, den_cmp_eq, den_cmp_ne, den_cmp_le', den_cmp_lt', den_cmp_eq', den_cmp_ne', den_and, den_and', den_or, den_or', den_not, den_not', den_blit, den_of, ev_var, at_0, at_1, at_2, at_3, at_4, at_5, at_6, at_7, at_skip, c_int, c_bool, c_arr, c_cnt, c_vec, ev_nil, ev_join, ev_sub3, loc_s, int_i, bool_b, rows_s, cs_nil, cs_cons, E.den_lit, E.den_var, E.den_add, E.den_sub, E.den_mul, E.den_quo, E.den_rem, E.den_max, E.den_min, E.den_len, E.den_wr, E.den_cell, ctOf, ctF]
  intro v rows d hty hsm k _ _ hlen
  have e1 : ∀ k o, ((C.s v rows).at k o).int = cell_ (rows.getD k []) o := fun _ _ => rfl
  simp only [e1]
  refine ⟨bds_nil _, fun xs => match xs with | [.s _ out, .i i] => 0 ≤ i ∧ i ≤ rows.length ∧ out = fltS (rows.take i.toNat) k | _ => False, fun xs => match xs with | [_, .i i] => ((rows.length : Int) - i).toNat | _ => 0, ⟨by omega, by omega, rfl⟩, ?_⟩
  rintro v1 out d1 _ _ i _ _ ⟨i0, i1, hI⟩
  refine ⟨fun hlt => ⟨i0, hlt, ?_⟩, fun hge => ?_⟩
  · have hz : i.toNat < rows.length := by omega
    have hft := fltS_take (k := k) hz
    have hr3 := row3 hty hz
    have hmu : ((rows.length : Int) - (i + 1)).toNat < ((rows.length : Int) - i).toNat := by omega
    have e2 : (i + 1).toNat = i.toNat + 1 := by omega
    have hl : out.length ≤ 200 := by
      have := @fltS_len (rows.take i.toNat) k
      have := List.length_take_le i.toNat rows
      rw [hI]; omega
    generalize hrow : rows.getD i.toNat [] = row at *
    refine ⟨fun h => ⟨hlt, ⟨by omega, fun v3 => ⟨⟨by omega, by omega, ?_⟩, hmu⟩⟩⟩, fun h => ⟨⟨by omega, by omega, ?_⟩, hmu⟩⟩
    · rw [e2, hft, if_pos h, hI, ← hr3]
    · rw [e2, hft, if_neg h, List.append_nil, hI]
  · rw [hI, List.take_of_length_le (by omega)]
end Go.Proofs.Ytlbgcjpkegpmlaa
/- The document's check of samples. -/
namespace Go.Proofs.Ytlbgcjpkegpmlaa
open Go.RowKit
set_option linter.unusedSimpArgs false
set_option linter.unusedVariables false

theorem checkV_8 {n : Int} {rows : List (List C)} (h : 200 < (rows.length : Int)) : checkV n rows = 8 := by unfold checkV; rw [if_pos (by omega)]
theorem checkV_7 {n : Int} {rows : List (List C)} (h : (rows.length : Int) ≤ 200) (h1 : rows.all (inB n) = false) : checkV n rows = 7 := by unfold checkV; rw [if_neg (by omega), if_pos h1]
theorem checkV_2 {n : Int} {rows : List (List C)} (h : (rows.length : Int) ≤ 200) (h1 : rows.all (inB n) = true) (h2 : rows.all inR = false) : checkV n rows = 2 := by unfold checkV; rw [if_neg (by omega), if_neg (by simp [h1]), if_pos h2]
theorem checkV_11 {n : Int} {rows : List (List C)} (h : (rows.length : Int) ≤ 200) (h1 : rows.all (inB n) = true) (h2 : rows.all inR = true) (h3 : rows.all (fun r => ordL (fltS rows (cell_ r 0))) = false) : checkV n rows = 11 := by unfold checkV; rw [if_neg (by omega), if_neg (by simp [h1]), if_neg (by simp [h2]), if_pos h3]
theorem checkV_0 {n : Int} {rows : List (List C)} (h : (rows.length : Int) ≤ 200) (h1 : rows.all (inB n) = true) (h2 : rows.all inR = true) (h3 : rows.all (fun r => ordL (fltS rows (cell_ r 0))) = true) : checkV n rows = 0 := by unfold checkV; rw [if_neg (by omega), if_neg (by simp [h1]), if_neg (by simp [h2]), if_neg (by simp [h3])]
theorem checkV_ok {n : Int} {rows : List (List C)} (h : checkV n rows = 0) : rows.length ≤ 200 ∧ rows.all (inB n) = true ∧ rows.all inR = true ∧ rows.all (fun r => ordL (fltS rows (cell_ r 0))) = true := by
  unfold checkV at h
  split at h
  · omega
  split at h
  · omega
  split at h
  · omega
  split at h
  · omega
  rename_i a b c d
  exact ⟨by omega, by simpa using b, by simpa using c, by simpa using d⟩
theorem fltS_none {rows : List (List C)} {k : Int} (h : ∀ r ∈ rows, cell_ r 0 ≠ k) : fltS rows k = [] := by
  unfold fltS
  rw [List.filter_eq_nil_iff]
  intro r hr
  simpa using h r hr
theorem ord_all {n : Int} {rows : List (List C)} (h : rows.all (inB n) = true) : rows.all (fun r => ordL (fltS rows (cell_ r 0))) = true ↔ ∀ k, 0 ≤ k → k < n → ordL (fltS rows k) = true := by
  rw [List.all_eq_true]
  constructor
  · intro hh k h0 h1
    by_cases he : ∃ r ∈ rows, cell_ r 0 = k
    · obtain ⟨r, hr, rfl⟩ := he
      exact hh r hr
    · rw [fltS_none fun r hr e => he ⟨r, hr, e⟩]; rfl
  · intro hh r hr
    have := List.all_eq_true.1 h r hr
    simp only [inB, decide_eq_true_eq] at this
    exact hh _ this.1 this.2
theorem all_drop {f : List C → Bool} {rows : List (List C)} {k : Nat} (h : k < rows.length) : (rows.drop k).all f = (f (rows.getD k []) && (rows.drop (k + 1)).all f) := by
  rw [drop_getD h, List.all_cons]
theorem ord_drop {t : Int} {rows : List (List C)} {k : Nat} (h : k < rows.length) : ordFrom t (rows.drop k) = (decide (t < cell_ (rows.getD k []) 1) && ordFrom (cell_ (rows.getD k []) 1) (rows.drop (k + 1))) := by
  rw [drop_getD h, ordFrom]
/-- Where the ordered part ends. -/
def OrdI (out : List (List C)) (i : Int) : Prop := 1 ≤ i ∧ (out.length = 0 → i = 1) ∧ (0 < out.length → i ≤ out.length ∧ ordL out = ordFrom (cell_ (out.getD (i - 1).toNat []) 1) (out.drop i.toNat))
theorem OrdI.one (out : List (List C)) : OrdI out 1 := ⟨by omega, fun _ => rfl, fun h => ⟨by omega, by
  cases out with
  | nil => simp at h
  | cons r l => rfl⟩⟩
theorem OrdI.bad {out : List (List C)} {i : Int} (h : OrdI out i) (hlt : i < out.length) (hle : cell_ (out.getD i.toNat []) 1 ≤ cell_ (out.getD (i - 1).toNat []) 1) : ordL out = false := by
  obtain ⟨h1, -, h2⟩ := h
  obtain ⟨-, h2⟩ := h2 (by omega)
  rw [h2, ord_drop (by omega), decide_eq_false (by omega)]
  rfl
theorem OrdI.next {out : List (List C)} {i : Int} (h : OrdI out i) (hlt : i < out.length) (hle : cell_ (out.getD (i - 1).toNat []) 1 < cell_ (out.getD i.toNat []) 1) : OrdI out (i + 1) := by
  obtain ⟨h1, -, h2⟩ := h
  obtain ⟨-, h2⟩ := h2 (by omega)
  rw [ord_drop (by omega), decide_eq_true hle, Bool.true_and] at h2
  exact ⟨by omega, fun h => by omega, fun _ => ⟨by omega, by rw [h2, show (i + 1 - 1).toNat = i.toNat by omega, show (i + 1).toNat = i.toNat + 1 by omega]⟩⟩
theorem OrdI.end_ {out : List (List C)} {i : Int} (h : OrdI out i) (hge : (out.length : Int) ≤ i) : ordL out = true := by
  obtain ⟨h1, h0, h2⟩ := h
  by_cases hz : out.length = 0
  · rw [List.length_eq_zero_iff.1 hz]; rfl
  · obtain ⟨-, h2⟩ := h2 (by omega)
    rw [h2, List.drop_eq_nil_of_le (by omega)]; rfl
theorem rchk_ok : tab3.ok 84 := by
  refine Tab.of_ct rfl rfl ⟨_, Try.func84, by decide, rfl⟩ ?_ ctF_det
  refine ct_ok (cx := crchk) (Tab.cx_ok (all_cons (up3_ok (up_ok between_ok)) (all_cons of_ok all_nil))) Try.func84 (bds := []) (T := trchk) (by kernel_rfl) ?_
  have h1 : crchk.ct 86 = some ctOf := rfl
  unfold trchk
  simp only [VC, allC, List.map_cons, List.map_nil, List.length_cons, List.length_nil, List.getElem?_cons_zero, List.getElem?_cons_succ, List.cons.injEq, C.i.injEq, C.b.injEq, and_true, true_and, forall_const, kindsOf_nil, kindsOf_lf, kindsOf_agg, kindsOf_box, boxKinds_nil, boxKinds_lf, boxKinds_agg, boxKinds_box, List.append_nil, List.cons_append, List.nil_append, den_cmp_le, den_cmp_lt, den_cmp_eq, den_cmp_ne, den_cmp_le', den_cmp_lt', den_cmp_eq', den_cmp_ne', den_and, den_and', den_or, den_or', den_not, den_not', den_blit, den_of, ev_var, at_0, at_1, at_2, at_3, at_4, at_5, at_6, at_7, at_skip, c_int, c_bool, c_arr, c_cnt, c_vec, ev_nil, ev_join, ev_sub3, loc_s, int_i, bool_b, rows_s, cs_nil, cs_cons, E.den_lit, E.den_var, E.den_add, E.den_sub, E.den_mul, E.den_quo, E.den_rem, E.den_max, E.den_min, E.den_len, E.den_wr, E.den_cell, h1, ctRCheck, ctOf, ctF]
  intro v sens d _ hsm v' rows d' hty hsm'
  have e1 : ∀ k o, ((C.s v' rows).at k o).int = cell_ (rows.getD k []) o := fun _ _ => rfl
  have e2 : ∀ v k o (l : List (List C)), ((C.s v l).at k o).int = cell_ (l.getD k []) o := fun _ _ _ _ => rfl
  simp only [e2]
  refine ⟨bds_nil _, fun h => by rw [checkV_8 h], fun hl => ?_⟩
  refine ⟨fun xs => match xs with | [_, .i i] => 0 ≤ i ∧ i ≤ rows.length ∧ rows.all (inB sens.length) = (rows.drop i.toNat).all (inB sens.length) | _ => False, fun xs => match xs with | [_, .i i] => ((rows.length : Int) - i).toNat | _ => 0, ⟨by omega, by omega, rfl⟩, ?_⟩
  rintro z _ _ i _ _ ⟨i0, i1, hI⟩
  refine ⟨fun hlt => ⟨i0, hlt, ?_⟩, fun hge => ?_⟩
  · have hz : i.toNat < rows.length := by omega
    rw [all_drop hz] at hI
    have hmu : ((rows.length : Int) - (i + 1)).toNat < ((rows.length : Int) - i).toNat := by omega
    generalize hrow : rows.getD i.toNat [] = row at *
    have bad : ¬ (0 ≤ cell_ row 0 ∧ cell_ row 0 < (sens.length : Int)) → 7 = checkV sens.length rows := fun h => by rw [checkV_7 hl (by rw [hI, inB, decide_eq_false h]; rfl)]
    refine ⟨fun h => by rw [bad (by omega)], fun h0 => ⟨hlt, fun h => by rw [bad (by omega)], fun h2 => ⟨⟨by omega, by omega, ?_⟩, hmu⟩⟩⟩
    rw [hI, inB, decide_eq_true (by omega), Bool.true_and, show (i + 1).toNat = i.toNat + 1 by omega]
  rw [List.drop_eq_nil_of_le (by omega)] at hI
  refine ⟨fun xs => match xs with | [_, .i i] => 0 ≤ i ∧ i ≤ rows.length ∧ rows.all inR = (rows.drop i.toNat).all inR | _ => False, fun xs => match xs with | [_, .i i] => ((rows.length : Int) - i).toNat | _ => 0, ⟨by omega, by omega, rfl⟩, ?_⟩
  rintro z' _ _ j _ _ ⟨j0, j1, hJ⟩
  refine ⟨fun hlt => ⟨j0, hlt, ?_⟩, fun hge => ?_⟩
  · have hz : j.toNat < rows.length := by omega
    rw [all_drop hz] at hJ
    have hmu : ((rows.length : Int) - (j + 1)).toNat < ((rows.length : Int) - j).toNat := by omega
    generalize hrow : rows.getD j.toNat [] = row at *
    have bad : ¬ (0 ≤ cell_ row 1 ∧ cell_ row 1 ≤ 1099511627176 ∧ -1125899906842624 ≤ cell_ row 2 ∧ cell_ row 2 ≤ 1125899906842624) → 2 = checkV sens.length rows := fun h => by rw [checkV_2 hl hI (by rw [hJ, inR, decide_eq_false h]; rfl)]
    refine ⟨fun h => by rw [bad (by omega)], fun h0 => ⟨hlt, fun h => by rw [bad (by omega)], fun h2 => ⟨⟨by omega, by omega, ?_⟩, hmu⟩⟩⟩
    rw [hJ, inR, decide_eq_true (by omega), Bool.true_and, show (j + 1).toNat = j.toNat + 1 by omega]
  rw [List.drop_eq_nil_of_le (by omega)] at hJ
  have hord := ord_all hI
  refine ⟨fun xs => match xs with | [_, .i k] => 0 ≤ k ∧ k ≤ sens.length ∧ ∀ x, 0 ≤ x → x < k → ordL (fltS rows x) = true | _ => False, fun xs => match xs with | [_, .i k] => ((sens.length : Int) - k).toNat | _ => 0, ⟨by omega, by omega, fun x hx hx' => by omega⟩, ?_⟩
  rintro z2 _ _ k _ _ ⟨k0, k1, hK⟩
  refine ⟨fun hlt => ⟨by omega, ?_⟩, fun hge => ?_⟩
  · rintro vo out do_ _ hso rfl
    refine ⟨fun xs => match xs with | [_, .i i] => i ≤ 201 ∧ OrdI (fltS rows k) i | _ => False, fun xs => match xs with | [_, .i i] => (((fltS rows k).length : Int) - i).toNat | _ => 0, ⟨by omega, OrdI.one _⟩, ?_⟩
    have hfl := @fltS_len rows k
    rintro z3 _ _ m _ _ ⟨m0, hM⟩
    refine ⟨fun hml => ?_, fun hml => ?_⟩
    · have m1 := hM.1
      refine ⟨by omega, hml, by omega, by omega, fun hle => ?_, fun hgt => ⟨⟨by omega, hM.next hml hgt⟩, ?_⟩⟩
      · rw [checkV_11 hl hI hJ]
        cases hA : rows.all (fun r => ordL (fltS rows (cell_ r 0))) with
        | false => rfl
        | true => have := hord.1 hA k k0 hlt; rw [hM.bad hml hle] at this; cases this
      · show (((fltS rows k).length : Int) - (m + 1)).toNat < (((fltS rows k).length : Int) - m).toNat
        omega
    · refine ⟨⟨by omega, by omega, fun x hx hx' => ?_⟩, show ((sens.length : Int) - (k + 1)).toNat < ((sens.length : Int) - k).toNat by omega⟩
      rcases Int.lt_or_eq_of_le (show x ≤ k by omega) with h | rfl
      · exact hK x hx h
      · exact hM.end_ hml
  · rw [checkV_0 hl hI hJ (hord.2 fun x hx hx' => hK x hx (by omega))]
end Go.Proofs.Ytlbgcjpkegpmlaa
/- The first alarm: the document's. -/
namespace Go.Proofs.Ytlbgcjpkegpmlaa
open Go.RowKit
set_option linter.unusedSimpArgs false
set_option linter.unusedVariables false

def alarmAt (sens rows : List (List C)) (k : Int) : Option Int := alarmOf (sens.getD k.toNat []) (fltS rows k)
/-- The first alarm among some sensors. -/
def Best (sens rows : List (List C)) (P : Int → Prop) (o : Option (Int × Int)) : Prop := match o with
  | none => ∀ k, P k → alarmAt sens rows k = none
  | some (s, t) => P s ∧ alarmAt sens rows s = some t ∧ ∀ k u, P k → alarmAt sens rows k = some u → t < u ∨ (t = u ∧ s ≤ k)
theorem Best.uniq {sens rows : List (List C)} {P : Int → Prop} {a b : Option (Int × Int)} (ha : Best sens rows P a) (hb : Best sens rows P b) : a = b := by
  cases a with
  | none => cases b with
    | none => rfl
    | some y => have := ha _ hb.1; rw [hb.2.1] at this; cases this
  | some x => cases b with
    | none => have := hb _ ha.1; rw [ha.2.1] at this; cases this
    | some y =>
      obtain ⟨s, t⟩ := x
      obtain ⟨s', t'⟩ := y
      obtain ⟨h1, h2, h3⟩ := ha
      obtain ⟨g1, g2, g3⟩ := hb
      have := h3 _ _ g1 g2
      have := g3 _ _ h1 h2
      rw [show s = s' by omega, show t = t' by omega]
theorem Best.congr {sens rows : List (List C)} {P P' : Int → Prop} {o : Option (Int × Int)} (h : Best sens rows P o) (hP : ∀ k, P k ↔ P' k) : Best sens rows P' o := by
  rw [show P' = P from funext fun k => propext (hP k).symm]; exact h
/-- More sensors, none of which alarms. -/
theorem Best.more {sens rows : List (List C)} {P P' : Int → Prop} {o : Option (Int × Int)} (h : Best sens rows P o) (h1 : ∀ k, P k → P' k) (h2 : ∀ k, P' k → P k ∨ alarmAt sens rows k = none) : Best sens rows P' o := by
  cases o with
  | none => exact fun k hk => (h2 k hk).elim (h k) id
  | some x => exact ⟨h1 _ h.1, h.2.1, fun k u hk hu => (h2 k hk).elim (fun hp => h.2.2 k u hp hu) fun hn => by rw [hn] at hu; cases hu⟩
/-- One sensor more. -/
def better (o : Option (Int × Int)) (k : Int) (a : Option Int) : Option (Int × Int) := match a, o with
  | none, o => o
  | some t, none => some (k, t)
  | some t, some (s, u) => if t < u ∨ (t = u ∧ k < s) then some (k, t) else some (s, u)
theorem Best.add {sens rows : List (List C)} {P : Int → Prop} {o : Option (Int × Int)} (h : Best sens rows P o) (k : Int) : Best sens rows (fun j => j = k ∨ P j) (better o k (alarmAt sens rows k)) := by
  cases ha : alarmAt sens rows k with
  | none => exact h.more (fun j hj => .inr hj) fun j hj => hj.elim (fun e => .inr (by rw [e, ha])) .inl
  | some t =>
    cases o with
    | none =>
      refine ⟨.inl rfl, ha, fun j u hj hu => ?_⟩
      rcases hj with rfl | hj
      · rw [ha] at hu; cases hu; exact .inr ⟨rfl, Int.le_refl _⟩
      · rw [h j hj] at hu; cases hu
    | some x =>
      obtain ⟨s, u⟩ := x
      obtain ⟨h1, h2, h3⟩ := h
      simp only [better]
      split
      · rename_i hc
        refine ⟨.inl rfl, ha, fun j u' hj hu => ?_⟩
        rcases hj with rfl | hj
        · rw [ha] at hu; cases hu; exact .inr ⟨rfl, Int.le_refl _⟩
        · have := h3 j u' hj hu; omega
      · rename_i hc
        refine ⟨.inr h1, h2, fun j u' hj hu => ?_⟩
        rcases hj with rfl | hj
        · rw [ha] at hu; cases hu; omega
        · exact h3 j u' hj hu
theorem watchL_step {sens rows : List (List C)} {k : Nat} : watchL sens rows (k + 1) = match alarmAt sens rows k, watchL sens rows k with
    | some t, some (s, u) => if t < u then some ((k : Int), t) else some (s, u)
    | some t, none => some ((k : Int), t)
    | none, o => o := rfl
theorem watchL_best {sens rows : List (List C)} : ∀ n : Nat, Best sens rows (fun k => 0 ≤ k ∧ k < n) (watchL sens rows n)
  | 0 => fun k hk => by omega
  | k + 1 => by
    have ih := @watchL_best sens rows k
    have e : watchL sens rows (k + 1) = better (watchL sens rows k) k (alarmAt sens rows k) := by
      rw [watchL_step]
      cases alarmAt sens rows k with
      | none => rfl
      | some t =>
        cases hw : watchL sens rows k with
        | none => rfl
        | some x =>
          obtain ⟨s, u⟩ := x
          rw [hw] at ih
          have := ih.1
          simp only [better]
          by_cases ht : t < u
          · rw [if_pos ht, if_pos (.inl ht)]
          · rw [if_neg ht, if_neg (by omega)]
    rw [e]
    exact (ih.add k).congr fun j => by omega
theorem firstE_mem : ∀ {l : List (List C)}, firstE l = 0 → ∀ r ∈ l, sensRow r = 0
  | [], _, r, h => by cases h
  | x :: l, h, r, hr => by
    rw [firstE] at h
    split at h
    · rename_i hx
      rcases List.mem_cons.1 hr with rfl | hr
      · exact hx
      · exact firstE_mem h r hr
    · rename_i hx; exact absurd h hx
theorem sens_at {sens : List (List C)} (h : sensorsE sens = 0) {k : Nat} (hk : k < sens.length) : 0 ≤ cell_ (sens.getD k []) 2 ∧ cell_ (sens.getD k []) 2 ≤ 600 ∧ 1 ≤ cell_ (sens.getD k []) 7 := by
  unfold sensorsE at h
  split at h
  · omega
  split at h
  · omega
  have hr : sensRow (sens.getD k []) = 0 := firstE_mem h _ (by simp [List.getD_eq_getElem?_getD, hk])
  unfold sensRow at hr
  obtain ⟨-, hso⟩ := sensE_iff.1 hr
  unfold SOk at hso
  exact ⟨hso.2.2.1, hso.2.2.2.1, by unfold cell_; omega⟩
theorem fltS_in {rows : List (List C)} {k : Int} (h : rows.all inR = true) : ∀ r ∈ fltS rows k, inR r = true := fun r hr => List.all_eq_true.1 h r (List.mem_filter.1 hr).1
theorem rwatch_ok : tab3.ok 55 := by
  refine Tab.of_ct rfl rfl ⟨_, Try.func55, by decide, rfl⟩ ?_ ctF_det
  refine ct_ok (cx := crwatch) (Tab.cx_ok (all_cons (up3_ok (up_ok rsensors_ok)) (all_cons rchk_ok (all_cons ralarm_ok (all_cons of_ok all_nil))))) Try.func55 (bds := []) (T := trwatch) (by kernel_rfl) ?_
  have h1 : crwatch.ct 86 = some ctOf := rfl
  have h2 : crwatch.ct 43 = some ctSensors := rfl
  have h3 : crwatch.ct 84 = some ctRCheck := rfl
  have h4 : crwatch.ct 85 = some ctAlarms := rfl
  unfold trwatch
  simp only [VC, allC, List.map_cons, List.map_nil, List.length_cons, List.length_nil, List.getElem?_cons_zero, List.getElem?_cons_succ, List.cons.injEq, C.i.injEq, C.b.injEq, and_true, true_and, forall_const, kindsOf_nil, kindsOf_lf, kindsOf_agg, kindsOf_box, boxKinds_nil, boxKinds_lf, boxKinds_agg, boxKinds_box, List.append_nil, List.cons_append, List.nil_append, den_cmp_le, den_cmp_lt, den_cmp_eq, den_cmp_ne, den_cmp_le', den_cmp_lt', den_cmp_eq', den_cmp_ne', den_and, den_and', den_or, den_or', den_not, den_not', den_blit, den_of, ev_var, at_0, at_1, at_2, at_3, at_4, at_5, at_6, at_7, at_skip, c_int, c_bool, c_arr, c_cnt, c_vec, ev_nil, ev_join, ev_sub3, loc_s, int_i, bool_b, rows_s, cs_nil, cs_cons, E.den_lit, E.den_var, E.den_add, E.den_sub, E.den_mul, E.den_quo, E.den_rem, E.den_max, E.den_min, E.den_len, E.den_wr, E.den_cell, h1, h2, h3, h4, ctWatch, ctSensors, ctRCheck, ctOf, ctAlarms, ctF, sensSh]
  intro v sens d _ hsm v' rows d' hty hsm'
  have e2 : ∀ v k o (l : List (List C)), ((C.s v l).at k o).int = cell_ (l.getD k []) o := fun _ _ _ _ => rfl
  simp only [e2]
  refine ⟨bds_nil _, ?_⟩
  rintro e _ _ rfl
  refine ⟨fun h => by unfold watchV; rw [if_neg h], fun hs => ?_⟩
  rintro e _ _ rfl
  refine ⟨fun h => by unfold watchV; rw [if_pos hs, if_neg h], fun hc => ?_⟩
  obtain ⟨hlen, hin, hir, -⟩ := checkV_ok hc
  have hW : watchV sens rows = watchC (watchL sens rows sens.length) := by unfold watchV; rw [if_pos hs, if_pos hc]
  refine ⟨fun xs => match xs with | [.b f, .i k, .i s, .i t] => 0 ≤ k ∧ k ≤ sens.length ∧ watchC (watchL sens rows k.toNat) = [.i s, .i t, .b f, .i 0] | _ => False, fun xs => match xs with | [_, .i k, _, _] => ((sens.length : Int) - k).toNat | _ => 0, ⟨by omega, by omega, rfl⟩, ?_⟩
  rintro f k _ _ s _ _ t _ _ ⟨k0, k1, hI⟩
  refine ⟨fun hlt => ?_, fun hge => ?_⟩
  · have hz : k.toNat < sens.length := by omega
    have hsa := sens_at hs hz
    have hmu : ((sens.length : Int) - (k + 1)).toNat < ((sens.length : Int) - k).toNat := by omega
    have e3 : (k + 1).toNat = k.toNat + 1 := by omega
    have hst := @watchL_step sens rows k.toNat
    rw [← e3] at hst
    rw [show ((k.toNat : Nat) : Int) = k by omega] at hst
    refine ⟨k0, hlt, by omega, ?_⟩
    rintro vo out do_ _ hso rfl
    have hfl := @fltS_len rows k
    refine ⟨⟨by omega, by omega, by omega, by omega, fltS_in hir⟩, ?_⟩
    rintro u _ _ is hal
    have hal' : [C.i u, C.b is] = alarmC (alarmAt sens rows k) := hal
    cases ha : alarmAt sens rows k with
    | none =>
      rw [ha] at hal' hst
      cases hal'
      refine ⟨fun h => (by cases h), fun _ => ⟨⟨by omega, by omega, ?_⟩, hmu⟩⟩
      rw [hst]; exact hI
    | some u' =>
      rw [ha] at hal' hst
      cases hal'
      cases hw : watchL sens rows k.toNat with
      | none =>
        rw [hw] at hst hI
        cases hI
        refine ⟨fun _ => ⟨fun _ => ⟨⟨by omega, by omega, ?_⟩, hmu⟩, fun h => (by cases h)⟩, fun h => (by cases h)⟩
        rw [hst]; rfl
      | some x =>
        obtain ⟨s', t'⟩ := x
        rw [hw] at hst hI
        cases hI
        refine ⟨fun _ => ⟨fun h => (by cases h), fun _ => ⟨fun hl => ⟨⟨by omega, by omega, ?_⟩, hmu⟩, fun hl => ⟨⟨by omega, by omega, ?_⟩, hmu⟩⟩⟩, fun h => (by cases h)⟩
        · rw [hst]; simp only []; rw [if_pos hl]; rfl
        · rw [hst]; simp only []; rw [if_neg (by omega)]; rfl
  · rw [show k.toNat = sens.length by omega] at hI
    rw [hW, hI]
end Go.Proofs.Ytlbgcjpkegpmlaa
/- Samples made of numbers. -/
namespace Go.Proofs.Ytlbgcjpkegpmlaa
open Go.RowKit
set_option linter.unusedSimpArgs false
set_option linter.unusedVariables false

theorem endL_snoc {pe : Int} {row : List C} : ∀ {l : List (List C)} {last : Int}, endL pe last (l ++ [row]) = (cell_ row 1).tdiv pe
  | [], last => rfl
  | x :: l, last => by show endL pe _ (l ++ [row]) = _; exact endL_snoc
theorem possL_snoc {x : SK} {begin se ph : Int} {row : List C} : ∀ {l : List (List C)} {last : Int}, possL x begin se ph last (l ++ [row]) = (possL x begin se ph last l && decide (stepV x begin se ph (endL x.pe last l) row))
  | [], last => by
    show (decide (stepV x begin se ph last row) && true) = (true && decide (stepV x begin se ph last row))
    rw [Bool.and_true, Bool.true_and]
  | y :: l, last => by
    show (decide (stepV x begin se ph last y) && possL x begin se ph _ (l ++ [row])) = _
    rw [possL_snoc]
    show _ = ((decide (stepV x begin se ph last y) && possL x begin se ph _ l) && _)
    rw [Bool.and_assoc]
    rfl
/-- What a channel says, as it is computed. -/
theorem says_up {ch r g n : Int} (hk : KOk r g) (n1 : n ≤ 20000) (hch : ch = 1 ∨ ch = 2) : (0 < n ∨ (n = 0 ∧ ch = 2) → saysV ch r g n = if ch = 1 then n * r + g * (n * (n - 1)).tdiv 2 else r + n * g) ∧ (¬ (0 < n ∨ (n = 0 ∧ ch = 2)) → saysV ch r g n = 0) := by
  refine ⟨fun h => ?_, fun h => ?_⟩
  · obtain ⟨-, -, e, -⟩ := gain_facts hk (show 0 ≤ n by omega) n1
    unfold saysV gainV flowV
    have hc : KOk r g ∧ 0 ≤ n ∧ n ≤ 20000 := ⟨hk, by omega, n1⟩
    simp only [e, if_pos hc]
  · unfold saysV gainV flowV
    by_cases h0 : n < 0
    · have hc : ¬ (KOk r g ∧ 0 ≤ n ∧ n ≤ 20000) := fun h => by omega
      simp only [if_neg hc]
      split <;> rfl
    · have : n = 0 := by omega
      subst this
      have hc : KOk r g ∧ (0 : Int) ≤ 0 ∧ (0 : Int) ≤ 20000 := ⟨hk, by omega, n1⟩
      rw [if_pos (show ch = 1 by omega), if_pos hc]
      simp
theorem samples_ok : tab.ok 27 := by
  refine Tab.of_ct rfl rfl ⟨_, Try.func27, by decide, rfl⟩ ?_ (fun h => by cases h)
  refine ct_ok (cx := csamples) (Tab.cx_ok (all_cons next_ok all_nil)) Try.func27 (bds := [(1, 0, 100000), (3, 1, 2), (4, 1, 60), (6, 0, 15), (7, 1, 1048576), (8, 0, 5), (11, 0, 16777216), (12, 0, 4096), (13, 0, 20000), (14, 0, 20000)]) (T := tsamples) (by kernel_rfl) ?_
  have h1 : csamples.ct 26 = some ctNext := rfl
  unfold tsamples
  simp only [VC, allC, List.map_cons, List.map_nil, List.length_cons, List.length_nil, List.getElem?_cons_zero, List.getElem?_cons_succ, List.cons.injEq, C.i.injEq, C.b.injEq, and_true, true_and, forall_const, kindsOf_nil, kindsOf_lf, kindsOf_agg, kindsOf_box, boxKinds_nil, boxKinds_lf, boxKinds_agg, boxKinds_box, List.append_nil, List.cons_append, List.nil_append, den_cmp_le, den_cmp_lt, den_cmp_eq, den_cmp_ne, den_cmp_le', den_cmp_lt', den_cmp_eq', den_cmp_ne', den_and, den_and', den_or, den_or', den_not, den_not', den_blit, den_of, ev_var, at_0, at_1, at_2, at_3, at_4, at_5, at_6, at_7, at_skip, c_int, c_bool, c_arr, c_cnt, c_vec, ev_nil, ev_join, ev_sub3, loc_s, int_i, bool_b, rows_s, cs_nil, cs_cons, E.den_lit, E.den_var, E.den_add, E.den_sub, E.den_mul, E.den_quo, E.den_rem, E.den_max, E.den_min, E.den_len, E.den_wr, E.den_cell, h1, ctSamples, ctNext, kickSh, sensSh, ringSh]
  intro v rows d _ hsm at0 _ _ se _ _ ch _ _ pe _ _ de _ _ no _ _ st _ _ lo _ _ li _ _ ho _ _ r _ _ g _ _ begin _ _ last _ _ hp
  obtain ⟨a0, a1, ⟨hs, hk⟩, b0, b1, l0, l1⟩ := hp
  obtain ⟨hch, hso⟩ := sensE_iff.1 hs
  simp only [] at hch hso hk
  unfold SOk at hso
  refine ⟨?_, by omega, ?_⟩
  · unfold KOk at hk
    intro x lo' hi' hm
    simp only [List.mem_cons, List.not_mem_nil, or_false, Prod.mk.injEq] at hm
    rcases hm with ⟨rfl, rfl, rfl⟩ | ⟨rfl, rfl, rfl⟩ | ⟨rfl, rfl, rfl⟩ | ⟨rfl, rfl, rfl⟩ | ⟨rfl, rfl, rfl⟩ | ⟨rfl, rfl, rfl⟩ | ⟨rfl, rfl, rfl⟩ | ⟨rfl, rfl, rfl⟩ | ⟨rfl, rfl, rfl⟩ | ⟨rfl, rfl, rfl⟩ <;> simp only [at_1, at_3, at_4, at_6, at_7, at_skip, at_0, at_5, int_i, List.length_cons, List.length_nil] <;> first | omega | (refine ⟨by omega, ?_⟩; trace_state; omega)
  rintro ph _ _ v0 rows0 d0 _ _ at1 _ _ ⟨p0, p1, rfl, rfl, rfl⟩
  have hX : SKOk ⟨ch, pe, de, no, st, lo, li, ho, r, g⟩ := ⟨hs, hk⟩
  unfold tsamples_3
  simp only [VC, allC, List.map_cons, List.map_nil, List.length_cons, List.length_nil, List.getElem?_cons_zero, List.getElem?_cons_succ, List.cons.injEq, C.i.injEq, C.b.injEq, and_true, true_and, forall_const, kindsOf_nil, kindsOf_lf, kindsOf_agg, kindsOf_box, boxKinds_nil, boxKinds_lf, boxKinds_agg, boxKinds_box, List.append_nil, List.cons_append, List.nil_append, den_cmp_le, den_cmp_lt, den_cmp_eq, den_cmp_ne, den_cmp_le', den_cmp_lt', den_cmp_eq', den_cmp_ne', den_and, den_and', den_or, den_or', den_not, den_not', den_blit, den_of, ev_var, at_0, at_1, at_2, at_3, at_4, at_5, at_6, at_7, at_skip, c_int, c_bool, c_arr, c_cnt, c_vec, ev_nil, ev_join, ev_sub3, loc_s, int_i, bool_b, rows_s, cs_nil, cs_cons, E.den_lit, E.den_var, E.den_add, E.den_sub, E.den_mul, E.den_quo, E.den_rem, E.den_max, E.den_min, E.den_len, E.den_wr, E.den_cell, h1, ctSamples, ctNext, kickSh, sensSh, ringSh]
  have sn := fun l row => @possL_snoc ⟨ch, pe, de, no, st, lo, li, ho, r, g⟩ begin se ph row l (-1)
  have hst : ∀ z row, stepV ⟨ch, pe, de, no, st, lo, li, ho, r, g⟩ begin se ph z row ↔ 0 ≤ cell_ row 1 ∧ cell_ row 1 ≤ 40000 ∧ cell_ row 0 = se ∧ (cell_ row 1).tmod pe = ph ∧ 1 ≤ (cell_ row 1).tdiv pe - z ∧ (cell_ row 1).tdiv pe - z ≤ lo + 1 ∧ measV no st ch r g (cell_ row 1 - begin) (cell_ row 2) := fun z row => Iff.rfl
  have epe : (SK.mk ch pe de no st lo li ho r g).pe = pe := rfl
  have elo : (SK.mk ch pe de no st lo li ho r g).lo = lo := rfl
  generalize hXe : SK.mk ch pe de no st lo li ho r g = X at *
  have fin : ∀ (out : List (List C)) (left t n at' : Int), out.length ≤ 190 → 0 ≤ left → left ≤ lo → t = ph + n * pe → n = endL pe (-1) out + 1 + (lo - left) → possL X begin se ph (-1) out = true → (∀ row ∈ out, cell_ row 1 ≤ last) → at0 + 1 ≤ at' → at' ≤ at0 + 1 + 3 * n → n ≤ last + 1 → (last < t ∨ 190 ≤ out.length) → SampsOf X begin se last out ∧ at0 ≤ at' ∧ at' ≤ at0 + 4 + 3 * last := fun out left t n at' g1 g2 g3 g4 g5 g6 g7 g8 g9 g10 g11 => by
    refine ⟨⟨g1, ph, p0, by rw [epe]; exact p1, g6, g7, fun hlt => ?_⟩, by omega, by omega⟩
    have g12 : last < t := by omega
    have : n * pe ≤ (endL pe (-1) out + 1 + lo) * pe := Int.mul_le_mul_of_nonneg_right (by omega) (by omega)
    rw [epe, elo]
    omega
  refine ⟨fun xs => match xs with | [.s _ out, .i left, .i t, .s rv rr, .i at'] => rv = v0 ∧ rr = rows0 ∧ out.length ≤ 190 ∧ 0 ≤ left ∧ left ≤ lo ∧ ∃ n, 0 ≤ n ∧ n ≤ last + 1 ∧ t = ph + n * pe ∧ t ≤ last + 60 ∧ n = endL pe (-1) out + 1 + (lo - left) ∧ possL X begin se ph (-1) out = true ∧ (∀ row ∈ out, cell_ row 1 ≤ last) ∧ at0 + 1 ≤ at' ∧ at' ≤ at0 + 1 + 3 * n | _ => False, fun xs => match xs with | [_, _, .i t, _, _] => (last + 60 - t).toNat | _ => 0, ?_, ?_⟩
  · refine ⟨rfl, rfl, by simp, by omega, by omega, 0, by omega, by omega, by omega, by omega, ?_⟩
    exact ⟨by show (0 : Int) = -1 + 1 + (lo - lo); omega, rfl, fun row hr => (by cases hr), by omega, by omega⟩
  rintro vo out do_ _ _ left _ _ t _ _ rv rr dr _ _ at' _ _ ⟨rfl, rfl, o1, f0, f1, n, n0, n1, ht, t1, hn, hps, hall, c0, c1⟩
  have npe : n ≤ n * pe := by
    have := Int.mul_le_mul_of_nonneg_left (show 1 ≤ pe by omega) n0
    omega
  refine ⟨fun hle => ⟨fun hlt => ?_, fun hge => ?_⟩, fun hgt => ?_⟩
  rotate_left
  · obtain ⟨k1, k2, k3⟩ := fin out left t n at' o1 f0 f1 ht hn hps hall c0 c1 n1 (.inr (by omega))
    exact ⟨k1, rfl, rfl, k2, k3⟩
  · obtain ⟨k1, k2, k3⟩ := fin out left t n at' o1 f0 f1 ht hn hps hall c0 c1 n1 (.inl (by omega))
    exact ⟨k1, rfl, rfl, k2, k3⟩
  have nl : n ≤ last := by omega
  refine ⟨fun xs => match xs with | [.b sk, .s rv' rr', .i at2] => rv' = rv ∧ rr' = rr ∧ at' ≤ at2 ∧ at2 ≤ at' + 1 ∧ (sk = true → 0 < left) | _ => False, ⟨fun hl => ⟨by omega, ?_⟩, fun hl => ⟨rfl, rfl, by omega, by omega, fun h => by cases h⟩⟩, ?_⟩
  · rintro x _ _ v1 rows1 d1 _ _ at2 _ _ ⟨x0, x1, rfl, rfl, rfl⟩
    exact ⟨rfl, rfl, by omega, by omega, fun _ => hl⟩
  rintro sk v1 rows1 d1 _ _ at2 _ _ ⟨rfl, rfl, c2, c3, hsk⟩
  have tnext : t + pe = ph + (n + 1) * pe := by rw [ht, Int.add_mul]; omega
  have mu : (last + 60 - (t + pe)).toNat < (last + 60 - t).toNat := by omega
  refine ⟨fun h => ?_, fun h => ?_⟩
  · have hl := hsk h
    exact ⟨by omega, by omega, ⟨rfl, rfl, o1, by omega, by omega, n + 1, by omega, by omega, tnext, by omega, by omega, hps, hall, by omega, by omega⟩, mu⟩
  refine ⟨by omega, ?_⟩
  have hn2 : t - begin ≤ 20000 := by omega
  obtain ⟨u1, u2⟩ := says_up (ch := ch) hk hn2 hch
  have sb := @saysV_bd ch r g (t - begin)
  refine ⟨fun xs => match xs with | [.b b] => (b = true ↔ (0 < t - begin ∨ (t - begin = 0 ∧ ch = 2))) | _ => False, ⟨fun h => ⟨fun _ => .inl h, fun _ => rfl⟩, fun h => ⟨fun h' => ?_, fun h' => ⟨fun h => (by cases h), fun h => by omega⟩⟩⟩, ?_⟩
  · show (B.den _ (.cmp .eq (.var 3) (.lit 2)) = true ↔ _)
    rw [den_cmp_eq]
    show (ch = 2 ↔ _)
    omega
  rintro b hb
  refine ⟨fun xs => match xs with | [.i v] => v = saysV ch r g (t - begin) | _ => False, ⟨fun h => ?_, fun h => ?_⟩, ?_⟩
  · have hc := hb.1 h
    have u1 := u1 hc
    obtain ⟨k1, k2, k3, k4, k5⟩ := gain_facts hk (show 0 ≤ t - begin by omega) hn2
    unfold KOk at hk
    have k6 := mul_bd (a := t - begin) (b := g) (A := 20000) (B := 4096) (by omega) (by omega) (by omega) (by omega)
    rw [← k3] at k4 k5
    refine ⟨by omega, by omega, fun h1 => ?_, fun h1 => ?_⟩
    · repeat (refine And.intro (by omega) ?_)
      rw [u1, if_pos h1]
    · refine ⟨by omega, ?_⟩
      rw [u1, if_neg h1]
  · exact (u2 fun h' => by rw [hb.2 h'] at h; cases h).symm
  rintro w _ _ hw
  refine ⟨by omega, ?_⟩
  rintro e0 _ _ v1 rows1 d1 _ _ at3 _ _ ⟨e1, e2, rfl, rfl, rfl⟩
  unfold tsamples_2
  simp only [VC, allC, List.map_cons, List.map_nil, List.length_cons, List.length_nil, List.getElem?_cons_zero, List.getElem?_cons_succ, List.cons.injEq, C.i.injEq, C.b.injEq, and_true, true_and, forall_const, kindsOf_nil, kindsOf_lf, kindsOf_agg, kindsOf_box, boxKinds_nil, boxKinds_lf, boxKinds_agg, boxKinds_box, List.append_nil, List.cons_append, List.nil_append, den_cmp_le, den_cmp_lt, den_cmp_eq, den_cmp_ne, den_cmp_le', den_cmp_lt', den_cmp_eq', den_cmp_ne', den_and, den_and', den_or, den_or', den_not, den_not', den_blit, den_of, ev_var, at_0, at_1, at_2, at_3, at_4, at_5, at_6, at_7, at_skip, c_int, c_bool, c_arr, c_cnt, c_vec, ev_nil, ev_join, ev_sub3, loc_s, int_i, bool_b, rows_s, cs_nil, cs_cons, E.den_lit, E.den_var, E.den_add, E.den_sub, E.den_mul, E.den_quo, E.den_rem, E.den_max, E.den_min, E.den_len, E.den_wr, E.den_cell, h1, ctNext, ringSh]
  refine ⟨by omega, by omega, ?_⟩
  rintro f0 _ _ v1 rows1 d1 _ _ at4 _ _ ⟨f1', f2', rfl, rfl, rfl⟩
  unfold tsamples_1
  simp only [VC, allC, List.map_cons, List.map_nil, List.length_cons, List.length_nil, List.getElem?_cons_zero, List.getElem?_cons_succ, List.cons.injEq, C.i.injEq, C.b.injEq, and_true, true_and, forall_const, kindsOf_nil, kindsOf_lf, kindsOf_agg, kindsOf_box, boxKinds_nil, boxKinds_lf, boxKinds_agg, boxKinds_box, List.append_nil, List.cons_append, List.nil_append, den_cmp_le, den_cmp_lt, den_cmp_eq, den_cmp_ne, den_cmp_le', den_cmp_lt', den_cmp_eq', den_cmp_ne', den_and, den_and', den_or, den_or', den_not, den_not', den_blit, den_of, ev_var, at_0, at_1, at_2, at_3, at_4, at_5, at_6, at_7, at_skip, c_int, c_bool, c_arr, c_cnt, c_vec, ev_nil, ev_join, ev_sub3, loc_s, int_i, bool_b, rows_s, cs_nil, cs_cons, E.den_lit, E.den_var, E.den_add, E.den_sub, E.den_mul, E.den_quo, E.den_rem, E.den_max, E.den_min, E.den_len, E.den_wr, E.den_cell]
  refine ⟨fun xs => match xs with | [.i e] => -no ≤ e ∧ e ≤ no | _ => False, ⟨fun _ => ⟨by omega, by omega⟩, fun _ => ⟨by omega, by omega, by omega⟩⟩, ?_⟩
  rintro e _ _ ⟨g1, g2⟩
  have es := mul_abs (a := e) (b := st) (A := 15) (B := 1048576) (by omega) (by omega) (by omega) (by omega)
  have hm := meas_of (ch := ch) (r := r) (g := g) (no := no) (e := e) (st := st) (n := t - begin) (by omega) hn2 g1 g2
  rw [← hw] at hm sb
  have tm : t.tmod pe = ph ∧ t.tdiv pe = n := by
    rw [Int.tmod_eq_emod_of_nonneg (by omega), Int.tdiv_eq_ediv_of_nonneg (by omega), ht]
    exact ⟨by rw [Int.add_mul_emod_self_right, Int.emod_eq_of_lt p0 p1], by rw [Int.add_mul_ediv_right _ _ (by omega), Int.ediv_eq_zero_of_lt p0 p1, Int.zero_add]⟩
  refine ⟨by omega, by omega, by omega, by simp; omega, ⟨by simp; omega, by omega, by omega, n + 1, by omega, by omega, tnext, by omega, ?_, ?_, ?_, by omega, by omega⟩, mu⟩
  · rw [endL_snoc]
    show n + 1 = t.tdiv pe + 1 + (lo - lo)
    omega
  · rw [sn, hps, epe, Bool.true_and]
    refine decide_eq_true ((hst _ _).2 ⟨by show 0 ≤ t; omega, by show t ≤ 40000; omega, rfl, tm.1, ?_, ?_, hm⟩)
    · show 1 ≤ t.tdiv pe - _
      omega
    · show t.tdiv pe - _ ≤ lo + 1
      omega
  · intro row hr
    rcases List.mem_append.1 hr with hr | hr
    · exact hall row hr
    · simp at hr; subst hr; exact hle
end Go.Proofs.Ytlbgcjpkegpmlaa
/- Alarms do not hang on what comes later, nor on the order among sensors. -/
namespace Go.Proofs.Ytlbgcjpkegpmlaa
open Go.RowKit
set_option linter.unusedSimpArgs false
set_option linter.unusedVariables false

theorem possL_ord {x : SK} {begin se ph : Int} (hp : 1 ≤ x.pe) : ∀ {rows : List (List C)} {last t : Int}, possL x begin se ph last rows = true → (∀ u, 0 ≤ u → last + 1 ≤ u.tdiv x.pe → t < u) → ordFrom t rows = true
  | [], _, _, _, _ => rfl
  | row :: l, last, t, h, ht => by
    rw [possL, Bool.and_eq_true, decide_eq_true_eq] at h
    obtain ⟨⟨h1, h2, h3, h4, h5, h6, h7⟩, hl⟩ := h
    rw [ordFrom, Bool.and_eq_true, decide_eq_true_eq]
    refine ⟨ht _ h1 (by omega), possL_ord hp hl fun u hu hle => ?_⟩
    by_cases h : cell_ row 1 < u
    · exact h
    · rw [Int.tdiv_eq_ediv_of_nonneg hu, Int.tdiv_eq_ediv_of_nonneg h1] at hle
      have := Int.ediv_le_ediv (show 0 < x.pe by omega) (show u ≤ cell_ row 1 by omega)
      omega
theorem meas_bd {no st ch r g n v : Int} (h : measV no st ch r g n v) (s0 : 1 ≤ st) (s1 : st ≤ 1048576) (o0 : 0 ≤ no) (o1 : no ≤ 15) : -1125899906842624 ≤ v ∧ v ≤ 1125899906842624 := by
  have e := meas_eq h
  have b := @saysV_bd ch r g n
  obtain ⟨-, -, h1, h2⟩ := h
  generalize (v - saysV ch r g n).tdiv st = q at *
  rcases Int.le_total 0 q with hq | hq
  · have := mul_bd (a := q) (b := st) (A := 15) (B := 1048576) (by omega) (by omega) (by omega) (by omega)
    omega
  · have := mul_bd (a := -q) (b := st) (A := 15) (B := 1048576) (by omega) (by omega) (by omega) (by omega)
    rw [Int.neg_mul] at this
    omega
theorem possL_rows {x : SK} {begin se ph : Int} (hx : SKOk x) : ∀ {rows : List (List C)} {last : Int}, possL x begin se ph last rows = true → ∀ row ∈ rows, cell_ row 0 = se ∧ 0 ≤ cell_ row 1 ∧ cell_ row 1 ≤ 40000 ∧ -1125899906842624 ≤ cell_ row 2 ∧ cell_ row 2 ≤ 1125899906842624
  | [], _, _, _, h => by cases h
  | row :: l, last, h, r, hr => by
    rw [possL, Bool.and_eq_true, decide_eq_true_eq] at h
    obtain ⟨⟨h1, h2, h3, h4, h5, h6, h7⟩, hl⟩ := h
    rcases List.mem_cons.1 hr with rfl | hr
    · obtain ⟨-, hso⟩ := sensE_iff.1 hx.1
      unfold SOk at hso
      have := meas_bd h7 (by omega) (by omega) (by omega) (by omega)
      exact ⟨h3, h1, h2, this⟩
    · exact possL_rows hx hl r hr
theorem ordFrom_len {T : Int} : ∀ {rows : List (List C)} {t : Int}, ordFrom t rows = true → (∀ r ∈ rows, cell_ r 1 ≤ T) → t ≤ T → (rows.length : Int) ≤ T - t
  | [], t, _, _, h => by simp; omega
  | r :: l, t, h, hT, ht => by
    rw [ordFrom, Bool.and_eq_true, decide_eq_true_eq] at h
    have := ordFrom_len h.2 (fun x hx => hT x (List.mem_cons_of_mem _ hx)) (hT r (List.mem_cons_self ..))
    simp
    omega
theorem ordFrom_L {t : Int} : ∀ {rows : List (List C)}, ordFrom t rows = true → ordL rows = true
  | [], _ => rfl
  | r :: l, h => by rw [ordFrom, Bool.and_eq_true] at h; exact h.2
theorem ordL_from : ∀ {rows : List (List C)}, ordL rows = true → ∃ t, ordFrom t rows = true
  | [], _ => ⟨0, rfl⟩
  | r :: l, h => ⟨cell_ r 1 - 1, by rw [ordFrom, Bool.and_eq_true, decide_eq_true_eq]; exact ⟨by omega, h⟩⟩
theorem ordFrom_weak {t t' : Int} (h : t ≤ t') : ∀ {rows : List (List C)}, ordFrom t' rows = true → ordFrom t rows = true
  | [], _ => rfl
  | r :: l, hr => by
    rw [ordFrom, Bool.and_eq_true, decide_eq_true_eq] at hr ⊢
    exact ⟨by omega, hr.2⟩
theorem ordFrom_filter {p : List C → Bool} : ∀ {rows : List (List C)} {t : Int}, ordFrom t rows = true → ordFrom t (rows.filter p) = true
  | [], _, _ => rfl
  | r :: l, t, h => by
    rw [ordFrom, Bool.and_eq_true, decide_eq_true_eq] at h
    rw [List.filter_cons]
    split
    · rw [ordFrom, Bool.and_eq_true, decide_eq_true_eq]
      exact ⟨h.1, ordFrom_filter h.2⟩
    · exact ordFrom_weak (by omega) (ordFrom_filter h.2)
theorem ordL_filter {p : List C → Bool} {rows : List (List C)} (h : ordL rows = true) : ordL (rows.filter p) = true := by
  obtain ⟨t, ht⟩ := ordL_from h
  exact ordFrom_L (ordFrom_filter ht)
theorem fltS_app {a b : List (List C)} {k : Int} : fltS (a ++ b) k = fltS a k ++ fltS b k := List.filter_append _ _
theorem fltS_self {a : List (List C)} {k : Int} (h : ∀ r ∈ a, cell_ r 0 = k) : fltS a k = a := List.filter_eq_self.2 fun r hr => by simpa using h r hr
theorem fltS_filter {p : List C → Bool} {a : List (List C)} {k : Int} : fltS (a.filter p) k = (fltS a k).filter p := by
  unfold fltS
  rw [List.filter_filter, List.filter_filter]
  congr 1
  funext r
  exact Bool.and_comm _ _
theorem checkV_filter {n : Int} {p : List C → Bool} {rows : List (List C)} (h : checkV n rows = 0) : checkV n (rows.filter p) = 0 := by
  obtain ⟨h1, h2, h3, h4⟩ := checkV_ok h
  have hle := List.length_filter_le p rows
  have hall : ∀ {f : List C → Bool}, rows.all f = true → (rows.filter p).all f = true := fun hf => List.all_eq_true.2 fun r hr => List.all_eq_true.1 hf r (List.mem_filter.1 hr).1
  have h2' := hall h2
  refine checkV_0 (by omega) h2' (hall h3) ((ord_all h2').2 fun k k0 k1 => ?_)
  rw [fltS_filter]
  exact ordL_filter ((ord_all h2).1 h4 k k0 k1)
theorem alarm_late {li ho de : Int} : ∀ {l : List (List C)} {n t0 t : Int}, ordFrom t0 l = true → alarmL li ho de n l = some t → t0 + de < t
  | [], _, _, _, _, h => by cases h
  | r :: l, n, t0, t, hr, h => by
    rw [ordFrom, Bool.and_eq_true, decide_eq_true_eq] at hr
    rw [alarmL] at h
    generalize (if cell_ r 2 < li then (0 : Int) else n + 1) = m at h
    by_cases hm : m = ho
    · rw [if_pos hm] at h; cases h; omega
    · rw [if_neg hm] at h
      have := alarm_late hr.2 h
      omega
theorem filter_late {de T : Int} : ∀ {l : List (List C)} {t0 : Int}, ordFrom t0 l = true → T < t0 + de → l.filter (fun r => decide (cell_ r 1 + de ≤ T)) = []
  | [], _, _, _ => rfl
  | r :: l, t0, h, hT => by
    rw [ordFrom, Bool.and_eq_true, decide_eq_true_eq] at h
    rw [List.filter_cons, decide_eq_false (by omega)]
    exact filter_late h.2 (by omega)
theorem alarm_cut {li ho de T : Int} : ∀ {l : List (List C)} {n t0 : Int}, ordFrom t0 l = true → ∀ t, alarmL li ho de n (l.filter fun r => decide (cell_ r 1 + de ≤ T)) = some t ↔ alarmL li ho de n l = some t ∧ t ≤ T
  | [], n, t0, _, t => by simp [alarmL]
  | r :: l, n, t0, h, t => by
    rw [ordFrom, Bool.and_eq_true, decide_eq_true_eq] at h
    by_cases hp : cell_ r 1 + de ≤ T
    · rw [List.filter_cons, decide_eq_true hp, if_pos rfl, alarmL, alarmL]
      generalize (if cell_ r 2 < li then (0 : Int) else n + 1) = m
      by_cases hm : m = ho
      · rw [if_pos hm, if_pos hm]
        constructor
        · intro e; refine ⟨e, ?_⟩; cases e; omega
        · exact fun e => e.1
      · rw [if_neg hm, if_neg hm]
        exact alarm_cut h.2 t
    · rw [List.filter_cons, decide_eq_false hp, if_neg (by simp), filter_late h.2 (by omega)]
      constructor
      · intro e; cases e
      · rintro ⟨e, ht⟩
        exfalso
        rw [alarmL] at e
        generalize (if cell_ r 2 < li then (0 : Int) else n + 1) = m at e
        by_cases hm : m = ho
        · rw [if_pos hm] at e; cases e; omega
        · rw [if_neg hm] at e
          have := alarm_late h.2 e
          omega
/-- What may matter up to a tick. -/
def upTo (sens : List (List C)) (T : Int) (r : List C) : Bool := decide (cell_ r 1 + cell_ (sens.getD (cell_ r 0).toNat []) 2 ≤ T)
theorem alarmAt_cut {sens rows : List (List C)} {T k : Int} (h : ordL (fltS rows k) = true) (t : Int) : alarmAt sens (rows.filter (upTo sens T)) k = some t ↔ alarmAt sens rows k = some t ∧ t ≤ T := by
  unfold alarmAt alarmOf
  rw [fltS_filter]
  obtain ⟨t0, ht0⟩ := ordL_from h
  have e : (fltS rows k).filter (upTo sens T) = (fltS rows k).filter fun r => decide (cell_ r 1 + cell_ (sens.getD k.toNat []) 2 ≤ T) := by
    refine List.filter_congr fun r hr => ?_
    have : cell_ r 0 = k := by have := (List.mem_filter.1 hr).2; simpa using this
    unfold upTo
    rw [this]
  rw [e]
  exact alarm_cut ht0 t
theorem watch_cut {sens rows : List (List C)} {n : Nat} {s T : Int} (h : ∀ k, 0 ≤ k → k < (n : Int) → ordL (fltS rows k) = true) (hw : watchL sens rows n = some (s, T)) : watchL sens (rows.filter (upTo sens T)) n = some (s, T) := by
  have hb := @watchL_best sens rows n
  rw [hw] at hb
  obtain ⟨h1, h2, h3⟩ := hb
  refine Best.uniq (watchL_best n) ⟨h1, (alarmAt_cut (h s h1.1 h1.2) T).2 ⟨h2, Int.le_refl _⟩, fun k u hk hu => h3 k u hk ((alarmAt_cut (h k hk.1 hk.2) u).1 hu).1⟩
theorem watch_same {sens rows rows' : List (List C)} : ∀ {n : Nat}, (∀ k, 0 ≤ k → k < (n : Int) → fltS rows k = fltS rows' k) → watchL sens rows n = watchL sens rows' n
  | 0, _ => rfl
  | n + 1, h => by
    rw [watchL, watchL, h n (by omega) (by omega), watch_same fun k h0 h1 => h k h0 (by omega)]
theorem sok_of {a b c d e f g h r k : Int} (sg : SensGood a b c d e f g h) (hk : KOk r k) : SKOk ⟨a, b, c, d, e, f, g, h, r, k⟩ := by
  unfold SensGood at sg
  exact ⟨show sensE a b c d e f g h = 0 from sensE_yes (by omega) (by unfold SOk; omega), hk⟩
theorem two_sens {r r' : List C} (h : sensRow r = 0) (h' : sensRow r' = 0) : sensorsE [r, r'] = 0 := by simp [sensorsE, firstE, h, h']
/-- Samples of one sensor, in order, few. -/
structure Good (se : Int) (a : List (List C)) : Prop where
  se : ∀ r ∈ a, cell_ r 0 = se
  inr : ∀ r ∈ a, inR r = true
  ord : ordFrom (-1) a = true
  len : a.length ≤ 91
theorem SampsOf.good {x : SK} {begin se : Int} {a : List (List C)} (hx : SKOk x) (h : SampsOf x begin se 90 a) : Good se a := by
  obtain ⟨h1, ph, h2, h3, h4, h5, -⟩ := h
  obtain ⟨-, hso⟩ := sensE_iff.1 hx.1
  unfold SOk at hso
  have hr := possL_rows hx h4
  have ho : ordFrom (-1) a = true := possL_ord (by omega) h4 fun u hu _ => by omega
  refine ⟨fun r hr' => (hr r hr').1, fun r hr' => ?_, ho, ?_⟩
  · have := hr r hr'
    unfold inR
    exact decide_eq_true (by omega)
  · have := ordFrom_len ho h5 (by omega)
    omega
theorem two_check {a b : List (List C)} (ha : Good 0 a) (hb : Good 1 b) : checkV 2 (a ++ b) = 0 ∧ checkV 2 (b ++ a) = 0 ∧ ∀ k, 0 ≤ k → k < 2 → fltS (a ++ b) k = fltS (b ++ a) k ∧ ordL (fltS (a ++ b) k) = true := by
  have e : ∀ k, 0 ≤ k → k < 2 → fltS (a ++ b) k = fltS (b ++ a) k ∧ ordL (fltS (a ++ b) k) = true := fun k k0 k1 => by
    rw [fltS_app, fltS_app]
    rcases (show k = 0 ∨ k = 1 by omega) with rfl | rfl
    · rw [fltS_self ha.se, fltS_none (rows := b) (k := 0) fun r hr => by rw [hb.se r hr]; decide]
      simp [ordFrom_L ha.ord]
    · rw [fltS_self hb.se, fltS_none (rows := a) (k := 1) fun r hr => by rw [ha.se r hr]; decide]
      simp [ordFrom_L hb.ord]
  have hin : ∀ l : List (List C), (∀ r ∈ l, r ∈ a ∨ r ∈ b) → l.all (inB 2) = true ∧ l.all inR = true := fun l hl => ⟨List.all_eq_true.2 fun r hr => by
      unfold inB
      rcases hl r hr with h | h
      · rw [ha.se r h]; rfl
      · rw [hb.se r h]; rfl, List.all_eq_true.2 fun r hr => (hl r hr).elim (ha.inr r) (hb.inr r)⟩
  have hl := ha.len
  have hl2 := hb.len
  obtain ⟨i1, i2⟩ := hin (a ++ b) fun r hr => List.mem_append.1 hr
  obtain ⟨j1, j2⟩ := hin (b ++ a) fun r hr => (List.mem_append.1 hr).symm
  exact ⟨checkV_0 (by simp; omega) i1 i2 ((ord_all i1).2 fun k k0 k1 => (e k k0 k1).2), checkV_0 (by simp; omega) j1 j2 ((ord_all j1).2 fun k k0 k1 => by rw [← (e k k0 k1).1]; exact (e k k0 k1).2), e⟩
theorem filter_take {p : List C → Bool} {rows : List (List C)} {i : Nat} (h : i < rows.length) : (rows.take (i + 1)).filter p = (rows.take i).filter p ++ (if p (rows.getD i []) then [rows.getD i []] else []) := by
  rw [List.take_succ_eq_append_getElem h, show rows[i] = rows.getD i [] from by simp [List.getD_eq_getElem?_getD, h], List.filter_append, List.filter_cons]
  rfl
end Go.Proofs.Ytlbgcjpkegpmlaa
/- A greater kick is never noticed later, nor any one by a better sensor. -/
namespace Go.Proofs.Ytlbgcjpkegpmlaa
open Go.RowKit
set_option linter.unusedSimpArgs false
set_option linter.unusedVariables false

theorem flowV_mono {r g r' g' n : Int} (h : KOk r g) (h' : KOk r' g') (hr : r ≤ r') (hg : g ≤ g') : flowV r g n ≤ flowV r' g' n := by
  unfold flowV
  by_cases hn : 0 ≤ n ∧ n ≤ 20000
  · rw [if_pos ⟨h, hn⟩, if_pos ⟨h', hn⟩]
    have := Int.mul_le_mul_of_nonneg_left hg hn.1
    omega
  · rw [if_neg (fun h => hn h.2), if_neg (fun h => hn h.2)]; exact Int.le_refl _
theorem gainV_mono {r g r' g' n : Int} (h : KOk r g) (h' : KOk r' g') (hr : r ≤ r') (hg : g ≤ g') : gainV r g n ≤ gainV r' g' n := by
  unfold gainV
  by_cases hn : 0 ≤ n ∧ n ≤ 20000
  · rw [if_pos ⟨h, hn⟩, if_pos ⟨h', hn⟩]
    have h1 := Int.mul_le_mul_of_nonneg_left hr hn.1
    obtain ⟨-, -, -, h2, -⟩ := gain_facts h hn.1 hn.2
    have h3 := Int.mul_le_mul_of_nonneg_right hg h2.1
    omega
  · rw [if_neg (fun h => hn h.2), if_neg (fun h => hn h.2)]; exact Int.le_refl _
theorem saysV_mono {ch r g r' g' n : Int} (h : KOk r g) (h' : KOk r' g') (hr : r ≤ r') (hg : g ≤ g') : saysV ch r g n ≤ saysV ch r' g' n := by
  unfold saysV
  split
  · exact gainV_mono h h' hr hg
  · exact flowV_mono h h' hr hg
/-- One that notices no later. -/
structure Better (x y : SK) : Prop where
  pe : y.pe = x.pe
  pos : 0 ≤ x.pe
  says : ∀ n, saysV x.ch x.r x.g n ≤ saysV y.ch y.r y.g n
  noise : y.no * y.st ≤ x.no * x.st
  li : y.li ≤ x.li
  row : y.ho * (y.lo + 1) ≤ x.ho * (x.lo + 1)
  de : y.de ≤ x.de
theorem firA_mono {x y : SK} (h : Better x y) {f : Int} : ∀ {n : Nat} {a b : Int}, firA x f n a = some b → ∃ b', firA y f n a = some b' ∧ b' ≤ b
  | 0, a, b, hx => by cases hx
  | n + 1, a, b, hx => by
    rw [firA] at hx ⊢
    rw [h.pe]
    split at hx
    · rename_i h1
      rw [if_pos h1]
      have s := h.says (f + a * x.pe)
      have s1 := h.noise
      have s2 := h.li
      split at hx
      · rename_i h2
        cases hx
        rw [if_pos (by omega)]
        exact ⟨_, rfl, Int.le_refl _⟩
      · split
        · have : a ≤ b := firA_le hx
          exact ⟨_, rfl, this⟩
        · exact firA_mono h hx
    · cases hx
where
  firA_le {x : SK} {f : Int} : ∀ {n : Nat} {a b : Int}, firA x f n (a + 1) = some b → a ≤ b
    | 0, a, b, hx => by cases hx
    | n + 1, a, b, hx => by
      rw [firA] at hx
      split at hx
      · split at hx
        · cases hx; omega
        · have := firA_le hx; omega
      · cases hx
theorem tickV_mono {x y : SK} (h : Better x y) {f a b : Int} (hab : b ≤ a) : tickV y f b ≤ tickV x f a := by
  unfold tickV
  have h1 := h.row
  have h2 := h.de
  rw [h.pe]
  have h3 := Int.mul_le_mul_of_nonneg_right (show b + y.ho * (y.lo + 1) - 1 ≤ a + x.ho * (x.lo + 1) - 1 by omega) h.pos
  omega
theorem latL_mono {x y : SK} (h : Better x y) : ∀ {k : Nat} {f o p q o' p' q' O P Q : Int}, o' ≤ o → latL x k f o p q = some (O, P, Q) → ∃ O' P' Q', latL y k f o' p' q' = some (O', P', Q') ∧ O' ≤ O
  | 0, f, o, p, q, o', p', q', O, P, Q, ho, hx => by cases hx; exact ⟨_, _, _, rfl, ho⟩
  | k + 1, f, o, p, q, o', p', q', O, P, Q, ho, hx => by
    rw [latL] at hx ⊢
    split at hx
    · cases hx
    · rename_i a ha
      obtain ⟨b, hb, hba⟩ := firA_mono h ha
      have ht := tickV_mono h (f := f) hba
      rw [hb]
      simp only []
      split at hx
      · cases hx
      · rename_i h1
        rw [if_neg (by omega)]
        split at hx
        · split
          · exact latL_mono h ht hx
          · exact latL_mono h (by omega) hx
        · split
          · exact latL_mono h (by omega) hx
          · exact latL_mono h ho hx
theorem latV_mono {x y : SK} (h : Better x y) {o : Int} (hx : atO (latV x) = some o) : ∃ o', atO (latV y) = some o' ∧ o' ≤ o := by
  cases hv : latV x with
  | none => rw [hv] at hx; cases hx
  | some v =>
    obtain ⟨a, b, c⟩ := v
    rw [hv] at hx
    cases hx
    unfold latV at hv
    obtain ⟨O, P, Q, h1, h2⟩ := latL_mono h (o' := -1) (p' := 0) (q' := 0) (Int.le_refl _) hv
    refine ⟨O, ?_, h2⟩
    unfold latV
    rw [h.pe, h1]; rfl
theorem latE_out {x : SK} {n : Int} {is : Bool} (hx : SKOk x) (h : [C.i n, .b is] = latE x) : (is = true → atO (latV x) = some n) ∧ (is = false → atO (latV x) = none) := by
  unfold latE at h
  rw [if_pos hx] at h
  cases ha : atO (latV x) with
  | none => rw [ha] at h; cases h; exact ⟨fun h => (by cases h), fun _ => rfl⟩
  | some o => rw [ha] at h; cases h; exact ⟨fun _ => rfl, fun h => (by cases h)⟩
end Go.Proofs.Ytlbgcjpkegpmlaa
/- What is to be shown of each function, as the executor has it. Printed by trees.py. -/
namespace Go.Proofs.Ytlbgcjpkegpmlaa
noncomputable def crfirst : Cx := tab.only [78] (fun _ => []) [] 0 []
def trfirst : Tree :=
  (.loop [.int, .bool, .int] [(.int (.lit 0)), (.bool (.lit false)), (.int (.lit 0))] (.ob (.and (.cmp .le (.lit (-9223372036854775808)) (.mul (.var 13) (.var 1))) (.cmp .le (.mul (.var 13) (.var 1)) (.lit 9223372036854775807))) (.ob (.and (.cmp .le (.lit (-9223372036854775808)) (.add (.var 10) (.mul (.var 13) (.var 1)))) (.cmp .le (.add (.var 10) (.mul (.var 13) (.var 1))) (.lit 9223372036854775807))) (.split (.cmp .le (.add (.var 10) (.mul (.var 13) (.var 1))) (.lit 10000)) (.ob (.and (.cmp .le (.lit (-9223372036854775808)) (.mul (.var 13) (.var 1))) (.cmp .le (.mul (.var 13) (.var 1)) (.lit 9223372036854775807))) (.ob (.and (.cmp .le (.lit (-9223372036854775808)) (.add (.var 10) (.mul (.var 13) (.var 1)))) (.cmp .le (.add (.var 10) (.mul (.var 13) (.var 1))) (.lit 9223372036854775807))) (.ob (.and (.cmp .le (.lit (-9223372036854775808)) (.add (.var 10) (.mul (.var 13) (.var 1)))) (.cmp .le (.add (.var 10) (.mul (.var 13) (.var 1))) (.lit 9223372036854775807))) (.call 78 [(.int (.var 0)), (.int (.var 1)), (.int (.var 2)), (.int (.var 3)), (.int (.var 4)), (.int (.var 5)), (.int (.var 6)), (.int (.var 7)), (.int (.var 8)), (.int (.var 9)), (.int (.add (.var 10) (.mul (.var 13) (.var 1))))] (.ob (.and (.cmp .le (.lit (-9223372036854775808)) (.mul (.var 3) (.var 4))) (.cmp .le (.mul (.var 3) (.var 4)) (.lit 9223372036854775807))) (.ob (.and (.cmp .le (.lit (-9223372036854775808)) (.sub (.var 14) (.mul (.var 3) (.var 4)))) (.cmp .le (.sub (.var 14) (.mul (.var 3) (.var 4))) (.lit 9223372036854775807))) (.split (.cmp .le (.var 6) (.sub (.var 14) (.mul (.var 3) (.var 4)))) (.ret [(.int (.var 13)), (.bool (.lit true))]) (.ob (.and (.cmp .le (.lit (-9223372036854775808)) (.add (.var 13) (.lit 1))) (.cmp .le (.add (.var 13) (.lit 1)) (.lit 9223372036854775807))) (.ob (.and (.cmp .le (.lit (-9223372036854775808)) (.add (.var 13) (.lit 1))) (.cmp .le (.add (.var 13) (.lit 1)) (.lit 9223372036854775807))) (.back 0 [(.int (.var 11)), (.bool (.of (.var 12))), (.int (.add (.var 13) (.lit 1)))])))))))))) (.ret [(.int (.lit 0)), (.bool (.lit false))])))))
noncomputable def crlate1 : Cx := tab.only [97] (fun _ => []) [] 0 []
def trlate1 : Tree :=
  (.call 97 [(.int (.var 0)), (.int (.var 1)), (.int (.var 2)), (.int (.var 3)), (.int (.var 4)), (.int (.var 5)), (.int (.var 6)), (.int (.var 7)), (.int (.var 8)), (.int (.var 9)), (.int (.var 10))] (.ob (.and (.cmp .le (.lit (-9223372036854775808)) (.add (.var 5) (.lit 1))) (.cmp .le (.add (.var 5) (.lit 1)) (.lit 9223372036854775807))) (.ob (.and (.cmp .le (.lit (-9223372036854775808)) (.mul (.var 7) (.add (.var 5) (.lit 1)))) (.cmp .le (.mul (.var 7) (.add (.var 5) (.lit 1))) (.lit 9223372036854775807))) (.ob (.and (.cmp .le (.lit (-9223372036854775808)) (.add (.var 11) (.mul (.var 7) (.add (.var 5) (.lit 1))))) (.cmp .le (.add (.var 11) (.mul (.var 7) (.add (.var 5) (.lit 1)))) (.lit 9223372036854775807))) (.ob (.and (.cmp .le (.lit (-9223372036854775808)) (.sub (.add (.var 11) (.mul (.var 7) (.add (.var 5) (.lit 1)))) (.lit 1))) (.cmp .le (.sub (.add (.var 11) (.mul (.var 7) (.add (.var 5) (.lit 1)))) (.lit 1)) (.lit 9223372036854775807))) (.ob (.and (.cmp .le (.lit (-9223372036854775808)) (.mul (.sub (.add (.var 11) (.mul (.var 7) (.add (.var 5) (.lit 1)))) (.lit 1)) (.var 1))) (.cmp .le (.mul (.sub (.add (.var 11) (.mul (.var 7) (.add (.var 5) (.lit 1)))) (.lit 1)) (.var 1)) (.lit 9223372036854775807))) (.ob (.and (.cmp .le (.lit (-9223372036854775808)) (.add (.var 10) (.mul (.sub (.add (.var 11) (.mul (.var 7) (.add (.var 5) (.lit 1)))) (.lit 1)) (.var 1)))) (.cmp .le (.add (.var 10) (.mul (.sub (.add (.var 11) (.mul (.var 7) (.add (.var 5) (.lit 1)))) (.lit 1)) (.var 1))) (.lit 9223372036854775807))) (.ob (.and (.cmp .le (.lit (-9223372036854775808)) (.add (.add (.var 10) (.mul (.sub (.add (.var 11) (.mul (.var 7) (.add (.var 5) (.lit 1)))) (.lit 1)) (.var 1))) (.var 2))) (.cmp .le (.add (.add (.var 10) (.mul (.sub (.add (.var 11) (.mul (.var 7) (.add (.var 5) (.lit 1)))) (.lit 1)) (.var 1))) (.var 2)) (.lit 9223372036854775807))) (.split (.of (.var 12)) (.ob (.and (.cmp .le (.lit (-9223372036854775808)) (.add (.add (.var 10) (.mul (.sub (.add (.var 11) (.mul (.var 7) (.add (.var 5) (.lit 1)))) (.lit 1)) (.var 1))) (.var 2))) (.cmp .le (.add (.add (.var 10) (.mul (.sub (.add (.var 11) (.mul (.var 7) (.add (.var 5) (.lit 1)))) (.lit 1)) (.var 1))) (.var 2)) (.lit 9223372036854775807))) (.ret [(.int (.add (.add (.var 10) (.mul (.sub (.add (.var 11) (.mul (.var 7) (.add (.var 5) (.lit 1)))) (.lit 1)) (.var 1))) (.var 2))), (.int (.var 11)), (.bool (.cmp .le (.add (.add (.var 10) (.mul (.sub (.add (.var 11) (.mul (.var 7) (.add (.var 5) (.lit 1)))) (.lit 1)) (.var 1))) (.var 2)) (.lit 10000)))])) (.ob (.and (.cmp .le (.lit (-9223372036854775808)) (.add (.add (.var 10) (.mul (.sub (.add (.var 11) (.mul (.var 7) (.add (.var 5) (.lit 1)))) (.lit 1)) (.var 1))) (.var 2))) (.cmp .le (.add (.add (.var 10) (.mul (.sub (.add (.var 11) (.mul (.var 7) (.add (.var 5) (.lit 1)))) (.lit 1)) (.var 1))) (.var 2)) (.lit 9223372036854775807))) (.ret [(.int (.add (.add (.var 10) (.mul (.sub (.add (.var 11) (.mul (.var 7) (.add (.var 5) (.lit 1)))) (.lit 1)) (.var 1))) (.var 2))), (.int (.var 11)), (.bool (.lit false))])))))))))))
noncomputable def crworst : Cx := tab.only [95] (fun _ => []) [] 0 []
def trworst : Tree :=
  (.loop [.int, .int, .int, .bool, .int, .int, .int, .int] [(.int (.lit 0)), (.int (.lit 0)), (.int (.lit 0)), (.bool (.lit false)), (.int (.lit (-1))), (.int (.lit 0)), (.int (.lit 0)), (.int (.lit 0))] (.split (.cmp .lt (.var 17) (.var 1)) (.call 95 [(.int (.var 0)), (.int (.var 1)), (.int (.var 2)), (.int (.var 3)), (.int (.var 4)), (.int (.var 5)), (.int (.var 6)), (.int (.var 7)), (.int (.var 8)), (.int (.var 9)), (.int (.var 17))] (.split (.not (.of (.var 20))) (.ret [(.int (.lit 0)), (.int (.lit 0)), (.int (.lit 0)), (.bool (.lit false))]) (.split (.cmp .lt (.var 14) (.var 18)) (.back 0 [(.int (.var 10)), (.int (.var 11)), (.int (.var 12)), (.bool (.of (.var 13))), (.int (.var 18)), (.int (.var 17)), (.int (.var 19)), (.int (.add (.var 17) (.lit 1)))]) (.back 0 [(.int (.var 10)), (.int (.var 11)), (.int (.var 12)), (.bool (.of (.var 13))), (.int (.var 14)), (.int (.var 15)), (.int (.var 16)), (.int (.add (.var 17) (.lit 1)))])))) (.ret [(.int (.var 14)), (.int (.var 15)), (.int (.var 16)), (.bool (.lit true))])))
noncomputable def crlate : Cx := tab.only [41, 37, 87] (fun _ => []) [] 0 []
def trlate : Tree :=
  (.call 41 [(.int (.var 0)), (.int (.var 1)), (.int (.var 2)), (.int (.var 3)), (.int (.var 4)), (.int (.var 5)), (.int (.var 6)), (.int (.var 7))] (.split (.cmp .ne (.var 10) (.lit 0)) (.ret [(.int (.lit 0)), (.bool (.lit false))]) (.call 37 [(.int (.var 8)), (.int (.var 9))] (.split (.cmp .ne (.var 11) (.lit 0)) (.ret [(.int (.lit 0)), (.bool (.lit false))]) (.call 87 [(.int (.var 0)), (.int (.var 1)), (.int (.var 2)), (.int (.var 3)), (.int (.var 4)), (.int (.var 5)), (.int (.var 6)), (.int (.var 7)), (.int (.var 8)), (.int (.var 9))] (.ret [(.int (.var 12)), (.bool (.of (.var 15)))]))))))
noncomputable def crearl : Cx := tab.only [58] (fun _ => []) [] 0 []
def trearl : Tree :=
  (.loop [.int, .int] [(.int (.lit (-1))), (.int (.lit 0))] (.split (.cmp .lt (.var 4) (.len (.var 0))) (.ob (.cmp .le (.lit 0) (.var 4)) (.ob (.cmp .lt (.var 4) (.len (.var 0))) (.call 58 [(.int (.cell (.var 0) (.var 4) 0)), (.int (.cell (.var 0) (.var 4) 1)), (.int (.cell (.var 0) (.var 4) 2)), (.int (.cell (.var 0) (.var 4) 3)), (.int (.cell (.var 0) (.var 4) 4)), (.int (.cell (.var 0) (.var 4) 5)), (.int (.cell (.var 0) (.var 4) 6)), (.int (.cell (.var 0) (.var 4) 7)), (.int (.var 1)), (.int (.var 2))] (.split (.of (.var 6)) (.split (.cmp .lt (.var 3) (.lit 0)) (.back 0 [(.int (.var 5)), (.int (.add (.var 4) (.lit 1)))]) (.split (.cmp .lt (.var 5) (.var 3)) (.back 0 [(.int (.var 5)), (.int (.add (.var 4) (.lit 1)))]) (.back 0 [(.int (.var 3)), (.int (.add (.var 4) (.lit 1)))]))) (.back 0 [(.int (.var 3)), (.int (.add (.var 4) (.lit 1)))]))))) (.split (.cmp .lt (.var 3) (.lit 0)) (.ret [(.int (.lit 0)), (.int (.lit 13))]) (.ret [(.int (.var 3)), (.int (.lit 0))]))))
noncomputable def crlatest : Cx := tab.only [43, 39, 76, 90] (fun _ => []) [] 0 []
def trlatest : Tree :=
  (.call 43 [(.arr 23 (.var 0))] (.split (.cmp .ne (.var 5) (.lit 0)) (.ret [(.int (.lit 0)), (.int (.var 5))]) (.call 39 [(.int (.var 1)), (.int (.var 2)), (.int (.var 3)), (.int (.var 4))] (.split (.cmp .ne (.var 6) (.lit 0)) (.ret [(.int (.lit 0)), (.int (.var 6))]) (.call 76 [(.int (.var 1)), (.int (.var 2)), (.int (.var 3)), (.int (.var 4))] (.call 90 [(.arr 23 (.var 0)), (.int (.var 7)), (.int (.var 8))] (.ret [(.int (.var 9)), (.int (.var 10))])))))))
noncomputable def crcaught : Cx := tab.only [43, 37, 45, 90] (fun _ => []) [] 0 []
def trcaught : Tree :=
  (.call 43 [(.arr 23 (.var 0))] (.split (.cmp .ne (.var 3) (.lit 0)) (.ret [(.int (.lit 0)), (.int (.lit 0)), (.int (.var 3))]) (.call 37 [(.int (.var 1)), (.int (.var 2))] (.split (.cmp .ne (.var 4) (.lit 0)) (.ret [(.int (.lit 0)), (.int (.lit 0)), (.int (.var 4))]) (.call 90 [(.arr 23 (.var 0)), (.int (.var 1)), (.int (.var 2))] (.split (.cmp .ne (.var 6) (.lit 0)) (.ret [(.int (.lit 0)), (.int (.lit 0)), (.int (.var 6))]) (.call 45 [(.int (.var 1)), (.int (.var 2)), (.int (.var 5))] (.ret [(.int (.var 5)), (.int (.var 7)), (.int (.lit 0))]))))))))
end Go.Proofs.Ytlbgcjpkegpmlaa
/- The document's latest alarms. -/
namespace Go.Proofs.Ytlbgcjpkegpmlaa
open Go.RowKit
set_option linter.unusedSimpArgs false
set_option linter.unusedVariables false

theorem firA_rg' {x : SK} {f : Int} : ∀ {n : Nat} {s a : Int}, firA x f n s = some a → s ≤ a ∧ f + a * x.pe ≤ 10000
  | 0, s, a, h => by cases h
  | n + 1, s, a, h => by
    rw [firA] at h
    split at h
    · split at h
      · cases h; exact ⟨Int.le_refl _, by assumption⟩
      · have := firA_rg' h; omega
    · cases h
theorem firA_rg {x : SK} {f a : Int} (hp : 1 ≤ x.pe) (hf : 0 ≤ f) (h : firA x f 10001 0 = some a) : 0 ≤ a ∧ a ≤ 10000 := by
  obtain ⟨h1, h2⟩ := firA_rg' h
  have := Int.mul_le_mul_of_nonneg_left hp h1
  omega
/-- The latest alarm is not before the beginning. -/
theorem latL_pos {x : SK} (hp : 1 ≤ x.pe) (hr : 0 < x.ho * (x.lo + 1)) (hd : 0 ≤ x.de) : ∀ {k : Nat} {f o p q O P Q : Int}, 0 ≤ f → latL x k f o p q = some (O, P, Q) → o ≤ O ∧ (0 < k → 0 ≤ O)
  | 0, f, o, p, q, O, P, Q, hf, h => by cases h; exact ⟨Int.le_refl _, fun h => absurd h (by omega)⟩
  | k + 1, f, o, p, q, O, P, Q, hf, h => by
    rw [latL] at h
    split at h
    · cases h
    · rename_i a ha
      have h1 := firA_rg hp hf ha
      have ht : 0 ≤ tickV x f a := by
        unfold tickV
        have := Int.mul_nonneg (show 0 ≤ a + x.ho * (x.lo + 1) - 1 by omega) (show 0 ≤ x.pe by omega)
        omega
      split at h
      · cases h
      · split at h
        · have := latL_pos hp hr hd (by omega) h
          omega
        · have := latL_pos hp hr hd (by omega) h
          omega
theorem at_pos {x : SK} (hx : SKOk x) {o : Int} (h : atO (latV x) = some o) : 0 ≤ o := by
  obtain ⟨hch, hso⟩ := sensE_iff.1 hx.1
  unfold SOk at hso
  cases hv : latV x with
  | none => rw [hv] at h; cases h
  | some v =>
    obtain ⟨a, b, c⟩ := v
    rw [hv] at h
    cases h
    unfold latV at hv
    exact (latL_pos (by omega) (Int.mul_pos (by omega) (by omega)) (by omega) (Int.le_refl 0) hv).2 (by omega)
theorem minL_snoc {row : List C} : ∀ {l : List (List C)} {m : Int}, minL m (l ++ [row]) = min (minL m l) (cell_ row 0)
  | [], m => rfl
  | x :: l, m => by
    show minL (min m (cell_ x 0)) (l ++ [row]) = _
    rw [minL_snoc]; rfl
theorem minR_snoc {l : List (List C)} {row : List C} : minR (l ++ [row]) = if l = [] then cell_ row 0 else min (minR l) (cell_ row 0) := by
  cases l with
  | nil => rfl
  | cons x l =>
    rw [if_neg (by simp)]
    show minL (cell_ x 0) (l ++ [row]) = _
    rw [minL_snoc]; rfl
theorem latE_two {x : SK} {n : Int} {is : Bool} (hx : SKOk x) (h : [C.i n, .b is] = latE x) : (is = true → atO (latV x) = some n ∧ 0 ≤ n) ∧ (is = false → atO (latV x) = none) := by
  unfold latE at h
  rw [if_pos hx] at h
  cases ha : atO (latV x) with
  | none => rw [ha] at h; cases h; exact ⟨fun h => (by cases h), fun _ => rfl⟩
  | some o => rw [ha] at h; cases h; exact ⟨fun _ => ⟨rfl, at_pos hx ha⟩, fun h => (by cases h)⟩
theorem rfirst_ok : tab.ok 97 := by
  refine Tab.of_ct rfl rfl ⟨_, Try.func97, by decide, rfl⟩ ?_ ctF_det
  refine ct_ok (cx := crfirst) (Tab.cx_ok (all_cons rsays_ok all_nil)) Try.func97 (bds := []) (T := trfirst) (by kernel_rfl) ?_
  have h1 : crfirst.ct 78 = some ctSays := rfl
  unfold trfirst
  simp only [VC, allC, List.map_cons, List.map_nil, List.length_cons, List.length_nil, List.getElem?_cons_zero, List.getElem?_cons_succ, List.cons.injEq, C.i.injEq, C.b.injEq, and_true, true_and, forall_const, kindsOf_nil, kindsOf_lf, kindsOf_agg, kindsOf_box, boxKinds_nil, boxKinds_lf, boxKinds_agg, boxKinds_box, List.append_nil, List.cons_append, List.nil_append, den_cmp_le, den_cmp_lt, den_cmp_eq, den_cmp_ne, den_cmp_le', den_cmp_lt', den_cmp_eq', den_cmp_ne', den_and, den_and', den_or, den_or', den_not, den_not', den_blit, den_of, ev_var, at_0, at_1, at_2, at_3, at_4, at_5, at_6, at_7, at_skip, c_int, c_bool, c_arr, c_cnt, c_vec, ev_nil, ev_join, ev_sub3, loc_s, int_i, bool_b, rows_s, cs_nil, cs_cons, E.den_lit, E.den_var, E.den_add, E.den_sub, E.den_mul, E.den_quo, E.den_rem, E.den_max, E.den_min, E.den_len, E.den_wr, E.den_cell, h1, ctFirst, ctSays, ctF, kickSh, sensSh, skOf_mk, cell10]
  intro ch _ _ pe _ _ de _ _ no _ _ st _ _ lo _ _ li _ _ ho _ _ r _ _ g _ _ f _ _ hp
  obtain ⟨⟨hs, hk⟩, f0, f1⟩ := hp
  obtain ⟨hch, hso⟩ := sensE_iff.1 hs
  simp only [] at hch hso hk
  unfold SOk at hso
  have mn := mul_bd (a := no) (b := st) (A := 15) (B := 1048576) (by omega) (by omega) (by omega) (by omega)
  have hgo := fun a (h : a ≤ 10000) => firA_go (ch := ch) (pe := pe) (de := de) (no := no) (st := st) (lo := lo) (li := li) (ho := ho) (r := r) (g := g) (f := f) h
  have hend := fun a n (h : 10000 < f + a * pe) => firA_end (ch := ch) (pe := pe) (de := de) (no := no) (st := st) (lo := lo) (li := li) (ho := ho) (r := r) (g := g) (n := n) h
  generalize hX : SK.mk ch pe de no st lo li ho r g = X at *
  refine ⟨bds_nil _, fun xs => match xs with | [_, _, .i a] => 0 ≤ a ∧ a ≤ 10001 ∧ firA X f (10001 - a).toNat a = firA X f 10001 0 | _ => False, fun xs => match xs with | [_, _, .i a] => (10001 - a).toNat | _ => 0, ⟨by omega, by omega, rfl⟩, ?_⟩
  rintro z _ _ b a _ _ ⟨a0, a1, hA⟩
  have pm := mul_bd (a := a) (b := pe) (A := 10001) (B := 60) (by omega) (by omega) (by omega) (by omega)
  have pg : a ≤ a * pe := by
    have := Int.mul_le_mul_of_nonneg_left (show 1 ≤ pe by omega) a0
    omega
  refine ⟨by omega, by omega, fun hle => ?_, fun hgt => ?_⟩
  · have hg := hgo a (by omega)
    rw [if_pos (by omega), hA] at hg
    refine ⟨by omega, by omega, by omega, ?_⟩
    rintro v _ _ hv
    have hb := @saysV_bd ch r g (f + a * pe)
    rw [← hv] at hb hg
    refine ⟨by omega, by omega, fun hge => ?_, fun hlt => ?_⟩
    · rw [if_pos (by omega)] at hg
      rw [hg]; rfl
    · rw [if_neg (by omega)] at hg
      exact ⟨by omega, by omega, ⟨by omega, by omega, hg.symm⟩, show (10001 - (a + 1)).toNat < (10001 - a).toNat by omega⟩
  · rw [← hA, hend a _ (by omega)]; rfl
theorem rlate1_ok : tab.ok 95 := by
  refine Tab.of_ct rfl rfl ⟨_, Try.func95, by decide, rfl⟩ ?_ ctF_det
  refine ct_ok (cx := crlate1) (Tab.cx_ok (all_cons rfirst_ok all_nil)) Try.func95 (bds := []) (T := trlate1) (by kernel_rfl) ?_
  have h1 : crlate1.ct 97 = some ctFirst := rfl
  unfold trlate1
  simp only [VC, allC, List.map_cons, List.map_nil, List.length_cons, List.length_nil, List.getElem?_cons_zero, List.getElem?_cons_succ, List.cons.injEq, C.i.injEq, C.b.injEq, and_true, true_and, forall_const, kindsOf_nil, kindsOf_lf, kindsOf_agg, kindsOf_box, boxKinds_nil, boxKinds_lf, boxKinds_agg, boxKinds_box, List.append_nil, List.cons_append, List.nil_append, den_cmp_le, den_cmp_lt, den_cmp_eq, den_cmp_ne, den_cmp_le', den_cmp_lt', den_cmp_eq', den_cmp_ne', den_and, den_and', den_or, den_or', den_not, den_not', den_blit, den_of, ev_var, at_0, at_1, at_2, at_3, at_4, at_5, at_6, at_7, at_skip, c_int, c_bool, c_arr, c_cnt, c_vec, ev_nil, ev_join, ev_sub3, loc_s, int_i, bool_b, rows_s, cs_nil, cs_cons, E.den_lit, E.den_var, E.den_add, E.den_sub, E.den_mul, E.den_quo, E.den_rem, E.den_max, E.den_min, E.den_len, E.den_wr, E.den_cell, h1, ctFirst, ctLate1, ctF, kickSh, sensSh, skOf_mk, cell10]
  intro ch _ _ pe _ _ de _ _ no _ _ st _ _ lo _ _ li _ _ ho _ _ r _ _ g _ _ f _ _ hp
  refine ⟨bds_nil _, hp, ?_⟩
  obtain ⟨⟨hs, hk⟩, f0, f1⟩ := hp
  obtain ⟨hch, hso⟩ := sensE_iff.1 hs
  simp only [] at hch hso hk
  unfold SOk at hso
  have mh := mul_bd (a := ho) (b := lo + 1) (A := 8) (B := 6) (by omega) (by omega) (by omega) (by omega)
  have eT : ∀ f a, tickV ⟨ch, pe, de, no, st, lo, li, ho, r, g⟩ f a = f + (a + ho * (lo + 1) - 1) * pe + de := fun f a => rfl
  have rg := fun a => @firA_rg ⟨ch, pe, de, no, st, lo, li, ho, r, g⟩ f a (show 1 ≤ pe by omega) f0
  generalize SK.mk ch pe de no st lo li ho r g = X at *
  rintro a _ _ is h
  have ha : 0 ≤ a ∧ a ≤ 10000 := by
    cases hf : firA X f 10001 0 with
    | none => rw [hf] at h; cases h; omega
    | some b => rw [hf] at h; cases h; exact rg _ hf
  have pt := mul_abs (a := a + ho * (lo + 1) - 1) (b := pe) (A := 10100) (B := 60) (by omega) (by omega) (by omega) (by omega)
  have et := eT f a
  repeat (refine And.intro (by omega) ?_)
  cases hf : firA X f 10001 0 with
  | none =>
    rw [hf] at h
    cases h
    refine ⟨fun h => (by cases h), fun _ => ⟨by omega, ?_⟩⟩
    show _ = [C.i (tickV X f 0), C.i 0, C.b false]
    rw [et]
  | some b =>
    rw [hf] at h
    cases h
    refine ⟨fun _ => ⟨by omega, ?_⟩, fun h => (by cases h)⟩
    show _ = [C.i (tickV X f a), C.i a, C.b (decide (tickV X f a ≤ 10000))]
    rw [et]
    rfl
theorem rworst_ok : tab.ok 87 := by
  refine Tab.of_ct rfl rfl ⟨_, Try.func87, by decide, rfl⟩ ?_ ctF_det
  refine ct_ok (cx := crworst) (Tab.cx_ok (all_cons rlate1_ok all_nil)) Try.func87 (bds := []) (T := trworst) (by kernel_rfl) ?_
  have h1 : crworst.ct 95 = some ctLate1 := rfl
  unfold trworst
  simp only [VC, allC, List.map_cons, List.map_nil, List.length_cons, List.length_nil, List.getElem?_cons_zero, List.getElem?_cons_succ, List.cons.injEq, C.i.injEq, C.b.injEq, and_true, true_and, forall_const, kindsOf_nil, kindsOf_lf, kindsOf_agg, kindsOf_box, boxKinds_nil, boxKinds_lf, boxKinds_agg, boxKinds_box, List.append_nil, List.cons_append, List.nil_append, den_cmp_le, den_cmp_lt, den_cmp_eq, den_cmp_ne, den_cmp_le', den_cmp_lt', den_cmp_eq', den_cmp_ne', den_and, den_and', den_or, den_or', den_not, den_not', den_blit, den_of, ev_var, at_0, at_1, at_2, at_3, at_4, at_5, at_6, at_7, at_skip, c_int, c_bool, c_arr, c_cnt, c_vec, ev_nil, ev_join, ev_sub3, loc_s, int_i, bool_b, rows_s, cs_nil, cs_cons, E.den_lit, E.den_var, E.den_add, E.den_sub, E.den_mul, E.den_quo, E.den_rem, E.den_max, E.den_min, E.den_len, E.den_wr, E.den_cell, h1, ctLate1, ctWorst, ctF, kickSh, sensSh, skOf_mk, cell10]
  intro ch _ _ pe _ _ de _ _ no _ _ st _ _ lo _ _ li _ _ ho _ _ r _ _ g _ _ hp
  have hp' := hp
  obtain ⟨hs, hk⟩ := hp
  obtain ⟨hch, hso⟩ := sensE_iff.1 hs
  simp only [] at hch hso hk
  unfold SOk at hso
  generalize hX : SK.mk ch pe de no st lo li ho r g = X at *
  have epe : X.pe = pe := by rw [← hX]
  have eV : latV X = latL X pe.toNat 0 (-1) 0 0 := by unfold latV; rw [epe]
  have lgo := fun f o p q (h : f < pe) => latL_go (x := X) (f := f) (o := o) (p := p) (q := q) (by omega)
  rw [epe] at lgo
  refine ⟨bds_nil _, fun xs => match xs with | [_, _, _, _, .i o, .i p, .i q, .i f] => 0 ≤ f ∧ f ≤ pe ∧ latV X = latL X (pe - f).toNat f o p q | _ => False, fun xs => match xs with | [_, _, _, _, _, _, _, .i f] => (pe - f).toNat | _ => 0, ⟨by omega, by omega, by rw [eV, Int.sub_zero]⟩, ?_⟩
  rintro z1 _ _ z2 _ _ z3 _ _ zb o _ _ p _ _ q _ _ f _ _ ⟨f0, f1, hI⟩
  refine ⟨fun hlt => ⟨⟨hp', f0, by omega⟩, ?_⟩, fun hge => ?_⟩
  · rintro t _ _ a _ _ is h
    have hl := lgo f o p q hlt
    cases hf : firA X f 10001 0 with
    | none =>
      rw [hf] at h hl
      cases h
      refine ⟨fun _ => (by rw [hI, hl]; rfl), fun h => (by cases h)⟩
    | some b =>
      rw [hf] at h hl
      cases h
      simp only [] at hl
      refine ⟨fun h => ?_, fun h => ⟨fun hlt' => ?_, fun hge' => ?_⟩⟩
      · have : ¬ tickV X f a ≤ 10000 := by simpa using h
        rw [hI, hl, if_pos (by omega)]; rfl
      · have : tickV X f a ≤ 10000 := by simpa using h
        exact ⟨⟨by omega, by omega, by rw [hI, hl, if_neg (by omega), if_pos hlt']⟩, show (pe - (f + 1)).toNat < (pe - f).toNat by omega⟩
      · have : tickV X f a ≤ 10000 := by simpa using h
        exact ⟨⟨by omega, by omega, by rw [hI, hl, if_neg (by omega), if_neg (by omega)]⟩, show (pe - (f + 1)).toNat < (pe - f).toNat by omega⟩
  · rw [hI, show (pe - f).toNat = 0 by omega]; rfl
theorem rlate_ok : tab.ok 58 := by
  refine Tab.of_ct rfl rfl ⟨_, Try.func58, by decide, rfl⟩ ?_ ctF_det
  refine ct_ok (cx := crlate) (Tab.cx_ok (all_cons rsens_ok (all_cons rkick_ok (all_cons rworst_ok all_nil)))) Try.func58 (bds := []) (T := trlate) (by kernel_rfl) ?_
  have h1 : crlate.ct 41 = some ctSens := rfl
  have h2 : crlate.ct 37 = some ctKick := rfl
  have h3 : crlate.ct 87 = some ctWorst := rfl
  unfold trlate
  simp only [VC, allC, List.map_cons, List.map_nil, List.length_cons, List.length_nil, List.getElem?_cons_zero, List.getElem?_cons_succ, List.cons.injEq, C.i.injEq, C.b.injEq, and_true, true_and, forall_const, kindsOf_nil, kindsOf_lf, kindsOf_agg, kindsOf_box, boxKinds_nil, boxKinds_lf, boxKinds_agg, boxKinds_box, List.append_nil, List.cons_append, List.nil_append, den_cmp_le, den_cmp_lt, den_cmp_eq, den_cmp_ne, den_cmp_le', den_cmp_lt', den_cmp_eq', den_cmp_ne', den_and, den_and', den_or, den_or', den_not, den_not', den_blit, den_of, ev_var, at_0, at_1, at_2, at_3, at_4, at_5, at_6, at_7, at_skip, c_int, c_bool, c_arr, c_cnt, c_vec, ev_nil, ev_join, ev_sub3, loc_s, int_i, bool_b, rows_s, cs_nil, cs_cons, E.den_lit, E.den_var, E.den_add, E.den_sub, E.den_mul, E.den_quo, E.den_rem, E.den_max, E.den_min, E.den_len, E.den_wr, E.den_cell, h1, h2, h3, ctLate, ctSens, ctKick, ctLatek, ctWorst, ctF, kickSh, sensSh, skOf_mk]; intro ch _ _ pe _ _ de _ _ no _ _ st _ _ lo _ _ li _ _ ho _ _ r _ _ g _ _; generalize hX : SK.mk ch pe de no st lo li ho r g = X; have hok : SKOk X ↔ sensE ch pe de no st lo li ho = 0 ∧ KOk r g := by { rw [← hX]; exact Iff.rfl }; have no : ¬ SKOk X → latE X = [.i 0, .b false] := fun h => if_neg h; have yes : SKOk X → latE X = (match atO (latV X) with | some o => [.i o, .b true] | none => [.i 0, .b false]) := fun h => if_pos h; refine ⟨bds_nil _, ?_⟩; rintro e _ _ rfl; refine ⟨fun h => (by rw [no fun h' => h (hok.1 h').1]), fun hs => ?_⟩; rintro e _ _ rfl; refine ⟨fun h => (by rw [no fun h' => h (kickE_iff.2 (hok.1 h').2)]), fun hk => ?_⟩; have ok := hok.2 ⟨hs, kickE_iff.1 hk⟩; refine ⟨ok, ?_⟩; rintro o _ _ p _ _ q _ _ t h; obtain ⟨t1, t2⟩ := latC_some h; rw [yes ok]; cases t; (obtain ⟨t3, t4⟩ := t2 rfl; rw [t3, t4]; rfl); (rw [t1 rfl]; rfl)
theorem rearl_ok : tab.ok 90 := by
  refine Tab.of_ct rfl rfl ⟨_, Try.func90, by decide, rfl⟩ ?_ ctF_det
  refine ct_ok (cx := crearl) (Tab.cx_ok (all_cons rlate_ok all_nil)) Try.func90 (bds := []) (T := trearl) (by kernel_rfl) ?_
  have h1 : crearl.ct 58 = some ctLate := rfl
  unfold trearl
  simp only [VC, allC, List.map_cons, List.map_nil, List.length_cons, List.length_nil, List.getElem?_cons_zero, List.getElem?_cons_succ, List.cons.injEq, C.i.injEq, C.b.injEq, and_true, true_and, forall_const, kindsOf_nil, kindsOf_lf, kindsOf_agg, kindsOf_box, boxKinds_nil, boxKinds_lf, boxKinds_agg, boxKinds_box, List.append_nil, List.cons_append, List.nil_append, den_cmp_le, den_cmp_lt, den_cmp_eq, den_cmp_ne, den_cmp_le', den_cmp_lt', den_cmp_eq', den_cmp_ne', den_and, den_and', den_or, den_or', den_not, den_not', den_blit, den_of, ev_var, at_0, at_1, at_2, at_3, at_4, at_5, at_6, at_7, at_skip, c_int, c_bool, c_arr, c_cnt, c_vec, ev_nil, ev_join, ev_sub3, loc_s, int_i, bool_b, rows_s, cs_nil, cs_cons, E.den_lit, E.den_var, E.den_add, E.den_sub, E.den_mul, E.den_quo, E.den_rem, E.den_max, E.den_min, E.den_len, E.den_wr, E.den_cell, h1, ctEarl, ctLate, ctF, kickSh, sensSh, skOf_mk]
  intro v rows d _ _ r _ _ g _ _ hp
  obtain ⟨hl, hs, hk⟩ := hp
  refine ⟨bds_nil _, fun xs => match xs with | [.i out, .i i] => 0 ≤ i ∧ i ≤ rows.length ∧ ((atsL r g (rows.take i.toNat) = [] ∧ out = -1) ∨ (atsL r g (rows.take i.toNat) ≠ [] ∧ out = minR (atsL r g (rows.take i.toNat)) ∧ 0 ≤ out)) | _ => False, fun xs => match xs with | [_, .i i] => ((rows.length : Int) - i).toNat | _ => 0, ⟨by omega, by omega, .inl ⟨rfl, rfl⟩⟩, ?_⟩
  rintro out _ _ i _ _ ⟨i0, i1, hI⟩
  refine ⟨fun hlt => ⟨i0, hlt, ?_⟩, fun hge => ?_⟩
  · have hz : i.toNat < rows.length := by omega
    have ht := take_getD hz
    have hsn := atsL_snoc (r := r) (g := g) (row := rows.getD i.toNat []) (l := rows.take i.toNat)
    rw [← ht, show i.toNat + 1 = (i + 1).toNat by omega] at hsn
    have hok : SKOk (skR r g (rows.getD i.toNat [])) := ⟨firstE_all hs hz, hk⟩
    rintro t _ _ is h
    obtain ⟨t1, t2⟩ := latE_two hok h
    generalize hA : atsL r g (rows.take i.toNat) = A at *
    have mu : ((rows.length : Int) - (i + 1)).toNat < ((rows.length : Int) - i).toNat := by omega
    cases is with
    | false =>
      rw [t2 rfl] at hsn
      simp only [List.append_nil] at hsn
      refine ⟨fun h => (by cases h), fun _ => ⟨⟨by omega, by omega, ?_⟩, mu⟩⟩
      rw [hsn]; exact hI
    | true =>
      obtain ⟨t3, t4⟩ := t1 rfl
      rw [t3] at hsn
      simp only [] at hsn
      have hne : A ++ [[C.i t]] ≠ [] := by simp
      have hm := minR_snoc (l := A) (row := [C.i t])
      have ec : cell_ [C.i t] 0 = t := rfl
      rw [ec] at hm
      refine ⟨fun _ => ⟨fun hneg => ⟨⟨by omega, by omega, .inr ?_⟩, mu⟩, fun hpos => ⟨fun hlt' => ⟨⟨by omega, by omega, .inr ?_⟩, mu⟩, fun hge' => ⟨⟨by omega, by omega, .inr ?_⟩, mu⟩⟩⟩, fun h => (by cases h)⟩
      · rw [hsn]
        refine ⟨hne, ?_, t4⟩
        rcases hI with ⟨e1, e2⟩ | ⟨e1, e2, e3⟩
        · rw [hm, if_pos e1]
        · omega
      · rw [hsn]
        refine ⟨hne, ?_, t4⟩
        rcases hI with ⟨e1, e2⟩ | ⟨e1, e2, e3⟩
        · omega
        · rw [hm, if_neg e1, ← e2]; omega
      · rw [hsn]
        refine ⟨hne, ?_, hpos⟩
        rcases hI with ⟨e1, e2⟩ | ⟨e1, e2, e3⟩
        · omega
        · rw [hm, if_neg e1, ← e2]; omega
  · rw [show i.toNat = rows.length by omega, List.take_length] at hI
    unfold earlC
    rcases hI with ⟨e1, e2⟩ | ⟨e1, e2, e3⟩
    · rw [if_pos e1]
      exact ⟨fun _ => rfl, fun h => by omega⟩
    · rw [if_neg e1]
      exact ⟨fun h => (by omega), fun _ => by rw [e2]⟩
theorem rlatest_ok : tab.ok 61 := by
  refine Tab.of_ct rfl rfl ⟨_, Try.func61, by decide, rfl⟩ ?_ ctF_det
  refine ct_ok (cx := crlatest) (Tab.cx_ok (all_cons rsensors_ok (all_cons rkicks_ok (all_cons rleast_ok (all_cons rearl_ok all_nil))))) Try.func61 (bds := []) (T := trlatest) (by kernel_rfl) ?_
  have h1 : crlatest.ct 43 = some ctSensors := rfl
  have h2 : crlatest.ct 39 = some ctKicks := rfl
  have h3 : crlatest.ct 76 = some ctLeast := rfl
  have h4 : crlatest.ct 90 = some ctEarl := rfl
  unfold trlatest
  simp only [VC, allC, List.map_cons, List.map_nil, List.length_cons, List.length_nil, List.getElem?_cons_zero, List.getElem?_cons_succ, List.cons.injEq, C.i.injEq, C.b.injEq, and_true, true_and, forall_const, kindsOf_nil, kindsOf_lf, kindsOf_agg, kindsOf_box, boxKinds_nil, boxKinds_lf, boxKinds_agg, boxKinds_box, List.append_nil, List.cons_append, List.nil_append, den_cmp_le, den_cmp_lt, den_cmp_eq, den_cmp_ne, den_cmp_le', den_cmp_lt', den_cmp_eq', den_cmp_ne', den_and, den_and', den_or, den_or', den_not, den_not', den_blit, den_of, ev_var, at_0, at_1, at_2, at_3, at_4, at_5, at_6, at_7, at_skip, c_int, c_bool, c_arr, c_cnt, c_vec, ev_nil, ev_join, ev_sub3, loc_s, int_i, bool_b, rows_s, cs_nil, cs_cons, E.den_lit, E.den_var, E.den_add, E.den_sub, E.den_mul, E.den_quo, E.den_rem, E.den_max, E.den_min, E.den_len, E.den_wr, E.den_cell, h1, h2, h3, h4, ctLatest, ctSensors, ctKicks, ctLeast, ctEarl, ctF, kickSh, kicksSh]; intro v rows d _ hsm a _ _ b _ _ c _ _ e _ _; refine ⟨bds_nil _, ?_⟩; rintro x _ _ rfl; refine ⟨fun h => (by unfold latestC; rw [if_neg h]), fun hs => ?_⟩; rintro x _ _ rfl; refine ⟨fun h => (by unfold latestC; rw [if_pos hs, if_neg h]), fun hk => ?_⟩; rintro x _ _ y _ _ ⟨rfl, rfl⟩; obtain ⟨s1, s2, s3⟩ := sensorsE_zero hs; refine ⟨⟨by omega, s3, (kicksE_zero hk).1⟩, ?_⟩; rintro m _ _ f _ _ h; rw [h]; unfold latestC; rw [if_pos hs, if_pos hk]
theorem rcaught_ok : tab.ok 62 := by
  refine Tab.of_ct rfl rfl ⟨_, Try.func62, by decide, rfl⟩ ?_ ctF_det
  refine ct_ok (cx := crcaught) (Tab.cx_ok (all_cons rsensors_ok (all_cons rkick_ok (all_cons rgain_ok (all_cons rearl_ok all_nil))))) Try.func62 (bds := []) (T := trcaught) (by kernel_rfl) ?_
  have h1 : crcaught.ct 43 = some ctSensors := rfl
  have h2 : crcaught.ct 37 = some ctKick := rfl
  have h3 : crcaught.ct 45 = some ctGain := rfl
  have h4 : crcaught.ct 90 = some ctEarl := rfl
  unfold trcaught
  simp only [VC, allC, List.map_cons, List.map_nil, List.length_cons, List.length_nil, List.getElem?_cons_zero, List.getElem?_cons_succ, List.cons.injEq, C.i.injEq, C.b.injEq, and_true, true_and, forall_const, kindsOf_nil, kindsOf_lf, kindsOf_agg, kindsOf_box, boxKinds_nil, boxKinds_lf, boxKinds_agg, boxKinds_box, List.append_nil, List.cons_append, List.nil_append, den_cmp_le, den_cmp_lt, den_cmp_eq, den_cmp_ne, den_cmp_le', den_cmp_lt', den_cmp_eq', den_cmp_ne', den_and, den_and', den_or, den_or', den_not, den_not', den_blit, den_of, ev_var, at_0, at_1, at_2, at_3, at_4, at_5, at_6, at_7, at_skip, c_int, c_bool, c_arr, c_cnt, c_vec, ev_nil, ev_join, ev_sub3, loc_s, int_i, bool_b, rows_s, cs_nil, cs_cons, E.den_lit, E.den_var, E.den_add, E.den_sub, E.den_mul, E.den_quo, E.den_rem, E.den_max, E.den_min, E.den_len, E.den_wr, E.den_cell, h1, h2, h3, h4, ctCaught, ctSensors, ctKick, ctGain, ctEarl, ctF, kickSh]; intro v rows d _ hsm r _ _ g _ _; refine ⟨bds_nil _, ?_⟩; rintro x _ _ rfl; refine ⟨fun h => (by unfold caughtC; rw [if_neg h]), fun hs => ?_⟩; rintro x _ _ rfl; refine ⟨fun h => (by unfold caughtC; rw [if_pos hs, if_neg h]), fun hk => ?_⟩; obtain ⟨s1, s2, s3⟩ := sensorsE_zero hs; refine ⟨⟨by omega, s3, kickE_iff.1 hk⟩, ?_⟩; rintro m _ _ f _ _ h; unfold earlC at h; unfold caughtC; rw [if_pos hs, if_pos hk]; by_cases hn : atsL r g rows = []; (rw [if_pos hn] at h ⊢; cases h; exact ⟨fun _ => rfl, fun h => absurd h (by decide)⟩); (rw [if_neg hn] at h ⊢; cases h; exact ⟨fun h => absurd rfl h, fun _ n _ _ hn => (by rw [hn])⟩)
end Go.Proofs.Ytlbgcjpkegpmlaa
/- Samples that go on until the latest alarm make the sensor alarm. -/
namespace Go.Proofs.Ytlbgcjpkegpmlaa
open Go.RowKit
set_option linter.unusedSimpArgs false
set_option linter.unusedVariables false

theorem latL_all {x : SK} : ∀ {k : Nat} {f o p q O P Q : Int}, latL x k f o p q = some (O, P, Q) → o ≤ O ∧ (∀ f', f ≤ f' → f' < f + k → ∃ a, firA x f' 10001 0 = some a ∧ tickV x f' a ≤ O) ∧
    ((O = o ∧ P = p ∧ Q = q) ∨ (f ≤ P ∧ P < f + k ∧ firA x P 10001 0 = some Q ∧ O = tickV x P Q ∧ O ≤ 10000))
  | 0, f, o, p, q, O, P, Q, h => by
    rw [latL] at h
    cases h
    exact ⟨Int.le_refl _, fun f' h1 h2 => by omega, .inl ⟨rfl, rfl, rfl⟩⟩
  | k + 1, f, o, p, q, O, P, Q, h => by
    rw [latL] at h
    split at h
    · cases h
    · rename_i a ha
      split at h
      · cases h
      · rename_i h1
        split at h
        · rename_i h2
          obtain ⟨i1, i2, i3⟩ := latL_all h
          refine ⟨by omega, fun f' a1 a2 => ?_, ?_⟩
          · by_cases e : f' = f
            · subst e; exact ⟨a, ha, i1⟩
            · exact i2 f' (by omega) (by omega)
          · rcases i3 with ⟨rfl, rfl, rfl⟩ | ⟨j1, j2, j3, j4, j5⟩
            · exact .inr ⟨by omega, by omega, ha, rfl, by omega⟩
            · exact .inr ⟨by omega, by omega, j3, j4, j5⟩
        · rename_i h2
          obtain ⟨i1, i2, i3⟩ := latL_all h
          refine ⟨i1, fun f' a1 a2 => ?_, ?_⟩
          · by_cases e : f' = f
            · subst e; exact ⟨a, ha, by omega⟩
            · exact i2 f' (by omega) (by omega)
          · rcases i3 with h3 | ⟨j1, j2, j3, j4, j5⟩
            · exact .inl h3
            · exact .inr ⟨by omega, by omega, j3, j4, j5⟩
theorem latV_all {x : SK} (hx : SKOk x) {O P Q : Int} (h : latV x = some (O, P, Q)) : (∀ f, 0 ≤ f → f < x.pe → ∃ a, firA x f 10001 0 = some a ∧ tickV x f a ≤ O) ∧ 0 ≤ O ∧ O ≤ 10000 ∧ 0 ≤ P ∧ P < x.pe ∧ firA x P 10001 0 = some Q ∧ O = tickV x P Q := by
  have h0 := at_pos hx (show atO (latV x) = some O by rw [h]; rfl)
  obtain ⟨-, hso⟩ := sensE_iff.1 hx.1
  unfold SOk at hso
  unfold latV at h
  obtain ⟨i1, i2, i3⟩ := latL_all h
  refine ⟨fun f f0 f1 => i2 f f0 (by omega), h0, ?_⟩
  rcases i3 with ⟨rfl, -, -⟩ | ⟨j1, j2, j3, j4, j5⟩
  · omega
  · exact ⟨j5, j1, by omega, j3, j4⟩
theorem firA_says {x : SK} {f : Int} : ∀ {n : Nat} {s a : Int}, firA x f n s = some a → x.li ≤ saysV x.ch x.r x.g (f + a * x.pe) - x.no * x.st ∧ s ≤ a ∧ f + a * x.pe ≤ 10000 ∧ ∀ i, s ≤ i → i < a → saysV x.ch x.r x.g (f + i * x.pe) - x.no * x.st < x.li
  | 0, s, a, h => by cases h
  | n + 1, s, a, h => by
    rw [firA] at h
    split at h
    · rename_i h1
      split at h
      · rename_i h2
        cases h
        exact ⟨h2, Int.le_refl _, h1, fun i a1 a2 => by omega⟩
      · rename_i h2
        obtain ⟨i1, i2, i3, i4⟩ := firA_says h
        refine ⟨i1, by omega, i3, fun i a1 a2 => ?_⟩
        by_cases e : i = s
        · subst e; omega
        · exact i4 i (by omega) a2
    · cases h
theorem half_mono {n m : Int} (h0 : 0 ≤ n) (h : n ≤ m) : n * (n - 1) / 2 ≤ m * (m - 1) / 2 := by
  refine Int.ediv_le_ediv (by omega) ?_
  by_cases e : n = m
  · rw [e]; exact Int.le_refl _
  · have h1 := Int.mul_le_mul_of_nonneg_right h (show 0 ≤ m - 1 by omega)
    have h2 := Int.mul_le_mul_of_nonneg_left (show n - 1 ≤ m - 1 by omega) h0
    omega
theorem saysV_grow {ch r g n m : Int} (hk : KOk r g) (h0 : 0 ≤ n) (h : n ≤ m) (h1 : m ≤ 20000) : saysV ch r g n ≤ saysV ch r g m := by
  have hk' := hk
  unfold KOk at hk'
  have e1 := Int.mul_le_mul_of_nonneg_right h hk'.1
  have e2 := Int.mul_le_mul_of_nonneg_right h hk'.2.2.1
  have e3 := Int.mul_le_mul_of_nonneg_left (half_mono h0 h) hk'.2.2.1
  have f1 : flowV r g n ≤ flowV r g m := by
    unfold flowV
    rw [if_pos ⟨hk, h0, by omega⟩, if_pos ⟨hk, by omega, h1⟩]
    omega
  have f2 : gainV r g n ≤ gainV r g m := by
    unfold gainV
    rw [if_pos ⟨hk, h0, by omega⟩, if_pos ⟨hk, by omega, h1⟩]
    omega
  unfold saysV
  split
  · exact f2
  · exact f1
theorem tick_idx {x : SK} {t ph : Int} (hp : 1 ≤ x.pe) (h0 : 0 ≤ t) (h : t.tmod x.pe = ph) : t = ph + t.tdiv x.pe * x.pe ∧ 0 ≤ t.tdiv x.pe := by
  have e := Int.mul_tdiv_add_tmod t x.pe
  rw [Int.mul_comm] at e
  exact ⟨by omega, Int.tdiv_nonneg h0 (by omega)⟩
theorem alarm_by {x : SK} {begin se ph J : Int} (hp : 1 ≤ x.pe) (hlo : 0 ≤ x.lo) : ∀ {rows : List (List C)} {last n : Int}, possL x begin se ph last rows = true → (∀ row ∈ rows, J ≤ (cell_ row 1).tdiv x.pe → x.li ≤ cell_ row 2) →
    0 ≤ n → n < x.ho → (last < J ∨ (1 ≤ n ∧ last ≤ J + n * (x.lo + 1) - 1)) → J + (x.ho - 1) * (x.lo + 1) ≤ endL x.pe last rows → ∃ t, alarmL x.li x.ho x.de n rows = some t ∧ t ≤ ph + (J + x.ho * (x.lo + 1) - 1) * x.pe + x.de
  | [], last, n, _, _, hn, hn1, hl, he => by
    exfalso
    rw [endL] at he
    have e2 : x.ho * (x.lo + 1) = (x.ho - 1) * (x.lo + 1) + (x.lo + 1) := by rw [Int.sub_mul]; omega
    have h3 := Int.mul_nonneg (show 0 ≤ x.ho - 1 by omega) (show 0 ≤ x.lo + 1 by omega)
    rcases hl with h | ⟨h1, h2⟩
    · omega
    · have := Int.mul_le_mul_of_nonneg_right (show n ≤ x.ho - 1 by omega) (show 0 ≤ x.lo + 1 by omega)
      omega
  | row :: l, last, n, hP, hv, hn, hn1, hl, he => by
    rw [possL, Bool.and_eq_true, decide_eq_true_eq] at hP
    obtain ⟨⟨h1, h2, h3, h4, h5, h6, h7⟩, hP⟩ := hP
    obtain ⟨hj, hj0⟩ := tick_idx hp h1 h4
    have hv0 := hv row (List.mem_cons_self ..)
    rw [endL] at he
    rw [alarmL]
    generalize (cell_ row 1).tdiv x.pe = j at *
    have hJ : ∀ m : Int, 1 ≤ m → m ≤ x.ho → j ≤ J + m * (x.lo + 1) - 1 → cell_ row 1 + x.de ≤ ph + (J + x.ho * (x.lo + 1) - 1) * x.pe + x.de := fun m m0 m1 hm => by
      have a1 := Int.mul_le_mul_of_nonneg_right m1 (show 0 ≤ x.lo + 1 by omega)
      have a2 := Int.mul_le_mul_of_nonneg_right (show j ≤ J + x.ho * (x.lo + 1) - 1 by omega) (show 0 ≤ x.pe by omega)
      omega
    have hL : (n + 1) * (x.lo + 1) = n * (x.lo + 1) + (x.lo + 1) := by rw [Int.add_mul]; omega
    have hn2 := Int.mul_nonneg hn (show 0 ≤ x.lo + 1 by omega)
    have rest : ∀ m : Int, 0 ≤ m → m < x.ho → (j < J ∨ (1 ≤ m ∧ j ≤ J + m * (x.lo + 1) - 1)) → ∃ t, alarmL x.li x.ho x.de m l = some t ∧ t ≤ ph + (J + x.ho * (x.lo + 1) - 1) * x.pe + x.de := fun m m0 m1 hm =>
      alarm_by hp hlo hP (fun r hr => hv r (List.mem_cons_of_mem _ hr)) m0 m1 hm he
    by_cases hlow : cell_ row 2 < x.li
    · rw [if_pos hlow, if_neg (by omega)]
      exact rest 0 (Int.le_refl _) (by omega) (.inl (by
        rcases Int.lt_or_le j J with h | h
        · exact h
        · have := hv0 h; omega))
    · rw [if_neg hlow]
      have hjn : j < J ∨ j ≤ J + (n + 1) * (x.lo + 1) - 1 := by
        rcases hl with h | ⟨_, h⟩
        · rcases Int.lt_or_le j J with h' | h'
          · exact .inl h'
          · exact .inr (by omega)
        · exact .inr (by omega)
      by_cases hho : n + 1 = x.ho
      · rw [if_pos hho]
        refine ⟨_, rfl, ?_⟩
        rcases hjn with h | h
        · have : 0 ≤ (n + 1) * (x.lo + 1) := Int.mul_nonneg (by omega) (by omega)
          exact hJ (n + 1) (by omega) (by omega) (by omega)
        · exact hJ (n + 1) (by omega) (by omega) h
      · rw [if_neg hho]
        refine rest (n + 1) (by omega) (by omega) ?_
        rcases hjn with h | h
        · exact .inl h
        · exact .inr ⟨by omega, h⟩
theorem noticed {x : SK} (hx : SKOk x) {begin se T O : Int} {rows : List (List C)} (hb : 0 ≤ begin) (hS : SampsOf x begin se T rows) (hl : rows.length < 190) (hO : atO (latV x) = some O) (hT : begin + O ≤ T) :
    ∃ t, alarmL x.li x.ho x.de 0 rows = some t ∧ t ≤ begin + O := by
  cases hv : latV x with
  | none => rw [hv] at hO; cases hO
  | some v =>
    obtain ⟨O', P, Q⟩ := v
    rw [hv] at hO
    cases hO
    obtain ⟨hall, o0, o1, -⟩ := latV_all hx hv
    obtain ⟨-, hso⟩ := sensE_iff.1 hx.1
    unfold SOk at hso
    obtain ⟨s1, ph, s2, s3, s4, s5, s6⟩ := hS
    have s6 := s6 hl
    have f0 := Int.emod_nonneg (ph - begin) (show x.pe ≠ 0 by omega)
    have f1 := Int.emod_lt_of_pos (ph - begin) (show 0 < x.pe by omega)
    have fe := Int.mul_ediv_add_emod (ph - begin) x.pe
    rw [Int.mul_comm] at fe
    generalize (ph - begin) % x.pe = f at *
    generalize (ph - begin) / x.pe = c at *
    obtain ⟨a, ha, hat⟩ := hall f f0 f1
    obtain ⟨g1, g2, g3, -⟩ := firA_says ha
    have e1 : (a - c) * x.pe = a * x.pe - c * x.pe := Int.sub_mul ..
    have hJ0 : 0 ≤ a - c := by
      rcases Int.lt_or_le (a - c) 0 with h | h
      · have := Int.mul_le_mul_of_nonneg_right (show a - c ≤ -1 by omega) (show 0 ≤ x.pe by omega)
        have := Int.mul_nonneg g2 (show 0 ≤ x.pe by omega)
        omega
      · exact h
    have hD : ph + ((a - c) + x.ho * (x.lo + 1) - 1) * x.pe + x.de = begin + tickV x f a := by
      unfold tickV
      have e2 : ((a - c) + x.ho * (x.lo + 1) - 1) * x.pe = (a - c) * x.pe + (x.ho * (x.lo + 1) - 1) * x.pe := by rw [← Int.add_mul]; congr 1; omega
      have e3 : (a + x.ho * (x.lo + 1) - 1) * x.pe = a * x.pe + (x.ho * (x.lo + 1) - 1) * x.pe := by rw [← Int.add_mul]; congr 1; omega
      omega
    have hmem : ∀ row ∈ rows, a - c ≤ (cell_ row 1).tdiv x.pe → x.li ≤ cell_ row 2 := fun row hr hj => by
      obtain ⟨last', hstep⟩ := step_mem s4 row hr
      obtain ⟨h1, h2, h3, h4, h5, h6, h7⟩ := hstep
      obtain ⟨i1, i2⟩ := tick_idx (show 1 ≤ x.pe by omega) h1 h4
      have m1 := Int.mul_le_mul_of_nonneg_right hj (show 0 ≤ x.pe by omega)
      have m0 := Int.mul_nonneg g2 (show 0 ≤ x.pe by omega)
      have sg := saysV_grow (ch := x.ch) hx.2 (show 0 ≤ f + a * x.pe by omega) (show f + a * x.pe ≤ cell_ row 1 - begin by omega) h7.1
      have me := meas_eq h7
      obtain ⟨-, -, k1, k2⟩ := h7
      generalize (cell_ row 2 - saysV x.ch x.r x.g (cell_ row 1 - begin)).tdiv x.st = e at *
      have := Int.mul_le_mul_of_nonneg_right k1 (show 0 ≤ x.st by omega)
      rw [Int.neg_mul] at this
      omega
    have hend : (a - c) + (x.ho - 1) * (x.lo + 1) ≤ endL x.pe (-1) rows := by
      have e4 : (x.ho - 1) * (x.lo + 1) = x.ho * (x.lo + 1) - (x.lo + 1) := by rw [Int.sub_mul]; omega
      rcases Int.lt_or_le (endL x.pe (-1) rows) ((a - c) + (x.ho - 1) * (x.lo + 1)) with h | h
      · exfalso
        have := Int.mul_le_mul_of_nonneg_right (show endL x.pe (-1) rows + 1 + x.lo ≤ (a - c) + x.ho * (x.lo + 1) - 1 by omega) (show 0 ≤ x.pe by omega)
        omega
      · exact h
    obtain ⟨t, h1, h2⟩ := alarm_by (n := 0) (J := a - c) (show 1 ≤ x.pe by omega) (by omega) s4 hmem (Int.le_refl _) (by omega) (.inl (by omega)) hend
    exact ⟨t, h1, by omega⟩
where
  step_mem {x : SK} {begin se ph : Int} : ∀ {rows : List (List C)} {last : Int}, possL x begin se ph last rows = true → ∀ row ∈ rows, ∃ last', stepV x begin se ph last' row
    | [], _, _, _, h => by cases h
    | r :: l, last, h, row, hr => by
      rw [possL, Bool.and_eq_true, decide_eq_true_eq] at h
      rcases List.mem_cons.1 hr with rfl | hr
      · exact ⟨_, h.1⟩
      · exact step_mem h.2 row hr
theorem samps_poss {x : SK} (hx : SKOk x) {begin se T : Int} {rows : List (List C)} (hb : 0 ≤ begin) (hb1 : begin ≤ 20000) (hS : SampsOf x begin se T rows) : possV x begin rows = true := by
  obtain ⟨s1, ph, s2, s3, s4, s5, s6⟩ := hS
  unfold possV
  rw [decide_eq_true hx, decide_eq_true ⟨hb, hb1, by omega⟩, Bool.true_and, Bool.true_and]
  cases rows with
  | nil => rfl
  | cons row l =>
    have h := s4
    rw [possL, Bool.and_eq_true, decide_eq_true_eq] at h
    obtain ⟨⟨h1, h2, h3, h4, h5, h6, h7⟩, -⟩ := h
    show possL x begin (cell_ row 0) ((cell_ row 1).tmod x.pe) (-1) (row :: l) = true
    rw [h3, h4]
    exact s4
theorem poss_good {x : SK} (hx : SKOk x) {begin ph : Int} {rows : List (List C)} (h : possL x begin 0 ph (-1) rows = true) (hl : rows.length ≤ 200) : checkV 1 rows = 0 ∧ fltS rows 0 = rows := by
  obtain ⟨-, hso⟩ := sensE_iff.1 hx.1
  unfold SOk at hso
  have hr := possL_rows hx h
  have ho : ordFrom (-1) rows = true := possL_ord (by omega) h fun u hu _ => by omega
  have hf : fltS rows 0 = rows := fltS_self fun r hr' => (hr r hr').1
  have hin : rows.all (inB 1) = true := List.all_eq_true.2 fun r hr' => by unfold inB; rw [(hr r hr').1]; rfl
  refine ⟨checkV_0 (by omega) hin (List.all_eq_true.2 fun r hr' => ?_) ((ord_all hin).2 fun k k0 k1 => ?_), hf⟩
  · have := hr r hr'
    unfold inR
    exact decide_eq_true (by omega)
  · obtain rfl : k = 0 := by omega
    rw [hf]
    exact ordFrom_L ho
theorem watch_one {sen rows : List (List C)} {s : List C} (hs : sen = [s]) (h0 : sensRow s = 0) (hc : checkV 1 rows = 0) (hf : fltS rows 0 = rows) : watchV sen rows = watchC ((alarmOf s rows).map fun t => (0, t)) := by
  subst hs
  unfold watchV
  have e : sensorsE [s] = 0 := by simp [sensorsE, firstE, h0]
  rw [if_pos e, if_pos (show checkV (([s] : List (List C)).length : Int) rows = 0 from hc)]
  congr 1
  show watchL [s] rows (0 + 1) = _
  rw [watchL, watchL]
  show (match alarmOf s (fltS rows 0), none with
    | some t, some (s, u) => if t < u then some (((0 : Nat) : Int), t) else some (s, u)
    | some t, none => some (((0 : Nat) : Int), t)
    | none, o => o) = _
  rw [hf]
  cases alarmOf s rows with
  | none => rfl
  | some t => rfl
theorem latest_one {s : List C} {rl rh gl gh : Int} (h0 : sensRow s = 0) (hk : kicksE rl rh gl gh = 0) : latestC [s] rl rh gl gh = match atO (latV (skR rl gl s)) with | some o => [.i o, .i 0] | none => [.i 0, .i 13] := by
  have e : sensorsE [s] = 0 := by simp [sensorsE, firstE, h0]
  unfold latestC earlC
  rw [if_pos e, if_pos hk]
  have e2 : atsL rl gl [s] = match atO (latV (skR rl gl s)) with | some o => [[.i o]] | none => [] := by
    rw [atsL]
    cases atO (latV (skR rl gl s)) <;> rfl
  rw [e2]
  cases atO (latV (skR rl gl s)) with
  | none => rfl
  | some o => rfl
end Go.Proofs.Ytlbgcjpkegpmlaa
/- Plain definitions of what the functions of layer 6 compute. No program in sight. -/
namespace Go.Proofs.Ytlbgcjpkegpmlaa

def KickOK (r g : Int) : Prop := 0 ≤ r ∧ r ≤ 16777216 ∧ 0 ≤ g ∧ g ≤ 4096
instance (r g : Int) : Decidable (KickOK r g) := by unfold KickOK; exact inferInstance

structure Sen where
  ch : Int
  pe : Int
  de : Int
  no : Int
  st : Int
  lo : Int
  li : Int
  ho : Int

def KindOK (s : Sen) : Prop := s.ch = 1 ∨ s.ch = 2
def RangeOK (s : Sen) : Prop := 1 ≤ s.pe ∧ s.pe ≤ 60 ∧ 0 ≤ s.de ∧ s.de ≤ 600 ∧ 0 ≤ s.no ∧ s.no ≤ 15 ∧ 1 ≤ s.st ∧ s.st ≤ 1048576 ∧ 0 ≤ s.lo ∧ s.lo ≤ 5 ∧ 1 ≤ s.li ∧ s.li ≤ 1099511627776 ∧ 1 ≤ s.ho ∧ s.ho ≤ 8
def SenOK (s : Sen) : Prop := KindOK s ∧ RangeOK s
instance (s : Sen) : Decidable (KindOK s) := by unfold KindOK; exact inferInstance
instance (s : Sen) : Decidable (RangeOK s) := by unfold RangeOK; exact inferInstance
instance (s : Sen) : Decidable (SenOK s) := by unfold SenOK; exact inferInstance

def checkSensor (s : Sen) : Int := if KindOK s then (if RangeOK s then 0 else 2) else 4

/-- what flows n ticks after the beginning -/
def flowAt (r g n : Int) : Int := if n < 0 then 0 else r + n * g
/-- what has flowed in n ticks after the beginning -/
def gainAt (r g n : Int) : Int := if n < 0 then 0 else n * r + g * (n * (n - 1) / 2)
def flowF (r g n : Int) : Int := if KickOK r g ∧ n ≤ 20000 then flowAt r g n else 0
def gainF (r g n : Int) : Int := if KickOK r g ∧ n ≤ 20000 then gainAt r g n else 0
def saysAt (s : Sen) (r g n : Int) : Int := if s.ch = 2 then flowAt r g n else gainAt r g n
def valueF (s : Sen) (r g n e : Int) : Int := if SenOK s ∧ KickOK r g ∧ -s.no ≤ e ∧ e ≤ s.no ∧ n ≤ 20000 then saysAt s r g n + e * s.st else 0

theorem mul_one_le {a b : Int} (h0 : 1 ≤ a) (h1 : 1 ≤ b) : 1 ≤ a * b := by
  have := Int.mul_le_mul h0 h1 (by omega) (by omega)
  omega
theorem tri_bd (n : Int) (h0 : 0 ≤ n) (h1 : n ≤ 20000) : 0 ≤ n * (n - 1) ∧ n * (n - 1) ≤ 400000000 ∧ 0 ≤ n * (n - 1) / 2 ∧ n * (n - 1) / 2 ≤ 200000000 := by
  rcases Int.lt_or_le 0 n with h | h
  · have := mul_bd (a := n) (b := n - 1) (A := 20000) (B := 20000) h0 h1 (by omega) (by omega)
    omega
  · obtain rfl : n = 0 := by omega
    simp
theorem gain_bd {r g n : Int} (h : KickOK r g) (hn : n ≤ 20000) : 0 ≤ gainAt r g n ∧ gainAt r g n ≤ 1154744320000 := by
  obtain ⟨h1, h2, h3, h4⟩ := h
  unfold gainAt
  split
  · omega
  · obtain ⟨t1, t2, t3, t4⟩ := tri_bd n (by omega) hn
    obtain ⟨b1, b2⟩ := mul_bd (by omega : 0 ≤ n) hn h1 h2
    obtain ⟨b3, b4⟩ := mul_bd h3 h4 t3 t4
    omega
theorem flow_bd {r g n : Int} (h : KickOK r g) (hn : n ≤ 20000) : 0 ≤ flowAt r g n ∧ flowAt r g n ≤ 98697216 := by
  obtain ⟨h1, h2, h3, h4⟩ := h
  unfold flowAt
  split
  · omega
  · obtain ⟨b1, b2⟩ := mul_bd (by omega : 0 ≤ n) hn h3 h4
    omega
theorem says_bd {s : Sen} {r g n : Int} (h : KickOK r g) (hn : n ≤ 20000) : 0 ≤ saysAt s r g n ∧ saysAt s r g n ≤ 1154744320000 := by
  unfold saysAt
  split
  · have := flow_bd h hn; omega
  · exact gain_bd h hn

/-- The least number of a sample, from a on and within so many tries, that is at least the limit in spite of all noise. -/
def findA (s : Sen) (r g f : Int) : Nat → Nat → Option Nat
  | 0, _ => none
  | k + 1, a => if f + a * s.pe ≤ 10000 then (if s.li ≤ saysAt s r g (f + a * s.pe) - s.no * s.st then some a else findA s r g f k (a + 1)) else none
def firstA (s : Sen) (r g f : Int) : Option Nat := findA s r g f 10001 0
def alarmT (s : Sen) (f a : Int) : Int := f + (a + s.ho * (s.lo + 1) - 1) * s.pe + s.de
/-- The latest alarm over the phases from f on, so many of them. -/
def lateGo (s : Sen) (r g : Int) : Nat → Nat → Int × Int × Int → Option (Int × Int × Int)
  | 0, _, o => some o
  | k + 1, f, o => match firstA s r g f with
    | none => none
    | some a => if 10000 < alarmT s f a then none else lateGo s r g k (f + 1) (if o.1 < alarmT s f a then (alarmT s f a, (f : Int), (a : Int)) else o)
def lateF (s : Sen) (r g : Int) : Option (Int × Int × Int) := lateGo s r g s.pe.toNat 0 (-1, 0, 0)

end Go.Proofs.Ytlbgcjpkegpmlaa
/- What False computes: plain definitions, and that no number grows too great. -/
namespace Go.Proofs.Ytlbgcjpkegpmlaa

def sumTo (F : Nat → Int) : Nat → Int
  | 0 => 0
  | m + 1 => sumTo F m + F m
/-- How many of the errors x, x + 1, .. (so many) are high. -/
def highGo (st li : Int) : Nat → Int → Int → Int
  | 0, _, hi => hi
  | k + 1, x, hi => highGo st li k (x + 1) (if li ≤ x * st then hi + 1 else hi)
def highF (s : Sen) : Int := highGo s.st s.li (2 * s.no + 1).toNat (-s.no) 0
def stepRow (n h : Int) (ho : Nat) (R : Nat → Int) : Nat → Int := fun j => if j = 0 then sumTo (fun k => R k * (n - h)) ho else if j < ho then R (j - 1) * h else 0
def falseGo (n h : Int) (ho : Nat) : Nat → (Nat → Int) → Int → Int → Int × Int
  | 0, _, al, all => (al, all)
  | d + 1, R, al, all => falseGo n h ho d (stepRow n h ho R) (al * n + R (ho - 1) * h) (all * n)
def row0 : Nat → Int := fun j => if j = 0 then 1 else 0
def falseP (s : Sen) (draws : Nat) : Int × Int := falseGo (2 * s.no + 1) (highF s) s.ho.toNat draws row0 0 1
def falseF (s : Sen) (draws : Int) : Int × Int × Int :=
  if SenOK s then (if 1 ≤ draws ∧ draws ≤ 12 then ((falseP s draws.toNat).1, (falseP s draws.toNat).2, 0) else (0, 0, 2)) else (0, 0, checkSensor s)

theorem highGo_bd (st li : Int) (k : Nat) : ∀ x hi : Int, hi ≤ highGo st li k x hi ∧ highGo st li k x hi ≤ hi + k := by
  induction k with
  | zero => intro x hi; simp [highGo]
  | succ k ih =>
    intro x hi
    unfold highGo
    have h1 := ih (x + 1) (if li ≤ x * st then hi + 1 else hi)
    revert h1
    split <;> intro h1 <;> omega
theorem high_bd {s : Sen} (h : RangeOK s) : 0 ≤ highF s ∧ highF s ≤ 2 * s.no + 1 := by
  obtain ⟨h1, h2, h3, h4, h5, h6, -⟩ := h
  have := highGo_bd s.st s.li (2 * s.no + 1).toNat (-s.no) 0
  unfold highF
  omega

theorem sumTo_mul (F : Nat → Int) (c : Int) (m : Nat) : sumTo (fun k => F k * c) m = sumTo F m * c := by
  induction m with
  | zero => simp [sumTo]
  | succ m ih => simp [sumTo, ih, Int.add_mul]
theorem sumTo_nonneg {F : Nat → Int} (h : ∀ k, 0 ≤ F k) (m : Nat) : 0 ≤ sumTo F m := by
  induction m with
  | zero => simp [sumTo]
  | succ m ih => have := h m; simp [sumTo]; omega
theorem sumTo_mono {F : Nat → Int} (h : ∀ k, 0 ≤ F k) {m m' : Nat} (hm : m ≤ m') : sumTo F m ≤ sumTo F m' := by
  induction m' with
  | zero => obtain rfl : m = 0 := by omega
            exact Int.le_refl _
  | succ k ih =>
    by_cases e : m = k + 1
    · rw [e]; exact Int.le_refl _
    · have := ih (by omega)
      have h2 := h k
      simp [sumTo]; omega
theorem le_sumTo {F : Nat → Int} (h : ∀ k, 0 ≤ F k) {j m : Nat} (hj : j < m) : F j ≤ sumTo F m := by
  have h1 := sumTo_mono h (show j + 1 ≤ m from hj)
  have h2 := sumTo_nonneg h j
  simp [sumTo] at h1
  omega
theorem sumTo_congr {F G : Nat → Int} {m : Nat} (h : ∀ k, k < m → F k = G k) : sumTo F m = sumTo G m := by
  induction m with
  | zero => rfl
  | succ m ih => simp [sumTo, ih fun k hk => h k (by omega), h m (by omega)]
/-- the sum of a row that was moved by one -/
theorem sumTo_shift (R : Nat → Int) (a : Int) (h : Int) (m : Nat) : sumTo (fun j => if j = 0 then a else if j < m + 1 then R (j - 1) * h else 0) (m + 1) = a + sumTo R m * h := by
  have key : ∀ k, k ≤ m → sumTo (fun j => if j = 0 then a else if j < m + 1 then R (j - 1) * h else 0) (k + 1) = a + sumTo R k * h := by
    intro k
    induction k with
    | zero => intro _; simp [sumTo]
    | succ k ih =>
      intro hk
      rw [sumTo, ih (by omega)]
      simp [sumTo, Int.add_mul, show k < m from by omega]
      omega
  exact key m (Nat.le_refl _)

/-- What holds of the rows, of the alarms and of all, before each draw. -/
structure Rows9 (n h : Int) (ho i : Nat) (R : Nat → Int) (al all : Int) : Prop where
  pos : ∀ k, 0 ≤ R k
  al0 : 0 ≤ al
  one : 1 ≤ all
  sum : sumTo R ho + al = all
  pow : all ≤ n ^ i
theorem Rows9.start (n h : Int) (ho : Nat) (hh : 1 ≤ ho) : Rows9 n h ho 0 row0 0 1 := by
  refine ⟨fun k => by unfold row0; split <;> omega, by omega, by omega, ?_, by simp⟩
  have : ∀ m, sumTo row0 (m + 1) = 1 := by
    intro m
    induction m with
    | zero => simp [sumTo, row0]
    | succ m ih => rw [sumTo, ih]; simp [row0]
  obtain ⟨m, rfl⟩ : ∃ m, ho = m + 1 := ⟨ho - 1, by omega⟩
  rw [this]
  rfl
theorem Rows9.step {n h : Int} {ho i : Nat} {R : Nat → Int} {al all : Int} (hr : Rows9 n h ho i R al all) (hh : 1 ≤ ho) (h0 : 0 ≤ h) (h1 : h ≤ n) (hn : 1 ≤ n) :
    Rows9 n h ho (i + 1) (stepRow n h ho R) (al * n + R (ho - 1) * h) (all * n) := by
  obtain ⟨m, rfl⟩ : ∃ m, ho = m + 1 := ⟨ho - 1, by omega⟩
  refine ⟨fun k => ?_, ?_, ?_, ?_, ?_⟩
  · unfold stepRow
    split
    · rw [sumTo_mul]; exact Int.mul_nonneg (sumTo_nonneg hr.pos _) (by omega)
    · split
      · exact Int.mul_nonneg (hr.pos _) h0
      · omega
  · have h2 := Int.mul_nonneg hr.al0 (show 0 ≤ n from by omega)
    have h3 := Int.mul_nonneg (hr.pos (m + 1 - 1)) h0
    omega
  · exact mul_one_le hr.one hn
  · have hs : stepRow n h (m + 1) R = fun j => if j = 0 then sumTo (fun k => R k * (n - h)) (m + 1) else if j < m + 1 then R (j - 1) * h else 0 := rfl
    rw [hs, sumTo_shift, sumTo_mul]
    have e := hr.sum
    rw [← e]
    simp only [sumTo, Nat.add_sub_cancel, Int.add_mul, Int.mul_sub]
    omega
  · rw [Int.pow_succ]
    exact Int.mul_le_mul_of_nonneg_right hr.pow (by omega)
theorem pow_mono {a b : Int} (h : 0 ≤ a) (hab : a ≤ b) (i : Nat) : a ^ i ≤ b ^ i ∧ 0 ≤ a ^ i := by
  induction i with
  | zero => simp
  | succ i ih =>
    rw [Int.pow_succ, Int.pow_succ]
    exact ⟨Int.mul_le_mul ih.1 hab h (Int.le_trans ih.2 ih.1), Int.mul_nonneg ih.2 h⟩
theorem pow31 (i : Nat) (h : i ≤ 11) : (31 : Int) ^ i ≤ 25408476896404831 := by
  have : i = 0 ∨ i = 1 ∨ i = 2 ∨ i = 3 ∨ i = 4 ∨ i = 5 ∨ i = 6 ∨ i = 7 ∨ i = 8 ∨ i = 9 ∨ i = 10 ∨ i = 11 := by omega
  rcases this with rfl | rfl | rfl | rfl | rfl | rfl | rfl | rfl | rfl | rfl | rfl | rfl <;> decide
theorem Rows9.small {n h : Int} {ho i : Nat} {R : Nat → Int} {al all : Int} (hr : Rows9 n h ho i R al all) (hn : 0 ≤ n) (h31 : n ≤ 31) (hi : i ≤ 11) :
    all ≤ 25408476896404831 ∧ al ≤ 25408476896404831 ∧ sumTo R ho ≤ 25408476896404831 ∧ ∀ k, k < ho → R k ≤ 25408476896404831 := by
  have h1 := pow31 i hi
  have h2 := (pow_mono hn h31 i).1
  have h3 := hr.pow
  have h4 := hr.sum
  have h5 := hr.al0
  have h6 := sumTo_nonneg hr.pos ho
  refine ⟨by omega, by omega, by omega, fun k hk => ?_⟩
  have := le_sumTo hr.pos hk
  omega
/-- A row in the making: so many of the old one's cells are through. -/
def partRow (n h : Int) (R : Nat → Int) (m : Nat) : Nat → Int := fun j => if j = 0 then sumTo (fun k => R k * (n - h)) m else if j < m + 1 then R (j - 1) * h else 0
theorem partRow_zero (n h : Int) (R : Nat → Int) (j : Nat) : partRow n h R 0 j = 0 := by
  unfold partRow
  split
  · rfl
  · split
    · omega
    · rfl
theorem partRow_succ (n h : Int) (R : Nat → Int) (m j : Nat) :
    (if j = m + 1 then R m * h else if j = 0 then sumTo (fun k => R k * (n - h)) m + R m * (n - h) else partRow n h R m j) = partRow n h R (m + 1) j := by
  unfold partRow
  by_cases h0 : j = 0
  · subst h0; simp [sumTo]
  · by_cases h1 : j = m + 1
    · subst h1; simp
    · by_cases h2 : j < m + 1
      · simp [h0, h1, h2, show j < m + 1 + 1 from by omega]
      · simp [h0, h1, h2, show ¬ j < m + 1 + 1 from by omega]
theorem partRow_full (n h : Int) (R : Nat → Int) (ho j : Nat) (hj : j < ho) : partRow n h R ho j = stepRow n h ho R j := by
  unfold partRow stepRow
  by_cases h0 : j = 0
  · simp [h0]
  · simp [h0, hj, show j < ho + 1 from by omega]
theorem partRow_step (n h : Int) (R : Nat → Int) (ho j : Nat) (hh : 1 ≤ ho) : (if j = ho then 0 else partRow n h R ho j) = stepRow n h ho R j := by
  unfold partRow stepRow
  by_cases h0 : j = 0
  · subst h0; simp [show ¬ 0 = ho from by omega]
  · by_cases h1 : j = ho
    · subst h1; simp [h0]
    · by_cases h2 : j < ho
      · simp [h0, h1, h2, show j < ho + 1 from by omega]
      · simp [h0, h1, h2, show ¬ j < ho + 1 from by omega]
end Go.Proofs.Ytlbgcjpkegpmlaa
