/- Texts laid into one: Ep Ex Eq. -/
import Derived.Test.YtcglpbchejkolaaKnown2
import Derived.Laws.Slices
import Derived.Lib.SliceRun
/- The engine, part 11b: one operation, a row of operations. -/
namespace Go.Proofs.Ytcglpbchejkolaa
open Go.RowKit
set_option linter.unusedSimpArgs false
set_option linter.unusedVariables false

section
variable {P : Program} {F : Nat → Prop} {w0 : World} {Γ : Env} {st : St} {a : Act} {w : World}
/-! Nil slices -/
theorem Lf.isNil_eq {l : Lf} (h : l.isNil = true) : l = .cst (.slice none 0 0) := by
  unfold Lf.isNil at h
  split at h
  · rfl
  · cases h
def nilC : C := .s (.slice none 0 0) []
theorem nilC_small (n : Nat) : nilC.small n := by cases n <;> simp [nilC, C.small]
theorem look_nilV {m : Vecs} : ∀ {ts : List TypeId} {i0 i : Nat} {e : TypeId × E}, look (nilV ts i0 ++ m) i = some e → (∃ j t, i = i0 + j ∧ ts[j]? = some t ∧ e = (t, .var i)) ∨ look m i = some e
  | [], i0, i, e, h => .inr h
  | t :: ts, i0, i, e, h => by
    simp only [nilV, List.cons_append, look] at h
    split at h
    · rename_i e'; subst e'; cases h; exact .inl ⟨0, t, rfl, rfl, rfl⟩
    · rcases look_nilV h with ⟨j, t', rfl, hj, he⟩ | h
      · exact .inl ⟨j + 1, t', by omega, by simpa using hj, he⟩
      · exact .inr h
theorem ownL_spec {O : Nat → Nat → Prop} : ∀ {ks : List Lk} {ls : List Lf} {i0 : Nat}, (∀ j, j < (ownL ks ls i0).2.length → at_ Γ.ρ (i0 + j) = nilC) → (∀ l ∈ ls, l.ok P w O Γ) →
    (ownL ks ls i0).1.map (Lf.den Γ) = ls.map (Lf.den Γ) ∧ ∀ l ∈ (ownL ks ls i0).1, l.ok P w O Γ
  | [], ls, i0, _, h => by cases ls <;> exact ⟨rfl, h⟩
  | k :: ks, [], i0, _, h => by cases k <;> exact ⟨rfl, h⟩
  | k :: ks, l :: ls, i0, hn, h => by
    have plain : ∀ (i : Nat), (∀ j, j < (ownL ks ls i).2.length → at_ Γ.ρ (i + j) = nilC) → ∀ x : Lf, x.den Γ = l.den Γ → x.ok P w O Γ → (x :: (ownL ks ls i).1).map (Lf.den Γ) = (l :: ls).map (Lf.den Γ) ∧ ∀ y ∈ x :: (ownL ks ls i).1, y.ok P w O Γ := fun i hi x hx ho => by
      obtain ⟨h1, h2⟩ := ownL_spec hi (fun y hy => h y (by simp [hy]))
      refine ⟨by simp [hx, h1], fun y hy => ?_⟩
      rcases List.mem_cons.1 hy with rfl | hy
      · exact ho
      · exact h2 y hy
    cases k with
    | arr t =>
      simp only [ownL] at hn ⊢
      split
      · rename_i hnil
        rw [if_pos hnil] at hn
        have := Lf.isNil_eq hnil
        subst this
        have h0 := hn 0 (by simp)
        refine plain (i0 + 1) (fun j hj => by have := hn (j + 1) (by simpa using hj); rwa [show i0 + 1 + j = i0 + (j + 1) by omega]) (.vec t i0) ?_ ?_
        · simp only [Lf.den]; rw [show i0 = i0 + 0 from rfl, h0]; rfl
        · exact ⟨none, 0, 0, by rw [show i0 = i0 + 0 from rfl, h0]; rfl⟩
      · rename_i hnil
        rw [if_neg hnil] at hn
        exact plain i0 hn l rfl (h l (by simp))
    | int => exact plain i0 hn l rfl (h l (by simp))
    | bool => exact plain i0 hn l rfl (h l (by simp))
    | vec t => exact plain i0 hn l rfl (h l (by simp))
theorem ownL_len : ∀ {ks : List Lk} {ls : List Lf} {i0 : Nat}, (ownL ks ls i0).1.length = ls.length
  | [], ls, i0 => by simp [ownL]
  | k :: ks, [], i0 => by cases k <;> simp [ownL]
  | k :: ks, l :: ls, i0 => by
    cases k with
    | arr t => simp only [ownL]; split <;> simp [ownL_len]
    | _ => simp [ownL, ownL_len]
theorem Sat.nils (h : Sat P F w0 Γ st a w) {t : TypeId} {s s' : S0} {st' : St} {n : Nat} (hn : st.nils P t s = some (s', st', n)) (hs : s.ok P w (Own Γ st) Γ) :
    Ext Γ { Γ with ρ := Γ.ρ ++ List.replicate n nilC } ∧ Sat P F w0 { Γ with ρ := Γ.ρ ++ List.replicate n nilC } st' a w ∧ s'.den { Γ with ρ := Γ.ρ ++ List.replicate n nilC } = s.den Γ ∧
      s'.ok P w (Own { Γ with ρ := Γ.ρ ++ List.replicate n nilC } st') { Γ with ρ := Γ.ρ ++ List.replicate n nilC } ∧ st'.lvl = st.lvl ∧ st'.nb = st.nb ∧ st'.mem = st.mem ∧ s'.den { Γ with ρ := Γ.ρ ++ List.replicate n nilC } = s.den Γ ∧ s'.cells.map (Lf.den { Γ with ρ := Γ.ρ ++ List.replicate n nilC }) = s.cells.map (Lf.den Γ) := by
  unfold St.nils at hn
  split at hn
  · rename_i ks hk
    split at hn
    · rename_i hc
      simp only [Bool.and_eq_true] at hc
      obtain ⟨⟨⟨⟨⟨c1, c2⟩, hw⟩, hsw⟩, c4⟩, c5⟩ := hc
      cases hn
      generalize hr : ownL ks s.cells st.nx = r at *
      have hsm : Smalls (Γ.ρ ++ List.replicate r.2.length nilC) := h.num.len.app fun c hc n => by rw [List.eq_of_mem_replicate hc]; exact nilC_small n
      have he : Ext Γ { Γ with ρ := Γ.ρ ++ List.replicate r.2.length nilC } := ⟨⟨_, rfl⟩, fun _ _ => rfl, Nat.le_refl _, rfl, rfl⟩
      have hat : ∀ j, j < r.2.length → at_ (Γ.ρ ++ List.replicate r.2.length nilC) (st.nx + j) = nilC := fun j hj => by rw [← h.len]; exact at_app (by simp [hj])
      have hT := h.turnV hw (rs := List.replicate r.2.length nilC) hsm (w' := w) (row := none) (World.grownBy.rfl' w none) (fun b hb => by cases hb) (vec' := nilV r.2 st.nx ++ st.vec) (fun i e he' => by
        rcases look_nilV he' with ⟨j, t', rfl, hj, rfl⟩ | he'
        · right
          have hjl : j < r.2.length := by
            rcases Nat.lt_or_ge j r.2.length with h | h
            · exact h
            · rw [List.getElem?_eq_none h] at hj; cases hj
          have hkt := List.all_eq_true.1 c5 t' (List.mem_of_getElem? hj)
          obtain ⟨kt, hkt⟩ := Option.isSome_iff_exists.1 hkt
          simp only [E.ev, hat j hjl]
          exact ⟨⟨kt, [], hkt, ⟨.slice none 0 0, rfl⟩, (by intro r hr; simp [nilC, C.rows] at hr), trivial, World.ownsRow_nil w 0 t' kt.length⟩, by simp; omega, fun b hb => by cases hb⟩
        · exact .inl ⟨he', fun b _ => by simp⟩) (fun i e i' e' b h1 h2 b1 b2 => by
        have old : ∀ i e, look (nilV r.2 st.nx ++ st.vec) i = some e → (at_ (Γ.ρ ++ List.replicate r.2.length nilC) i).loc.ownBlock = some b → ∃ e, look st.vec i = some e ∧ (at_ Γ.ρ i).loc.ownBlock = some b := fun i e he' hb => by
          rcases look_nilV he' with ⟨j, t', rfl, hj, rfl⟩ | he'
          · exfalso
            have hjl : j < r.2.length := by
              rcases Nat.lt_or_ge j r.2.length with h | h
              · exact h
              · rw [List.getElem?_eq_none h] at hj; cases hj
            rw [hat j hjl] at hb
            cases hb
          · exact ⟨e, he', by rw [← h.vec_at he he']; exact hb⟩
        obtain ⟨e1, k1, k2⟩ := old i e h1 b1
        obtain ⟨e2, k3, k4⟩ := old i' e' h2 b2
        exact (h.inj _ _ _ _ _ (Hold.vec (Γ := Γ) k1 k2) (Hold.vec (Γ := Γ) k3 k4)).2)
      rw [List.length_replicate] at hT
      have hown : ∀ b o, Own { Γ with ρ := Γ.ρ ++ List.replicate r.2.length nilC } { st with nx := st.nx + r.2.length, vec := nilV r.2 st.nx ++ st.vec } b o → Own Γ st b o := fun b o hb => by
        rcases Own.iff.1 hb with hb | ⟨s, j, hh⟩
        · exact .inl hb
        · rcases hh.inv with ⟨rfl, mb, hj, rfl⟩ | ⟨rfl, e, hj, hb⟩
          · exact (show Own Γ st (Γ.blk j) o from (Hold.mem (Γ := Γ) (st := st) hj).own o)
          · rcases look_nilV hj with ⟨j', t', rfl, hj', rfl⟩ | hj
            · exfalso
              have hjl : j' < r.2.length := by
                rcases Nat.lt_or_ge j' r.2.length with h | h
                · exact h
                · rw [List.getElem?_eq_none h] at hj'; cases hj'
              rw [hat j' hjl] at hb
              cases hb
            · exact (Hold.vec (Γ := Γ) hj (by rw [← h.vec_at he hj]; exact hb)).own o
      have hsw' : s.wf Γ.ρ.length Γ.nb = true := by rw [h.len, h.nb]; exact hsw
      have hs' : ∀ l ∈ s.cells, l.ok P w (Own { Γ with ρ := Γ.ρ ++ List.replicate r.2.length nilC } { st with nx := st.nx + r.2.length, vec := nilV r.2 st.nx ++ st.vec }) { Γ with ρ := Γ.ρ ++ List.replicate r.2.length nilC } := fun l hl => Lf.ok_anti (S0.ok_ext he hsw' hs l hl) hown
      obtain ⟨g1, g2⟩ := ownL_spec (P := P) (w := w) (Γ := { Γ with ρ := Γ.ρ ++ List.replicate r.2.length nilC }) (ks := ks) (ls := s.cells) (i0 := st.nx) (by rw [hr]; exact hat) hs'
      rw [hr] at g1 g2
      have hlen : r.1.length = s.cells.length := by rw [← hr]; exact ownL_len
      have hdS := S0.den_ext he s hsw'
      have hcl : (s.with r.1).cells = r.1 ∧ (s.with r.1).den { Γ with ρ := Γ.ρ ++ List.replicate r.2.length nilC } = s.den { Γ with ρ := Γ.ρ ++ List.replicate r.2.length nilC } := by
        cases s with
        | lf l =>
          obtain ⟨x, hx⟩ : ∃ x, r.1 = [x] := by
            match hr1 : r.1, hlen with
            | [x], _ => exact ⟨x, rfl⟩
          rw [hx] at g1 ⊢
          simp [S0.cells] at g1
          exact ⟨rfl, g1⟩
        | agg l => exact ⟨rfl, by simp only [S0.with, S0.den, dens]; rw [g1]; rfl⟩
      refine ⟨he, hT, ?_, fun l hl => ?_, rfl, rfl, rfl, ?_, ?_⟩
      · rw [hcl.2, hdS]
      · rw [hcl.1] at hl; exact g2 l hl
      · rw [hcl.2, hdS]
      · rw [hcl.1, g1]
        exact List.map_congr_left fun l hl => Lf.den_ext he l (by
          cases s with
          | lf x => simp [S0.cells] at hl; subst hl; exact hsw'
          | agg ls => exact List.all_eq_true.1 hsw' l hl)
    · cases hn
  · cases hn
theorem VC.dfnN {cx : Cx} {R : List C → Prop} : ∀ {n : Nat} {t : Tree} {ρ : List C} {Ls : List (List C → Prop)}, VC cx R (dfnN n t) ρ Ls → VC cx R t (ρ ++ List.replicate n nilC) Ls
  | 0, t, ρ, Ls, h => by rw [List.replicate_zero, List.append_nil]; exact h
  | n + 1, t, ρ, Ls, h => by
    have := VC.dfnN (n := n) h
    rwa [List.append_assoc, show [E.nil.ev ρ] ++ List.replicate n nilC = List.replicate (n + 1) nilC from rfl] at this

/-! Arguments -/
theorem Lf.adapt_spec (h : Sat P F w0 Γ st a w) {O' : Nat → Nat → Prop} (hO : ∀ b o, O' b o → Own Γ st b o) {k : Lk} {l : Lf} (hl : l.isVec = true → ∀ i e, look st.vec i = some e → ∀ b, (at_ Γ.ρ i).loc.ownBlock = some b → ∀ o, ¬ O' b o) (ho : l.ok P w (Own Γ st) Γ) :
    (l.adapt P st.vec k).den Γ = l.den Γ ∧ (l.adapt P st.vec k).ok P w O' Γ := by
  unfold Lf.adapt
  split
  · rename_i t te i
    split
    · rename_i e hi
      split
      · rename_i e1
        subst e1
        have hv := (h.vec i e hi).1
        have hj := mkJoin_ev hv
        refine ⟨by simp only [Lf.den, hj, C.loc], ?_⟩
        simp only [Lf.ok, hj]
        exact hv.arr hO (hl rfl i e hi)
      · exact ⟨rfl, Lf.ok_anti ho hO⟩
    · exact ⟨rfl, Lf.ok_anti ho hO⟩
  · rename_i te
    split
    · rename_i hk
      refine ⟨rfl, ?_⟩
      obtain ⟨ks, hks⟩ := Option.isSome_iff_exists.1 hk
      exact ⟨_, [], rfl, 1, fun _ _ => False, fun _ _ h => h.elim, ks, hks, none, 0, rfl, fun h => absurd rfl h⟩
    · exact ⟨rfl, trivial⟩
  · exact ⟨rfl, Lf.ok_anti ho hO⟩
theorem S0.adapt_spec (h : Sat P F w0 Γ st a w) {O' : Nat → Nat → Prop} (hO : ∀ b o, O' b o → Own Γ st b o) {sh : Sh0} {s : S0} (hl : ∀ l ∈ s.cells, l.isVec = true → ∀ i e, look st.vec i = some e → ∀ b, (at_ Γ.ρ i).loc.ownBlock = some b → ∀ o, ¬ O' b o) (ho : s.ok P w (Own Γ st) Γ) :
    (s.adapt P st.vec sh).den Γ = s.den Γ ∧ (s.adapt P st.vec sh).ok P w O' Γ := by
  have hL : ∀ (ks : List Lk) (ls : List Lf), (∀ l ∈ ls, l.isVec = true → ∀ i e, look st.vec i = some e → ∀ b, (at_ Γ.ρ i).loc.ownBlock = some b → ∀ o, ¬ O' b o) → (∀ l ∈ ls, l.ok P w (Own Γ st) Γ) → (adaptL P st.vec ks ls).map (Lf.den Γ) = ls.map (Lf.den Γ) ∧ ∀ l ∈ adaptL P st.vec ks ls, l.ok P w O' Γ := by
    intro ks
    induction ks with
    | nil => intro ls h1 h2; cases ls <;> exact ⟨rfl, fun l hl => Lf.ok_anti (h2 l hl) hO⟩
    | cons k ks ih =>
      intro ls h1 h2
      cases ls with
      | nil => exact ⟨rfl, fun l hl => by cases hl⟩
      | cons l ls =>
        obtain ⟨g1, g2⟩ := ih ls (fun x hx => h1 x (by simp [hx])) (fun x hx => h2 x (by simp [hx]))
        obtain ⟨g3, g4⟩ := Lf.adapt_spec h hO (k := k) (h1 l (by simp)) (h2 l (by simp))
        refine ⟨by simp [adaptL, g1, g3], fun x hx => ?_⟩
        rcases List.mem_cons.1 hx with rfl | hx
        · exact g4
        · exact g2 x hx
  unfold S0.adapt
  split
  · rename_i k l
    obtain ⟨g3, g4⟩ := Lf.adapt_spec h hO (k := k) (hl l (by simp [S0.cells])) (ho l (by simp [S0.cells]))
    exact ⟨g3, fun x hx => by simp [S0.cells] at hx; subst hx; exact g4⟩
  · rename_i ks ls
    obtain ⟨g1, g2⟩ := hL ks ls hl ho
    exact ⟨by simp only [S0.den, dens, g1], g2⟩
  · exact ⟨rfl, fun l hl => Lf.ok_anti (ho l hl) hO⟩
theorem adapts_spec (h : Sat P F w0 Γ st a w) {O' : Nat → Nat → Prop} (hO : ∀ b o, O' b o → Own Γ st b o) : ∀ {shs : List Sh0} {ss : List S0}, (∀ s ∈ ss, ∀ l ∈ s.cells, l.isVec = true → ∀ i e, look st.vec i = some e → ∀ b, (at_ Γ.ρ i).loc.ownBlock = some b → ∀ o, ¬ O' b o) → (∀ s ∈ ss, s.ok P w (Own Γ st) Γ) →
    (adapts P st.vec shs ss).map (S0.den Γ) = ss.map (S0.den Γ) ∧ ∀ s ∈ adapts P st.vec shs ss, s.ok P w O' Γ
  | [], ss, h1, h2 => by cases ss <;> exact ⟨rfl, fun s hs l hl => Lf.ok_anti (h2 s hs l hl) hO⟩
  | _ :: _, [], _, _ => ⟨rfl, fun l hl => by cases hl⟩
  | sh :: shs, s :: ss, h1, h2 => by
    obtain ⟨g1, g2⟩ := adapts_spec h hO (shs := shs) (ss := ss) (fun x hx => h1 x (by simp [hx])) (fun x hx => h2 x (by simp [hx]))
    obtain ⟨g3, g4⟩ := S0.adapt_spec h hO (sh := sh) (h1 s (by simp)) (h2 s (by simp))
    refine ⟨by simp [adapts, g1, g3], fun x hx => ?_⟩
    rcases List.mem_cons.1 hx with rfl | hx
    · exact g4
    · exact g2 x hx
theorem kindsL_noVec {O : Nat → Nat → Prop} : ∀ {ls : List Lf} {ks : List Lk}, kindsL ls = some ks → ks.all Lk.noVec = true → (∀ l ∈ ls, l.ok P w O Γ) → ∀ l ∈ ls, l.okR P w O Γ
  | [], _, _, _, _, l, hl => by cases hl
  | x :: ls, ks, h, hn, ho, l, hl => by
    simp only [kindsL] at h
    split at h
    · rename_i k ks' h1 h2
      cases h
      simp only [List.all_cons, Bool.and_eq_true] at hn
      rcases List.mem_cons.1 hl with rfl | hl
      · exact Lf.okR_of h1 hn.1 (ho _ (by simp))
      · exact kindsL_noVec h2 hn.2 (fun y hy => ho y (by simp [hy])) l hl
    · cases h
theorem shapes_okR {mem : Mem} {O : Nat → Nat → Prop} : ∀ {args : List S0} {ss : List Sh0}, shapes mem args = some ss → (kindsOf ss).all Lk.noVec = true → (∀ s ∈ args, s.ok P w O Γ) →
    (∀ s ∈ args, ∀ l ∈ s.cells, l.okR P w O Γ) ∧ ∀ b mb, S0.lf (.ptr b 0) ∈ args → look mem b = some mb → ∃ ks, kindsL mb.2 = some ks ∧ ks.all Lk.noVec = true
  | [], ss, _, _, _ => ⟨fun s hs => (by cases hs), fun b mb hb => (by cases hb)⟩
  | s :: args, ss, h, hn, ho => by
    simp only [shapes] at h
    split at h
    · rename_i sh hss h1 h2
      cases h
      have hk : kindsOf (sh :: hss) = sh.kinds ++ kindsOf hss := by simp [kindsOf]
      rw [hk, List.all_append, Bool.and_eq_true] at hn
      obtain ⟨i1, i2⟩ := shapes_okR h2 hn.2 (fun x hx => ho x (by simp [hx]))
      by_cases hp : ∃ b, s = .lf (.ptr b 0)
      · obtain ⟨b, rfl⟩ := hp
        refine ⟨fun x hx l hl => ?_, fun c mc hc hmc => ?_⟩
        · rcases List.mem_cons.1 hx with rfl | hx
          · simp [S0.cells] at hl; subst hl; trivial
          · exact i1 x hx l hl
        · rcases List.mem_cons.1 hc with e | hc
          · cases e
            simp only [S0.shapeM, hmc, Option.map_eq_some_iff] at h1
            obtain ⟨ks, hks, rfl⟩ := h1
            exact ⟨ks, hks, hn.1⟩
          · exact i2 c mc hc hmc
      · have hsm : s.shapeM mem = s.shape := by
          unfold S0.shapeM; split
          · exact absurd ⟨_, rfl⟩ hp
          · rfl
        rw [hsm] at h1
        refine ⟨fun x hx l hl => ?_, fun c mc hc hmc => ?_⟩
        · rcases List.mem_cons.1 hx with rfl | hx
          · cases x with
            | lf y =>
              simp only [S0.shape, Option.map_eq_some_iff] at h1
              obtain ⟨k, hk, rfl⟩ := h1
              simp [S0.cells] at hl; subst hl
              exact Lf.okR_of hk (by simpa [Sh0.kinds] using hn.1) (ho (.lf l) (by simp) l (by simp [S0.cells]))
            | agg ls =>
              simp only [S0.shape, Option.map_eq_some_iff] at h1
              obtain ⟨ks, hk', rfl⟩ := h1
              exact kindsL_noVec hk' hn.1 (ho (.agg ls) (by simp)) l hl
          · exact i1 x hx l hl
        · rcases List.mem_cons.1 hc with e | hc
          · exact absurd ⟨c, e.symm⟩ hp
          · exact i2 c mc hc hmc
    · cases h
/-! Results that hold no slice of somebody else -/
theorem CReps.flat {O O' : Nat → Nat → Prop} : ∀ {ks : List Lk} {us : List Value} {cs : List C}, CReps P w O ks us cs → ks.all Lk.noArr = true → CReps P w O' ks us cs
  | [], [], [], _, _ => trivial
  | k :: ks, u :: us, c :: cs, h, hn => by
    simp only [List.all_cons, Bool.and_eq_true] at hn
    refine ⟨⟨h.1.1, ?_⟩, CReps.flat h.2 hn.2⟩
    have h1 := h.1.2
    cases k with
    | arr t => cases hn.1
    | _ => exact h1
  | [], [], _ :: _, h, _ => h.elim
  | [], _ :: _, _, h, _ => h.elim
  | _ :: _, [], _, h, _ => h.elim
  | _ :: _, _ :: _, [], h, _ => h.elim
theorem rowsK_noArr {ks : List Lk} (h : ks.all Lk.noArr = true) (n : Nat) : (rowsK n ks).all Lk.noArr = true := by
  induction n with
  | zero => rfl
  | succ n ih => rw [rowsK_succ, List.all_append, h, ih]; rfl
theorem LRep.flat {O O' : Nat → Nat → Prop} {k : Lk} (hk : flatK P k = true) {u : Value} {c : C} (h : LRep P w O k u c) : LRep P w O' k u c := by
  refine ⟨h.1, ?_⟩
  have h1 := h.2
  cases k with
  | int => exact h1
  | bool => exact h1
  | arr t => cases hk
  | vec t =>
    refine ⟨h1.1, ?_⟩
    obtain ⟨ks, us, k1, k2, k3, k4, k5⟩ := h1.2
    simp only [flatK, k1] at hk
    exact ⟨ks, us, k1, k2, k3, k4.flat (rowsK_noArr hk _), k5⟩
theorem LReps.flat {O O' : Nat → Nat → Prop} : ∀ {ks : List Lk} {us : List Value} {cs : List C}, ks.all (flatK P) = true → LReps P w O ks us cs → LReps P w O' ks us cs
  | [], [], [], _, _ => trivial
  | k :: ks, u :: us, c :: cs, hn, h => by
    simp only [List.all_cons, Bool.and_eq_true] at hn
    exact ⟨h.1.flat hn.1, LReps.flat hn.2 h.2⟩
  | [], [], _ :: _, _, h => h.elim
  | [], _ :: _, _, _, h => h.elim
  | _ :: _, [], _, _, h => h.elim
  | _ :: _, _ :: _, [], _, h => h.elim
theorem Reps.flat {O O' : Nat → Nat → Prop} {n : Nat} : ∀ {ss : List Sh0} {vs : List Value} {cs : List C}, (kindsOf ss).all (flatK P) = true → Reps P w O (some n) ss vs cs → Reps P w O' (some n) ss vs cs
  | [], [], cs, _, h => h
  | s :: ss, v :: vs, cs, hn, h => by
    have hk : kindsOf (s :: ss) = s.kinds ++ kindsOf ss := by simp [kindsOf]
    rw [hk, List.all_append, Bool.and_eq_true] at hn
    obtain ⟨c1, c2, rfl, h1, h2⟩ := h
    refine ⟨c1, c2, rfl, ?_, Reps.flat hn.2 h2⟩
    cases s with
    | lf k => obtain ⟨c, rfl, hc⟩ := h1; exact ⟨c, rfl, hc.flat (by simpa [Sh0.kinds] using hn.1)⟩
    | agg l => obtain ⟨us, e, hc⟩ := h1; exact ⟨us, e, LReps.flat hn.1 hc⟩
    | box t l => obtain ⟨b, us, e, hb, hge, hc⟩ := h1; exact ⟨b, us, e, hb, hge, LReps.flat hn.1 hc⟩
  | [], _ :: _, _, _, h => h.elim
  | _ :: _, [], _, _, h => h.elim
theorem Outs.flat {O O' : Nat → Nat → Prop} : ∀ {ss : List Sh0} {vs : List Value} {cs : List C}, (boxKinds ss).all (flatK P) = true → Outs P w O ss vs cs → Outs P w O' ss vs cs
  | [], vs, cs, _, h => by cases vs <;> exact h
  | s :: ss, [], cs, _, h => by cases s <;> exact h
  | s :: ss, v :: vs, cs, hn, h => by
    cases s with
    | lf k => exact Outs.flat (ss := ss) hn h
    | agg l => exact Outs.flat (ss := ss) hn h
    | box t l =>
      have hk : boxKinds (.box t l :: ss) = l ++ boxKinds ss := rfl
      rw [hk, List.all_append, Bool.and_eq_true] at hn
      obtain ⟨c1, c2, b, us, e, ev, hb, hc, ho⟩ := h
      exact ⟨c1, c2, b, us, e, ev, hb, LReps.flat hn.1 hc, Outs.flat hn.2 ho⟩
theorem Res.flat {O O' : Nat → Nat → Prop} {n : Nat} {ss : List Sh0} {v : Value} {cs : List C} (hn : (kindsOf ss).all (flatK P) = true) (h : Res P w O n ss v cs) : Res P w O' n ss v cs := by
  obtain ⟨vs, hv, hr, h1, h2⟩ := h
  exact ⟨vs, hv, Reps.flat hn hr, h1, h2⟩
/-- What is known blocks' and older than the call. -/
def OwnM (Γ : Env) (st : St) (b o : Nat) : Prop := Γ.base b o ∨ ∃ j, Hold Γ st true j b
theorem OwnM.own {b o : Nat} (h : OwnM Γ st b o) : Own Γ st b o := by
  rcases h with h | ⟨j, h⟩
  · exact .inl h
  · exact h.own o
end
section
variable {cx : Cx} {R : List C → Prop} {F : Nat → Prop} {w0 : World}
theorem Lf.plain_ok {P : Program} {w : World} {O : Nat → Nat → Prop} {Γ : Env} {l : Lf} (h : l.plain = true) : l.ok P w O Γ := by
  cases l with
  | int e => trivial
  | bool e => trivial
  | _ => cases h
theorem SV.plain_ok {P : Program} {w : World} {O : Nat → Nat → Prop} {Γ : Env} {s : SV} (h : s.plain = true) : s.ok P w O Γ := by
  cases s with
  | one s => exact fun l hl => Lf.plain_ok (List.all_eq_true.1 h l hl)
  | tup ss => cases h
  | fn f ls => exact fun l hl => Lf.plain_ok (List.all_eq_true.1 h l hl)
theorem callCt_sound (hcx : CxOK cx) {st : St} {o : Oper} {f : Nat} {args : List S0} {k : St → Option Tree} {T : Tree} (h : callCt cx st o f args k = some T) {Γ : Env} {Ls : List (List C → Prop)} (hl : Ls.length = st.lvl) (hvc : VC cx R T Γ.ρ Ls)
    {a : Act} {w : World} (hs : Sat cx.P F w0 Γ st a w) {K : Act → World → Prop} {Q : Exit → Act → World → Prop} (hk : Next cx R F w0 k Γ Ls K) (ha2 : ∀ s ∈ args, s.ok cx.P w (Own Γ st) Γ)
    (hrun : ∀ hc : Callable cx.P f, (execOp a.eval o).run cx.P w = .ok (.enter f (args.map (S0.den Γ)).toArray) w) : o.wp cx.P a w K Q := by
  unfold callCt at h
  split at h
  · rename_i ct hct
    obtain ⟨hc, hcok, -⟩ := hcx.ct f ct hct
    split at h
    · rename_i hcond
      obtain ⟨hsh, hwf, hbx, hlend⟩ := hcond
      generalize hargs : adapts cx.P st.vec ct.args args = args' at *
      cases hp : (st.called ct args').put o.dst (some (svOf (freshS st.nb ct.res st.nx))) with
      | none => simp [hp] at h
      | some st' =>
        cases hk' : k st' with
        | none => simp [hp, hk'] at h
        | some T' =>
          simp [hp, hk'] at h
          subst h
          obtain ⟨hob, hvc'⟩ := VC.obT hvc
          simp only [VC, hct] at hvc'
          obtain ⟨hpre, hall⟩ := hvc'
          have hnv : (kindsOf ct.args).all Lk.noVec = true := by
            simp only [boxOk, Bool.and_eq_true] at hbx; exact hbx.2
          -- the blocks that the callee must not see
          obtain ⟨O, hO1, hO2, hO3, hO4⟩ : ∃ O : Nat → Nat → Prop, (∀ b o, O b o → Own Γ st b o) ∧ (∀ j mb, look st.mem j = some mb → ∀ o, O (Γ.blk j) o) ∧ (∀ s ∈ args, ∀ l ∈ s.cells, l.isVec = true → ∀ i e, look st.vec i = some e → ∀ b, (at_ Γ.ρ i).loc.ownBlock = some b → ∀ o, ¬ O b o) ∧
              (∀ w' v rs outs, Res cx.P w' O w.heap.size ct.res v rs → Outs cx.P w' (fun b o => O b o ∨ b ∈ vecB (kindsOf ct.res) rs) ct.args (args'.map (S0.den Γ)) outs → Res cx.P w' (Own Γ st) w.heap.size ct.res v rs ∧ Outs cx.P w' (fun b o => Own Γ st b o ∨ b ∈ vecB (kindsOf ct.res) rs) ct.args (args'.map (S0.den Γ)) outs) := by
            rcases hlend with hno | hflat
            · refine ⟨Own Γ st, fun _ _ h => h, fun j mb hj o => (Hold.mem (Γ := Γ) hj).own o, fun s hs' l hl' hv => ?_, fun w' v rs outs h1 h2 => ⟨h1, h2⟩⟩
              have := List.all_eq_true.1 (List.all_eq_true.1 hno s hs') l hl'
              rw [hv] at this; cases this
            · rw [List.all_append, Bool.and_eq_true] at hflat
              refine ⟨OwnM Γ st, fun _ _ h => h.own, fun j mb hj o => .inr ⟨j, Hold.mem (Γ := Γ) hj⟩, fun s hs' l hl' hv i e hi b hb o ho => ?_, fun w' v rs outs h1 h2 => ⟨h1.flat hflat.1, h2.flat hflat.2⟩⟩
              rcases ho with ho | ⟨j, ho⟩
              · exact ((hs.vec i e hi).2.2 b hb).2 o ho
              · have := (hs.inj _ _ _ _ _ ho (Hold.vec (Γ := Γ) hi hb)).1; cases this
          obtain ⟨hden, hok'⟩ := adapts_spec hs hO1 (shs := ct.args) hO3 ha2
          rw [hargs] at hden hok'
          obtain ⟨hokR, hboxk⟩ := shapes_okR (Γ := Γ) hsh hnv hok'
          have hreps := cells_rep (P := cx.P) (w := w) (O := O) (old := none) hs.num hsh hokR (fun b mb hin hmb => ⟨(hs.mem b mb hmb).1, fun l hl' => by
            obtain ⟨ks, hks, hkn⟩ := hboxk b mb hin hmb
            refine kindsL_noVec hks hkn (fun l hl' => ((hs.mem b mb hmb).2.1 l hl').anti' (fun x o hx => ?_)) l hl'
            rcases hx with hx | hx
            · exact hO1 x o hx
            · cases hx; exact (Hold.mem (Γ := Γ) hmb).own o, fun o => hO2 b mb hmb o⟩) hob
          unfold Oper.wp
          rw [hrun hc, ← hden]
          refine (hcok O w _ _ (fun b o hb => hs.own_lt b o (hO1 b o hb)) hreps hpre).mono ?_
          rintro e w' ⟨v, rs, outs, rfl, hres, houts, hpost, hkeep⟩
          obtain ⟨hres, houts⟩ := hO4 w' v rs outs hres houts
          obtain ⟨hty, Γ', e1, e2, e3, e4, e5⟩ := hs.called hwf hsh hbx hres houts hkeep
          have hvc2 := allC_elim hall (rs ++ outs) hty hpost
          rw [← e2] at hvc2
          have hput := e3.put hp e5
          rw [e4] at hput
          exact hk st' T' Γ' Ls hk' e1 (List.prefix_refl _) (by rw [St.put_lvl hp]; exact hl) hvc2 _ _ hput
    · cases h
  · cases h
theorem Sat.knowB {P : Program} {Γ : Env} {st : St} {a : Act} {w : World} (hs : Sat P F w0 Γ st a w) {b : B} {t : Bool} (hb : b.den Γ.ρ = t) : Sat P F w0 Γ (st.know none b t) a w :=
  hs.slots' hs.slots hs.size hs.defers ⟨learn_ok hs.num.len (by rw [hs.len]; exact Nat.le_refl _) b st.bds t hs.num.bds hb, hs.num.len⟩
theorem callF_sound (hcx : CxOK cx) {st : St} {o : Oper} {f : Nat} {args : List S0} {k : St → Option Tree} {T : Tree} (h : callF cx st o f args k = some T) {Γ : Env} {Ls : List (List C → Prop)} (hl : Ls.length = st.lvl) (hvc : VC cx R T Γ.ρ Ls)
    {a : Act} {w : World} (hs : Sat cx.P F w0 Γ st a w) {K : Act → World → Prop} {Q : Exit → Act → World → Prop} (hk : Next cx R F w0 k Γ Ls K) (ha2 : ∀ s ∈ args, s.ok cx.P w (Own Γ st) Γ)
    (hrun : ∀ hc : Callable cx.P f, (execOp a.eval o).run cx.P w = .ok (.enter f (args.map (S0.den Γ)).toArray) w) : o.wp cx.P a w K Q := by
  unfold callF at h
  split at h
  · exact callCt_sound hcx h hl hvc hs hk ha2 hrun
  · split at h
    · rename_i hc
      simp only [Bool.and_eq_true] at hc
      obtain ⟨hc1, hc2⟩ := hcx.hd _ _ _ _ _ h
      unfold Oper.wp
      rw [hrun hc1]
      refine (hc2 R F w0 Γ Ls a w (fun v w' => K (a.put o.dst v) w') hl hvc (hs.repath _) hc.1 hc.2 ha2 ?_).mono ?_
      · intro l st' T' Γ' Ls' hk' he hl' hlen hvc' w' hs' hok
        cases hp : ({ st' with path := st.path } : St).put o.dst (some (svOf l)) with
        | none => simp [hp] at hk'
        | some st2 =>
          simp [hp] at hk'
          have hput := (hs'.repath st.path).put hp (svOf_ok hok)
          rw [svOf_den] at hput
          exact hk st2 T' Γ' Ls' hk' he hl' (by rw [St.put_lvl hp]; exact hlen) hvc' _ _ hput
      · rintro e w' ⟨v, rfl, hv⟩
        exact hv
    · cases h
theorem freezeAll_sound {k : St → Option Tree} : ∀ (l : List Nat) (st : St) (T : Tree), freezeAll l st k = some T → ∀ (Γ : Env) (Ls : List (List C → Prop)), VC cx R T Γ.ρ Ls → ∀ {a : Act} {w : World}, Sat cx.P F w0 Γ st a w →
    ∃ st' T' Γ', k st' = some T' ∧ Ext Γ Γ' ∧ st'.lvl = st.lvl ∧ VC cx R T' Γ'.ρ Ls ∧ Sat cx.P F w0 Γ' st' a w
  | [], st, T, h, Γ, Ls, hvc, a, w, hs => ⟨st, T, Γ, h, Ext.refl _, rfl, hvc, hs⟩
  | i :: l, st, T, h, Γ, Ls, hvc, a, w, hs => by
    simp only [freezeAll] at h
    split at h
    · rename_i e st1 hf
      cases hr : freezeAll l st1 k with
      | none => simp [hr] at h
      | some T1 =>
        simp [hr] at h
        subst h
        obtain ⟨e1, e2, e3⟩ := hs.freeze hf
        obtain ⟨st', T', Γ', g1, g2, g3, g4, g5⟩ := freezeAll_sound l st1 T1 hr { Γ with ρ := Γ.ρ ++ [e.ev Γ.ρ] } Ls hvc e2
        exact ⟨st', T', Γ', g1, e1.trans g2, g3.trans e3, g4, g5⟩
    · exact freezeAll_sound l st T h Γ Ls hvc hs
end
/-! Slices made, appended to, written -/
section
variable {P : Program} {F : Nat → Prop} {w0 : World} {Γ : Env} {st : St} {a : Act} {w : World}
theorem ownsRow_full (w : World) (te : TypeId) (size n : Nat) (cs : Array Value) (hcs : cs.size = n * size) (hn : n ≤ maxLen) : (w.alloc (.cells cs te)).ownsRow 0 te size (.slice (some ⟨w.heap.size, 0, none⟩) n n) n cs.toList :=
  ⟨by simpa using hcs, .inr ⟨w.heap.size, n, cs, rfl, Nat.zero_le _, heap_alloc_new w _, Nat.le_refl _, hn, hcs, by rw [List.take_of_length_le (by simp [hcs])]⟩⟩
/-- A new slice that has just been laid. -/
theorem VecOK.laid {te : TypeId} {ks : List Lk} (hk : kinds P te = some ks) {rows : List (List C)} {cs : Array Value} (hr : CReps P w (Own Γ st) (rowsK rows.length ks) cs.toList rows.flatten) (hl : ∀ r ∈ rows, r.length = ks.length) (hn : rows.length ≤ maxLen) :
    VecOK P (w.alloc (.cells cs te)) (fun b o => Own Γ st b o ∨ w.heap.size ≤ b) te (.slice (some ⟨w.heap.size, 0, none⟩) rows.length rows.length) (.s (.slice (some ⟨w.heap.size, 0, none⟩) rows.length rows.length) rows) := by
  have hlen := hr.len.1
  rw [rowsK_len, Array.length_toList] at hlen
  exact ⟨ks, cs.toList, hk, ⟨_, rfl⟩, hl, hr.up (row := none) (World.grownBy_alloc w _ none) (fun b hb => by cases hb), ownsRow_full w te ks.length rows.length cs hlen hn⟩
theorem rows_CReps {bd : Bds} (hn : Num bd Γ.ρ) {ks : List Lk} (hno : ks.all Lk.noVec = true) {rows : List (List Lf)} (hk : ∀ r ∈ rows, kindsL r = some ks) (ho : ∀ r ∈ rows, ∀ l ∈ r, l.ok P w (Own Γ st) Γ) (hob : Obs Γ.ρ (rngL bd rows.flatten)) :
    CReps P w (Own Γ st) (rowsK rows.length ks) (rows.flatten.map (Lf.den Γ)) (rows.map (cs_ Γ.ρ)).flatten := by
  have h := CReps.rows (P := P) (w := w) (O := Own Γ st) (ks := ks) (rs := rows.map fun r => (r.map (Lf.den Γ), cs_ Γ.ρ r)) (fun r hr => by
    obtain ⟨r', hr', rfl⟩ := List.mem_map.1 hr
    exact CReps.of_LReps (Ls_rep hn (hk r' hr') (kindsL_noVec (hk r' hr') hno (ho r' hr')) (rngL_flatten hob r' hr')) hno)
  rw [List.length_map] at h
  have e1 : (rows.map fun r => (r.map (Lf.den Γ), cs_ Γ.ρ r)).flatMap (·.1) = rows.flatten.map (Lf.den Γ) := by
    rw [List.flatMap_map, List.map_flatten]; rfl
  have e2 : (rows.map fun r => (r.map (Lf.den Γ), cs_ Γ.ρ r)).flatMap (·.2) = (rows.map (cs_ Γ.ρ)).flatten := by
    rw [List.flatMap_map]; rfl
  rw [e1, e2] at h
  exact h
theorem madeCells_list (z : Array Value) (n : Nat) : (madeCells z (n * z.size)).toList = (List.replicate n z.toList).flatten := by
  apply List.ext_getElem?
  intro j
  by_cases hz : z.size = 0
  · have : z.toList = [] := List.eq_nil_of_length_eq_zero (by simpa using hz)
    simp [madeCells, hz, this]
  · by_cases hj : j < n * z.size
    · have hi : j / z.size < n := Nat.div_lt_of_lt_mul (by rwa [Nat.mul_comm] at hj)
      have hm : j % z.size < z.size := Nat.mod_lt _ (by omega)
      have hf := flatten_get (sz := z.size) (List.replicate n z.toList) (fun r hr => by rw [List.eq_of_mem_replicate hr]; simp) (j / z.size) (j % z.size) z.toList (by simp [hi]) hm
      rw [show j / z.size * z.size + j % z.size = j by rw [Nat.mul_comm]; exact Nat.div_add_mod _ _] at hf
      rw [hf]
      simp [madeCells, hj, hm]
    · have h1 : (madeCells z (n * z.size)).toList.length ≤ j := by simp [madeCells]; omega
      have h2 : (List.replicate n z.toList).flatten.length ≤ j := by
        rw [flatten_len (sz := z.size) (fun r hr => by rw [List.eq_of_mem_replicate hr]; simp)]
        simp; omega
      rw [List.getElem?_eq_none h1, List.getElem?_eq_none h2]
/-- Nothing is appended. -/
theorem run_append_empty {t ty e : TypeId} {i : TypeInfo} (ht : P.underlying t = some (.slice e)) (hi : P.info? e = some i) {v : Value} {n size : Nat} {xs : List Value} (ho : w.ownsRow 0 e size v n xs) {a : Option Addr} {c : Nat} :
    (Builtin.append_ #[t, t] ty #[v, .slice a 0 c]).run P w = .ok v w := by
  have hf : (Builtin.firstCells i.size 0 (.slice a 0 c)).run P w = .ok #[] w := by
    cases a with
    | none => exact run_firstCells_none w _ _ _ _
    | some b =>
      have := run_firstCells_some (P := P) w i.size 0 b 0 c [] (by simp) (fun j v hj => by simp at hj)
      exact this
  rcases ho.2 with ⟨rfl, rfl⟩ | ⟨g, cap, cur, rfl, -, hg, hnc, -⟩
  · simp [Builtin.append_, run_underlying ht, sizeOf, typeInfo, hi, Builtin.lenOf, hf]
  · simp [Builtin.append_, run_underlying ht, sizeOf, typeInfo, hi, Builtin.lenOf, hf, hnc, storeCells]
/-- What is appended to: a slice of one's own, or nil. -/
def CiOK (Γ : Env) (st : St) (ci : Option Nat) (v : Value) : Prop :=
  match ci with
  | some i => ∃ e, look st.vec i = some e ∧ v = (at_ Γ.ρ i).loc
  | none => v = .slice none 0 0
theorem Sat.append (h : Sat P F w0 Γ st a w) (hw : st.wf = true) {te t ty : TypeId} {ks : List Lk} {it : TypeInfo} {z : Value} (hk : kinds P te = some ks) (hu : P.underlying t = some (.slice te)) (hi : P.info? te = some it) (hz : it.zero = some z) (hzs : z.cells.size = ks.length) (hby : 1 ≤ it.bytes)
    {v vb : Value} {ra rb : List (List C)} {ci : Option Nat} (hci : CiOK Γ st ci v)
    (ha : VecOK P w (Own Γ st) te v (.s v ra)) {us : List Value} (hb : RowsAt P w (Own Γ st) ks vb rb us) (hle : ((ra.length : Int) + rb.length) * it.bytes ≤ 140737488355328) :
    ∃ v' w', (Builtin.append_ #[t, t] ty #[v, vb]).run P w = .ok v' w' ∧ Sat P F w0 { Γ with ρ := Γ.ρ ++ [.s v' (ra ++ rb)] } { st with nx := st.nx + 1, vec := (st.nx, some (te, .var st.nx)) :: dropV ci st.vec } a w' := by
  have hsz := kinds_size hk
  have hisz : it.size = ks.length := by have := hsz.1; simp only [sizeIs, hi, Option.map_some, Option.some.injEq] at this; exact this
  obtain ⟨ks', xs, hk', -, hla, hra, hoa⟩ := ha
  obtain rfl : ks = ks' := Option.some.inj (hk.symm.trans hk')
  simp only [C.rows] at hla hra hoa
  obtain ⟨hrb, hlb, ab, capb, rfl, hcb⟩ := hb
  have hle' : (ra.length + rb.length) * it.bytes ≤ 140737488355328 := by
    have : (((ra.length + rb.length) * it.bytes : Nat) : Int) ≤ 140737488355328 := by push_cast; exact hle
    omega
  have hmx : ra.length + rb.length ≤ maxLen := by
    have := Nat.le_mul_of_pos_right (ra.length + rb.length) (show 0 < it.bytes by omega)
    simp only [maxLen]; omega
  have hlab : ∀ r ∈ ra ++ rb, r.length = ks.length := fun r hr => (List.mem_append.1 hr).elim (hla r) (hlb r)
  have hrow : ∀ b, v.ownBlock = some b → ∀ o, Own Γ st b o := fun b hb o => by
    cases ci with
    | none => have hci : v = .slice none 0 0 := hci; rw [hci] at hb; cases hb
    | some i => obtain ⟨e, h1, h2⟩ := hci; exact (Hold.vec (Γ := Γ) h1 (by rw [← h2]; exact hb)).own o
  -- the new slice, where it lies in the row of the old one or in a new block
  have fin : ∀ v' w', (Builtin.append_ #[t, t] ty #[v, .slice ab rb.length capb]).run P w = .ok v' w' → w'.ownsRow 0 te ks.length v' (ra.length + rb.length) (xs ++ us) → w.grownBy w' v.ownBlock → (v'.ownBlock = v.ownBlock ∨ v'.ownBlock = some w.heap.size) →
      ∃ v' w', (Builtin.append_ #[t, t] ty #[v, .slice ab rb.length capb]).run P w = .ok v' w' ∧ Sat P F w0 { Γ with ρ := Γ.ρ ++ [.s v' (ra ++ rb)] } { st with nx := st.nx + 1, vec := (st.nx, some (te, .var st.nx)) :: dropV ci st.vec } a w' := by
    intro v' w' hrun hown hgr hat
    refine ⟨v', w', hrun, h.vnew hw (c := .s v' (ra ++ rb)) (te := te) (row := v.ownBlock) (ci := ci) ?_ hgr ?_ ?_⟩
    · cases ci with
      | none => have hci : v = .slice none 0 0 := hci; rw [hci]; rfl
      | some i => obtain ⟨e, h1, h2⟩ := hci; exact ⟨e, h1, by rw [h2]⟩
    · refine ⟨ks, xs ++ us, hk, ⟨_, rfl⟩, hlab, ?_, ?_⟩
      · simp only [C.rows, List.length_append, List.flatten_append]
        rw [rowsK_add]
        exact CReps.append (hra.up hgr hrow) (hrb.up hgr hrow)
      · simp only [C.loc, C.rows, List.length_append]; exact hown
    · intro b hb
      simp only [C.loc] at hb
      rcases hat with e | e
      · left; rw [← e]; exact hb
      · right; rw [e] at hb; cases hb; exact Nat.le_refl _
  by_cases h0 : rb = []
  · subst h0
    have hus : us = [] := List.eq_nil_of_length_eq_zero (by have := hrb.len.1; simpa [rowsK] using this)
    subst hus
    exact fin v w (run_append_empty hu hi hoa) (by simpa using hoa) (World.grownBy.rfl' w _) (.inl rfl)
  · obtain ⟨b, o, rfl, hcell⟩ := hcb h0
    obtain ⟨v', w', h1, h2, h3, h4, h5⟩ := run_append_own_at (P := P) w 0 t ty te it z ks.length it.bytes hu hi hz hisz rfl hzs (by omega) v ra.length xs hoa ⟨b, o, none⟩ rb.length capb us (by have := hrb.len.1; rwa [rowsK_len] at this) hcell hrb.one hmx hle' (Nat.zero_le _)
    exact fin v' w' h1 h2 h3 h5
theorem appA_spec (h : Sat P F w0 Γ st a w) {te : TypeId} {ks : List Lk} (hk : kinds P te = some ks) {la : Lf} {i : Option Nat} {ea : E} (hm : appA te st.vec la = some (i, ea)) : CiOK Γ st i (la.den Γ) ∧ VecOK P w (Own Γ st) te (la.den Γ) (.s (la.den Γ) (ea.ev Γ.ρ).rows) := by
  unfold appA at hm
  split at hm
  · rename_i ta j
    split at hm
    · rename_i e he
      split at hm
      · rename_i hce
        cases hm
        obtain ⟨ks', us, k1, k2, k3, k4, k5⟩ := (h.vec j e he).1
        refine ⟨⟨e, he, rfl⟩, ?_⟩
        rw [← hce.2]
        exact ⟨ks', us, k1, ⟨_, rfl⟩, k3, k4, k5⟩
      · cases hm
    · cases hm
  · split at hm
    · rename_i hnil
      cases hm
      have := Lf.isNil_eq hnil
      subst this
      exact ⟨rfl, ks, [], hk, ⟨_, rfl⟩, fun r hr => by simp [E.ev, C.rows] at hr, trivial, World.ownsRow_nil w 0 te ks.length⟩
    · cases hm
theorem appB_spec (h : Sat P F w0 Γ st a w) {te tb : TypeId} {ks : List Lk} (hk : kinds P tb = some ks) {lb : Lf} (ho : lb.ok P w (Own Γ st) Γ) {eb : E} (hm : appB te st.vec lb = some (tb, eb)) : ∃ us, RowsAt P w (Own Γ st) ks (lb.den Γ) (eb.ev Γ.ρ).rows us := by
  unfold appB at hm
  split at hm
  · rename_i hnil
    cases hm
    have := Lf.isNil_eq hnil
    subst this
    exact ⟨[], trivial, fun r hr => by simp [E.ev, C.rows] at hr, none, 0, rfl, fun hne => absurd rfl hne⟩
  · unfold rowsLf at hm
    split at hm
    · cases hm
      obtain ⟨v, rows, hev, d, S, hS, hA⟩ := ho
      have hd : (Lf.arr tb eb).den Γ = v := by simp only [Lf.den, hev, C.loc]
      rw [hd, hev]
      refine hA.us hS hk fun r hr c hc n => ?_
      rcases E.small h.num.len eb with h1 | h1
      · rw [hev] at h1; exact (h1 (n + 1)).2 r hr c hc
      · rw [hev] at h1; simp only [C.rows] at h1; subst h1; cases hr
    · split at hm
      · rename_i e he
        split at hm
        · cases hm
          exact (h.vec _ _ he).1.rowsAt hk
        · cases hm
      · cases hm
    · cases hm
end
end Go.Proofs.Ytcglpbchejkolaa
/- A slice of one's own, cut. -/
namespace Go.Proofs.Ytcglpbchejkolaa
open Go.RowKit
set_option linter.unusedSimpArgs false
set_option linter.unusedVariables false

theorem rowsK_take {n m : Nat} {ks : List Lk} (h : n ≤ m) : (rowsK m ks).take (n * ks.length) = rowsK n ks := by
  obtain ⟨d, rfl⟩ := Nat.exists_eq_add_of_le h
  rw [rowsK_add, List.take_append_of_le_length (by rw [rowsK_len]; exact Nat.le_refl _), List.take_of_length_le (by rw [rowsK_len]; exact Nat.le_refl _)]
theorem flatten_take {sz : Nat} : ∀ {rows : List (List C)}, (∀ r ∈ rows, r.length = sz) → ∀ n, rows.flatten.take (n * sz) = (rows.take n).flatten
  | [], _, n => by simp
  | r :: rows, h, 0 => by simp
  | r :: rows, h, n + 1 => by
    rw [List.flatten_cons, List.take_succ_cons, List.flatten_cons, ← flatten_take (fun x hx => h x (by simp [hx])) n, Nat.add_mul, Nat.one_mul, Nat.add_comm, ← h r (by simp), List.take_append, List.take_of_length_le (by omega)]
    rw [show r.length + n * r.length - r.length = n * r.length by omega]
section
variable {P : Program} {F : Nat → Prop} {w0 : World} {Γ : Env} {st : St} {a : Act} {w : World}
theorem Sat.cut (h : Sat P F w0 Γ st a w) (hw : st.wf = true) {te t : TypeId} {ks : List Lk} (hk : kinds P te = some ks) (hu : P.underlying t = some (.slice te)) {i : Nat} {e : TypeId × E} (he : look st.vec i = some e) (hte : e.1 = te) {n : Int} (h0 : 0 ≤ n) (h1 : n ≤ (e.2.ev Γ.ρ).rows.length) :
    ∃ v', (Instr.sliceAt t (at_ Γ.ρ i).loc none (some (.int .i64 n)) none).run P w = .ok v' w ∧ Sat P F w0 { Γ with ρ := Γ.ρ ++ [.s v' ((e.2.ev Γ.ρ).rows.take n.toNat)] } { st with nx := st.nx + 1, vec := (st.nx, some (te, .var st.nx)) :: dropV (some i) st.vec } a w := by
  obtain ⟨hvec, -, hF⟩ := h.vec i e he
  obtain ⟨ks', us, hk', ⟨v0, hv0⟩, hl, hr, ho⟩ := hvec
  rw [hte] at hk' ho
  obtain rfl : ks = ks' := Option.some.inj (hk.symm.trans hk')
  have hel : P.elem t = te := by simp [Program.elem, hu]
  have hsz := kinds_size hk
  have hown : ∀ b, (at_ Γ.ρ i).loc.ownBlock = some b → ∀ o, Own Γ st b o := fun b hb o => (Hold.vec (Γ := Γ) he hb).own o
  generalize hrows : (e.2.ev Γ.ρ).rows = rows at *
  generalize hloc : (at_ Γ.ρ i).loc = loc at *
  have hn : n.toNat ≤ rows.length := by omega
  have hlen : (rows.take n.toNat).length = n.toNat := by rw [List.length_take]; omega
  have hus := ho.1
  -- the value
  obtain ⟨v', hrun, hown', hob⟩ : ∃ v', (Instr.sliceAt t loc none (some (.int .i64 n)) none).run P w = .ok v' w ∧ w.ownsRow 0 te ks.length v' n.toNat (us.take (n.toNat * ks.length)) ∧ ∀ b, v'.ownBlock = some b → loc.ownBlock = some b := by
    have hul : P.underlying t = some (.slice (P.elem t)) := by rw [hel]; exact hu
    have hlt : (us.take (n.toNat * ks.length)).length = n.toNat * ks.length := by
      rw [List.length_take, hus]
      exact Nat.min_eq_left (Nat.mul_le_mul_right _ hn)
    obtain ⟨it, hit, hisz⟩ : ∃ it, P.info? te = some it ∧ it.size = ks.length := by
      have := hsz.1
      unfold sizeIs at this
      cases hi : P.info? te with
      | none => rw [hi] at this; cases this
      | some it => rw [hi] at this; exact ⟨it, rfl, by simpa using this⟩
    have hrs : (sizeOf (P.elem t)).run P w = .ok ks.length w := by
      rw [hel]; simp [sizeOf, typeInfo, hit, hisz]
    rcases ho.2 with ⟨e1, e2⟩ | ⟨g, cap, cur, e1, hB, hg, hnc, hcm, hcs, hct⟩
    · refine ⟨.slice none 0 0, ?_, ⟨hlt, .inl ⟨rfl, by omega⟩⟩, fun b hb => (by cases hb)⟩
      have : n = 0 := by omega
      subst this
      rw [e1, run_sliceAt_slice _ _ _ _ _ _ hul, run_slice_h (ht := hul) (h0 := by omega) (h2 := by omega), hrs]
      simp [Result.andThen, sliced]
    · refine ⟨.slice (some ⟨g, 0, none⟩) n.toNat cap, ?_, ⟨hlt, .inr ⟨g, cap, cur, rfl, hB, hg, by omega, hcm, hcs, ?_⟩⟩, fun b hb => (by rw [e1]; exact hb)⟩
      · rw [e1, run_sliceAt_slice _ _ _ _ _ _ hul, run_slice_h (ht := hul) (h0 := by omega) (h2 := by omega), hrs]
        simp [Result.andThen, sliced, Addr.add]
      · rw [← hct, List.take_take, Nat.min_eq_left (Nat.mul_le_mul_right _ hn)]
  refine ⟨v', hrun, h.vnew hw (c := .s v' (rows.take n.toNat)) (te := te) (row := loc.ownBlock) (ci := some i) ⟨e, he, by rw [hloc]⟩ (World.grownBy.rfl' w _) ?_ fun b hb => .inl (hob b hb)⟩
  refine ⟨ks, us.take (n.toNat * ks.length), hk, ⟨_, rfl⟩, fun r hr' => hl r (List.mem_of_mem_take hr'), ?_, ?_⟩
  · show CReps P w _ (rowsK (rows.take n.toNat).length ks) _ (rows.take n.toNat).flatten
    rw [hlen, ← rowsK_take hn, ← flatten_take hl]
    exact (hr.up (World.grownBy.rfl' w loc.ownBlock) hown).take _
  · show w.ownsRow 0 te ks.length v' (rows.take n.toNat).length _
    rw [hlen]
    exact hown'
end
end Go.Proofs.Ytcglpbchejkolaa
/- The engine, part 11c: one operation is right; a row of operations. -/
namespace Go.Proofs.Ytcglpbchejkolaa
open Go.RowKit
set_option linter.unusedSimpArgs false
set_option linter.unusedVariables false

theorem adaptL_len (P : Program) (vec : Vecs) : ∀ (ks : List Lk) (ls : List Lf), (adaptL P vec ks ls).length = ls.length
  | [], ls => by cases ls <;> rfl
  | _ :: _, [] => rfl
  | k :: ks, l :: ls => by simp [adaptL, adaptL_len P vec ks ls]
theorem adapt_den0 (P : Program) (Γ : Env) (k : Lk) (l : Lf) : (l.adapt P [] k).den Γ = l.den Γ := by
  unfold Lf.adapt
  split
  · rename_i t te i; simp only [look]
  · split <;> rfl
  · rfl
theorem adaptL_den0 {P : Program} {Γ : Env} : ∀ {ks : List Lk} {ls : List Lf}, (adaptL P [] ks ls).map (Lf.den Γ) = ls.map (Lf.den Γ)
  | [], ls => by cases ls <;> rfl
  | _ :: _, [] => rfl
  | k :: ks, l :: ls => by simp [adaptL, adapt_den0, adaptL_den0]
theorem zero_cst {P : Program} {t : TypeId} {cs : List Lf} (h : zeroLf P t = some cs) : ∀ l ∈ cs, ∃ v, l = Lf.ofValue v := fun l hl => by
  unfold zeroLf at h
  split at h
  · rename_i it hi
    cases hzz : it.zero with
    | none => simp [hzz] at h
    | some zv =>
      simp [hzz] at h
      subst h
      obtain ⟨v, -, rfl⟩ := List.mem_map.1 hl
      exact ⟨v, rfl⟩
  · cases h
theorem adapt_cst {P : Program} {w : World} {O : Nat → Nat → Prop} {Γ : Env} {k : Lk} {v : Value} : ((Lf.ofValue v).adapt P [] k).ok P w O Γ ∧ ((Lf.ofValue v).adapt P [] k).isVec = false := by
  have base : (Lf.ofValue v).ok P w O Γ ∧ (Lf.ofValue v).isVec = false := by unfold Lf.ofValue; split <;> exact ⟨trivial, rfl⟩
  unfold Lf.adapt
  split
  · rename_i te i e; rw [e] at base; cases base.2
  · split
    · rename_i hk
      refine ⟨?_, rfl⟩
      obtain ⟨ks, hks⟩ := Option.isSome_iff_exists.1 hk
      exact ⟨_, [], rfl, 1, fun _ _ => False, fun _ _ h => h.elim, ks, hks, none, 0, rfl, fun h => absurd rfl h⟩
    · exact ⟨trivial, rfl⟩
  · exact base
theorem adaptL_cst {P : Program} {w : World} {O : Nat → Nat → Prop} {Γ : Env} : ∀ {ks : List Lk} {ls : List Lf}, (∀ l ∈ ls, ∃ v, l = Lf.ofValue v) → ∀ l ∈ adaptL P [] ks ls, l.ok P w O Γ ∧ l.isVec = false
  | [], ls, h, l, hl => by
    have : l ∈ ls := by cases ls <;> exact hl
    obtain ⟨v, rfl⟩ := h l this
    have := adapt_cst (P := P) (w := w) (O := O) (Γ := Γ) (k := .int) (v := v)
    unfold Lf.adapt at this
    exact this
  | _ :: _, [], _, l, hl => by cases hl
  | k :: ks, x :: ls, h, l, hl => by
    rcases List.mem_cons.1 hl with rfl | hl
    · obtain ⟨v, rfl⟩ := h x (by simp); exact adapt_cst
    · exact adaptL_cst (fun y hy => h y (by simp [hy])) l hl
theorem S0.adaptOk {P : Program} {w : World} {O : Nat → Nat → Prop} {Γ : Env} {l : Lf} {k : Lk} (h : l.ok P w O Γ) : (l.adapt P [] k).ok P w O Γ := by
  unfold Lf.adapt
  split
  · simp only [look]; exact h
  · split
    · rename_i hk
      obtain ⟨ks, hks⟩ := Option.isSome_iff_exists.1 hk
      exact ⟨_, [], rfl, 1, fun _ _ => False, fun _ _ h => h.elim, ks, hks, none, 0, rfl, fun h => absurd rfl h⟩
    · trivial
  · exact h
theorem adaptL_ok {P : Program} {w : World} {O : Nat → Nat → Prop} {Γ : Env} : ∀ {ks : List Lk} {ls : List Lf}, (∀ l ∈ ls, l.ok P w O Γ) → ∀ l ∈ adaptL P [] ks ls, l.ok P w O Γ
  | [], ls, h, l, hl => h l (by cases ls <;> exact hl)
  | _ :: _, [], _, l, hl => by cases hl
  | k :: ks, x :: ls, h, l, hl => by
    rcases List.mem_cons.1 hl with rfl | hl
    · exact S0.adaptOk (h x (by simp))
    · exact adaptL_ok (fun y hy => h y (by simp [hy])) l hl
theorem Sat.vstore {P : Program} {F : Nat → Prop} {w0 : World} {Γ : Env} {st : St} {a : Act} {w : World} (h : Sat P F w0 Γ st a w) {i : Nat} {ve : TypeId × E} (hve : look st.vec i = some ve) {te t : TypeId} {ks : List Lk} (hks : kinds P te = some ks) {n sz off : Nat} (hn : sizeIs P t = some n) (c1 : ve.1 = te) (c2 : ks.length = sz) {s : S0} (c3 : s.cells.length = n) (c4 : off + n ≤ ks.length)
    (c5 : kindsL (adaptL P [] ((ks.drop off).take n) s.cells) = some ((ks.drop off).take n)) (c6 : st.wf = true) (c7 : ks.all Lk.noVec = true) {x : E} (hp : (Lf.velp te sz i x off).ok P w (Own Γ st) Γ) (hx : s.ok P w (Own Γ st) Γ) {bd : Bds} (hb : bd = st.bds) (hob : Obs Γ.ρ (rngL bd (adaptL P [] ((ks.drop off).take n) s.cells))) :
    ∃ w', (Instr.storeAt t ((Lf.velp te sz i x off).den Γ) (s.den Γ)).run P w = .ok () w' ∧
      Sat P F w0 { Γ with ρ := Γ.ρ ++ [.s (at_ Γ.ρ i).loc (updRow (ve.2.ev Γ.ρ).rows (x.den Γ.ρ).toNat off (cs_ Γ.ρ (adaptL P [] ((ks.drop off).take n) s.cells)))] } { st with nx := st.nx + 1, vec := (i, some (te, .var st.nx)) :: st.vec } a w' := by
  subst c1 c2 hb
  obtain ⟨b, m, cap, hloc, -, h0, h1⟩ := hp
  have hv := (h.vec i ve hve).1
  obtain ⟨ks', us, hk', -, hl, hr, ho⟩ := hv
  obtain rfl : ks = ks' := Option.some.inj (hks.symm.trans hk')
  have hsub : ((ks.drop off).take n).all Lk.noVec = true := List.all_eq_true.2 fun k hk => List.all_eq_true.1 c7 k (List.mem_of_mem_drop (List.mem_of_mem_take hk))
  have hcr := CReps.of_LReps (Ls_rep (P := P) (w := w) (O := Own Γ st) h.num c5 (kindsL_noVec c5 hsub (adaptL_ok hx)) hob) hsub
  rw [adaptL_den0] at hcr
  have hone := hcr.one
  generalize hds : cs_ Γ.ρ (adaptL P [] ((ks.drop off).take n) s.cells) = ds at *
  have hdl : ds.length = n := by rw [← hds]; simp [cs_, adaptL_len, c3]
  rcases ho.2 with ⟨e, -⟩ | ⟨g, cap', cur, hloc', -, hg, hnc, hcm, hcs, htake⟩
  · rw [hloc] at e; cases e
  · rw [hloc] at hloc'
    cases hloc'
    generalize hrows : (ve.2.ev Γ.ρ).rows = rows at *
    have hxl : (x.den Γ.ρ).toNat < rows.length := by omega
    generalize hX : (x.den Γ.ρ).toNat = X at *
    have hpos : X * ks.length + off + n ≤ rows.length * ks.length := by
      have : (X + 1) * ks.length ≤ rows.length * ks.length := Nat.mul_le_mul_right _ hxl
      rw [Nat.add_mul] at this; omega
    have hcap : rows.length * ks.length ≤ cur.size := by rw [hcs]; exact Nat.mul_le_mul_right _ hnc
    have hvl : (s.cells.map (Lf.den Γ)).length = n := by simp [c3]
    have hst := run_storeCells_at (P := P) b (X * ks.length + off) ve.1 (s.cells.map (Lf.den Γ)) 0 cur w hg (by rw [hvl]; omega) hone
    rw [Nat.add_zero, hvl] at hst
    have hcell : (s.den Γ).cells = dens Γ s.cells := S0.den_cells Γ s fun l hl' => one_cells (hone _ (List.mem_map.2 ⟨l, hl', rfl⟩))
    have hadr : (Lf.velp ve.1 ks.length i x off).den Γ = .pointer (some ⟨b, X * ks.length + off, none⟩) := by
      simp only [Lf.den, hloc, elemAt, hX]
      unfold Addr.add; split <;> simp_all
    refine ⟨_, ?_, h.vupd c6 hve (w' := w.setRow b (cur.toList.take (X * ks.length + off) ++ s.cells.map (Lf.den Γ) ++ cur.toList.drop (X * ks.length + off + n)).toArray) ?_ ?_⟩
    · rw [hadr]
      have hlen : (dens Γ s.cells).toList = s.cells.map (Lf.den Γ) := by simp [dens]
      simp only [Instr.storeAt, Instr.sureAddr, storeVar, hcell, Sem.run_bind, Sem.run_pure, Result.andThen_ok, pure_bind, run_sizeOf' hn, dens_size, c3, ne_eq, not_true_eq_false, if_false, hlen, hst]
    · rw [hloc]
      exact ⟨rfl, rfl, rfl, by simp [World.setRow], fun k _ hk => setRow_other w b k _ fun e => hk (by simp [Value.ownBlock, e])⟩
    · have hgb : w.grownBy (w.setRow b (cur.toList.take (X * ks.length + off) ++ s.cells.map (Lf.den Γ) ++ cur.toList.drop (X * ks.length + off + n)).toArray) (some b) := ⟨rfl, rfl, rfl, by simp [World.setRow], fun k _ hk => setRow_other w b k _ fun e => hk (by simp [e])⟩
      have hrow : ∀ b', some b = some b' → ∀ o, Own Γ st b' o := fun b' e o => by cases e; exact (Hold.vec (Γ := Γ) hve (by rw [hloc]; rfl)).own o
      obtain ⟨f1, f2, f3⟩ := flatten_upd hl (i := X) (o := off) (l := ds) hxl (by omega)
      refine ⟨ks, us.take (X * ks.length + off) ++ s.cells.map (Lf.den Γ) ++ us.drop (X * ks.length + off + n), hks, ⟨_, rfl⟩, f2, ?_, ?_⟩
      · simp only [C.rows]
        rw [f3, f1, hdl]
        have hseg : ((rowsK rows.length ks).drop (X * ks.length + off)).take n = (ks.drop off).take n := by
          apply List.ext_getElem?
          intro j
          rw [List.getElem?_take, List.getElem?_take, List.getElem?_drop, List.getElem?_drop]
          split
          · rw [Nat.add_assoc, rowsK_get hxl (by omega)]
          · rfl
        exact CReps.seg (hr.up hgb hrow) (by rw [hseg]; exact hcr.up hgb hrow)
      · simp only [C.rows]
        rw [f3, hloc]
        have hul : us.length = rows.length * ks.length := ho.1
        refine ⟨by simp [c3, hul]; omega, .inr ⟨b, cap, _, rfl, Nat.zero_le _, setRow_heap w b cur _ ve.1 _ hg, hnc, hcm, by simp [c3]; omega, ?_⟩⟩
        rw [← htake]
        simp only [List.toList_toArray]
        rw [List.take_append, List.take_append, List.take_take, List.take_take]
        simp only [List.length_append, List.length_take, List.length_map, Array.length_toList, c3]
        have e1 : min (X * ks.length + off) cur.size = X * ks.length + off := by omega
        rw [e1, Nat.min_eq_right (show X * ks.length + off ≤ rows.length * ks.length by omega), Nat.min_eq_left (show X * ks.length + off ≤ rows.length * ks.length by omega)]
        rw [List.drop_take]
        congr 1
        rw [List.take_of_length_le (i := rows.length * ks.length - (X * ks.length + off)) (l := s.cells.map (Lf.den Γ)) (by rw [List.length_map, c3]; omega)]
/-- The rest of a slice of one's own is cleared. -/
theorem Sat.vclear {P : Program} {F : Nat → Prop} {w0 : World} {Γ : Env} {st : St} {a : Act} {w : World} (h : Sat P F w0 Γ st a w) {i : Nat} {ve : TypeId × E} (hve : look st.vec i = some ve) {te t ty : TypeId} {ks : List Lk} (hks : kinds P te = some ks) (hu : P.underlying t = some (.slice te)) (c1 : ve.1 = te) (c6 : st.wf = true) (c7 : ks.all Lk.noVec = true)
    {z : List Lf} (hz : zeroLf P te = some z) (c5 : kindsL (adaptL P [] ks z) = some ks) (c8 : rngL st.bds (adaptL P [] ks z) = []) {n : Int} (h0 : 0 ≤ n) (h1 : n ≤ ((ve.2.ev Γ.ρ).rows.length : Int)) :
    ∃ v' w', (Instr.sliceAt t (at_ Γ.ρ i).loc (some (.int .i64 n)) none none).run P w = .ok v' w ∧ (Builtin.clear_ #[t] ty #[v']).run P w = .ok (.tuple #[]) w' ∧
      Sat P F w0 { Γ with ρ := Γ.ρ ++ [.s (.slice none 0 0) (List.replicate (((ve.2.ev Γ.ρ).rows.length : Int) - n).toNat (cs_ Γ.ρ (adaptL P [] ks z)))] ++ [.s (at_ Γ.ρ i).loc ((ve.2.ev Γ.ρ).rows.take n.toNat ++ List.replicate (((ve.2.ev Γ.ρ).rows.length : Int) - n).toNat (cs_ Γ.ρ (adaptL P [] ks z)))] } { st with nx := st.nx + 1 + 1, vec := (i, some (te, .var (st.nx + 1))) :: st.vec } a w' := by
  subst c1
  have hv := (h.vec i ve hve).1
  have hvsm := hv.small 1
  obtain ⟨ks', us, hk', ⟨v0, hv0⟩, hl, hr, ho⟩ := hv
  obtain rfl : ks = ks' := Option.some.inj (hks.symm.trans hk')
  have hrl : ((ve.2.ev Γ.ρ).rows.length : Int) ≤ 9223372036854775807 := by rw [hv0] at hvsm; exact hvsm.1
  obtain ⟨it, zv, hit, hzz, hzc⟩ := zeroLf_spec hz Γ
  have hsz := (kinds_size hks).1
  have hisz : it.size = ks.length := by simp only [sizeIs, hit, Option.map_some, Option.some.injEq] at hsz; exact hsz
  have hzlen : z.length = ks.length := by have := kindsL_len c5; rw [← this]; exact (adaptL_len P [] ks z).symm
  have hzsize : zv.cells.size = ks.length := by rw [hzc, dens_size]; exact hzlen
  have hzok : ∀ l ∈ adaptL P [] ks z, l.ok P w (Own Γ st) Γ ∧ l.isVec = false := fun l hl => adaptL_cst (zero_cst hz) l hl
  have hob0 : Obs Γ.ρ (rngL st.bds (adaptL P [] ks z)) := by rw [c8]; exact fun b hb => by cases hb
  have hrep := Ls_rep (P := P) (w := w) (O := Own Γ st) h.num c5 (kindsL_noVec c5 c7 fun l hl => (hzok l hl).1) hob0
  have hcr := CReps.of_LReps hrep c7
  have hden : (adaptL P [] ks z).map (Lf.den Γ) = zv.cells.toList := by
    rw [adaptL_den0]
    have : zv.cells = dens Γ z := hzc
    rw [this]; simp [dens]
  rw [hden] at hcr
  have hzl : zv.cells.toList.length = ks.length := by simpa using hzsize
  have hone := hcr.one
  generalize hzr : cs_ Γ.ρ (adaptL P [] ks z) = zr at *
  have hzrl : zr.length = ks.length := hcr.len.2
  generalize hrows : (ve.2.ev Γ.ρ).rows = rows at *
  obtain ⟨X, hX⟩ : ∃ X : Nat, n.toNat = X := ⟨_, rfl⟩
  obtain ⟨N, hN⟩ : ∃ N : Nat, ((rows.length : Int) - n).toNat = N := ⟨_, rfl⟩
  rw [hX, hN]
  have hXN : X + N = rows.length := by omega
  have hzs : CReps P w (Own Γ st) (rowsK N ks) (List.replicate N zv.cells.toList).flatten (List.replicate N zr).flatten := by
    have := CReps.rows (P := P) (w := w) (O := Own Γ st) (ks := ks) (rs := List.replicate N (zv.cells.toList, zr)) (fun r hr => by rw [List.eq_of_mem_replicate hr]; exact hcr)
    rw [List.length_replicate] at this
    rw [List.flatMap_def, List.flatMap_def, List.map_replicate, List.map_replicate] at this
    exact this
  have hzsl : (List.replicate N zv.cells.toList).flatten.length = N * ks.length := by
    rw [flatten_len (sz := ks.length) (fun r hr => by rw [List.eq_of_mem_replicate hr]; exact hzl), List.length_replicate]
  have hzrsl : (List.replicate N zr).flatten.length = N * ks.length := by
    rw [flatten_len (sz := ks.length) (fun r hr => by rw [List.eq_of_mem_replicate hr]; exact hzrl), List.length_replicate]
  have hzone := hzs.one
  have hsmall : ∀ m, (C.s (.slice none 0 0) (List.replicate N zr)).small m := fun m => by
    cases m with
    | zero => trivial
    | succ m =>
      refine ⟨by rw [List.length_replicate]; omega, fun r hr c hc => ?_⟩
      rw [List.eq_of_mem_replicate hr] at hc
      obtain ⟨j, hj⟩ := List.getElem?_of_mem hc
      have hjl : j < ks.length := by have := (List.getElem?_eq_some_iff.1 hj).1; omega
      obtain ⟨u, c', -, hc', hrep'⟩ := hcr.get (List.getElem?_eq_getElem hjl)
      rw [hj] at hc'; cases hc'
      exact hrep'.1 m
  -- the memory behind it
  have hus : us.length = rows.length * ks.length := ho.1
  have hXle : X * ks.length ≤ rows.length * ks.length := Nat.mul_le_mul_right _ (by omega)
  have hXNk : X * ks.length + N * ks.length = rows.length * ks.length := by rw [← Nat.add_mul, hXN]
  obtain ⟨v', w', hrun, hclr, hgrown, hown⟩ : ∃ v' w', (Instr.sliceAt t (at_ Γ.ρ i).loc (some (.int .i64 n)) none none).run P w = .ok v' w ∧ (Builtin.clear_ #[t] ty #[v']).run P w = .ok (.tuple #[]) w' ∧
      w.grownBy w' (at_ Γ.ρ i).loc.ownBlock ∧ w'.ownsRow 0 ve.1 ks.length (at_ Γ.ρ i).loc rows.length (us.take (X * ks.length) ++ (List.replicate N zv.cells.toList).flatten ++ us.drop (X * ks.length + N * ks.length)) := by
    have hlist : us.take (X * ks.length) ++ (List.replicate N zv.cells.toList).flatten ++ us.drop (X * ks.length + N * ks.length) = us.take (X * ks.length) ++ (List.replicate N zv.cells.toList).flatten := by
      rw [hXNk, List.drop_of_length_le (by omega), List.append_nil]
    rcases ho.2 with ⟨e1, e2⟩ | ⟨g, cap, cur, e1, hB, hg, hnc, hcm, hcs, hct⟩
    · have hp := run_part (w := w) (a := none) (n := 0) (cap := 0) (lo := some (.int .i64 n)) (hi := none) (l := n) (r := 0) hu hsz (.inr rfl) (.inl ⟨rfl, rfl⟩) h0 (by omega) (by omega) (by omega)
      have hn0 : n = 0 := by omega
      subst hn0
      have hX0 : X = 0 := by omega
      have hN0 : N = 0 := by omega
      subst hX0 hN0
      refine ⟨.slice none 0 0, w, by rw [e1, hp]; rfl, by simp [Builtin.clear_, run_underlying hu], World.grownBy.rfl' w _, ?_⟩
      rw [hlist]
      refine ⟨by simp; omega, .inl ⟨e1, e2⟩⟩
    · have hp := run_part (w := w) (a := some ⟨g, 0, none⟩) (n := rows.length) (cap := cap) (lo := some (.int .i64 n)) (hi := none) (l := n) (r := (rows.length : Int)) hu hsz (.inr rfl) (.inl ⟨rfl, rfl⟩) h0 h1 (by omega) hnc
      simp only [partLoc, hX, Int.toNat_natCast] at hp
      by_cases hNz : N = 0
      · subst hNz
        refine ⟨_, w, by rw [e1]; exact hp, ?_, World.grownBy.rfl' w _, ?_⟩
        · rw [show rows.length - X = 0 by omega]
          split <;> simp [Builtin.clear_, run_underlying hu]
        · rw [hlist]
          have : us.take (X * ks.length) ++ (List.replicate 0 zv.cells.toList).flatten = us := by simp; exact List.take_of_length_le (by rw [show X = rows.length by omega]; omega)
          rw [this]
          exact ho
      · rw [if_neg (by omega), show rows.length - X = N by omega] at hp
        have hst := run_storeCells_at (P := P) g (X * ks.length) ve.1 (List.replicate N zv.cells.toList).flatten 0 cur w hg (by rw [hzsl, hcs]; have := Nat.mul_le_mul_right ks.length hnc; omega) hzone
        rw [Nat.add_zero, hzsl] at hst
        have hzcell : (Builtin.zeroCells zv.cells N).toList = (List.replicate N zv.cells.toList).flatten := madeCells_list zv.cells N
        refine ⟨_, w.setRow g (cur.toList.take (X * ks.length) ++ (List.replicate N zv.cells.toList).flatten ++ cur.toList.drop (X * ks.length + N * ks.length)).toArray, by rw [e1]; exact hp, ?_, ?_, ?_⟩
        rotate_left
        · rw [e1]
          exact ⟨rfl, rfl, rfl, by simp [World.setRow], fun k _ hk => setRow_other w g k _ fun e => hk (by simp [Value.ownBlock, e])⟩
        · rw [hlist]
          have hcap : rows.length * ks.length ≤ cur.size := by rw [hcs]; exact Nat.mul_le_mul_right _ hnc
          refine ⟨by rw [List.length_append, List.length_take, hzsl]; omega, .inr ⟨g, cap, _, e1, hB, setRow_heap w g cur _ ve.1 _ hg, hnc, hcm, by simp only [List.size_toArray, List.length_append, List.length_take, List.length_drop, hzsl, Array.length_toList]; omega, ?_⟩⟩
          rw [← hct]
          simp only [List.toList_toArray]
          have hcl : cur.toList.length = cur.size := by simp
          rw [List.append_assoc, List.take_append, List.take_append, List.take_take, List.take_take, List.length_take, hcl, Nat.min_eq_left (show X * ks.length ≤ cur.size by omega), Nat.min_eq_right (show X * ks.length ≤ rows.length * ks.length by omega), Nat.min_eq_left (show X * ks.length ≤ rows.length * ks.length by omega), hzsl, List.take_of_length_le (i := rows.length * ks.length - X * ks.length) (l := (List.replicate N zv.cells.toList).flatten) (by rw [hzsl]; omega), show rows.length * ks.length - X * ks.length - N * ks.length = 0 by omega, List.take_zero, List.append_nil]
        · have hN' : ∃ m, N = m + 1 := ⟨N - 1, by omega⟩
          have hcl : (Builtin.clear_ #[t] ty #[.slice ((some (⟨g, 0, none⟩ : Addr)).map (·.add (X * ks.length))) N (cap - X)]).run P w = (do storeCells ((⟨g, 0, none⟩ : Addr).add (X * ks.length)) (Builtin.zeroCells zv.cells N).toList; pure (.tuple #[]) : Sem Value).run P w := by
            obtain ⟨m, rfl⟩ := hN'
            simp [Builtin.clear_, run_underlying hu, zeroValue, typeInfo, hit, hzz]
          rw [hcl, hzcell]
          have had : (⟨g, 0, none⟩ : Addr).add (X * ks.length) = ⟨g, X * ks.length, none⟩ := by unfold Addr.add; split <;> simp_all
          rw [had]
          simp only [Sem.run_bind, hst, Result.andThen_ok, Sem.run_pure]
  refine ⟨v', w', hrun, hclr, ?_⟩
  have hg := h.grow c6 (rs := [.s (.slice none 0 0) (List.replicate N zr)]) (h.num.len.app fun x hx m => by simp at hx; subst hx; exact hsmall m)
  have he : Ext Γ { Γ with ρ := Γ.ρ ++ [.s (.slice none 0 0) (List.replicate N zr)] } := ⟨⟨_, rfl⟩, fun _ _ => rfl, Nat.le_refl _, rfl, rfl⟩
  have hat := h.vec_at he hve
  have hrowb : ∀ b', (at_ Γ.ρ i).loc.ownBlock = some b' → ∀ o, Own Γ st b' o := fun b' e o => (Hold.vec (Γ := Γ) hve e).own o
  have := hg.vupd (St.wf_grow c6 _) (i := i) (e := ve) hve (c := .s (at_ Γ.ρ i).loc (rows.take X ++ List.replicate N zr)) (w' := w') (by rw [hat]; exact hgrown) ?_
  · exact this
  · rw [hat]
    have hownEq : ∀ b o, Own { Γ with ρ := Γ.ρ ++ [.s (.slice none 0 0) (List.replicate N zr)] } { st with nx := st.nx + [C.s (.slice none 0 0) (List.replicate N zr)].length } b o ↔ Own Γ st b o := fun b o => by
      rw [Own.iff, Own.iff]
      constructor
      · rintro (hb | ⟨s, j, hh⟩)
        · exact .inl hb
        · exact .inr ⟨s, j, Hold.congr (Γ := Γ) (st := st) (Γ' := { Γ with ρ := Γ.ρ ++ [.s (.slice none 0 0) (List.replicate N zr)] }) (st' := { st with nx := st.nx + [C.s (.slice none 0 0) (List.replicate N zr)].length }) (fun j mb hj => ⟨⟨mb, hj⟩, rfl⟩) (fun i e hi => ⟨⟨e, hi⟩, h.vec_at he hi⟩) hh⟩
      · rintro (hb | ⟨s, j, hh⟩)
        · exact .inl hb
        · exact .inr ⟨s, j, Hold.congr (Γ' := Γ) (st' := st) (Γ := { Γ with ρ := Γ.ρ ++ [.s (.slice none 0 0) (List.replicate N zr)] }) (st := { st with nx := st.nx + [C.s (.slice none 0 0) (List.replicate N zr)].length }) (fun j mb hj => ⟨⟨mb, hj⟩, rfl⟩) (fun i e hi => ⟨⟨e, hi⟩, (h.vec_at he hi).symm⟩) hh⟩
    have hO : (fun b o => Own { Γ with ρ := Γ.ρ ++ [.s (.slice none 0 0) (List.replicate N zr)] } { st with nx := st.nx + [C.s (.slice none 0 0) (List.replicate N zr)].length } b o ∨ w.heap.size ≤ b) = (fun b o => Own Γ st b o ∨ w.heap.size ≤ b) := by
      funext b o; exact propext (or_congr (hownEq b o) Iff.rfl)
    rw [hO]
    have hlen : (rows.take X ++ List.replicate N zr).length = rows.length := by rw [List.length_append, List.length_take, List.length_replicate]; omega
    refine ⟨ks, _, hks, ⟨_, rfl⟩, fun r hr' => ?_, ?_, by simp only [C.rows]; rw [hlen]; exact hown⟩
    · rcases List.mem_append.1 hr' with h2 | h2
      · exact hl r (List.mem_of_mem_take h2)
      · rw [List.eq_of_mem_replicate h2]; exact hzrl
    · simp only [C.rows]
      rw [hlen, List.flatten_append, ← flatten_take hl]
      have hseg : ((rowsK rows.length ks).drop (X * ks.length)).take (N * ks.length) = rowsK N ks := by
        have e1 : rowsK rows.length ks = rowsK X ks ++ rowsK N ks := by rw [← hXN]; unfold rowsK; rw [← List.replicate_append_replicate, List.flatten_append]
        have e2 : (rowsK X ks).length = X * ks.length := by simp [rowsK]
        have e3 : (rowsK N ks).length = N * ks.length := by simp [rowsK]
        rw [e1, ← e2, List.drop_left, ← e3, List.take_length]
      have := CReps.seg (hr.up hgrown hrowb) (n := X * ks.length) (m := N * ks.length) (by rw [hseg]; exact hzs.up hgrown hrowb)
      rw [List.drop_of_length_le (l := rows.flatten) (by rw [flatten_len hl]; omega), List.append_nil] at this
      exact this
section
variable {cx : Cx} {R : List C → Prop} {F : Nat → Prop} {w0 : World}
theorem doOp_sound (hcx : CxOK cx) {st : St} {o : Oper} {k : St → Option Tree} {T : Tree} (h : doOp cx st o k = some T) {Γ : Env} {Ls : List (List C → Prop)} (hl : Ls.length = st.lvl) (hvc : VC cx R T Γ.ρ Ls)
    {a : Act} {w : World} (hs : Sat cx.P F w0 Γ st a w) {K : Act → World → Prop} {Q : Exit → Act → World → Prop} (hk : Next cx R F w0 k Γ Ls K) : o.wp cx.P a w K Q := by
  have hv := hs.view o.op.operands
  unfold doOp at h
  split at h
  · rename_i obs sv hop
    have plain : ((st.learnAll obs).put o.dst (some sv)).bind (fun st => (k st).map (obT obs)) = some T → o.wp cx.P a w K Q := fun h => by
      cases hp : (st.learnAll obs).put o.dst (some sv) with
      | none => simp [hp] at h
      | some st' =>
        cases hk' : k st' with
        | none => simp [hp, hk'] at h
        | some T' =>
          simp [hp, hk'] at h
          subst h
          obtain ⟨hob, hvc'⟩ := VC.obT hvc
          obtain ⟨h1, h2⟩ := opVal_ok hop hv hob
          unfold Oper.wp
          rw [h1]
          exact hk st' T' Γ Ls hk' (Ext.refl Γ) (List.prefix_refl _) (by rw [St.put_lvl hp]; exact hl) hvc' _ _ ((hs.learn hob).put hp h2)
    split at h
    · rename_i s
      split at h
      · rename_i s' st1 n hn
        cases hp : st1.put o.dst (some (.one s')) with
        | none => simp [hp] at h
        | some st' =>
          cases hk' : k st' with
          | none => simp [hp, hk'] at h
          | some T' =>
            simp [hp, hk'] at h
            subst h
            obtain ⟨hob, hvc'⟩ := VC.obT hvc
            have hvc2 := VC.dfnN hvc'
            obtain ⟨h1, h2⟩ := opVal_ok hop hv hob
            obtain ⟨e1, e2, e3, e4, e5, -⟩ := (hs.learn hob).nils hn h2
            unfold Oper.wp
            rw [h1]
            have hput := e2.put hp (sv := .one s') e4
            rw [show (SV.one s').den { Γ with ρ := Γ.ρ ++ List.replicate n nilC } = (SV.one s).den Γ from e3] at hput
            exact hk st' T' _ Ls hk' e1 (List.prefix_refl _) (by rw [St.put_lvl hp, e5]; exact hl) hvc2 _ _ hput
      · exact plain h
    · exact plain h
  · split at h
    · rename_i op t x y yt hopeq
      split at h
      · rename_i te ta e l neg hte hx hy hneg
        split at h
        · rename_i hcond
          obtain ⟨rfl, hnil⟩ := hcond
          cases hp1 : st.put o.dst (some (.one (.lf (.bool (.lit (!neg)))))) with
          | none => simp [hp1] at h
          | some st1 =>
            cases hp0 : st.put o.dst (some (.one (.lf (.bool (.lit neg))))) with
            | none => simp [hp1, hp0] at h
            | some st0 =>
              cases hk1 : k st1 with
              | none => simp [hp1, hp0, hk1] at h
              | some t1 =>
                cases hk0 : k st0 with
                | none => simp [hp1, hp0, hk1, hk0] at h
                | some t0 =>
                  simp [hp1, hp0, hk1, hk0] at h
                  subst h
                  obtain ⟨hx1, hx2⟩ := hv.lf (by rw [hopeq]; simp [Op.operands]) hx
                  obtain ⟨hy1, -⟩ := hv.lf (by rw [hopeq]; simp [Op.operands]) hy
                  have hl0 : l.den Γ = .slice none 0 0 := by
                    unfold Lf.isNil at hnil
                    split at hnil
                    · rfl
                    · cases hnil
                  have hx2 : ArrOK cx.P w (Own Γ st) ta (e.ev Γ.ρ) := hx2
                  obtain ⟨v0, rows, hc, d, S, hS, hA⟩ := hx2
                  cases d with
                  | zero => exact hA.elim
                  | succ d =>
                    obtain ⟨ks, hkk, ad, cap, hv0, hh⟩ := hA
                    have hloc : (e.ev Γ.ρ).loc = .slice ad rows.length cap := by rw [hc]; exact hv0
                    have hrun : (execOp a.eval o).run cx.P w = .ok (.value (.bool (if neg then !ad.isNone else ad.isNone))) w := by
                      unfold execOp
                      rw [hopeq]
                      have hx1' : a.eval x = .slice ad rows.length cap := by rw [hx1]; exact hloc
                      rw [hl0] at hy1
                      simp only [hx1', hy1]
                      have hu := sliceOf_eq hte
                      unfold eqNeg at hneg
                      split at hneg
                      · cases hneg
                        have := Lib.run_equalIn_slice_nil w 9999 t ta ad rows.length cap 0 0 hu
                        simp only [eqGuard, binOp]
                        simp [Op.equal, Op.maxDepth, this]
                      · cases hneg
                        have := Lib.run_equalIn_slice_nil w 9999 t ta ad rows.length cap 0 0 hu
                        simp only [eqGuard, binOp]
                        simp [Op.equal, Op.maxDepth, this]
                      · cases hneg
                    unfold Oper.wp
                    rw [hrun]
                    obtain ⟨hb1, hb0⟩ := hvc
                    cases ad with
                    | none =>
                      have hr : rows = [] := by
                        by_cases hr : rows = []
                        · exact hr
                        · obtain ⟨b, o', he, -⟩ := hh hr; cases he
                      have hlen : (B.cmp .eq (.len e) (.lit 0)).den Γ.ρ = true := by
                        simp only [B.den, Cmp.den, E.den_len, E.den_lit, hc, C.rows, hr]; rfl
                      have := hs.put hp1 (sv := .one (.lf (.bool (.lit (!neg))))) (one_ok trivial)
                      have hval : (if neg = true then !(none : Option Addr).isNone else (none : Option Addr).isNone) = !neg := by cases neg <;> rfl
                      rw [hval]
                      exact hk st1 t1 Γ Ls hk1 (Ext.refl Γ) (List.prefix_refl _) (by rw [St.put_lvl hp1]; exact hl) (hb1.1 hlen) _ _ this
                    | some ad =>
                      have := hs.put hp0 (sv := .one (.lf (.bool (.lit neg)))) (one_ok trivial)
                      have hval : (if neg = true then !(some ad).isNone else (some ad).isNone) = neg := by cases neg <;> rfl
                      rw [hval]
                      exact hk st0 t0 Γ Ls hk0 (Ext.refl Γ) (List.prefix_refl _) (by rw [St.put_lvl hp0]; exact hl) hb0 _ _ this
        · cases h
      · cases h
    · rename_i t hopeq
      split at h
      · rename_i cs hz
        obtain ⟨it, z, hi, hzz, hc⟩ := zeroLf_spec hz Γ
        have zok : ∀ l ∈ cs, l.ok cx.P w (Own Γ st) Γ := fun l hl => by
          unfold zeroLf at hz
          split at hz
          · rename_i it hi
            cases hzz : it.zero with
            | none => simp [hzz] at hz
            | some zv =>
              simp [hzz] at hz
              subst hz
              obtain ⟨v, -, rfl⟩ := List.mem_map.1 hl
              unfold Lf.ofValue
              split <;> trivial
          · cases hz
        have hrun : (execOp a.eval o).run cx.P w = .ok (.value (.pointer (some ⟨w.heap.size, 0, none⟩))) (w.alloc (.cells (dens Γ cs) t)) := by
          unfold execOp
          rw [hopeq]
          simp [Instr.alloc, zeroValue, run_typeInfo' hi, hzz, newVar, newRow, hc]
        split at h
        · rename_i s' st0 n hn
          obtain ⟨e1, e2, -, e4, e5, e6, e7, e8, e9⟩ := hs.nils hn (s := .agg cs) zok
          cases hf : st0.fresh t s'.cells with
          | none => simp [hf] at h
          | some st1 =>
            cases hp : st1.put o.dst (some (.one (.lf (.ptr st.nb 0)))) with
            | none => simp [hf, hp] at h
            | some st' =>
              cases hk' : k st' with
              | none => simp [hf, hp, hk'] at h
              | some T' =>
                simp [hf, hp, hk'] at h
                subst h
                have hvc2 := VC.dfnN hvc
                obtain ⟨Γ', he, hρ, hb, hs', hlvl⟩ := e2.fresh hf e4
                have hd : dens { Γ with ρ := Γ.ρ ++ List.replicate n nilC } s'.cells = dens Γ cs := by unfold dens; rw [e9]; rfl
                rw [hd] at hs'
                unfold Oper.wp
                rw [hrun]
                have hput := hs'.put (sv := .one (.lf (.ptr st.nb 0))) hp (one_ok trivial)
                rw [e6] at hb
                simp only [SV.den, S0.den, Lf.den, hb] at hput
                exact hk st' T' Γ' Ls hk' (e1.trans he) (List.prefix_refl _) (by rw [St.put_lvl hp, hlvl, e5]; exact hl) (by rw [hρ]; exact hvc2) _ _ hput
        · cases hf : st.fresh t cs with
          | none => simp [hf] at h
          | some st1 =>
            cases hp : st1.put o.dst (some (.one (.lf (.ptr st.nb 0)))) with
            | none => simp [hf, hp] at h
            | some st' =>
              simp [hf, hp] at h
              obtain ⟨Γ', he, hρ, hb, hs', hlvl⟩ := hs.fresh hf zok
              unfold Oper.wp
              rw [hrun]
              have hput := hs'.put (sv := .one (.lf (.ptr st.nb 0))) hp (one_ok trivial)
              simp only [SV.den, S0.den, Lf.den, hb] at hput
              exact hk st' T Γ' Ls h he (List.prefix_refl _) (by rw [St.put_lvl hp, hlvl]; exact hl) (by rw [hρ]; exact hvc) _ _ hput
      · cases h
    · rename_i t x hopeq
      split at h
      · rename_i s hx
        obtain ⟨hx1, hx2⟩ := hv.s0 (by rw [hopeq]; simp [Op.operands]) hx
        cases hf : st.fresh t s.cells with
        | none => simp [hf] at h
        | some st1 =>
          cases hp : st1.put o.dst (some (.one (.lf (.ptr st.nb 0)))) with
          | none => simp [hf, hp] at h
          | some st' =>
            simp [hf, hp] at h
            obtain ⟨Γ', he, hρ, hb, hs', hlvl⟩ := hs.fresh hf hx2
            have hfl : s.cells.all Lf.flat = true := by
              unfold St.fresh at hf
              split at hf
              · rename_i hc; simp only [Bool.and_eq_true] at hc; exact hc.2
              · cases hf
            have hcell : (s.den Γ).cells = dens Γ s.cells := S0.den_cells Γ s fun l hl => one_cells (Lf.one_cell (List.all_eq_true.1 hfl l hl) (hx2 l hl))
            have hrun : (execOp a.eval o).run cx.P w = .ok (.value (.pointer (some ⟨w.heap.size, 0, none⟩))) (w.alloc (.cells (dens Γ s.cells) t)) := by
              unfold execOp
              rw [hopeq]
              simp [Instr.box, newVar, newRow, hx1, hcell]
            unfold Oper.wp
            rw [hrun]
            have hput := hs'.put (sv := .one (.lf (.ptr st.nb 0))) hp (one_ok trivial)
            simp only [SV.den, S0.den, Lf.den, hb] at hput
            exact hk st' T Γ' Ls h he (List.prefix_refl _) (by rw [St.put_lvl hp, hlvl]; exact hl) (by rw [hρ]; exact hvc) _ _ hput
      · cases h
    · rename_i t p x hopeq
      split at h
      · rename_i b off s hp hx
        obtain ⟨hx1, hx2⟩ := hv.s0 (by rw [hopeq]; simp [Op.operands]) hx
        obtain ⟨hp1, -⟩ := hv.lf (by rw [hopeq]; simp [Op.operands]) hp
        split at h
        · rename_i mb n hm hn
          split at h
          · rename_i hc
            obtain ⟨hc1, hc2, hc3⟩ := hc
            have hcell : (s.den Γ).cells = dens Γ s.cells := S0.den_cells Γ s fun l hl => one_cells (Lf.one_cell (List.all_eq_true.1 hc3 l hl) (hx2 l hl))
            have hm1 : w.heap[Γ.blk b]? = some (.cells (dens Γ mb.2) mb.1 (0, 0)) := (hs.mem b mb hm).1
            have hlen : (dens Γ s.cells).toList = s.cells.map (Lf.den Γ) := by simp [dens]
            have hrun : (execOp a.eval o).run cx.P w = .ok .skip (w.setRow (Γ.blk b) ((dens Γ mb.2).toList.take off ++ (s.cells.map (Lf.den Γ)) ++ (dens Γ mb.2).toList.drop (off + s.cells.length)).toArray) := by
              have hsc := run_storeCells_at (P := cx.P) (Γ.blk b) off mb.1 (s.cells.map (Lf.den Γ)) 0 (dens Γ mb.2) w hm1 (by simp [dens_size]; omega) (fun v hv => by
                obtain ⟨l, hl, rfl⟩ := List.mem_map.1 hv
                exact Lf.one_cell (List.all_eq_true.1 hc3 l hl) (hx2 l hl))
              simp only [Nat.add_zero, List.length_map] at hsc
              unfold execOp
              rw [hopeq]
              simp only [Instr.storeAt, hp1, Lf.den, Instr.sureAddr, storeVar, hx1, hcell, Sem.run_bind, Sem.run_pure, Result.andThen_ok, pure_bind, run_sizeOf' hn, dens_size, hc1, ne_eq, not_true_eq_false, if_false, hlen, hsc]
            split at h
            · rename_i s' stn m hnil
              obtain ⟨e1, e2, -, e4, e5, -, e7, -, e9⟩ := hs.nils hnil hx2
              have hl' : s'.cells.length = s.cells.length := by have := congrArg List.length e9; simpa using this
              generalize hst1 : ({ stn with mem := (b, some (mb.1, mb.2.take off ++ s'.cells ++ mb.2.drop (off + n))) :: stn.mem } : St) = st1 at h
              cases hput : st1.put o.dst none with
              | none => simp [hput] at h
              | some st' =>
                cases hk' : k st' with
                | none => simp [hput, hk'] at h
                | some T' =>
                  simp [hput, hk'] at h
                  subst h
                  have hvc2 := VC.dfnN hvc
                  have hm' : look stn.mem b = some mb := by rw [e7]; exact hm
                  have hd : dens { Γ with ρ := Γ.ρ ++ List.replicate m nilC } mb.2 = dens Γ mb.2 := by
                    have h2 : w.heap[Γ.blk b]? = some (.cells (dens { Γ with ρ := Γ.ρ ++ List.replicate m nilC } mb.2) mb.1 (0, 0)) := (e2.mem b mb hm').1
                    rw [hm1] at h2
                    injection h2 with h2
                    injection h2 with h2
                    exact h2.symm
                  unfold Oper.wp
                  rw [hrun]
                  have hst := e2.store (off := off) hm' (cs := s'.cells) (by rw [hl', hc1]; exact hc2) e4
                  rw [hd, e9, hl', hc1] at hst
                  rw [hst1] at hst
                  rw [hc1]
                  have hlvl : st1.lvl = st.lvl := by rw [← hst1]; exact e5
                  exact hk st' T' _ Ls hk' e1 (List.prefix_refl _) (by rw [St.put_lvl hput, hlvl]; exact hl) hvc2 _ _ (hst.drop hput undef)
            generalize hst1 : ({ st with mem := (b, some (mb.1, mb.2.take off ++ s.cells ++ mb.2.drop (off + n))) :: st.mem } : St) = st1 at h
            cases hput : st1.put o.dst none with
            | none => simp [hput] at h
            | some st' =>
              simp [hput] at h
              unfold Oper.wp
              rw [hrun]
              have hst := hs.store (off := off) hm (cs := s.cells) (by rw [hc1]; exact hc2) hx2
              rw [hc1] at hst
              rw [hst1] at hst
              rw [hc1]
              have hlvl : st1.lvl = st.lvl := by rw [← hst1]
              exact hk st' T Γ Ls h (Ext.refl Γ) (List.prefix_refl _) (by rw [St.put_lvl hput, hlvl]; exact hl) hvc _ _ (hst.drop hput undef)
          · cases h
        · cases h
      · rename_i te sz i e off s hp hx
        split at h
        · rename_i ve ks n hve hks hn
          split at h
          · rename_i hc
            obtain ⟨c1, c2, c3, c4, c5, c6, c7⟩ := hc
            generalize hst1 : ({ st with nx := st.nx + 1, vec := (i, some (te, .var st.nx)) :: st.vec } : St) = st1 at h
            cases hput : st1.put o.dst none with
            | none => simp [hput] at h
            | some st' =>
              cases hk' : k st' with
              | none => simp [hput, hk'] at h
              | some T' =>
                simp [hput, hk'] at h
                subst h
                obtain ⟨hob, hvc'⟩ := VC.obT hvc
                obtain ⟨hx1, hx2⟩ := hv.s0 (by rw [hopeq]; simp [Op.operands]) hx
                obtain ⟨hp1, hp2⟩ := hv.lf (by rw [hopeq]; simp [Op.operands]) hp
                obtain ⟨w', g1, g2⟩ := hs.vstore hve hks hn c1 c2 c3 c4 c5 c6 c7 hp2 hx2 rfl hob
                have hrun : (execOp a.eval o).run cx.P w = .ok .skip w' := by
                  unfold execOp
                  rw [hopeq]
                  simp only [hx1, hp1, Sem.run_bind, g1, Result.andThen_ok, Sem.run_pure]
                unfold Oper.wp
                rw [hrun]
                rw [hst1] at g2
                have hlvl : st1.lvl = st.lvl := by rw [← hst1]
                exact hk st' T' { Γ with ρ := Γ.ρ ++ [.s (at_ Γ.ρ i).loc (updRow (ve.2.ev Γ.ρ).rows (e.den Γ.ρ).toNat off (cs_ Γ.ρ (adaptL cx.P [] ((ks.drop off).take n) s.cells)))] } Ls hk' ⟨⟨_, rfl⟩, fun _ _ => rfl, Nat.le_refl _, rfl, rfl⟩ (List.prefix_refl _) (by rw [St.put_lvl hput, hlvl]; exact hl) (hvc' _) _ _ (g2.drop hput undef)
          · cases h
        · cases h
      · cases h
    · rename_i t len ps hopeq
      split at h
      · rename_i te hte
        have hu := sliceOf_eq hte
        split at h
        · rename_i ks z r hkd hz hr
          split at h
          · rename_i rows hrows
            split at h
            · rename_i hcond
              simp only [Bool.and_eq_true] at hcond
              obtain ⟨⟨⟨⟨hwf, hno⟩, hlen⟩, hbig⟩, hzl⟩ := hcond
              have hlen := Nat.eq_of_beq_eq_true hlen
              have hbig := Nat.le_of_ble_eq_true hbig
              have hzl := Nat.eq_of_beq_eq_true hzl
              generalize hst1 : ({ st with nx := st.nx + 1, vec := (st.nx, some (te, .var st.nx)) :: st.vec } : St) = st1 at h
              cases hp : st1.put o.dst (some (.one (.lf (.vec te st.nx)))) with
              | none => simp [hp] at h
              | some st' =>
                cases hk' : k st' with
                | none => simp [hp, hk'] at h
                | some T' =>
                  simp [hp, hk'] at h
                  subst h
                  obtain ⟨hob, hvc'⟩ := VC.obT hvc
                  obtain ⟨hp1, hp2⟩ := parts_ok hv ps.toList r hr (fun p hp => by rw [hopeq]; simp [Op.operands]; exact ⟨p.1, by simpa using hp⟩)
                  obtain ⟨hr1, hr2⟩ := rowsOf_len ks r 0 rows hrows
                  have hcell : ∀ p ∈ r, ∀ l ∈ p.2.cells, (l.den Γ).cells = #[l.den Γ] := fun p hp l hl => one_cells (Lf.one_cell (List.all_eq_true.1 (hp2 p hp).2 l hl) ((hp2 p hp).1 l hl))
                  obtain ⟨it, zv, hit, hzz, hzc⟩ := zeroLf_spec hz Γ
                  have hsz := (kinds_size hkd).1
                  have hflat : rows.flatten.length = len * ks.length := by rw [flatten_len (fun r hr => kindsL_len (hr1 r hr)), hlen]
                  have hrun : (execOp a.eval o).run cx.P w = .ok (.value (.slice (some ⟨w.heap.size, 0, none⟩) len len)) (w.alloc (.cells (dens Γ rows.flatten) te)) := by
                    have hf : ∀ init : Array Value, init.size = len * ks.length → Instr.fill (fun i => some (i * ks.length, ks.length)) init (ps.toList.map fun p => (p.1, a.eval p.2)) = some (dens Γ rows.flatten) := fun init hi => by
                      rw [hp1, fill_rows r 0 rows ks init rfl hrows hcell (by rw [Nat.zero_add, hlen, hi]; exact Nat.le_refl _)]
                      congr 1
                      rw [Nat.zero_mul, List.take_zero, List.nil_append, Nat.zero_add, hlen, List.drop_eq_nil_of_le (by simp [hi]), List.append_nil]
                      rfl
                    unfold execOp
                    rw [hopeq]
                    simp only [Instr.buildSlice, Sem.run_bind, run_underlying hu, Result.andThen_ok, run_sizeOf' hsz]
                    rw [if_neg (by omega)]
                    have hzsize : zv.cells.size = ks.length := by rw [hzc, dens_size]; exact hzl
                    by_cases h0 : len * ks.length = 0
                    · simp only [h0, if_true, Sem.run_bind, Sem.run_pure, Result.andThen_ok]
                      have := hf (Array.map (fun x => (#[] : Array Value)[x % (#[] : Array Value).size]!) (Array.range 0)) (by simp [h0])
                      rw [show (ps.map fun x => match x with | (i, x) => (i, a.eval x)).toList = ps.toList.map fun p => (p.1, a.eval p.2) from by simp, this]
                      simp [newRow]
                    · simp only [if_neg h0, Sem.run_bind, zeroValue, run_typeInfo' hit, hzz, Sem.run_pure, Result.andThen_ok]
                      have := hf (Array.map (fun x => zv.cells[x % zv.cells.size]!) (Array.range (len * ks.length))) (by simp)
                      rw [show (ps.map fun x => match x with | (i, x) => (i, a.eval x)).toList = ps.toList.map fun p => (p.1, a.eval p.2) from by simp, this]
                      simp [newRow]
                  unfold Oper.wp
                  rw [hrun]
                  have hrok : ∀ r ∈ rows, ∀ l ∈ r, l.ok cx.P w (Own Γ st) Γ := fun r hr l hl => by
                    obtain ⟨p, hp, e⟩ := hr2 r hr
                    exact (hp2 p hp).1 l (by rw [← e]; exact hl)
                  have hks0 : ks.length ≠ 0 := (kinds_size hkd).2
                  have hlb : len ≤ len * ks.length := Nat.le_mul_of_pos_right _ (by omega)
                  have hlaid := VecOK.laid (st := st) hkd (rows := rows.map (cs_ Γ.ρ)) (cs := dens Γ rows.flatten) (by
                    rw [List.length_map]
                    exact rows_CReps hs.num hno hr1 hrok hob) (fun r hr => by
                    obtain ⟨r', hr', rfl⟩ := List.mem_map.1 hr
                    simp [cs_, kindsL_len (hr1 r' hr')]) (by rw [List.length_map, hlen]; simp only [maxLen]; omega)
                  rw [List.length_map, hlen] at hlaid
                  have hnew := hs.vnew hwf (c := .s (.slice (some ⟨w.heap.size, 0, none⟩) len len) (rows.map (cs_ Γ.ρ))) (te := te) (w' := w.alloc (.cells (dens Γ rows.flatten) te)) (row := none) (ci := none) rfl (World.grownBy_alloc w _ none) hlaid (fun b hb => by cases hb; exact .inr (Nat.le_refl _))
                  simp only [dropV] at hnew
                  rw [hst1] at hnew
                  have hat : at_ (Γ.ρ ++ [C.s (.slice (some ⟨w.heap.size, 0, none⟩) len len) (rows.map (cs_ Γ.ρ))]) st.nx = C.s (.slice (some ⟨w.heap.size, 0, none⟩) len len) (rows.map (cs_ Γ.ρ)) := by rw [← hs.len]; exact at_app (j := 0) (by simp)
                  have hput := hnew.put hp (one_ok (by simp only [Lf.ok, hat]; exact ⟨_, _, _, rfl⟩))
                  simp only [SV.den, S0.den, Lf.den, hat, C.loc] at hput
                  have hlvl : st1.lvl = st.lvl := by rw [← hst1]
                  exact hk st' T' { Γ with ρ := Γ.ρ ++ [C.s (.slice (some ⟨w.heap.size, 0, none⟩) len len) (rows.map (cs_ Γ.ρ))] } Ls hk' ⟨⟨_, rfl⟩, fun _ _ => rfl, Nat.le_refl _, rfl, rfl⟩ (List.prefix_refl _) (by rw [St.put_lvl hp, hlvl]; exact hl) (hvc' _) _ _ hput
            · cases h
          · cases h
        · cases h
      · cases h
    · rename_i t n m hopeq
      split at h
      · rename_i te e e' hte hn hm
        have hu := sliceOf_eq hte
        split at h
        · rename_i ks z it hkd hz hit
          split at h
          · rename_i hcond
            obtain ⟨rfl, c2, hwf, hno, c8⟩ := hcond
            generalize hst1 : ({ st with nx := st.nx + 1, vec := (st.nx, some (te, .var st.nx)) :: st.vec } : St) = st1 at h
            cases hp : st1.put o.dst (some (.one (.lf (.vec te st.nx)))) with
            | none => simp [hp] at h
            | some st' =>
              cases hk' : k st' with
              | none => simp [hp, hk'] at h
              | some T' =>
                simp [hp, hk'] at h
                subst h
                obtain ⟨hob, hvc'⟩ := VC.obT hvc
                obtain ⟨ob1, ob23⟩ := Obs.app hob
                obtain ⟨ob2, ob3⟩ := Obs.app ob23
                have g1 := need_ok ob1
                have g2 := need_ok ob2
                have g3 := need_ok ob3
                rw [B.den_mkCmp hs.num] at g1 g2 g3
                have g1 : 0 ≤ e.den Γ.ρ := of_decide_eq_true g1
                have g2 : (it.bytes : Int) * e.den Γ.ρ ≤ 281474976710656 := of_decide_eq_true g2
                have g3 : e.den Γ.ρ ≤ 9223372036854775807 := of_decide_eq_true g3
                obtain ⟨hn1, -⟩ := hv.lf (by rw [hopeq]; simp [Op.operands]) hn
                obtain ⟨hm1, -⟩ := hv.lf (by rw [hopeq]; simp [Op.operands]) hm
                obtain ⟨it', zv, hit', hzz, hzc⟩ := zeroLf_spec hz Γ
                obtain rfl : it = it' := Option.some.inj (hit.symm.trans hit')
                have hsz := (kinds_size hkd).1
                have hisz : it.size = ks.length := by simp only [sizeIs, hit, Option.map_some, Option.some.injEq] at hsz; exact hsz
                have hzlen : z.length = ks.length := by have := kindsL_len c2; rw [← this]; exact (adaptL_len cx.P [] ks z).symm
                have hzsize : zv.cells.size = ks.length := by rw [hzc, dens_size]; exact hzlen
                have hrun : (execOp a.eval o).run cx.P w = .ok (.value (.slice (some ⟨w.heap.size, 0, none⟩) (e.den Γ.ρ).toNat (e.den Γ.ρ).toNat)) (w.alloc (.cells (madeCells zv.cells ((e.den Γ.ρ).toNat * it.size)) te)) := by
                  unfold execOp
                  rw [hopeq]
                  simp only [hn1, hm1, Lf.den, Sem.run_bind]
                  rw [run_make w t te it zv hu hit hzz .i64 .i64 _ _ g1 (Int.le_refl _) g2 g3]
                  simp only [Result.andThen_ok, Sem.run_pure]
                unfold Oper.wp
                rw [hrun]
                have hzok : ∀ l ∈ adaptL cx.P [] ks z, l.ok cx.P w (Own Γ st) Γ ∧ l.isVec = false := fun l hl => by
                  have h1 := zero_cst hz
                  exact adaptL_cst h1 l hl
                have hob0 : Obs Γ.ρ (rngL st.bds (adaptL cx.P [] ks z)) := by rw [c8]; exact fun b hb => by cases hb
                have hrep := Ls_rep (P := cx.P) (w := w) (O := Own Γ st) hs.num c2 (kindsL_noVec c2 hno fun l hl => (hzok l hl).1) hob0
                have hcr := CReps.of_LReps hrep hno
                have hden : (adaptL cx.P [] ks z).map (Lf.den Γ) = zv.cells.toList := by
                  rw [adaptL_den0]
                  have : zv.cells = dens Γ z := hzc
                  rw [this]; simp [dens]
                rw [hden] at hcr
                generalize hN : (e.den Γ.ρ).toNat = N at *
                have hNm : N ≤ maxLen := by simp only [maxLen]; omega
                have hlaid := VecOK.laid (st := st) hkd (rows := List.replicate N (cs_ Γ.ρ (adaptL cx.P [] ks z))) (cs := madeCells zv.cells (N * it.size)) (by
                  rw [List.length_replicate, hisz, ← hzsize, madeCells_list]
                  have := CReps.rows (P := cx.P) (w := w) (O := Own Γ st) (ks := ks) (rs := List.replicate N (zv.cells.toList, cs_ Γ.ρ (adaptL cx.P [] ks z))) (fun r hr => by rw [List.eq_of_mem_replicate hr]; exact hcr)
                  rw [List.length_replicate] at this
                  rw [List.flatMap_def, List.flatMap_def, List.map_replicate, List.map_replicate] at this
                  exact this) (fun r hr => by rw [List.eq_of_mem_replicate hr]; simp [cs_, kindsL_len c2]) (by rw [List.length_replicate]; exact hNm)
                rw [List.length_replicate] at hlaid
                have hnew := hs.vnew hwf (c := .s (.slice (some ⟨w.heap.size, 0, none⟩) N N) (List.replicate N (cs_ Γ.ρ (adaptL cx.P [] ks z)))) (te := te) (w' := w.alloc (.cells (madeCells zv.cells (N * it.size)) te)) (row := none) (ci := none) rfl (World.grownBy_alloc w _ none) hlaid (fun b hb => by cases hb; exact .inr (Nat.le_refl _))
                simp only [dropV] at hnew
                rw [hst1] at hnew
                have hat : at_ (Γ.ρ ++ [C.s (.slice (some ⟨w.heap.size, 0, none⟩) N N) (List.replicate N (cs_ Γ.ρ (adaptL cx.P [] ks z)))]) st.nx = C.s (.slice (some ⟨w.heap.size, 0, none⟩) N N) (List.replicate N (cs_ Γ.ρ (adaptL cx.P [] ks z))) := by rw [← hs.len]; exact at_app (j := 0) (by simp)
                have hput := hnew.put hp (one_ok (by simp only [Lf.ok, hat]; exact ⟨_, _, _, rfl⟩))
                simp only [SV.den, S0.den, Lf.den, hat, C.loc] at hput
                have hlvl : st1.lvl = st.lvl := by rw [← hst1]
                have hvc2 := hvc' (.slice (some ⟨w.heap.size, 0, none⟩) N N)
                rw [hN] at hvc2
                exact hk st' T' { Γ with ρ := Γ.ρ ++ [C.s (.slice (some ⟨w.heap.size, 0, none⟩) N N) (List.replicate N (cs_ Γ.ρ (adaptL cx.P [] ks z)))] } Ls hk' ⟨⟨_, rfl⟩, fun _ _ => rfl, Nat.le_refl _, rfl, rfl⟩ (List.prefix_refl _) (by rw [St.put_lvl hp, hlvl]; exact hl) hvc2 _ _ hput
          · cases h
        · cases h
      · cases h
    · rename_i f first captured hopeq
      split at h
      · rename_i fs cs hfs hcs
        split at h
        · rename_i hcond
          simp only [Bool.and_eq_true] at hcond
          obtain ⟨⟨⟨hwf, hw1⟩, hw2⟩, hone⟩ := hcond
          generalize hst1 : ({ st with nx := st.nx + 1, clo := (st.nx, some (f, fs, cs.flatMap S0.cells)) :: st.clo } : St) = st1 at h
          cases hp : st1.put o.dst (some (.one (.lf (.clo st.nx)))) with
          | none => simp [hp] at h
          | some st' =>
            cases hk' : k st' with
            | none => simp [hp, hk'] at h
            | some T' =>
              simp [hp, hk'] at h
              subst h
              obtain ⟨hf1, hf2⟩ := s0s_ok hv first.toList fs hfs (fun x hx => by rw [hopeq]; simp [Op.operands]; exact .inl (by simpa using hx))
              obtain ⟨hc1, hc2⟩ := s0s_ok hv captured.toList cs hcs (fun x hx => by rw [hopeq]; simp [Op.operands]; exact .inr (by simpa using hx))
              have hflat : cs.map (S0.den Γ) = (cs.flatMap S0.cells).map (Lf.den Γ) := by
                clear hcs hc1 hc2 hw2 hst1
                induction cs with
                | nil => rfl
                | cons s cs ih =>
                  simp only [List.all_cons, Bool.and_eq_true] at hone
                  rw [List.flatMap_cons, List.map_append, List.map_cons, ih hone.2]
                  cases s with
                  | lf l => rfl
                  | agg l => exact absurd hone.1.2 (by simp)
              generalize hcv : C.s (.func (.func f) (fs.map (S0.den Γ)).toArray ((cs.flatMap S0.cells).map (Lf.den Γ)).toArray) [] = c
              have hrun : (execOp a.eval o).run cx.P w = .ok (.value (.func (.func f) (fs.map (S0.den Γ)).toArray ((cs.flatMap S0.cells).map (Lf.den Γ)).toArray)) w := by
                unfold execOp
                rw [hopeq]
                have e1 : first.map a.eval = (fs.map (S0.den Γ)).toArray := by apply Array.ext'; simp [hf1]
                have e2 : captured.map a.eval = ((cs.flatMap S0.cells).map (Lf.den Γ)).toArray := by apply Array.ext'; rw [← hflat]; simp [hc1]
                simp only [Instr.makeFunc, e1, e2, Sem.run_bind, Sem.run_pure, Result.andThen_ok]
              unfold Oper.wp
              rw [hrun]
              have hsm : Smalls (Γ.ρ ++ [c]) := hs.num.len.app fun x hx n => by simp at hx; subst hx; rw [← hcv]; cases n <;> simp [C.small]
              have he : Ext Γ { Γ with ρ := Γ.ρ ++ [c] } := ⟨⟨_, rfl⟩, fun _ _ => rfl, Nat.le_refl _, rfl, rfl⟩
              have hgrow := hs.grow hwf hsm
              simp only [List.length_cons, List.length_nil, Nat.zero_add] at hgrow
              have hat : at_ (Γ.ρ ++ [c]) st.nx = c := by rw [← hs.len]; exact at_app (j := 0) (by simp)
              have hfw : ∀ s ∈ fs, s.wf Γ.ρ.length Γ.nb = true := fun s hs' => by rw [hs.len, hs.nb]; exact List.all_eq_true.1 hw1 s hs'
              have hcw : ∀ s ∈ cs, s.wf Γ.ρ.length Γ.nb = true := fun s hs' => by rw [hs.len, hs.nb]; exact List.all_eq_true.1 hw2 s hs'
              have hcl : ∀ l ∈ cs.flatMap S0.cells, l.wf Γ.ρ.length Γ.nb = true ∧ l.ok cx.P w (Own Γ st) Γ := fun l hl => by
                obtain ⟨s, hs', hl⟩ := List.mem_flatMap.1 hl
                refine ⟨?_, hc2 s hs' l hl⟩
                have := hcw s hs'
                cases s with
                | lf x => simp [S0.cells] at hl; subst hl; exact this
                | agg ls => exact List.all_eq_true.1 this l hl
              have hownx : ∀ b o, Own { Γ with ρ := Γ.ρ ++ [c] } { st with nx := st.nx + 1 } b o → Own Γ st b o := fun b o hb => by
                rcases Own.iff.1 hb with hb | ⟨s, j, hh⟩
                · exact .inl hb
                · exact Hold.own (Hold.congr (Γ := Γ) (st := st) (Γ' := { Γ with ρ := Γ.ρ ++ [c] }) (st' := { st with nx := st.nx + 1 }) (fun j mb hj => ⟨⟨mb, hj⟩, rfl⟩) (fun i e hi => ⟨⟨e, hi⟩, hs.vec_at he hi⟩) hh) o
              have hclo := hgrow.addClo (i := st.nx) (e := (f, fs, cs.flatMap S0.cells)) (by
                show (at_ (Γ.ρ ++ [c]) st.nx).loc = .func (.func f) (fs.map (S0.den { Γ with ρ := Γ.ρ ++ [c] })).toArray ((cs.flatMap S0.cells).map (Lf.den { Γ with ρ := Γ.ρ ++ [c] })).toArray
                rw [hat, List.map_congr_left fun s hs' => S0.den_ext he s (hfw s hs'), List.map_congr_left fun l hl => Lf.den_ext he l (hcl l hl).1, ← hcv]
                rfl) (fun s hs' l hl => Lf.ok_anti (S0.ok_ext he (hfw s hs') (hf2 s hs') l hl) hownx) (fun l hl => Lf.ok_anti (Lf.ok_ext he (hcl l hl).1 (hcl l hl).2) hownx)
              rw [hst1] at hclo
              have hput := hclo.put hp (one_ok (by simp only [Lf.ok, hat]; rw [← hcv]; rfl))
              simp only [SV.den, S0.den, Lf.den, hat] at hput
              rw [show c.loc = .func (.func f) (fs.map (S0.den Γ)).toArray ((cs.flatMap S0.cells).map (Lf.den Γ)).toArray by rw [← hcv]; rfl] at hput
              have hlvl : st1.lvl = st.lvl := by rw [← hst1]
              have hvc2 := hvc (.func (.func f) (fs.map (S0.den Γ)).toArray ((cs.flatMap S0.cells).map (Lf.den Γ)).toArray)
              rw [List.map_nil, hcv] at hvc2
              exact hk st' T' { Γ with ρ := Γ.ρ ++ [c] } Ls hk' he (List.prefix_refl _) (by rw [St.put_lvl hp, hlvl]; exact hl) hvc2 _ _ hput
        · cases h
      · cases h
    · rename_i t x y hopeq
      split at h
      · rename_i te tv i e hte hx hy
        have hu := sliceOf_eq hte
        split at h
        · rename_i ve ks hve hkd
          split at h
          · rename_i hcond
            obtain ⟨rfl, hvt, hwf⟩ := hcond
            generalize hst1 : ({ st with nx := st.nx + 1, vec := (st.nx, some (tv, .var st.nx)) :: dropV (some i) st.vec } : St) = st1 at h
            cases hp : st1.put o.dst (some (.one (.lf (.vec tv st.nx)))) with
            | none => simp [hp] at h
            | some st' =>
              cases hk' : k st' with
              | none => simp [hp, hk'] at h
              | some T' =>
                simp [hp, hk'] at h
                subst h
                obtain ⟨hob, hvc'⟩ := VC.obT hvc
                obtain ⟨ob1, ob2⟩ := Obs.app hob
                have g1 := need_ok ob1
                have g2 := need_ok ob2
                rw [B.den_mkCmp hs.num] at g1 g2
                have g1 : (0 : Int) ≤ e.den Γ.ρ := of_decide_eq_true g1
                have g2 : e.den Γ.ρ ≤ ((ve.2.ev Γ.ρ).rows.length : Int) := of_decide_eq_true g2
                obtain ⟨hx1, hx2⟩ := hv.lf (by rw [hopeq]; simp [Op.operands]) hx
                obtain ⟨hy1, hy2⟩ := hv.lf (by rw [hopeq]; simp [Op.operands]) hy
                obtain ⟨v', r1, r2⟩ := hs.cut hwf hkd hu hve hvt g1 g2
                have hrun : (execOp a.eval o).run cx.P w = .ok (.value v') w := by
                  unfold execOp
                  rw [hopeq]
                  simp [hx1, hy1, Lf.den, r1]
                have hrows : ((E.sub3 ve.2 (.lit 0) e 0).ev Γ.ρ).rows ++ (E.nil.ev Γ.ρ).rows = (ve.2.ev Γ.ρ).rows.take (e.den Γ.ρ).toNat := by
                  simp [E.ev, C.rows, E.den, C.int]
                unfold Oper.wp
                rw [hrun]
                rw [hst1] at r2
                have hat : at_ (Γ.ρ ++ [C.s v' ((ve.2.ev Γ.ρ).rows.take (e.den Γ.ρ).toNat)]) st.nx = C.s v' ((ve.2.ev Γ.ρ).rows.take (e.den Γ.ρ).toNat) := by rw [← hs.len]; exact at_app (j := 0) (by simp)
                have hve2 := r2.vec st.nx (tv, .var st.nx) (by rw [← hst1]; simp [look])
                obtain ⟨sa, scap, hsl⟩ := hve2.1.slice
                have hput := r2.put hp (one_ok (by simp only [Lf.ok]; exact ⟨_, _, _, hsl⟩))
                simp only [SV.den, S0.den, Lf.den, hat, C.loc] at hput
                have hlvl : st1.lvl = st.lvl := by rw [← hst1]
                have hvc2 := hvc' v'
                rw [hrows] at hvc2
                exact hk st' T' { Γ with ρ := Γ.ρ ++ [C.s v' ((ve.2.ev Γ.ρ).rows.take (e.den Γ.ρ).toNat)] } Ls hk' ⟨⟨_, rfl⟩, fun _ _ => rfl, Nat.le_refl _, rfl, rfl⟩ (List.prefix_refl _) (by rw [St.put_lvl hp, hlvl]; exact hl) hvc2 _ _ hput
          · cases h
        · cases h
      · cases h
    · rename_i c hopeq
      obtain ⟨callee, cargs, ctypes⟩ := c
      simp only [] at h
      split at h
      · rename_i la lb hargs
        split at h
        · rename_i t t' hct
          split at h
          · rename_i te hte
            have hu := sliceOf_eq hte
            split at h
            · rename_i ks z it hkd hz hit
              split at h
              · rename_i hc
                obtain ⟨rfl, hwf, hby, hzl⟩ := hc
                have hby := Nat.le_of_ble_eq_true hby
                obtain ⟨ha1, ha2⟩ := s0s_ok hv cargs.toList _ hargs (fun x hx => by rw [hopeq]; simp [Op.operands, Call.operands]; simpa using hx)
                obtain ⟨xa, xb, hca⟩ : ∃ xa xb, cargs = #[xa, xb] := by
                  have hlen : cargs.toList.length = 2 := by have := congrArg List.length ha1; simpa using this
                  match hcl : cargs.toList, hlen with
                  | [xa, xb], _ => exact ⟨xa, xb, by rw [← Array.toList_inj, hcl]⟩
                subst hca
                simp [S0.den] at ha1
                obtain ⟨hxa, hxb⟩ := ha1
                have hla : la.ok cx.P w (Own Γ st) Γ := ha2 (.lf la) (by simp) la (by simp [S0.cells])
                have hlb : lb.ok cx.P w (Own Γ st) Γ := ha2 (.lf lb) (by simp) lb (by simp [S0.cells])
                have hcte : ctypes = #[t, t] := by rw [← Array.toList_inj, hct]
                subst hcte
                obtain ⟨it', zv, hit', hzz, hzc⟩ := zeroLf_spec hz Γ
                obtain rfl : it = it' := Option.some.inj (hit.symm.trans hit')
                have hzsize : zv.cells.size = ks.length := by rw [hzc, dens_size]; exact hzl
                have hrun0 : ∀ v' w', (Builtin.append_ #[t, t] o.type #[la.den Γ, lb.den Γ]).run cx.P w = .ok v' w' → (execOp a.eval o).run cx.P w = .ok (.value v') w' := fun v' w' hr => by
                  unfold execOp
                  rw [hopeq]
                  simp only [resolve, invoke, builtin, List.map_toArray, List.map_cons, List.map_nil, hxa, hxb, Sem.run_bind, Sem.run_pure, Result.andThen_ok, hr]
                split at h
                · rename_i i ea tb eb hma hb
                  split at h
                  · rename_i hcc
                    obtain ⟨rfl, hij⟩ := hcc
                    generalize hst1 : ({ st with nx := st.nx + 1, vec := (st.nx, some (tb, .var st.nx)) :: dropV i st.vec } : St) = st1 at h
                    cases hp : st1.put o.dst (some (.one (.lf (.vec tb st.nx)))) with
                    | none => simp [hp] at h
                    | some st' =>
                      cases hk' : k st' with
                      | none => simp [hp, hk'] at h
                      | some T' =>
                        simp [hp, hk'] at h
                        subst h
                        obtain ⟨hob, hvc'⟩ := VC.obT hvc
                        have g := need_ok hob
                        rw [B.den_mkCmp hs.num] at g
                        have g : (((ea.ev Γ.ρ).rows.length : Int) + ((eb.ev Γ.ρ).rows.length : Int)) * (it.bytes : Int) ≤ 140737488355328 := of_decide_eq_true g
                        obtain ⟨hci, hva⟩ := appA_spec hs hkd hma
                        obtain ⟨us, hrb⟩ := appB_spec hs hkd hlb hb
                        obtain ⟨v', w', r1, r2⟩ := hs.append hwf hkd hu hit hzz hzsize hby (ty := o.type) (ci := i) hci hva hrb g
                        unfold Oper.wp
                        rw [hrun0 v' w' r1]
                        rw [hst1] at r2
                        have hat : at_ (Γ.ρ ++ [C.s v' ((ea.ev Γ.ρ).rows ++ (eb.ev Γ.ρ).rows)]) st.nx = C.s v' ((ea.ev Γ.ρ).rows ++ (eb.ev Γ.ρ).rows) := by rw [← hs.len]; exact at_app (j := 0) (by simp)
                        have hve := r2.vec st.nx (tb, .var st.nx) (by rw [← hst1]; simp [look])
                        obtain ⟨sa, scap, hsl⟩ := hve.1.slice
                        have hput := r2.put hp (one_ok (by simp only [Lf.ok]; exact ⟨_, _, _, hsl⟩))
                        simp only [SV.den, S0.den, Lf.den, hat, C.loc] at hput
                        have hlvl : st1.lvl = st.lvl := by rw [← hst1]
                        exact hk st' T' { Γ with ρ := Γ.ρ ++ [C.s v' ((ea.ev Γ.ρ).rows ++ (eb.ev Γ.ρ).rows)] } Ls hk' ⟨⟨_, rfl⟩, fun _ _ => rfl, Nat.le_refl _, rfl, rfl⟩ (List.prefix_refl _) (by rw [St.put_lvl hp, hlvl]; exact hl) (hvc' v') _ _ hput
                  · cases h
                · cases h
              · cases h
            · cases h
          · cases h
        · cases h
      · rename_i f args hargs
        obtain ⟨ha1, ha2⟩ := s0s_ok hv cargs.toList args hargs (fun x hx => by rw [hopeq]; simp [Op.operands, Call.operands]; right; simpa using hx)
        have hmap : cargs.map a.eval = (args.map (S0.den Γ)).toArray := by
          apply Array.ext'
          simp [ha1]
        have hrun : ∀ hc : Callable cx.P f, (execOp a.eval o).run cx.P w = .ok (.enter f (args.map (S0.den Γ)).toArray) w := fun hc => by
          unfold execOp
          rw [hopeq]
          simp only [resolve, Deferred.ofValue, Act.eval, hmap, pure_bind, invoke, Array.empty_append, Array.append_empty, Sem.run_bind, Sem.run_pure, Result.andThen_ok]
          exact run_callFunc' hc _ _
        split at h
        · rename_i g hg
          obtain ⟨hc, hi⟩ := hcx.sel f g hg
          split at h
          · rename_i obs b s1 s2 hgs
            split at h
            · rename_i t e ht he
              cases h
              obtain ⟨hob, hvc'⟩ := VC.obT hvc
              obtain ⟨hp1, hp2, hcall⟩ := hi Γ st.bds args obs b s1 s2 hs.num hgs hob
              have plain : ∀ (s : SV) (w' : World), s.plain = true → s.ok cx.P w' (Own Γ st) Γ := fun s w' hp => SV.plain_ok hp
              unfold Oper.wp
              rw [hrun hc]
              refine (hcall w).mono fun e' w' ⟨he', hb⟩ => ?_
              subst he'
              have h0 := (hs.below hb).learn hob
              by_cases hbd : b.den Γ.ρ = true
              · rw [if_pos hbd]
                cases hp : ((st.learnAll obs).know none b true).put o.dst (some s1) with
                | none => simp [hp] at ht
                | some st' =>
                  simp [hp] at ht
                  exact hk st' t Γ Ls ht (Ext.refl Γ) (List.prefix_refl _) (by rw [St.put_lvl hp]; exact hl) (hvc'.1 hbd) _ _ ((h0.knowB hbd).put hp (plain s1 w' hp1))
              · have hbd' : b.den Γ.ρ = false := by simpa using hbd
                rw [if_neg hbd]
                cases hp : ((st.learnAll obs).know none b false).put o.dst (some s2) with
                | none => simp [hp] at he
                | some st' =>
                  simp [hp] at he
                  exact hk st' e Γ Ls he (Ext.refl Γ) (List.prefix_refl _) (by rw [St.put_lvl hp]; exact hl) (hvc'.2 hbd') _ _ ((h0.knowB hbd').put hp (plain s2 w' hp2))
            · cases h
          · cases h
        · split at h
          · rename_i g hg
            obtain ⟨hc, hi⟩ := hcx.inl f g hg
            split at h
            · rename_i obs s hgs
              cases hp : (st.learnAll obs).put o.dst (some (.one s)) with
              | none => simp [hp] at h
              | some st' =>
                cases hk' : k st' with
                | none => simp [hp, hk'] at h
                | some T' =>
                  simp [hp, hk'] at h
                  subst h
                  obtain ⟨hob, hvc'⟩ := VC.obT hvc
                  obtain ⟨hpl, hcall⟩ := hi Γ st.bds args obs s hs.num hgs hob
                  unfold Oper.wp
                  rw [hrun hc]
                  refine (hcall w).mono fun e w' ⟨he, hb⟩ => ?_
                  subst he
                  have hsok : (SV.one s).ok cx.P w' (Own Γ st) Γ := SV.plain_ok (s := .one s) hpl
                  exact hk st' T' Γ Ls hk' (Ext.refl Γ) (List.prefix_refl _) (by rw [St.put_lvl hp]; exact hl) hvc' _ _ (((hs.below hb).learn hob).put hp hsok)
            · cases h
          · exact callF_sound hcx h hl hvc hs hk ha2 hrun
      · rename_i x args hargs
        obtain ⟨ha1, ha2⟩ := s0s_ok hv cargs.toList args hargs (fun x hx => by rw [hopeq]; simp [Op.operands, Call.operands]; right; simpa using hx)
        have hmap : cargs.map a.eval = (args.map (S0.den Γ)).toArray := by
          apply Array.ext'
          simp [ha1]
        have hxv := hv.slots (.tmp x) (by rw [hopeq]; simp [Op.operands, Call.operands])
        split at h
        · rename_i f ls hl'
          obtain ⟨hf1, hf2⟩ := hxv _ hl'
          refine callF_sound hcx h hl hvc hs hk (fun s hs' => (List.mem_cons.1 hs').elim (fun e => by subst e; exact hf2) (ha2 s)) fun hc => ?_
          unfold execOp
          rw [hopeq]
          simp only [resolve, hf1, SV.den, Deferred.ofValue, hmap, pure_bind, invoke, Array.append_empty, Sem.run_bind, Sem.run_pure, Result.andThen_ok]
          have e : #[Value.agg (dens Γ ls)] ++ (args.map (S0.den Γ)).toArray = (((S0.agg ls) :: args).map (S0.den Γ)).toArray := by simp [S0.den]
          rw [e]
          exact run_callFunc' hc _ _
        · rename_i i hl'
          obtain ⟨hf1, hf2⟩ := hxv _ hl'
          split at h
          · rename_i f fs cs hclo
            obtain ⟨k1, k2, k3⟩ := hs.clo i _ hclo
            refine callF_sound hcx h hl hvc hs hk (fun s hs' => ?_) fun hc => ?_
            · rcases List.mem_append.1 hs' with hs' | hs'
              · rcases List.mem_append.1 hs' with hs' | hs'
                · exact k2 s hs'
                · exact ha2 s hs'
              · obtain ⟨l, hl2, rfl⟩ := List.mem_map.1 hs'
                exact fun y hy => by simp [S0.cells] at hy; subst hy; exact k3 _ hl2
            · unfold execOp
              rw [hopeq]
              simp only [resolve, hf1, SV.den, S0.den, Lf.den, k1, Deferred.ofValue, hmap, pure_bind, invoke, Sem.run_bind, Sem.run_pure, Result.andThen_ok]
              have e : (fs.map (S0.den Γ)).toArray ++ (args.map (S0.den Γ)).toArray ++ (cs.map (Lf.den Γ)).toArray = ((fs ++ args ++ cs.map S0.lf).map (S0.den Γ)).toArray := by simp [S0.den, Function.comp_def]
              rw [e]
              exact run_callFunc' hc _ _
          · cases h
        · rename_i v hl'
          obtain ⟨hf1, hf2⟩ := hxv _ hl'
          split at h
          rotate_left
          · cases h
          rename_i f x1 y1
          split at h
          rotate_left
          · cases h
          rename_i hxy
          simp only [Bool.and_eq_true, Array.isEmpty_iff] at hxy
          obtain ⟨rfl, rfl⟩ := hxy
          refine callF_sound hcx h hl hvc hs hk ha2 fun hc => ?_
          unfold execOp
          rw [hopeq]
          simp only [resolve, hf1, SV.den, S0.den, Lf.den, Deferred.ofValue, hmap, pure_bind, invoke, Array.append_empty, Array.empty_append, Sem.run_bind, Sem.run_pure, Result.andThen_ok]
          exact run_callFunc' hc _ _
        · cases h
      · cases h
    · cases h
theorem Sat.know {P : Program} {Γ : Env} {st : St} {a : Act} {w : World} (hs : Sat P F w0 Γ st a w) {d : Nat} {b : B} {t : Bool} (hd : st.lf (.tmp d) = some (.bool b)) (hb : b.den Γ.ρ = t) : Sat P F w0 Γ (st.know (some d) b t) a w := by
  have hnum : Num (Go.Proofs.Ytcglpbchejkolaa.learn st.nx st.bds b t) Γ.ρ := ⟨learn_ok hs.num.len (by rw [hs.len]; exact Nat.le_refl _) b st.bds t hs.num.bds hb, hs.num.len⟩
  refine hs.slots' (fun x sv hx => ?_) hs.size hs.defers hnum
  replace hx : look (if d < st.nt ∧ d < 1000 then (d, some (SV.one (S0.lf (.bool (.lit t))))) :: st.sl else st.sl) x = some sv := hx
  split at hx
  · simp only [look] at hx
    split at hx
    · rename_i e
      subst e
      cases hx
      have h1 : look st.sl d = some (.one (.lf (.bool b))) := by
        have := St.lf_ev hd
        simp only [St.ev] at this
        split at this
        · exact this
        · cases this
      have h2 := (hs.slots d _ h1).1
      refine ⟨?_, one_ok trivial⟩
      rw [h2]
      simp only [SV.den, S0.den, Lf.den, hb, B.den]
    · exact hs.slots x sv hx
  · exact hs.slots x sv hx
theorem Sat.tmp {P : Program} {Γ : Env} {st : St} {a : Act} {w : World} (hs : Sat P F w0 Γ st a w) {d : Nat} {sv : SV} (h : st.ev (.tmp d) = some sv) : a.tmps.getD d undef = sv.den Γ ∧ sv.ok P w (Own Γ st) Γ := by
  have := (hs.view #[.tmp d]).slots (.tmp d) (by simp) sv h
  exact this
theorem yielded_of {ops : Array Oper} {j d : Nat} {tmps : Array Value} {v : Bool} (hd : (ops[j]?).bind (·.dst) = some d) (hv : tmps.getD d undef = .bool v) : yielded ops tmps j = some v := by
  unfold yielded
  rw [hd]
  simp only [Option.bind_some]
  rw [Array.getD_eq_getD_getElem?] at hv
  cases h : tmps[d]? with
  | none => rw [h] at hv; simp [undef] at hv
  | some x => rw [h] at hv; simp at hv; subst hv; rfl

theorem doOpF_sound (hcx : CxOK cx) {st : St} {o : Oper} {k : St → Option Tree} {T : Tree} (h : doOpF cx st o k = some T) {Γ : Env} {Ls : List (List C → Prop)} (hl : Ls.length = st.lvl) (hvc : VC cx R T Γ.ρ Ls)
    {a : Act} {w : World} (hs : Sat cx.P F w0 Γ st a w) {K : Act → World → Prop} {Q : Exit → Act → World → Prop} (hk : Next cx R F w0 k Γ Ls K) : o.wp cx.P a w K Q := by
  obtain ⟨st', T', Γ', g1, g2, g3, g4, g5⟩ := freezeAll_sound _ st T h Γ Ls hvc hs
  exact doOp_sound hcx g1 (by rw [g3]; exact hl) g4 g5 (hk.mono g2 (List.prefix_refl _))
theorem orF_some {x : Option Tree} {n : Nat} {l : List Nat} {T : Tree} (h : orF x n l = some T) {ρ : List C} {Ls : List (List C → Prop)} (hvc : VC cx R T ρ Ls) : x = some T := by
  unfold orF at h
  split at h
  · exact h
  · cases h; exact hvc.elim
theorem yielded_cst {ops : Array Oper} {j d : Nat} {tmps : Array Value} {v : Value} (hd : (ops[j]?).bind (·.dst) = some d) (hv : tmps.getD d undef = v) (hb : isB v = false) : yielded ops tmps j = none := by
  unfold yielded
  rw [hd]
  simp only [Option.bind_some]
  rw [Array.getD_eq_getD_getElem?] at hv
  cases h : tmps[d]? with
  | none => rfl
  | some x =>
    rw [h] at hv
    simp only [Option.getD_some] at hv
    subst hv
    cases x <;> first | rfl | cases hb
theorem St.skip_put {st st' : St} {ops : Array Oper} {o : Oper} (h : st.skip ops o = some st') : ∃ sv, st.put o.dst sv = some st' ∧ (sv = none ∨ sv = some skV) := by
  unfold St.skip at h
  split at h
  · exact ⟨none, h, .inl rfl⟩
  · split at h
    · exact ⟨some skV, h, .inr rfl⟩
    · exact ⟨none, h, .inl rfl⟩
theorem Sat.skip {P : Program} {F : Nat → Prop} {w0 : World} {Γ : Env} {st st' : St} {a : Act} {w : World} {ops : Array Oper} {o : Oper} (h : Sat P F w0 Γ st a w) (hp : st.skip ops o = some st') : Sat P F w0 Γ st' (a.put o.dst undef) w := by
  obtain ⟨sv, hp, rfl | rfl⟩ := St.skip_put hp
  · exact h.drop hp undef
  · exact h.put hp (fun l hl => by simp only [S0.cells, List.mem_cons, List.not_mem_nil, or_false] at hl; subst hl; trivial)
theorem St.skip_lvl {st st' : St} {ops : Array Oper} {o : Oper} (hp : st.skip ops o = some st') : st'.lvl = st.lvl := by
  obtain ⟨sv, hp, -⟩ := St.skip_put hp
  exact St.put_lvl hp
theorem St.skip_mem {st st' : St} {ops : Array Oper} {o : Oper} (hp : st.skip ops o = some st') : st'.mem = st.mem := by
  obtain ⟨sv, hp, -⟩ := St.skip_put hp
  exact St.put_mem hp
theorem St.skip_nb {st st' : St} {ops : Array Oper} {o : Oper} (hp : st.skip ops o = some st') : st'.nb = st.nb := by
  obtain ⟨sv, hp, -⟩ := St.skip_put hp
  exact St.put_nb hp
theorem clearT_sound {ops : Array Oper} {k : St → Option Tree} {Q : Exit → Act → World → Prop} {o : Oper} {rest : List Oper} {st : St} {T : Tree} (h : clearT cx st o rest k = some T) {Γ : Env} {Ls : List (List C → Prop)} (hl : Ls.length = st.lvl) (hvc : VC cx R T Γ.ρ Ls)
    {a : Act} {w : World} (hs : Sat cx.P F w0 Γ st a w) (hk : Next cx R F w0 k Γ Ls (fun a w => Q .normal a w)) : wpList cx.P ops Q (o :: rest) a w := by
  have hv := hs.view o.op.operands
  unfold clearT at h
  split at h
  rotate_left
  · cases h
  rename_i t x y d o2 hop hg hdst
  split at h
  rotate_left
  · cases h
  rename_i c hop2 hg2 hd2
  split at h
  rotate_left
  · cases h
  rename_i d' t' hcal hargs htys
  split at h
  rotate_left
  · cases h
  rename_i te tv i e hte hx hy
  split at h
  rotate_left
  · cases h
  rename_i ve ks z hve hks hz
  split at h
  rotate_left
  · cases h
  rename_i hcond
  obtain ⟨rfl, rfl, rfl, c1, hwf, hno, c5, c8, hew⟩ := hcond
  generalize hst1 : ({ st with nx := st.nx + 1 + 1, vec := (i, some (tv, .var (st.nx + 1))) :: st.vec } : St) = st1 at h
  cases hp : st1.put (some d') none with
  | none => simp [hp] at h
  | some st' =>
    cases hk' : k st' with
    | none => simp [hp, hk'] at h
    | some T' =>
      simp [hp, hk'] at h
      subst h
      obtain ⟨hob, hvc'⟩ := VC.obT hvc
      obtain ⟨ob1, ob2⟩ := Obs.app hob
      have g1 := need_ok ob1
      have g2 := need_ok ob2
      rw [B.den_mkCmp hs.num] at g1 g2
      have g1 : 0 ≤ e.den Γ.ρ := of_decide_eq_true g1
      have g2 : e.den Γ.ρ ≤ ((ve.2.ev Γ.ρ).rows.length : Int) := of_decide_eq_true g2
      obtain ⟨hx1, -⟩ := hv.lf (by rw [hop]; simp [Op.operands]) hx
      obtain ⟨hy1, -⟩ := hv.lf (by rw [hop]; simp [Op.operands]) hy
      obtain ⟨v', w', hrun, hclr, hsat⟩ := hs.vclear (ty := o2.type) hve hks (sliceOf_eq hte) c1 hwf hno hz c5 c8 g1 g2
      have h1 : (execOp a.eval o).run cx.P w = .ok (.value v') w := by
        unfold execOp
        rw [hop]
        simp only [Lf.den] at hx1 hy1
        simp only [hx1, hy1, Option.map_some, Option.map_none, Sem.run_bind, hrun, Result.andThen_ok, Sem.run_pure]
      unfold wpList
      rw [if_pos (by simp [Region.wanted, hg])]
      refine .inl ?_
      unfold Oper.wp
      rw [h1]
      show wpList cx.P ops Q [o2] (a.put o.dst v') w
      unfold wpList
      rw [if_pos (by simp [Region.wanted, hg2])]
      refine .inl ?_
      have hd : d' < a.tmps.size ∧ d' < 1000 := by
        have hp' : (if d' < st1.nt ∧ d' < 1000 then some ({ st1 with sl := (d', none) :: st1.sl } : St) else none) = some st' := hp
        split at hp'
        · rename_i hlt
          rw [← hst1] at hlt
          exact ⟨by rw [hs.size]; exact hlt.1, hlt.2⟩
        · cases hp'
      have hev : (a.put o.dst v').eval (.tmp d') = v' := by
        rw [hdst]
        show (a.put (some d') v').tmps.getD d' undef = v'
        rw [Act.put_tmps, getD_set hd.1, if_pos rfl]
      have h2 : (execOp (a.put o.dst v').eval o2).run cx.P w = .ok (.value (.tuple #[])) w' := by
        obtain ⟨dst2, op2, type2, pos2, after2, guard2⟩ := o2
        obtain ⟨callee, args, argTypes⟩ := c
        simp only [] at hop2 hcal hargs htys hclr
        have ea : args = #[.tmp d'] := by rw [← Array.toList_inj, hargs]
        have et : argTypes = #[t'] := by rw [← Array.toList_inj, htys]
        subst hop2 hcal ea et
        simp only [execOp, resolve, invoke, List.map_toArray, List.map_cons, List.map_nil, hev, pure_bind, Sem.run_bind, show ∀ ats ty cs args, builtin .clear ats ty cs args = (do pure (.value (← Builtin.clear_ ats ty args))) from fun _ _ _ _ => rfl, hclr, Result.andThen_ok, Sem.run_pure]
      unfold Oper.wp
      rw [h2]
      show wpList cx.P ops Q [] ((a.put o.dst v').put o2.dst (.tuple #[])) w'
      rw [hd2]
      unfold wpList
      rw [hdst]
      rw [hst1] at hsat
      have hdrop := hsat.drop hp v'
      have hext : ∀ ρ1 : List C, ve.2.ev (Γ.ρ ++ ρ1) = ve.2.ev Γ.ρ := fun ρ1 => E.ev_ext _ (hs.wf_vec hwf hve)
      have hextd : ∀ ρ1 : List C, e.den (Γ.ρ ++ ρ1) = e.den Γ.ρ := fun ρ1 => E.den_ext _ (by rw [hs.len]; exact hew)
      have hvc2 := hvc' (.slice none 0 0) (at_ Γ.ρ i).loc
      have hat : ((E.var st.nx).ev (Γ.ρ ++ [C.s (.slice none 0 0) (List.replicate ((E.sub (.len ve.2) e).den Γ.ρ).toNat (cs_ Γ.ρ (adaptL cx.P [] ks z)))])).rows = List.replicate ((E.sub (.len ve.2) e).den Γ.ρ).toNat (cs_ Γ.ρ (adaptL cx.P [] ks z)) := by
        have hat0 : at_ (Γ.ρ ++ [C.s (.slice none 0 0) (List.replicate ((E.sub (.len ve.2) e).den Γ.ρ).toNat (cs_ Γ.ρ (adaptL cx.P [] ks z)))]) st.nx = C.s (.slice none 0 0) (List.replicate ((E.sub (.len ve.2) e).den Γ.ρ).toNat (cs_ Γ.ρ (adaptL cx.P [] ks z))) := by rw [← hs.len]; exact at_app (j := 0) (by simp)
        show (at_ _ st.nx).rows = _
        rw [hat0]
        rfl
      have hsub : ((E.sub3 ve.2 (.lit 0) e 0).ev (Γ.ρ ++ [C.s (.slice none 0 0) (List.replicate ((E.sub (.len ve.2) e).den Γ.ρ).toNat (cs_ Γ.ρ (adaptL cx.P [] ks z)))])).rows = (ve.2.ev Γ.ρ).rows.take (e.den Γ.ρ).toNat := by
        have : ((E.sub3 ve.2 (.lit 0) e 0).ev (Γ.ρ ++ [C.s (.slice none 0 0) (List.replicate ((E.sub (.len ve.2) e).den Γ.ρ).toNat (cs_ Γ.ρ (adaptL cx.P [] ks z)))])).rows = ((ve.2.ev (Γ.ρ ++ [C.s (.slice none 0 0) (List.replicate ((E.sub (.len ve.2) e).den Γ.ρ).toNat (cs_ Γ.ρ (adaptL cx.P [] ks z)))])).rows.take (e.den (Γ.ρ ++ [C.s (.slice none 0 0) (List.replicate ((E.sub (.len ve.2) e).den Γ.ρ).toNat (cs_ Γ.ρ (adaptL cx.P [] ks z)))])).toNat).drop (0 : Int).toNat := rfl
        rw [this, hext, hextd]; rfl
      rw [hat, hsub] at hvc2
      rw [E.den_sub, E.den_len] at hvc2
      refine hk st' T' _ Ls hk' ?_ (List.prefix_refl _) ?_ ?_ _ _ hdrop
      · exact ⟨⟨_, List.append_assoc ..⟩, fun _ _ => rfl, Nat.le_refl _, rfl, rfl⟩
      · rw [St.put_lvl hp, ← hst1]; exact hl
      · exact hvc2
theorem execOps_sound (hcx : CxOK cx) {ops : Array Oper} {k : St → Option Tree} {Q : Exit → Act → World → Prop} : ∀ (l : List Oper) (st : St) (T : Tree), execOps cx ops l st k = some T →
    ∀ (Γ : Env) (Ls : List (List C → Prop)), Ls.length = st.lvl → VC cx R T Γ.ρ Ls → ∀ (a : Act) (w : World), Sat cx.P F w0 Γ st a w → Next cx R F w0 k Γ Ls (fun a w => Q .normal a w) → wpList cx.P ops Q l a w
  | [], st, T, h, Γ, Ls, hl, hvc, a, w, hs, hk => hk st T Γ Ls h (Ext.refl Γ) (List.prefix_refl _) hl hvc a w hs
  | o :: rest, st, T, h, Γ, Ls, hl, hvc, a, w, hs, hk => by
    have step : ∀ (st1 : St) (T1 : Tree), doOpF cx st1 o (fun st => execOps cx ops rest st k) = some T1 → st1.lvl = st.lvl → VC cx R T1 Γ.ρ Ls → Sat cx.P F w0 Γ st1 a w → o.wp cx.P a w (wpList cx.P ops Q rest) Q := fun st1 T1 h1 hl1 hv1 hs1 =>
      doOpF_sound hcx h1 (by rw [hl1]; exact hl) hv1 hs1 fun st' T' Γ' Ls' h' he hp' hl' hv' a' w' hs' => execOps_sound hcx rest st' T' h' Γ' Ls' hl' hv' a' w' hs' (hk.mono he hp')
    have skip : ∀ (st1 st2 : St) (T1 : Tree), st1.skip ops o = some st2 → execOps cx ops rest st2 k = some T1 → st1.lvl = st.lvl → VC cx R T1 Γ.ρ Ls → Sat cx.P F w0 Γ st1 a w → wpList cx.P ops Q rest (a.put o.dst undef) w := fun st1 st2 T1 hp h1 hl1 hv1 hs1 =>
      execOps_sound hcx rest st2 T1 h1 Γ Ls (by rw [St.skip_lvl hp, hl1]; exact hl) hv1 _ w (hs1.skip hp) hk
    unfold execOps at h
    split at h
    · rename_i tc hct
      cases h
      exact clearT_sound hct hl hvc hs hk
    unfold wpList
    split at h
    · rename_i hg
      rw [if_pos (by simp [Region.wanted, hg])]
      exact .inl (step st T (orF_some h hvc) rfl hvc hs)
    · rename_i j want hg
      split at h
      · cases h
      · rename_i d hd
        split at h
        · rename_i v hl'
          have hy := yielded_of hd (hs.tmp (St.lf_ev hl')).1
          have hy' : yielded ops a.tmps j = some v := hy
          split at h
          · rename_i hvw
            rw [if_pos (by simp [Region.wanted, hg, hy', hvw])]
            exact .inl (step st T (orF_some h hvc) rfl hvc hs)
          · rename_i hvw
            rw [if_neg (by simp [Region.wanted, hg, hy', hvw])]
            cases hp : st.skip ops o with
            | none => simp [hp] at h
            | some st2 => simp [hp] at h; exact skip st st2 T hp h rfl hvc hs
        · rename_i b hlit hl'
          have hy := yielded_of hd (hs.tmp (St.lf_ev hl')).1
          split at h
          · rename_i t e ht he
            cases hp : (st.know (some d) b !want).skip ops o with
            | none => simp [hp] at he
            | some st2 =>
              simp [hp] at he
              have hvc' : (b.den Γ.ρ = want → VC cx R t Γ.ρ Ls) ∧ (b.den Γ.ρ = (!want) → VC cx R e Γ.ρ Ls) := by
                cases want <;> simp at h <;> subst h <;> exact ⟨by simpa using (by first | exact hvc.1 | exact hvc.2), by simpa using (by first | exact hvc.2 | exact hvc.1)⟩
              by_cases hb : b.den Γ.ρ = want
              · rw [if_pos (by simp [Region.wanted, hg]; rw [hy]; simp [Lf.den, hb])]
                exact .inl (step (st.know (some d) b want) t ht rfl (hvc'.1 hb) (hs.know hl' hb))
              · have hb' : b.den Γ.ρ = !want := by cases hx : b.den Γ.ρ <;> cases want <;> simp_all
                rw [if_neg (by simp [Region.wanted, hg]; rw [hy]; simp [Lf.den, hb'])]
                exact skip (st.know (some d) b !want) st2 e hp he rfl (hvc'.2 hb') (hs.know hl' hb')
          · cases h
        · rename_i v hl'
          split at h
          · cases h
          · rename_i hb
            have hy := yielded_cst (v := v) hd (hs.tmp (St.lf_ev hl')).1 (by simpa using hb)
            rw [if_neg (by simp [Region.wanted, hg, hy])]
            cases hp : st.skip ops o with
            | none => simp [hp] at h
            | some st2 => simp [hp] at h; exact skip st st2 T hp h rfl hvc hs
        · cases h
end
end Go.Proofs.Ytcglpbchejkolaa
