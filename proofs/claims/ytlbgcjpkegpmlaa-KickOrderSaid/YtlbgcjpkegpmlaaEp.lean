/- The engine, part 11b: one operation, a row of operations. -/
import Derived.Test.YtlbgcjpkegpmlaaEo
namespace Go.Proofs.Ytlbgcjpkegpmlaa
open Go.RowKit
set_option linter.unusedSimpArgs false
set_option linter.unusedVariables false

section
variable {P : Program} {F : Nat → Prop} {w0 : World} {Γ : Env} {st : St} {a : Act} {w : World}
/-! Nil slices -/
theorem Lf.isNil_eq {l : Lf} (h : l.isNil = true) : l = .cst (.slice none 0 0) := by
  unfold Lf.isNil at h
  split at h
  · rfl
  · cases h
def nilC : C := .s (.slice none 0 0) []
theorem nilC_small (n : Nat) : nilC.small n := by cases n <;> simp [nilC, C.small]
theorem look_nilV {m : Vecs} : ∀ {ts : List TypeId} {i0 i : Nat} {e : TypeId × E}, look (nilV ts i0 ++ m) i = some e → (∃ j t, i = i0 + j ∧ ts[j]? = some t ∧ e = (t, .var i)) ∨ look m i = some e
  | [], i0, i, e, h => .inr h
  | t :: ts, i0, i, e, h => by
    simp only [nilV, List.cons_append, look] at h
    split at h
    · rename_i e'; subst e'; cases h; exact .inl ⟨0, t, rfl, rfl, rfl⟩
    · rcases look_nilV h with ⟨j, t', rfl, hj, he⟩ | h
      · exact .inl ⟨j + 1, t', by omega, by simpa using hj, he⟩
      · exact .inr h
theorem ownL_spec {O : Nat → Nat → Prop} : ∀ {ks : List Lk} {ls : List Lf} {i0 : Nat}, (∀ j, j < (ownL ks ls i0).2.length → at_ Γ.ρ (i0 + j) = nilC) → (∀ l ∈ ls, l.ok P w O Γ) →
    (ownL ks ls i0).1.map (Lf.den Γ) = ls.map (Lf.den Γ) ∧ ∀ l ∈ (ownL ks ls i0).1, l.ok P w O Γ
  | [], ls, i0, _, h => by cases ls <;> exact ⟨rfl, h⟩
  | k :: ks, [], i0, _, h => by cases k <;> exact ⟨rfl, h⟩
  | k :: ks, l :: ls, i0, hn, h => by
    have plain : ∀ (i : Nat), (∀ j, j < (ownL ks ls i).2.length → at_ Γ.ρ (i + j) = nilC) → ∀ x : Lf, x.den Γ = l.den Γ → x.ok P w O Γ → (x :: (ownL ks ls i).1).map (Lf.den Γ) = (l :: ls).map (Lf.den Γ) ∧ ∀ y ∈ x :: (ownL ks ls i).1, y.ok P w O Γ := fun i hi x hx ho => by
      obtain ⟨h1, h2⟩ := ownL_spec hi (fun y hy => h y (by simp [hy]))
      refine ⟨by simp [hx, h1], fun y hy => ?_⟩
      rcases List.mem_cons.1 hy with rfl | hy
      · exact ho
      · exact h2 y hy
    cases k with
    | arr t =>
      simp only [ownL] at hn ⊢
      split
      · rename_i hnil
        rw [if_pos hnil] at hn
        have := Lf.isNil_eq hnil
        subst this
        have h0 := hn 0 (by simp)
        refine plain (i0 + 1) (fun j hj => by have := hn (j + 1) (by simpa using hj); rwa [show i0 + 1 + j = i0 + (j + 1) by omega]) (.vec t i0) ?_ ?_
        · simp only [Lf.den]; rw [show i0 = i0 + 0 from rfl, h0]; rfl
        · exact ⟨none, 0, 0, by rw [show i0 = i0 + 0 from rfl, h0]; rfl⟩
      · rename_i hnil
        rw [if_neg hnil] at hn
        exact plain i0 hn l rfl (h l (by simp))
    | int => exact plain i0 hn l rfl (h l (by simp))
    | bool => exact plain i0 hn l rfl (h l (by simp))
    | vec t => exact plain i0 hn l rfl (h l (by simp))
theorem ownL_len : ∀ {ks : List Lk} {ls : List Lf} {i0 : Nat}, (ownL ks ls i0).1.length = ls.length
  | [], ls, i0 => by simp [ownL]
  | k :: ks, [], i0 => by cases k <;> simp [ownL]
  | k :: ks, l :: ls, i0 => by
    cases k with
    | arr t => simp only [ownL]; split <;> simp [ownL_len]
    | _ => simp [ownL, ownL_len]
theorem Sat.nils (h : Sat P F w0 Γ st a w) {t : TypeId} {s s' : S0} {st' : St} {n : Nat} (hn : st.nils P t s = some (s', st', n)) (hs : s.ok P w (Own Γ st) Γ) :
    Ext Γ { Γ with ρ := Γ.ρ ++ List.replicate n nilC } ∧ Sat P F w0 { Γ with ρ := Γ.ρ ++ List.replicate n nilC } st' a w ∧ s'.den { Γ with ρ := Γ.ρ ++ List.replicate n nilC } = s.den Γ ∧
      s'.ok P w (Own { Γ with ρ := Γ.ρ ++ List.replicate n nilC } st') { Γ with ρ := Γ.ρ ++ List.replicate n nilC } ∧ st'.lvl = st.lvl ∧ st'.nb = st.nb ∧ st'.mem = st.mem ∧ s'.den { Γ with ρ := Γ.ρ ++ List.replicate n nilC } = s.den Γ ∧ s'.cells.map (Lf.den { Γ with ρ := Γ.ρ ++ List.replicate n nilC }) = s.cells.map (Lf.den Γ) := by
  unfold St.nils at hn
  split at hn
  · rename_i ks hk
    split at hn
    · rename_i hc
      simp only [Bool.and_eq_true] at hc
      obtain ⟨⟨⟨⟨⟨c1, c2⟩, hw⟩, hsw⟩, c4⟩, c5⟩ := hc
      cases hn
      generalize hr : ownL ks s.cells st.nx = r at *
      have hsm : Smalls (Γ.ρ ++ List.replicate r.2.length nilC) := h.num.len.app fun c hc n => by rw [List.eq_of_mem_replicate hc]; exact nilC_small n
      have he : Ext Γ { Γ with ρ := Γ.ρ ++ List.replicate r.2.length nilC } := ⟨⟨_, rfl⟩, fun _ _ => rfl, Nat.le_refl _, rfl, rfl⟩
      have hat : ∀ j, j < r.2.length → at_ (Γ.ρ ++ List.replicate r.2.length nilC) (st.nx + j) = nilC := fun j hj => by rw [← h.len]; exact at_app (by simp [hj])
      have hT := h.turnV hw (rs := List.replicate r.2.length nilC) hsm (w' := w) (row := none) (World.grownBy.rfl' w none) (fun b hb => by cases hb) (vec' := nilV r.2 st.nx ++ st.vec) (fun i e he' => by
        rcases look_nilV he' with ⟨j, t', rfl, hj, rfl⟩ | he'
        · right
          have hjl : j < r.2.length := by
            rcases Nat.lt_or_ge j r.2.length with h | h
            · exact h
            · rw [List.getElem?_eq_none h] at hj; cases hj
          have hkt := List.all_eq_true.1 c5 t' (List.mem_of_getElem? hj)
          obtain ⟨kt, hkt⟩ := Option.isSome_iff_exists.1 hkt
          simp only [E.ev, hat j hjl]
          exact ⟨⟨kt, [], hkt, ⟨.slice none 0 0, rfl⟩, (by intro r hr; simp [nilC, C.rows] at hr), trivial, World.ownsRow_nil w 0 t' kt.length⟩, by simp; omega, fun b hb => by cases hb⟩
        · exact .inl ⟨he', fun b _ => by simp⟩) (fun i e i' e' b h1 h2 b1 b2 => by
        have old : ∀ i e, look (nilV r.2 st.nx ++ st.vec) i = some e → (at_ (Γ.ρ ++ List.replicate r.2.length nilC) i).loc.ownBlock = some b → ∃ e, look st.vec i = some e ∧ (at_ Γ.ρ i).loc.ownBlock = some b := fun i e he' hb => by
          rcases look_nilV he' with ⟨j, t', rfl, hj, rfl⟩ | he'
          · exfalso
            have hjl : j < r.2.length := by
              rcases Nat.lt_or_ge j r.2.length with h | h
              · exact h
              · rw [List.getElem?_eq_none h] at hj; cases hj
            rw [hat j hjl] at hb
            cases hb
          · exact ⟨e, he', by rw [← h.vec_at he he']; exact hb⟩
        obtain ⟨e1, k1, k2⟩ := old i e h1 b1
        obtain ⟨e2, k3, k4⟩ := old i' e' h2 b2
        exact (h.inj _ _ _ _ _ (Hold.vec (Γ := Γ) k1 k2) (Hold.vec (Γ := Γ) k3 k4)).2)
      rw [List.length_replicate] at hT
      have hown : ∀ b o, Own { Γ with ρ := Γ.ρ ++ List.replicate r.2.length nilC } { st with nx := st.nx + r.2.length, vec := nilV r.2 st.nx ++ st.vec } b o → Own Γ st b o := fun b o hb => by
        rcases Own.iff.1 hb with hb | ⟨s, j, hh⟩
        · exact .inl hb
        · rcases hh.inv with ⟨rfl, mb, hj, rfl⟩ | ⟨rfl, e, hj, hb⟩
          · exact (show Own Γ st (Γ.blk j) o from (Hold.mem (Γ := Γ) (st := st) hj).own o)
          · rcases look_nilV hj with ⟨j', t', rfl, hj', rfl⟩ | hj
            · exfalso
              have hjl : j' < r.2.length := by
                rcases Nat.lt_or_ge j' r.2.length with h | h
                · exact h
                · rw [List.getElem?_eq_none h] at hj'; cases hj'
              rw [hat j' hjl] at hb
              cases hb
            · exact (Hold.vec (Γ := Γ) hj (by rw [← h.vec_at he hj]; exact hb)).own o
      have hsw' : s.wf Γ.ρ.length Γ.nb = true := by rw [h.len, h.nb]; exact hsw
      have hs' : ∀ l ∈ s.cells, l.ok P w (Own { Γ with ρ := Γ.ρ ++ List.replicate r.2.length nilC } { st with nx := st.nx + r.2.length, vec := nilV r.2 st.nx ++ st.vec }) { Γ with ρ := Γ.ρ ++ List.replicate r.2.length nilC } := fun l hl => Lf.ok_anti (S0.ok_ext he hsw' hs l hl) hown
      obtain ⟨g1, g2⟩ := ownL_spec (P := P) (w := w) (Γ := { Γ with ρ := Γ.ρ ++ List.replicate r.2.length nilC }) (ks := ks) (ls := s.cells) (i0 := st.nx) (by rw [hr]; exact hat) hs'
      rw [hr] at g1 g2
      have hlen : r.1.length = s.cells.length := by rw [← hr]; exact ownL_len
      have hdS := S0.den_ext he s hsw'
      have hcl : (s.with r.1).cells = r.1 ∧ (s.with r.1).den { Γ with ρ := Γ.ρ ++ List.replicate r.2.length nilC } = s.den { Γ with ρ := Γ.ρ ++ List.replicate r.2.length nilC } := by
        cases s with
        | lf l =>
          obtain ⟨x, hx⟩ : ∃ x, r.1 = [x] := by
            match hr1 : r.1, hlen with
            | [x], _ => exact ⟨x, rfl⟩
          rw [hx] at g1 ⊢
          simp [S0.cells] at g1
          exact ⟨rfl, g1⟩
        | agg l => exact ⟨rfl, by simp only [S0.with, S0.den, dens]; rw [g1]; rfl⟩
      refine ⟨he, hT, ?_, fun l hl => ?_, rfl, rfl, rfl, ?_, ?_⟩
      · rw [hcl.2, hdS]
      · rw [hcl.1] at hl; exact g2 l hl
      · rw [hcl.2, hdS]
      · rw [hcl.1, g1]
        exact List.map_congr_left fun l hl => Lf.den_ext he l (by
          cases s with
          | lf x => simp [S0.cells] at hl; subst hl; exact hsw'
          | agg ls => exact List.all_eq_true.1 hsw' l hl)
    · cases hn
  · cases hn
theorem VC.dfnN {cx : Cx} {R : List C → Prop} : ∀ {n : Nat} {t : Tree} {ρ : List C} {Ls : List (List C → Prop)}, VC cx R (dfnN n t) ρ Ls → VC cx R t (ρ ++ List.replicate n nilC) Ls
  | 0, t, ρ, Ls, h => by rw [List.replicate_zero, List.append_nil]; exact h
  | n + 1, t, ρ, Ls, h => by
    have := VC.dfnN (n := n) h
    rwa [List.append_assoc, show [E.nil.ev ρ] ++ List.replicate n nilC = List.replicate (n + 1) nilC from rfl] at this

/-! Arguments -/
theorem Lf.adapt_spec (h : Sat P F w0 Γ st a w) {O' : Nat → Nat → Prop} (hO : ∀ b o, O' b o → Own Γ st b o) {k : Lk} {l : Lf} (hl : l.isVec = true → ∀ i e, look st.vec i = some e → ∀ b, (at_ Γ.ρ i).loc.ownBlock = some b → ∀ o, ¬ O' b o) (ho : l.ok P w (Own Γ st) Γ) :
    (l.adapt P st.vec k).den Γ = l.den Γ ∧ (l.adapt P st.vec k).ok P w O' Γ := by
  unfold Lf.adapt
  split
  · rename_i t te i
    split
    · rename_i e hi
      split
      · rename_i e1
        subst e1
        have hv := (h.vec i e hi).1
        have hj := mkJoin_ev hv
        refine ⟨by simp only [Lf.den, hj, C.loc], ?_⟩
        simp only [Lf.ok, hj]
        exact hv.arr hO (hl rfl i e hi)
      · exact ⟨rfl, Lf.ok_anti ho hO⟩
    · exact ⟨rfl, Lf.ok_anti ho hO⟩
  · rename_i te
    split
    · rename_i hk
      refine ⟨rfl, ?_⟩
      obtain ⟨ks, hks⟩ := Option.isSome_iff_exists.1 hk
      exact ⟨_, [], rfl, 1, fun _ _ => False, fun _ _ h => h.elim, ks, hks, none, 0, rfl, fun h => absurd rfl h⟩
    · exact ⟨rfl, trivial⟩
  · exact ⟨rfl, Lf.ok_anti ho hO⟩
theorem S0.adapt_spec (h : Sat P F w0 Γ st a w) {O' : Nat → Nat → Prop} (hO : ∀ b o, O' b o → Own Γ st b o) {sh : Sh0} {s : S0} (hl : ∀ l ∈ s.cells, l.isVec = true → ∀ i e, look st.vec i = some e → ∀ b, (at_ Γ.ρ i).loc.ownBlock = some b → ∀ o, ¬ O' b o) (ho : s.ok P w (Own Γ st) Γ) :
    (s.adapt P st.vec sh).den Γ = s.den Γ ∧ (s.adapt P st.vec sh).ok P w O' Γ := by
  have hL : ∀ (ks : List Lk) (ls : List Lf), (∀ l ∈ ls, l.isVec = true → ∀ i e, look st.vec i = some e → ∀ b, (at_ Γ.ρ i).loc.ownBlock = some b → ∀ o, ¬ O' b o) → (∀ l ∈ ls, l.ok P w (Own Γ st) Γ) → (adaptL P st.vec ks ls).map (Lf.den Γ) = ls.map (Lf.den Γ) ∧ ∀ l ∈ adaptL P st.vec ks ls, l.ok P w O' Γ := by
    intro ks
    induction ks with
    | nil => intro ls h1 h2; cases ls <;> exact ⟨rfl, fun l hl => Lf.ok_anti (h2 l hl) hO⟩
    | cons k ks ih =>
      intro ls h1 h2
      cases ls with
      | nil => exact ⟨rfl, fun l hl => by cases hl⟩
      | cons l ls =>
        obtain ⟨g1, g2⟩ := ih ls (fun x hx => h1 x (by simp [hx])) (fun x hx => h2 x (by simp [hx]))
        obtain ⟨g3, g4⟩ := Lf.adapt_spec h hO (k := k) (h1 l (by simp)) (h2 l (by simp))
        refine ⟨by simp [adaptL, g1, g3], fun x hx => ?_⟩
        rcases List.mem_cons.1 hx with rfl | hx
        · exact g4
        · exact g2 x hx
  unfold S0.adapt
  split
  · rename_i k l
    obtain ⟨g3, g4⟩ := Lf.adapt_spec h hO (k := k) (hl l (by simp [S0.cells])) (ho l (by simp [S0.cells]))
    exact ⟨g3, fun x hx => by simp [S0.cells] at hx; subst hx; exact g4⟩
  · rename_i ks ls
    obtain ⟨g1, g2⟩ := hL ks ls hl ho
    exact ⟨by simp only [S0.den, dens, g1], g2⟩
  · exact ⟨rfl, fun l hl => Lf.ok_anti (ho l hl) hO⟩
theorem adapts_spec (h : Sat P F w0 Γ st a w) {O' : Nat → Nat → Prop} (hO : ∀ b o, O' b o → Own Γ st b o) : ∀ {shs : List Sh0} {ss : List S0}, (∀ s ∈ ss, ∀ l ∈ s.cells, l.isVec = true → ∀ i e, look st.vec i = some e → ∀ b, (at_ Γ.ρ i).loc.ownBlock = some b → ∀ o, ¬ O' b o) → (∀ s ∈ ss, s.ok P w (Own Γ st) Γ) →
    (adapts P st.vec shs ss).map (S0.den Γ) = ss.map (S0.den Γ) ∧ ∀ s ∈ adapts P st.vec shs ss, s.ok P w O' Γ
  | [], ss, h1, h2 => by cases ss <;> exact ⟨rfl, fun s hs l hl => Lf.ok_anti (h2 s hs l hl) hO⟩
  | _ :: _, [], _, _ => ⟨rfl, fun l hl => by cases hl⟩
  | sh :: shs, s :: ss, h1, h2 => by
    obtain ⟨g1, g2⟩ := adapts_spec h hO (shs := shs) (ss := ss) (fun x hx => h1 x (by simp [hx])) (fun x hx => h2 x (by simp [hx]))
    obtain ⟨g3, g4⟩ := S0.adapt_spec h hO (sh := sh) (h1 s (by simp)) (h2 s (by simp))
    refine ⟨by simp [adapts, g1, g3], fun x hx => ?_⟩
    rcases List.mem_cons.1 hx with rfl | hx
    · exact g4
    · exact g2 x hx
theorem kindsL_noVec {O : Nat → Nat → Prop} : ∀ {ls : List Lf} {ks : List Lk}, kindsL ls = some ks → ks.all Lk.noVec = true → (∀ l ∈ ls, l.ok P w O Γ) → ∀ l ∈ ls, l.okR P w O Γ
  | [], _, _, _, _, l, hl => by cases hl
  | x :: ls, ks, h, hn, ho, l, hl => by
    simp only [kindsL] at h
    split at h
    · rename_i k ks' h1 h2
      cases h
      simp only [List.all_cons, Bool.and_eq_true] at hn
      rcases List.mem_cons.1 hl with rfl | hl
      · exact Lf.okR_of h1 hn.1 (ho _ (by simp))
      · exact kindsL_noVec h2 hn.2 (fun y hy => ho y (by simp [hy])) l hl
    · cases h
theorem shapes_okR {mem : Mem} {O : Nat → Nat → Prop} : ∀ {args : List S0} {ss : List Sh0}, shapes mem args = some ss → (kindsOf ss).all Lk.noVec = true → (∀ s ∈ args, s.ok P w O Γ) →
    (∀ s ∈ args, ∀ l ∈ s.cells, l.okR P w O Γ) ∧ ∀ b mb, S0.lf (.ptr b 0) ∈ args → look mem b = some mb → ∃ ks, kindsL mb.2 = some ks ∧ ks.all Lk.noVec = true
  | [], ss, _, _, _ => ⟨fun s hs => (by cases hs), fun b mb hb => (by cases hb)⟩
  | s :: args, ss, h, hn, ho => by
    simp only [shapes] at h
    split at h
    · rename_i sh hss h1 h2
      cases h
      have hk : kindsOf (sh :: hss) = sh.kinds ++ kindsOf hss := by simp [kindsOf]
      rw [hk, List.all_append, Bool.and_eq_true] at hn
      obtain ⟨i1, i2⟩ := shapes_okR h2 hn.2 (fun x hx => ho x (by simp [hx]))
      by_cases hp : ∃ b, s = .lf (.ptr b 0)
      · obtain ⟨b, rfl⟩ := hp
        refine ⟨fun x hx l hl => ?_, fun c mc hc hmc => ?_⟩
        · rcases List.mem_cons.1 hx with rfl | hx
          · simp [S0.cells] at hl; subst hl; trivial
          · exact i1 x hx l hl
        · rcases List.mem_cons.1 hc with e | hc
          · cases e
            simp only [S0.shapeM, hmc, Option.map_eq_some_iff] at h1
            obtain ⟨ks, hks, rfl⟩ := h1
            exact ⟨ks, hks, hn.1⟩
          · exact i2 c mc hc hmc
      · have hsm : s.shapeM mem = s.shape := by
          unfold S0.shapeM; split
          · exact absurd ⟨_, rfl⟩ hp
          · rfl
        rw [hsm] at h1
        refine ⟨fun x hx l hl => ?_, fun c mc hc hmc => ?_⟩
        · rcases List.mem_cons.1 hx with rfl | hx
          · cases x with
            | lf y =>
              simp only [S0.shape, Option.map_eq_some_iff] at h1
              obtain ⟨k, hk, rfl⟩ := h1
              simp [S0.cells] at hl; subst hl
              exact Lf.okR_of hk (by simpa [Sh0.kinds] using hn.1) (ho (.lf l) (by simp) l (by simp [S0.cells]))
            | agg ls =>
              simp only [S0.shape, Option.map_eq_some_iff] at h1
              obtain ⟨ks, hk', rfl⟩ := h1
              exact kindsL_noVec hk' hn.1 (ho (.agg ls) (by simp)) l hl
          · exact i1 x hx l hl
        · rcases List.mem_cons.1 hc with e | hc
          · exact absurd ⟨c, e.symm⟩ hp
          · exact i2 c mc hc hmc
    · cases h
/-! Results that hold no slice of somebody else -/
theorem CReps.flat {O O' : Nat → Nat → Prop} : ∀ {ks : List Lk} {us : List Value} {cs : List C}, CReps P w O ks us cs → ks.all Lk.noArr = true → CReps P w O' ks us cs
  | [], [], [], _, _ => trivial
  | k :: ks, u :: us, c :: cs, h, hn => by
    simp only [List.all_cons, Bool.and_eq_true] at hn
    refine ⟨⟨h.1.1, ?_⟩, CReps.flat h.2 hn.2⟩
    have h1 := h.1.2
    cases k with
    | arr t => cases hn.1
    | _ => exact h1
  | [], [], _ :: _, h, _ => h.elim
  | [], _ :: _, _, h, _ => h.elim
  | _ :: _, [], _, h, _ => h.elim
  | _ :: _, _ :: _, [], h, _ => h.elim
theorem rowsK_noArr {ks : List Lk} (h : ks.all Lk.noArr = true) (n : Nat) : (rowsK n ks).all Lk.noArr = true := by
  induction n with
  | zero => rfl
  | succ n ih => rw [rowsK_succ, List.all_append, h, ih]; rfl
theorem LRep.flat {O O' : Nat → Nat → Prop} {k : Lk} (hk : flatK P k = true) {u : Value} {c : C} (h : LRep P w O k u c) : LRep P w O' k u c := by
  refine ⟨h.1, ?_⟩
  have h1 := h.2
  cases k with
  | int => exact h1
  | bool => exact h1
  | arr t => cases hk
  | vec t =>
    refine ⟨h1.1, ?_⟩
    obtain ⟨ks, us, k1, k2, k3, k4, k5⟩ := h1.2
    simp only [flatK, k1] at hk
    exact ⟨ks, us, k1, k2, k3, k4.flat (rowsK_noArr hk _), k5⟩
theorem LReps.flat {O O' : Nat → Nat → Prop} : ∀ {ks : List Lk} {us : List Value} {cs : List C}, ks.all (flatK P) = true → LReps P w O ks us cs → LReps P w O' ks us cs
  | [], [], [], _, _ => trivial
  | k :: ks, u :: us, c :: cs, hn, h => by
    simp only [List.all_cons, Bool.and_eq_true] at hn
    exact ⟨h.1.flat hn.1, LReps.flat hn.2 h.2⟩
  | [], [], _ :: _, _, h => h.elim
  | [], _ :: _, _, _, h => h.elim
  | _ :: _, [], _, _, h => h.elim
  | _ :: _, _ :: _, [], _, h => h.elim
theorem Reps.flat {O O' : Nat → Nat → Prop} {n : Nat} : ∀ {ss : List Sh0} {vs : List Value} {cs : List C}, (kindsOf ss).all (flatK P) = true → Reps P w O (some n) ss vs cs → Reps P w O' (some n) ss vs cs
  | [], [], cs, _, h => h
  | s :: ss, v :: vs, cs, hn, h => by
    have hk : kindsOf (s :: ss) = s.kinds ++ kindsOf ss := by simp [kindsOf]
    rw [hk, List.all_append, Bool.and_eq_true] at hn
    obtain ⟨c1, c2, rfl, h1, h2⟩ := h
    refine ⟨c1, c2, rfl, ?_, Reps.flat hn.2 h2⟩
    cases s with
    | lf k => obtain ⟨c, rfl, hc⟩ := h1; exact ⟨c, rfl, hc.flat (by simpa [Sh0.kinds] using hn.1)⟩
    | agg l => obtain ⟨us, e, hc⟩ := h1; exact ⟨us, e, LReps.flat hn.1 hc⟩
    | box t l => obtain ⟨b, us, e, hb, hge, hc⟩ := h1; exact ⟨b, us, e, hb, hge, LReps.flat hn.1 hc⟩
  | [], _ :: _, _, _, h => h.elim
  | _ :: _, [], _, _, h => h.elim
theorem Outs.flat {O O' : Nat → Nat → Prop} : ∀ {ss : List Sh0} {vs : List Value} {cs : List C}, (boxKinds ss).all (flatK P) = true → Outs P w O ss vs cs → Outs P w O' ss vs cs
  | [], vs, cs, _, h => by cases vs <;> exact h
  | s :: ss, [], cs, _, h => by cases s <;> exact h
  | s :: ss, v :: vs, cs, hn, h => by
    cases s with
    | lf k => exact Outs.flat (ss := ss) hn h
    | agg l => exact Outs.flat (ss := ss) hn h
    | box t l =>
      have hk : boxKinds (.box t l :: ss) = l ++ boxKinds ss := rfl
      rw [hk, List.all_append, Bool.and_eq_true] at hn
      obtain ⟨c1, c2, b, us, e, ev, hb, hc, ho⟩ := h
      exact ⟨c1, c2, b, us, e, ev, hb, LReps.flat hn.1 hc, Outs.flat hn.2 ho⟩
theorem Res.flat {O O' : Nat → Nat → Prop} {n : Nat} {ss : List Sh0} {v : Value} {cs : List C} (hn : (kindsOf ss).all (flatK P) = true) (h : Res P w O n ss v cs) : Res P w O' n ss v cs := by
  obtain ⟨vs, hv, hr, h1, h2⟩ := h
  exact ⟨vs, hv, Reps.flat hn hr, h1, h2⟩
/-- What is known blocks' and older than the call. -/
def OwnM (Γ : Env) (st : St) (b o : Nat) : Prop := Γ.base b o ∨ ∃ j, Hold Γ st true j b
theorem OwnM.own {b o : Nat} (h : OwnM Γ st b o) : Own Γ st b o := by
  rcases h with h | ⟨j, h⟩
  · exact .inl h
  · exact h.own o
end
section
variable {cx : Cx} {R : List C → Prop} {F : Nat → Prop} {w0 : World}
theorem Lf.plain_ok {P : Program} {w : World} {O : Nat → Nat → Prop} {Γ : Env} {l : Lf} (h : l.plain = true) : l.ok P w O Γ := by
  cases l with
  | int e => trivial
  | bool e => trivial
  | _ => cases h
theorem SV.plain_ok {P : Program} {w : World} {O : Nat → Nat → Prop} {Γ : Env} {s : SV} (h : s.plain = true) : s.ok P w O Γ := by
  cases s with
  | one s => exact fun l hl => Lf.plain_ok (List.all_eq_true.1 h l hl)
  | tup ss => cases h
  | fn f ls => exact fun l hl => Lf.plain_ok (List.all_eq_true.1 h l hl)
theorem callCt_sound (hcx : CxOK cx) {st : St} {o : Oper} {f : Nat} {args : List S0} {k : St → Option Tree} {T : Tree} (h : callCt cx st o f args k = some T) {Γ : Env} {Ls : List (List C → Prop)} (hl : Ls.length = st.lvl) (hvc : VC cx R T Γ.ρ Ls)
    {a : Act} {w : World} (hs : Sat cx.P F w0 Γ st a w) {K : Act → World → Prop} {Q : Exit → Act → World → Prop} (hk : Next cx R F w0 k Γ Ls K) (ha2 : ∀ s ∈ args, s.ok cx.P w (Own Γ st) Γ)
    (hrun : ∀ hc : Callable cx.P f, (execOp a.eval o).run cx.P w = .ok (.enter f (args.map (S0.den Γ)).toArray) w) : o.wp cx.P a w K Q := by
  unfold callCt at h
  split at h
  · rename_i ct hct
    obtain ⟨hc, hcok, -⟩ := hcx.ct f ct hct
    split at h
    · rename_i hcond
      obtain ⟨hsh, hwf, hbx, hlend⟩ := hcond
      generalize hargs : adapts cx.P st.vec ct.args args = args' at *
      cases hp : (st.called ct args').put o.dst (some (svOf (freshS st.nb ct.res st.nx))) with
      | none => simp [hp] at h
      | some st' =>
        cases hk' : k st' with
        | none => simp [hp, hk'] at h
        | some T' =>
          simp [hp, hk'] at h
          subst h
          obtain ⟨hob, hvc'⟩ := VC.obT hvc
          simp only [VC, hct] at hvc'
          obtain ⟨hpre, hall⟩ := hvc'
          have hnv : (kindsOf ct.args).all Lk.noVec = true := by
            simp only [boxOk, Bool.and_eq_true] at hbx; exact hbx.2
          -- the blocks that the callee must not see
          obtain ⟨O, hO1, hO2, hO3, hO4⟩ : ∃ O : Nat → Nat → Prop, (∀ b o, O b o → Own Γ st b o) ∧ (∀ j mb, look st.mem j = some mb → ∀ o, O (Γ.blk j) o) ∧ (∀ s ∈ args, ∀ l ∈ s.cells, l.isVec = true → ∀ i e, look st.vec i = some e → ∀ b, (at_ Γ.ρ i).loc.ownBlock = some b → ∀ o, ¬ O b o) ∧
              (∀ w' v rs outs, Res cx.P w' O w.heap.size ct.res v rs → Outs cx.P w' (fun b o => O b o ∨ b ∈ vecB (kindsOf ct.res) rs) ct.args (args'.map (S0.den Γ)) outs → Res cx.P w' (Own Γ st) w.heap.size ct.res v rs ∧ Outs cx.P w' (fun b o => Own Γ st b o ∨ b ∈ vecB (kindsOf ct.res) rs) ct.args (args'.map (S0.den Γ)) outs) := by
            rcases hlend with hno | hflat
            · refine ⟨Own Γ st, fun _ _ h => h, fun j mb hj o => (Hold.mem (Γ := Γ) hj).own o, fun s hs' l hl' hv => ?_, fun w' v rs outs h1 h2 => ⟨h1, h2⟩⟩
              have := List.all_eq_true.1 (List.all_eq_true.1 hno s hs') l hl'
              rw [hv] at this; cases this
            · rw [List.all_append, Bool.and_eq_true] at hflat
              refine ⟨OwnM Γ st, fun _ _ h => h.own, fun j mb hj o => .inr ⟨j, Hold.mem (Γ := Γ) hj⟩, fun s hs' l hl' hv i e hi b hb o ho => ?_, fun w' v rs outs h1 h2 => ⟨h1.flat hflat.1, h2.flat hflat.2⟩⟩
              rcases ho with ho | ⟨j, ho⟩
              · exact ((hs.vec i e hi).2.2 b hb).2 o ho
              · have := (hs.inj _ _ _ _ _ ho (Hold.vec (Γ := Γ) hi hb)).1; cases this
          obtain ⟨hden, hok'⟩ := adapts_spec hs hO1 (shs := ct.args) hO3 ha2
          rw [hargs] at hden hok'
          obtain ⟨hokR, hboxk⟩ := shapes_okR (Γ := Γ) hsh hnv hok'
          have hreps := cells_rep (P := cx.P) (w := w) (O := O) (old := none) hs.num hsh hokR (fun b mb hin hmb => ⟨(hs.mem b mb hmb).1, fun l hl' => by
            obtain ⟨ks, hks, hkn⟩ := hboxk b mb hin hmb
            refine kindsL_noVec hks hkn (fun l hl' => ((hs.mem b mb hmb).2.1 l hl').anti' (fun x o hx => ?_)) l hl'
            rcases hx with hx | hx
            · exact hO1 x o hx
            · cases hx; exact (Hold.mem (Γ := Γ) hmb).own o, fun o => hO2 b mb hmb o⟩) hob
          unfold Oper.wp
          rw [hrun hc, ← hden]
          refine (hcok O w _ _ (fun b o hb => hs.own_lt b o (hO1 b o hb)) hreps hpre).mono ?_
          rintro e w' ⟨v, rs, outs, rfl, hres, houts, hpost, hkeep⟩
          obtain ⟨hres, houts⟩ := hO4 w' v rs outs hres houts
          obtain ⟨hty, Γ', e1, e2, e3, e4, e5⟩ := hs.called hwf hsh hbx hres houts hkeep
          have hvc2 := allC_elim hall (rs ++ outs) hty hpost
          rw [← e2] at hvc2
          have hput := e3.put hp e5
          rw [e4] at hput
          exact hk st' T' Γ' Ls hk' e1 (List.prefix_refl _) (by rw [St.put_lvl hp]; exact hl) hvc2 _ _ hput
    · cases h
  · cases h
theorem Sat.knowB {P : Program} {Γ : Env} {st : St} {a : Act} {w : World} (hs : Sat P F w0 Γ st a w) {b : B} {t : Bool} (hb : b.den Γ.ρ = t) : Sat P F w0 Γ (st.know none b t) a w :=
  hs.slots' hs.slots hs.size hs.defers ⟨learn_ok hs.num.len (by rw [hs.len]; exact Nat.le_refl _) b st.bds t hs.num.bds hb, hs.num.len⟩
theorem callF_sound (hcx : CxOK cx) {st : St} {o : Oper} {f : Nat} {args : List S0} {k : St → Option Tree} {T : Tree} (h : callF cx st o f args k = some T) {Γ : Env} {Ls : List (List C → Prop)} (hl : Ls.length = st.lvl) (hvc : VC cx R T Γ.ρ Ls)
    {a : Act} {w : World} (hs : Sat cx.P F w0 Γ st a w) {K : Act → World → Prop} {Q : Exit → Act → World → Prop} (hk : Next cx R F w0 k Γ Ls K) (ha2 : ∀ s ∈ args, s.ok cx.P w (Own Γ st) Γ)
    (hrun : ∀ hc : Callable cx.P f, (execOp a.eval o).run cx.P w = .ok (.enter f (args.map (S0.den Γ)).toArray) w) : o.wp cx.P a w K Q := by
  unfold callF at h
  split at h
  · exact callCt_sound hcx h hl hvc hs hk ha2 hrun
  · split at h
    · rename_i hc
      simp only [Bool.and_eq_true] at hc
      obtain ⟨hc1, hc2⟩ := hcx.hd _ _ _ _ _ h
      unfold Oper.wp
      rw [hrun hc1]
      refine (hc2 R F w0 Γ Ls a w (fun v w' => K (a.put o.dst v) w') hl hvc (hs.repath _) hc.1 hc.2 ha2 ?_).mono ?_
      · intro l st' T' Γ' Ls' hk' he hl' hlen hvc' w' hs' hok
        cases hp : ({ st' with path := st.path } : St).put o.dst (some (svOf l)) with
        | none => simp [hp] at hk'
        | some st2 =>
          simp [hp] at hk'
          have hput := (hs'.repath st.path).put hp (svOf_ok hok)
          rw [svOf_den] at hput
          exact hk st2 T' Γ' Ls' hk' he hl' (by rw [St.put_lvl hp]; exact hlen) hvc' _ _ hput
      · rintro e w' ⟨v, rfl, hv⟩
        exact hv
    · cases h
theorem freezeAll_sound {k : St → Option Tree} : ∀ (l : List Nat) (st : St) (T : Tree), freezeAll l st k = some T → ∀ (Γ : Env) (Ls : List (List C → Prop)), VC cx R T Γ.ρ Ls → ∀ {a : Act} {w : World}, Sat cx.P F w0 Γ st a w →
    ∃ st' T' Γ', k st' = some T' ∧ Ext Γ Γ' ∧ st'.lvl = st.lvl ∧ VC cx R T' Γ'.ρ Ls ∧ Sat cx.P F w0 Γ' st' a w
  | [], st, T, h, Γ, Ls, hvc, a, w, hs => ⟨st, T, Γ, h, Ext.refl _, rfl, hvc, hs⟩
  | i :: l, st, T, h, Γ, Ls, hvc, a, w, hs => by
    simp only [freezeAll] at h
    split at h
    · rename_i e st1 hf
      cases hr : freezeAll l st1 k with
      | none => simp [hr] at h
      | some T1 =>
        simp [hr] at h
        subst h
        obtain ⟨e1, e2, e3⟩ := hs.freeze hf
        obtain ⟨st', T', Γ', g1, g2, g3, g4, g5⟩ := freezeAll_sound l st1 T1 hr { Γ with ρ := Γ.ρ ++ [e.ev Γ.ρ] } Ls hvc e2
        exact ⟨st', T', Γ', g1, e1.trans g2, g3.trans e3, g4, g5⟩
    · exact freezeAll_sound l st T h Γ Ls hvc hs
end
/-! Slices made, appended to, written -/
section
variable {P : Program} {F : Nat → Prop} {w0 : World} {Γ : Env} {st : St} {a : Act} {w : World}
theorem ownsRow_full (w : World) (te : TypeId) (size n : Nat) (cs : Array Value) (hcs : cs.size = n * size) (hn : n ≤ maxLen) : (w.alloc (.cells cs te)).ownsRow 0 te size (.slice (some ⟨w.heap.size, 0, none⟩) n n) n cs.toList :=
  ⟨by simpa using hcs, .inr ⟨w.heap.size, n, cs, rfl, Nat.zero_le _, heap_alloc_new w _, Nat.le_refl _, hn, hcs, by rw [List.take_of_length_le (by simp [hcs])]⟩⟩
/-- A new slice that has just been laid. -/
theorem VecOK.laid {te : TypeId} {ks : List Lk} (hk : kinds P te = some ks) {rows : List (List C)} {cs : Array Value} (hr : CReps P w (Own Γ st) (rowsK rows.length ks) cs.toList rows.flatten) (hl : ∀ r ∈ rows, r.length = ks.length) (hn : rows.length ≤ maxLen) :
    VecOK P (w.alloc (.cells cs te)) (fun b o => Own Γ st b o ∨ w.heap.size ≤ b) te (.slice (some ⟨w.heap.size, 0, none⟩) rows.length rows.length) (.s (.slice (some ⟨w.heap.size, 0, none⟩) rows.length rows.length) rows) := by
  have hlen := hr.len.1
  rw [rowsK_len, Array.length_toList] at hlen
  exact ⟨ks, cs.toList, hk, ⟨_, rfl⟩, hl, hr.up (row := none) (World.grownBy_alloc w _ none) (fun b hb => by cases hb), ownsRow_full w te ks.length rows.length cs hlen hn⟩
theorem rows_CReps {bd : Bds} (hn : Num bd Γ.ρ) {ks : List Lk} (hno : ks.all Lk.noVec = true) {rows : List (List Lf)} (hk : ∀ r ∈ rows, kindsL r = some ks) (ho : ∀ r ∈ rows, ∀ l ∈ r, l.ok P w (Own Γ st) Γ) (hob : Obs Γ.ρ (rngL bd rows.flatten)) :
    CReps P w (Own Γ st) (rowsK rows.length ks) (rows.flatten.map (Lf.den Γ)) (rows.map (cs_ Γ.ρ)).flatten := by
  have h := CReps.rows (P := P) (w := w) (O := Own Γ st) (ks := ks) (rs := rows.map fun r => (r.map (Lf.den Γ), cs_ Γ.ρ r)) (fun r hr => by
    obtain ⟨r', hr', rfl⟩ := List.mem_map.1 hr
    exact CReps.of_LReps (Ls_rep hn (hk r' hr') (kindsL_noVec (hk r' hr') hno (ho r' hr')) (rngL_flatten hob r' hr')) hno)
  rw [List.length_map] at h
  have e1 : (rows.map fun r => (r.map (Lf.den Γ), cs_ Γ.ρ r)).flatMap (·.1) = rows.flatten.map (Lf.den Γ) := by
    rw [List.flatMap_map, List.map_flatten]; rfl
  have e2 : (rows.map fun r => (r.map (Lf.den Γ), cs_ Γ.ρ r)).flatMap (·.2) = (rows.map (cs_ Γ.ρ)).flatten := by
    rw [List.flatMap_map]; rfl
  rw [e1, e2] at h
  exact h
theorem madeCells_list (z : Array Value) (n : Nat) : (madeCells z (n * z.size)).toList = (List.replicate n z.toList).flatten := by
  apply List.ext_getElem?
  intro j
  by_cases hz : z.size = 0
  · have : z.toList = [] := List.eq_nil_of_length_eq_zero (by simpa using hz)
    simp [madeCells, hz, this]
  · by_cases hj : j < n * z.size
    · have hi : j / z.size < n := Nat.div_lt_of_lt_mul (by rwa [Nat.mul_comm] at hj)
      have hm : j % z.size < z.size := Nat.mod_lt _ (by omega)
      have hf := flatten_get (sz := z.size) (List.replicate n z.toList) (fun r hr => by rw [List.eq_of_mem_replicate hr]; simp) (j / z.size) (j % z.size) z.toList (by simp [hi]) hm
      rw [show j / z.size * z.size + j % z.size = j by rw [Nat.mul_comm]; exact Nat.div_add_mod _ _] at hf
      rw [hf]
      simp [madeCells, hj, hm]
    · have h1 : (madeCells z (n * z.size)).toList.length ≤ j := by simp [madeCells]; omega
      have h2 : (List.replicate n z.toList).flatten.length ≤ j := by
        rw [flatten_len (sz := z.size) (fun r hr => by rw [List.eq_of_mem_replicate hr]; simp)]
        simp; omega
      rw [List.getElem?_eq_none h1, List.getElem?_eq_none h2]
/-- Nothing is appended. -/
theorem run_append_empty {t ty e : TypeId} {i : TypeInfo} (ht : P.underlying t = some (.slice e)) (hi : P.info? e = some i) {v : Value} {n size : Nat} {xs : List Value} (ho : w.ownsRow 0 e size v n xs) {a : Option Addr} {c : Nat} :
    (Builtin.append_ #[t, t] ty #[v, .slice a 0 c]).run P w = .ok v w := by
  have hf : (Builtin.firstCells i.size 0 (.slice a 0 c)).run P w = .ok #[] w := by
    cases a with
    | none => exact run_firstCells_none w _ _ _ _
    | some b =>
      have := run_firstCells_some (P := P) w i.size 0 b 0 c [] (by simp) (fun j v hj => by simp at hj)
      exact this
  rcases ho.2 with ⟨rfl, rfl⟩ | ⟨g, cap, cur, rfl, -, hg, hnc, -⟩
  · simp [Builtin.append_, run_underlying ht, sizeOf, typeInfo, hi, Builtin.lenOf, hf]
  · simp [Builtin.append_, run_underlying ht, sizeOf, typeInfo, hi, Builtin.lenOf, hf, hnc, storeCells]
/-- What is appended to: a slice of one's own, or nil. -/
def CiOK (Γ : Env) (st : St) (ci : Option Nat) (v : Value) : Prop :=
  match ci with
  | some i => ∃ e, look st.vec i = some e ∧ v = (at_ Γ.ρ i).loc
  | none => v = .slice none 0 0
theorem Sat.append (h : Sat P F w0 Γ st a w) (hw : st.wf = true) {te t ty : TypeId} {ks : List Lk} {it : TypeInfo} {z : Value} (hk : kinds P te = some ks) (hu : P.underlying t = some (.slice te)) (hi : P.info? te = some it) (hz : it.zero = some z) (hzs : z.cells.size = ks.length) (hby : 1 ≤ it.bytes)
    {v vb : Value} {ra rb : List (List C)} {ci : Option Nat} (hci : CiOK Γ st ci v)
    (ha : VecOK P w (Own Γ st) te v (.s v ra)) {us : List Value} (hb : RowsAt P w (Own Γ st) ks vb rb us) (hle : ((ra.length : Int) + rb.length) * it.bytes ≤ 140737488355328) :
    ∃ v' w', (Builtin.append_ #[t, t] ty #[v, vb]).run P w = .ok v' w' ∧ Sat P F w0 { Γ with ρ := Γ.ρ ++ [.s v' (ra ++ rb)] } { st with nx := st.nx + 1, vec := (st.nx, some (te, .var st.nx)) :: dropV ci st.vec } a w' := by
  have hsz := kinds_size hk
  have hisz : it.size = ks.length := by have := hsz.1; simp only [sizeIs, hi, Option.map_some, Option.some.injEq] at this; exact this
  obtain ⟨ks', xs, hk', -, hla, hra, hoa⟩ := ha
  obtain rfl : ks = ks' := Option.some.inj (hk.symm.trans hk')
  simp only [C.rows] at hla hra hoa
  obtain ⟨hrb, hlb, ab, capb, rfl, hcb⟩ := hb
  have hle' : (ra.length + rb.length) * it.bytes ≤ 140737488355328 := by
    have : (((ra.length + rb.length) * it.bytes : Nat) : Int) ≤ 140737488355328 := by push_cast; exact hle
    omega
  have hmx : ra.length + rb.length ≤ maxLen := by
    have := Nat.le_mul_of_pos_right (ra.length + rb.length) (show 0 < it.bytes by omega)
    simp only [maxLen]; omega
  have hlab : ∀ r ∈ ra ++ rb, r.length = ks.length := fun r hr => (List.mem_append.1 hr).elim (hla r) (hlb r)
  have hrow : ∀ b, v.ownBlock = some b → ∀ o, Own Γ st b o := fun b hb o => by
    cases ci with
    | none => have hci : v = .slice none 0 0 := hci; rw [hci] at hb; cases hb
    | some i => obtain ⟨e, h1, h2⟩ := hci; exact (Hold.vec (Γ := Γ) h1 (by rw [← h2]; exact hb)).own o
  -- the new slice, where it lies in the row of the old one or in a new block
  have fin : ∀ v' w', (Builtin.append_ #[t, t] ty #[v, .slice ab rb.length capb]).run P w = .ok v' w' → w'.ownsRow 0 te ks.length v' (ra.length + rb.length) (xs ++ us) → w.grownBy w' v.ownBlock → (v'.ownBlock = v.ownBlock ∨ v'.ownBlock = some w.heap.size) →
      ∃ v' w', (Builtin.append_ #[t, t] ty #[v, .slice ab rb.length capb]).run P w = .ok v' w' ∧ Sat P F w0 { Γ with ρ := Γ.ρ ++ [.s v' (ra ++ rb)] } { st with nx := st.nx + 1, vec := (st.nx, some (te, .var st.nx)) :: dropV ci st.vec } a w' := by
    intro v' w' hrun hown hgr hat
    refine ⟨v', w', hrun, h.vnew hw (c := .s v' (ra ++ rb)) (te := te) (row := v.ownBlock) (ci := ci) ?_ hgr ?_ ?_⟩
    · cases ci with
      | none => have hci : v = .slice none 0 0 := hci; rw [hci]; rfl
      | some i => obtain ⟨e, h1, h2⟩ := hci; exact ⟨e, h1, by rw [h2]⟩
    · refine ⟨ks, xs ++ us, hk, ⟨_, rfl⟩, hlab, ?_, ?_⟩
      · simp only [C.rows, List.length_append, List.flatten_append]
        rw [rowsK_add]
        exact CReps.append (hra.up hgr hrow) (hrb.up hgr hrow)
      · simp only [C.loc, C.rows, List.length_append]; exact hown
    · intro b hb
      simp only [C.loc] at hb
      rcases hat with e | e
      · left; rw [← e]; exact hb
      · right; rw [e] at hb; cases hb; exact Nat.le_refl _
  by_cases h0 : rb = []
  · subst h0
    have hus : us = [] := List.eq_nil_of_length_eq_zero (by have := hrb.len.1; simpa [rowsK] using this)
    subst hus
    exact fin v w (run_append_empty hu hi hoa) (by simpa using hoa) (World.grownBy.rfl' w _) (.inl rfl)
  · obtain ⟨b, o, rfl, hcell⟩ := hcb h0
    obtain ⟨v', w', h1, h2, h3, h4, h5⟩ := run_append_own_at (P := P) w 0 t ty te it z ks.length it.bytes hu hi hz hisz rfl hzs (by omega) v ra.length xs hoa ⟨b, o, none⟩ rb.length capb us (by have := hrb.len.1; rwa [rowsK_len] at this) hcell hrb.one hmx hle' (Nat.zero_le _)
    exact fin v' w' h1 h2 h3 h5
theorem appA_spec (h : Sat P F w0 Γ st a w) {te : TypeId} {ks : List Lk} (hk : kinds P te = some ks) {la : Lf} {i : Option Nat} {ea : E} (hm : appA te st.vec la = some (i, ea)) : CiOK Γ st i (la.den Γ) ∧ VecOK P w (Own Γ st) te (la.den Γ) (.s (la.den Γ) (ea.ev Γ.ρ).rows) := by
  unfold appA at hm
  split at hm
  · rename_i ta j
    split at hm
    · rename_i e he
      split at hm
      · rename_i hce
        cases hm
        obtain ⟨ks', us, k1, k2, k3, k4, k5⟩ := (h.vec j e he).1
        refine ⟨⟨e, he, rfl⟩, ?_⟩
        rw [← hce.2]
        exact ⟨ks', us, k1, ⟨_, rfl⟩, k3, k4, k5⟩
      · cases hm
    · cases hm
  · split at hm
    · rename_i hnil
      cases hm
      have := Lf.isNil_eq hnil
      subst this
      exact ⟨rfl, ks, [], hk, ⟨_, rfl⟩, fun r hr => by simp [E.ev, C.rows] at hr, trivial, World.ownsRow_nil w 0 te ks.length⟩
    · cases hm
theorem appB_spec (h : Sat P F w0 Γ st a w) {te tb : TypeId} {ks : List Lk} (hk : kinds P tb = some ks) {lb : Lf} (ho : lb.ok P w (Own Γ st) Γ) {eb : E} (hm : appB te st.vec lb = some (tb, eb)) : ∃ us, RowsAt P w (Own Γ st) ks (lb.den Γ) (eb.ev Γ.ρ).rows us := by
  unfold appB at hm
  split at hm
  · rename_i hnil
    cases hm
    have := Lf.isNil_eq hnil
    subst this
    exact ⟨[], trivial, fun r hr => by simp [E.ev, C.rows] at hr, none, 0, rfl, fun hne => absurd rfl hne⟩
  · unfold rowsLf at hm
    split at hm
    · cases hm
      obtain ⟨v, rows, hev, d, S, hS, hA⟩ := ho
      have hd : (Lf.arr tb eb).den Γ = v := by simp only [Lf.den, hev, C.loc]
      rw [hd, hev]
      refine hA.us hS hk fun r hr c hc n => ?_
      rcases E.small h.num.len eb with h1 | h1
      · rw [hev] at h1; exact (h1 (n + 1)).2 r hr c hc
      · rw [hev] at h1; simp only [C.rows] at h1; subst h1; cases hr
    · split at hm
      · rename_i e he
        split at hm
        · cases hm
          exact (h.vec _ _ he).1.rowsAt hk
        · cases hm
      · cases hm
    · cases hm
end
end Go.Proofs.Ytlbgcjpkegpmlaa
