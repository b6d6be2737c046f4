/- The engine, part 13: a loop's head comes again. -/
import Derived.Test.YtlbgcjpkegpmlaaEl
namespace Go.Proofs.Ytlbgcjpkegpmlaa
open Go.RowKit
set_option linter.unusedSimpArgs false
set_option linter.unusedVariables false

theorem look_forget {α : Type} : ∀ (l : List Nat) (sl : List (Nat × Option α)) (t : Nat) (v : α), look (l.foldl (fun sl d => (d, none) :: sl) sl) t = some v → look sl t = some v
  | [], _, _, _, h => h
  | d :: l, sl, t, v, h => by
    have := look_forget l _ t v h
    simp only [look] at this
    split at this
    · cases this
    · exact this
theorem Sat.forget {P : Program} {F : Nat → Prop} {w0 : World} {Γ : Env} {st : St} {a : Act} {w : World} (h : Sat P F w0 Γ st a w) (l : List Nat) : Sat P F w0 Γ (st.forget l) a w :=
  ⟨fun t sv hs => h.slots t sv (look_forget l _ t sv hs), h.size, h.mem, h.inj, h.keeps, h.fold, h.base, h.defers, h.len, h.nb, h.num⟩

theorem look_mem {α : Type} : ∀ {l : List (Nat × Option α)} {t : Nat} {v : α}, look l t = some v → ∃ p ∈ l, p.1 = t
  | [], _, _, h => by cases h
  | (k, u) :: l, t, v, h => by
    simp only [look] at h
    split at h
    · rename_i e; exact ⟨(k, u), by simp, e⟩
    · obtain ⟨p, hp, e⟩ := look_mem h; exact ⟨p, by simp [hp], e⟩

/-- Cells that were made unknown hold what their variables stand for. -/
theorem backL_spec {P : Program} {w : World} {O O' : Nat → Nat → Prop} {Γ Γ0 Γ' : Env} (h0 : Ext Γ0 Γ) (h0' : Ext Γ0 Γ') (hO : ∀ b o, O' b o → O b o) : ∀ {cs ds vs : List Lf} {i : Nat}, backL i cs ds = some vs →
    (∀ l ∈ ds, l.ok P w O Γ) → (∀ l ∈ cs, (l.kind.isSome || l.wf Γ0.ρ.length Γ0.nb) = true) → (∀ j v, vs[j]? = some v → at_ Γ'.ρ (i + j) = v.c Γ.ρ) →
    cs.map (Lf.den Γ') = ds.map (Lf.den Γ) ∧ ∀ l ∈ cs, l.ok P w O' Γ'
  | [], [], vs, i, h, _, _, _ => ⟨rfl, fun l hl => by cases hl⟩
  | l :: cs, m :: ds, vs, i, h, ho, hw, hv => by
    simp only [backL] at h
    split at h
    · rename_i k hk
      split at h
      · rename_i hc
        simp only [Bool.and_eq_true, decide_eq_true_eq] at hc
        cases hb : backL (i + 1) cs ds with
        | none => simp [hb] at h
        | some vs' =>
          simp [hb] at h
          subst h
          obtain ⟨h1, h2⟩ := backL_spec h0 h0' hO hb (fun x hx => ho x (by simp [hx])) (fun x hx => hw x (by simp [hx])) (fun j v hj => by
            have := hv (j + 1) v (by simpa using hj)
            rwa [show i + 1 + j = i + (j + 1) by omega])
          have hat : at_ Γ'.ρ i = m.c Γ.ρ := hv 0 m (by simp)
          have hl : l = Lf.ofKind k i := sameL_eq hc.1
          have hm := hc.2
          have hmo := ho m (by simp)
          have key : l.den Γ' = m.den Γ ∧ l.ok P w O' Γ' := by
            subst hl
            cases m with
            | int e => cases hm; exact ⟨by simp [Lf.ofKind, Lf.den, E.den_var, hat, Lf.c, C.int], trivial⟩
            | bool e => cases hm; exact ⟨by simp [Lf.ofKind, Lf.den, B.den, E.ev, hat, Lf.c, C.bool], trivial⟩
            | arr t e =>
              cases hm
              refine ⟨by simp [Lf.ofKind, Lf.den, E.ev, hat, Lf.c], ?_⟩
              simp only [Lf.ofKind, Lf.ok, E.ev, hat, Lf.c]
              exact ArrOK.anti hmo hO
            | _ => cases hm
          refine ⟨by simp [key.1, h1], fun x hx => ?_⟩
          rcases List.mem_cons.1 hx with rfl | hx
          · exact key.2
          · exact h2 x hx
      · cases h
    · rename_i hk
      split at h
      · rename_i hs
        have e := sameL_eq hs
        subst e
        obtain ⟨h1, h2⟩ := backL_spec h0 h0' hO h (fun x hx => ho x (by simp [hx])) (fun x hx => hw x (by simp [hx])) hv
        have hwl := hw l (by simp)
        rw [hk] at hwl
        simp only [Option.isSome_none, Bool.false_or] at hwl
        have hd : l.den Γ' = l.den Γ := by rw [Lf.den_ext h0' l hwl, Lf.den_ext h0 l hwl]
        refine ⟨by simp [hd, h1], fun x hx => ?_⟩
        rcases List.mem_cons.1 hx with rfl | hx
        · exact Lf.ok_anti (Lf.ok_ext h0' hwl (Lf.ok_unext h0 hwl (ho _ (by simp)))) hO
        · exact h2 x hx
      · cases h
  | [], _ :: _, _, _, h, _, _, _ => by cases h
  | _ :: _, [], _, _, h, _, _, _ => by cases h
theorem backPs_spec {st st' : St} : ∀ {ps : List Pl} {i : Nat} {vals : List Lf}, backPs st st' i ps = some vals → ∀ p ∈ ps, ∃ f cs ds j vs, st.cellsAt p = some (f, cs) ∧ st'.cellsAt p = some (f, ds) ∧
    backL (i + j) cs ds = some vs ∧ ∀ x v, vs[x]? = some v → vals[j + x]? = some v
  | [], _, _, _, p, hp => by cases hp
  | q :: ps, i, vals, h, p, hp => by
    simp only [backPs] at h
    split at h
    · rename_i cs ds h1 h2
      split at h
      · rename_i hf
        split at h
        · rename_i a ha
          cases hb : backPs st st' (i + a.length) ps with
          | none => simp [hb] at h
          | some b =>
            simp [hb] at h
            subst h
            rcases List.mem_cons.1 hp with rfl | hp
            · refine ⟨cs.1, cs.2, ds.2, 0, a, h1, by rw [h2, hf], by simpa using ha, fun x v hx => ?_⟩
              have : x < a.length := by
                rcases Nat.lt_or_ge x a.length with h' | h'
                · exact h'
                · rw [List.getElem?_eq_none h'] at hx; cases hx
              rw [Nat.zero_add, List.getElem?_append_left this]; exact hx
            · obtain ⟨f, cs', ds', j, vs, e1, e2, e3, e4⟩ := backPs_spec hb p hp
              refine ⟨f, cs', ds', a.length + j, vs, e1, e2, by rwa [Nat.add_assoc] at e3, fun x v hx => ?_⟩
              rw [List.getElem?_append_right (by omega)]
              have := e4 x v hx
              rwa [show a.length + j + x - a.length = j + x by omega]
        · cases h
      · cases h
    · cases h
theorem backL_kinds {P : Program} {w : World} {O : Nat → Nat → Prop} {Γ : Env} : ∀ {cs ds vs : List Lf} {i : Nat}, backL i cs ds = some vs → (∀ l ∈ ds, l.ok P w O Γ) → ∀ l ∈ vs, l.ok P w O Γ
  | [], [], vs, i, h, _ => by simp [backL] at h; subst h; exact fun l hl => by cases hl
  | l :: cs, m :: ds, vs, i, h, ho => by
    simp only [backL] at h
    split at h
    · split at h
      · cases hb : backL (i + 1) cs ds with
        | none => simp [hb] at h
        | some vs' =>
          simp [hb] at h
          subst h
          intro x hx
          rcases List.mem_cons.1 hx with rfl | hx
          · exact ho _ (by simp)
          · exact backL_kinds hb (fun x hx => ho x (by simp [hx])) x hx
      · cases h
    · split at h
      · exact backL_kinds h (fun x hx => ho x (by simp [hx]))
      · cases h
  | [], _ :: _, _, _, h, _ => by cases h
  | _ :: _, [], _, _, h, _ => by cases h
theorem Sat.cellsAt_ok {P : Program} {F : Nat → Prop} {w0 : World} {Γ : Env} {st : St} {a : Act} {w : World} (h : Sat P F w0 Γ st a w) {p : Pl} {f : Bool} {cs : List Lf} (hc : st.cellsAt p = some (f, cs)) : ∀ l ∈ cs, l.ok P w (Own Γ st) Γ := by
  cases p with
  | slot d =>
    simp only [St.cellsAt] at hc
    split at hc
    · rename_i l hl
      cases hc
      have := (h.slots d _ hl).2
      exact fun x hx => this x (by simpa [S0.cells] using hx)
    · rename_i l hl
      cases hc
      exact (h.slots d _ hl).2
    · cases hc
  | blk b =>
    simp only [St.cellsAt, Option.map_eq_some_iff] at hc
    obtain ⟨mb, hm, e⟩ := hc
    cases e
    exact (h.mem b mb hm).2.1
theorem backPs_ok {P : Program} {F : Nat → Prop} {w0 : World} {Γ : Env} {st st' : St} {a : Act} {w : World} (h : Sat P F w0 Γ st' a w) : ∀ {ps : List Pl} {i : Nat} {vals : List Lf}, backPs st st' i ps = some vals →
    ∀ l ∈ vals, l.ok P w (Own Γ st') Γ
  | [], _, vals, hb => by simp [backPs] at hb; subst hb; exact fun l hl => by cases hl
  | q :: ps, i, vals, hb => by
    simp only [backPs] at hb
    split at hb
    · rename_i cs ds h1 h2
      split at hb
      · split at hb
        · rename_i x hx
          cases hb2 : backPs st st' (i + x.length) ps with
          | none => simp [hb2] at hb
          | some b =>
            simp [hb2] at hb
            subst hb
            intro l hl
            rcases List.mem_append.1 hl with hl | hl
            · exact backL_kinds hx (h.cellsAt_ok h2) l hl
            · exact backPs_ok h hb2 l hl
        · cases hb
      · cases hb
    · cases hb

/-- THE HEAD COMES AGAIN: a state in which all places hold something stands for the head's, at the values that they hold. -/
theorem Sat.rebase {P : Program} {F : Nat → Prop} {w0 : World} {Γ : Env} {st1 st : St} {a : Act} {w : World} (h : Sat P F w0 Γ st a w) {ρ0 : List C} (hρ : ∃ l, Γ.ρ = ρ0 ++ l) {ps : List Pl}
    (hsame : sameRest st1 st ps = true) {vals : List Lf} (hb : backPs st1 st ρ0.length ps = some vals) {ks : List Lk} (hk : kindsL vals = some ks) (hob : Obs Γ.ρ (rngL st.bds vals)) (hwf : headWf st1 ρ0.length ps = true)
    (hnt : st1.nt = st.nt) (hnb : st1.nb ≤ st.nb) (hnx : st1.nx = ρ0.length + ks.length) (hnum : Num st1.bds ρ0) :
    CTy P ks (cs_ Γ.ρ vals) ∧ Sat P F w0 { Γ with ρ := ρ0 ++ cs_ Γ.ρ vals, nb := st1.nb } st1 a w := by
  obtain ⟨l, hl⟩ := hρ
  have hrep := Ls_rep (P := P) (w := w) h.num hk (backPs_ok h hb) hob
  have hty : CTy P ks (cs_ Γ.ρ vals) := LReps.ty hrep
  refine ⟨hty, ?_⟩
  let Γ0 : Env := { Γ with ρ := ρ0, nb := st1.nb }
  let Γ' : Env := { Γ with ρ := ρ0 ++ cs_ Γ.ρ vals, nb := st1.nb }
  have e0 : Ext Γ0 Γ := ⟨⟨l, hl⟩, fun _ _ => rfl, by simp only [Γ0]; rw [h.nb]; exact hnb, rfl⟩
  have e0' : Ext Γ0 Γ' := ⟨⟨_, rfl⟩, fun _ _ => rfl, Nat.le_refl _, rfl⟩
  simp only [sameRest, Bool.and_eq_true, List.all_eq_true] at hsame
  obtain ⟨s1, s2⟩ := hsame
  simp only [headWf, Bool.and_eq_true, List.all_eq_true] at hwf
  obtain ⟨⟨⟨w1, w2⟩, w3⟩, w4⟩ := hwf
  have mem' : ∀ b mb, look st1.mem b = some mb → ∃ mb', look st.mem b = some mb' ∧ mb.1 = mb'.1 ∧ (Pl.blk b ∈ ps ∨ mb.2 = mb'.2) := by
    intro b mb hm
    obtain ⟨p, hp, rfl⟩ := look_mem hm
    have := s2 p hp
    rw [hm] at this
    simp only [] at this
    split at this
    · rename_i mb' hm'
      simp only [Bool.and_eq_true, Bool.or_eq_true, List.contains_iff_mem] at this
      exact ⟨mb', hm', Nat.eq_of_beq_eq_true this.1, this.2.imp id sameLs_eq⟩
    · cases this
  have hown : ∀ b o, Own Γ' st1 b o → Own Γ st b o := by
    rintro b o (hb' | ⟨j, mb, hj, rfl⟩)
    · exact .inl hb'
    · obtain ⟨mb', hm', -⟩ := mem' j mb hj
      exact .inr ⟨j, mb', hm', rfl⟩
  have place : ∀ p ∈ ps, ∃ f cs ds, st1.cellsAt p = some (f, cs) ∧ st.cellsAt p = some (f, ds) ∧ cs.map (Lf.den Γ') = ds.map (Lf.den Γ) ∧ ∀ l ∈ cs, l.ok P w (Own Γ' st1) Γ' := by
    intro p hp
    obtain ⟨f, cs, ds, j, vs, c1, c2, c3, c4⟩ := backPs_spec hb p hp
    have hcw := w3 p hp
    rw [c1] at hcw
    simp only [List.all_eq_true] at hcw
    obtain ⟨g1, g2⟩ := backL_spec (P := P) (w := w) e0 e0' hown c3 (h.cellsAt_ok c2) hcw (fun x v hx => by
      have hx' := c4 x v hx
      have : (cs_ Γ.ρ vals)[j + x]? = some (v.c Γ.ρ) := by simp [cs_, hx']
      rw [Nat.add_assoc]
      exact at_app this)
    exact ⟨f, cs, ds, c1, c2, g1, g2⟩
  refine ⟨fun t sv hs => ?_, by rw [hnt]; exact h.size, fun b mb hm => ?_, fun b c mb mc hb' hc heq => ?_, h.keeps, h.fold, h.base, h.defers, by simp [hnx, hty.len], rfl,
    ⟨Bds.ok_ext hnum.bds, hnum.len.app fun c hc => hty.small c hc⟩⟩
  · obtain ⟨p, hp, rfl⟩ := look_mem hs
    have h1 := s1 p hp
    rw [hs] at h1
    simp only [Bool.or_eq_true, List.contains_iff_mem] at h1
    by_cases hpl : Pl.slot p.1 ∈ ps
    · obtain ⟨f, cs, ds, c1, c2, g1, g2⟩ := place _ hpl
      simp only [St.cellsAt, hs] at c1
      split at c1
      · rename_i x hx
        cases hx
        cases c1
        simp only [St.cellsAt] at c2
        split at c2
        · rename_i y hy
          cases c2
          have := (h.slots p.1 _ hy).1
          simp at g1
          exact ⟨by rw [this]; exact g1.symm, fun z hz => by simp [S0.cells] at hz; subst hz; exact g2 _ (by simp)⟩
        · cases c2
        · cases c2
      · rename_i x hx
        cases hx
        cases c1
        simp only [St.cellsAt] at c2
        split at c2
        · cases c2
        · rename_i y hy
          cases c2
          have := (h.slots p.1 _ hy).1
          exact ⟨by rw [this]; show _ = Value.agg (List.map (Lf.den Γ') cs).toArray; rw [g1]; rfl, fun z hz => g2 z hz⟩
        · cases c2
      · cases c1
    · rcases h1 with h1 | h1
      · exact absurd h1 hpl
      · split at h1
        · rename_i sv' hsv'
          have e := sameS_eq h1
          subst e
          have hw' := w1 p hp
          rw [hs] at hw'
          simp only [Bool.or_eq_true, List.contains_iff_mem] at hw'
          have hw2 : sv.wf Γ0.ρ.length Γ0.nb = true := hw'.resolve_left hpl
          obtain ⟨g1, g2⟩ := h.slots p.1 _ hsv'
          exact ⟨by rw [g1, SV.den_ext e0 sv hw2, ← SV.den_ext e0' sv hw2], SV.ok_anti (SV.ok_ext e0' hw2 (SV.ok_unext e0 hw2 g2)) hown⟩
        · cases h1
  · obtain ⟨mb', hm', ht, hor⟩ := mem' b mb hm
    obtain ⟨m1, m2, m3, m4⟩ := h.mem b mb' hm'
    have hb2 : b < st1.nb ∧ (Pl.blk b ∈ ps ∨ mb.2.all (Lf.wf ρ0.length st1.nb) = true) := by
      obtain ⟨p, hp, rfl⟩ := look_mem hm
      have := w2 p hp
      rw [hm] at this
      simp only [Bool.and_eq_true, Nat.blt_eq, Bool.or_eq_true, List.contains_iff_mem] at this
      exact this
    by_cases hpl : Pl.blk b ∈ ps
    · obtain ⟨f, cs, ds, c1, c2, g1, g2⟩ := place _ hpl
      simp only [St.cellsAt, hm, hm', Option.map_some, Option.some.injEq, Prod.mk.injEq] at c1 c2
      obtain ⟨-, rfl⟩ := c1
      obtain ⟨-, rfl⟩ := c2
      refine ⟨?_, g2, m3, hb2.1⟩
      rw [ht, show dens _ mb.2 = dens Γ mb'.2 from by unfold dens; exact congrArg _ g1]
      exact m1
    · have e := hor.resolve_left hpl
      have hwl := hb2.2.resolve_left hpl
      refine ⟨?_, fun l hl => ?_, m3, hb2.1⟩
      · rw [ht, show dens _ mb.2 = dens Γ mb'.2 from by rw [← e]; exact (dens_ext e0' mb.2 hwl).trans (dens_ext e0 mb.2 hwl).symm]
        exact m1
      · have hl' : l.wf Γ0.ρ.length Γ0.nb = true := List.all_eq_true.1 hwl l hl
        exact Lf.ok_anti (Lf.ok_ext e0' hl' (Lf.ok_unext e0 hl' (m2 l (by rw [← e]; exact hl)))) hown
  · obtain ⟨x, hx, -⟩ := mem' b mb hb'
    obtain ⟨y, hy, -⟩ := mem' c mc hc
    exact h.inj b c x y hx hy heq
end Go.Proofs.Ytlbgcjpkegpmlaa
