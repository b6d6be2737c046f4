/- The engine, part 13: a loop's head comes again. -/
import Derived.Test.YtlbgcjpkegpmlaaEl
namespace Go.Proofs.Ytlbgcjpkegpmlaa
open Go.RowKit
set_option linter.unusedSimpArgs false
set_option linter.unusedVariables false

theorem look_forget {α : Type} : ∀ (l : List Nat) (sl : List (Nat × Option α)) (t : Nat) (v : α), look (l.foldl (fun sl d => (d, none) :: sl) sl) t = some v → look sl t = some v
  | [], _, _, _, h => h
  | d :: l, sl, t, v, h => by
    have := look_forget l _ t v h
    simp only [look] at this
    split at this
    · cases this
    · exact this
theorem Sat.forget {P : Program} {F : Nat → Prop} {w0 : World} {Γ : Env} {st : St} {a : Act} {w : World} (h : Sat P F w0 Γ st a w) (l : List Nat) : Sat P F w0 Γ (st.forget l) a w :=
  h.slots' (fun t sv hs => h.slots t sv (look_forget l _ t sv hs)) h.size h.defers h.num

theorem look_mem {α : Type} : ∀ {l : List (Nat × Option α)} {t : Nat} {v : α}, look l t = some v → ∃ p ∈ l, p.1 = t
  | [], _, _, h => by cases h
  | (k, u) :: l, t, v, h => by
    simp only [look] at h
    split at h
    · rename_i e; exact ⟨(k, u), by simp, e⟩
    · obtain ⟨p, hp, e⟩ := look_mem h; exact ⟨p, by simp [hp], e⟩

/-- Cells that were made unknown hold what their variables stand for. -/
theorem backL_spec {P : Program} {w : World} {O O' : Nat → Nat → Prop} {vec : Vecs} {Γ Γ0 Γ' : Env} (hvec : ∀ j e, look vec j = some e → VecOK P w O e.1 (at_ Γ.ρ j).loc (e.2.ev Γ.ρ)) (h0 : Ext Γ0 Γ) (h0' : Ext Γ0 Γ') (hO : ∀ b o, O' b o → O b o) : ∀ {cs ds vs : List Lf} {i : Nat}, backL vec i cs ds = some vs →
    (∀ l ∈ ds, l.ok P w O Γ) → (∀ l ∈ cs, (l.kind.isSome || l.wf Γ0.ρ.length Γ0.nb) = true) → (∀ j v, vs[j]? = some v → at_ Γ'.ρ (i + j) = v.c Γ.ρ) →
    cs.map (Lf.den Γ') = ds.map (Lf.den Γ) ∧ (∀ l ∈ cs, l.ok P w O' Γ') ∧ (∀ i' j', (i', j') ∈ vmapL cs ds → ∃ e, look vec j' = some e ∧ at_ Γ'.ρ i' = (mkJoin j' e.2).ev Γ.ρ) ∧
      (∀ (x : Nat) te r te' r', cs[x]? = some (.cnt te r) → ds[x]? = some (.cnt te' r') → te = te' ∧ r.ev Γ'.ρ = r'.ev Γ.ρ)
  | [], [], vs, i, h, _, _, _ => ⟨rfl, fun l hl => (by cases hl), fun i' j' hm => (by cases hm), fun x _ _ _ _ e => (by simp at e)⟩
  | l :: cs, m :: ds, vs, i, h, ho, hw, hv => by
    have step : ∀ {vs' : List Lf} {i1 : Nat}, backL vec i1 cs ds = some vs' → (∀ j v, vs'[j]? = some v → at_ Γ'.ρ (i1 + j) = v.c Γ.ρ) → l.den Γ' = m.den Γ → l.ok P w O' Γ' → (∀ te i' te' j', l = .vec te i' → m = .vec te' j' → ∃ e, look vec j' = some e ∧ at_ Γ'.ρ i' = (mkJoin j' e.2).ev Γ.ρ) → (∀ te r te' r', l = .cnt te r → m = .cnt te' r' → te = te' ∧ r.ev Γ'.ρ = r'.ev Γ.ρ) →
        (l :: cs).map (Lf.den Γ') = (m :: ds).map (Lf.den Γ) ∧ (∀ x ∈ l :: cs, x.ok P w O' Γ') ∧ (∀ i' j', (i', j') ∈ vmapL (l :: cs) (m :: ds) → ∃ e, look vec j' = some e ∧ at_ Γ'.ρ i' = (mkJoin j' e.2).ev Γ.ρ) ∧
          (∀ (x : Nat) te r te' r', (l :: cs)[x]? = some (.cnt te r) → (m :: ds)[x]? = some (.cnt te' r') → te = te' ∧ r.ev Γ'.ρ = r'.ev Γ.ρ) := by
      intro vs' i1 hb hv' hd hok hvm hcn
      obtain ⟨h1, h2, h3, h4⟩ := backL_spec hvec h0 h0' hO hb (fun x hx => ho x (by simp [hx])) (fun x hx => hw x (by simp [hx])) hv'
      refine ⟨by simp [hd, h1], fun x hx => ?_, fun i' j' hm => ?_, fun x te r te' r' hx hy => ?_⟩
      · rcases List.mem_cons.1 hx with rfl | hx
        · exact hok
        · exact h2 x hx
      · have hcase : (∃ te te', l = .vec te i' ∧ m = .vec te' j') ∨ (i', j') ∈ vmapL cs ds := by
          cases l <;> cases m <;> first
            | exact .inr hm
            | (simp only [vmapL, List.mem_cons, Prod.mk.injEq] at hm
               rcases hm with ⟨rfl, rfl⟩ | hm
               · exact .inl ⟨_, _, rfl, rfl⟩
               · exact .inr hm)
        rcases hcase with ⟨te, te', e1, e2⟩ | hm
        · exact hvm te i' te' j' e1 e2
        · exact h3 i' j' hm
      · cases x with
        | zero => simp at hx hy; exact hcn te r te' r' hx hy
        | succ x => exact h4 x te r te' r' (by simpa using hx) (by simpa using hy)
    have tail : ∀ {vs' : List Lf} {x : Lf}, vs = x :: vs' → (∀ j v, vs'[j]? = some v → at_ Γ'.ρ (i + 1 + j) = v.c Γ.ρ) ∧ at_ Γ'.ρ i = x.c Γ.ρ := fun {vs' x} e => by
      subst e
      exact ⟨fun j v hj => by have := hv (j + 1) v (by simpa using hj); rwa [show i + 1 + j = i + (j + 1) by omega], hv 0 x (by simp)⟩
    simp only [backL] at h
    split at h
    · rename_i te r
      split at h
      · rename_i te' r'
        split at h
        · rename_i hc
          obtain ⟨rfl, rfl⟩ := hc
          cases hb : backL vec (i + 1) cs ds with
          | none => simp [hb] at h
          | some vs' =>
            simp [hb] at h
            obtain ⟨t1, t2⟩ := tail h.symm
            have hev : (E.var i).ev Γ'.ρ = r'.ev Γ.ρ := t2
            have hmo := ho (.cnt te r') (by simp)
            refine step hb t1 (by simp only [Lf.den, hev]) (by simp only [Lf.ok, hev]; exact hmo) (fun _ _ _ _ e => (by cases e)) (fun te1 r1 te2 r2 e1 e2 => ?_)
            cases e1; cases e2; exact ⟨rfl, hev⟩
        · cases h
      · cases h
    · rename_i te i'
      split at h
      · rename_i e1
        subst e1
        split at h
        · rename_i te' j
          split at h
          · rename_i e he
            split at h
            · rename_i hc
              obtain ⟨rfl, hc2⟩ := hc
              cases hb : backL vec (i' + 1) cs ds with
              | none => simp [hb] at h
              | some vs' =>
                simp [hb] at h
                obtain ⟨t1, t2⟩ := tail h.symm
                simp only [Lf.c] at t2
                have hve := hvec j e he
                have hj := mkJoin_ev hve
                have hl : (at_ Γ'.ρ i').loc = (at_ Γ.ρ j).loc := by rw [t2, hj]; rfl
                obtain ⟨a, cap, hs⟩ := hve.slice
                refine step hb t1 (by simp only [Lf.den, hl]) ⟨a, _, cap, hl.trans hs⟩ (fun te1 i1 te2 j2 e1 e2 => ?_) (fun _ _ _ _ e => (by cases e))
                cases e1; cases e2; exact ⟨e, he, t2⟩
            · cases h
          · cases h
        · cases h
      · cases h
    · rename_i hn1 hn2
      split at h
      · rename_i k hk
        split at h
        · rename_i hc
          simp only [Bool.and_eq_true, decide_eq_true_eq] at hc
          obtain ⟨⟨c1, c2⟩, c3⟩ := hc
          cases hb : backL vec (i + 1) cs ds with
          | none => simp [hb] at h
          | some vs' =>
            simp [hb] at h
            obtain ⟨t1, t2⟩ := tail h.symm
            have hl := sameL_eq c1
            have hmo := ho m (by simp)
            have key : l.den Γ' = m.den Γ ∧ l.ok P w O' Γ' := by
              subst hl
              cases m with
              | int e => cases c2; exact ⟨by simp [Lf.ofKind, Lf.den, E.den_var, t2, Lf.c, C.int], trivial⟩
              | bool e => cases c2; exact ⟨by simp [Lf.ofKind, Lf.den, B.den, E.ev, t2, Lf.c, C.bool], trivial⟩
              | arr t e =>
                cases c2
                refine ⟨by simp [Lf.ofKind, Lf.den, E.ev, t2, Lf.c], ?_⟩
                simp only [Lf.ofKind, Lf.ok, E.ev, t2, Lf.c]
                exact ArrOK.anti hmo hO
              | vec t j => cases c2; cases c3
              | cnt t j => cases c2; cases c3
              | _ => cases c2
            exact step hb t1 key.1 key.2 (fun te i' _ _ e _ => absurd e (hn2 te i')) (fun te r _ _ e _ => absurd e (hn1 te r))
        · cases h
      · rename_i hk
        split at h
        · rename_i hs
          have e := sameL_eq hs
          subst e
          have hwl := hw l (by simp)
          rw [hk] at hwl
          simp only [Option.isSome_none, Bool.false_or] at hwl
          have hd : l.den Γ' = l.den Γ := by rw [Lf.den_ext h0' l hwl, Lf.den_ext h0 l hwl]
          exact step h hv hd (Lf.ok_anti (Lf.ok_ext h0' hwl (Lf.ok_unext h0 hwl (ho _ (by simp)))) hO) (fun te i' _ _ e _ => absurd e (hn2 te i')) (fun te r _ _ e _ => absurd e (hn1 te r))
        · cases h
  | [], _ :: _, _, _, h, _, _, _ => by cases h
  | _ :: _, [], _, _, h, _, _, _ => by cases h
theorem backPs_spec {st st' : St} : ∀ {ps : List Pl} {i : Nat} {vals : List Lf}, backPs st st' i ps = some vals → ∀ p ∈ ps, ∃ f cs ds j vs, st.cellsAt p = some (f, cs) ∧ st'.cellsAt p = some (f, ds) ∧
    backL st'.vec (i + j) cs ds = some vs ∧ ∀ (x : Nat) v, vs[x]? = some v → vals[j + x]? = some v
  | [], _, _, _, p, hp => by cases hp
  | q :: ps, i, vals, h, p, hp => by
    simp only [backPs] at h
    split at h
    · rename_i cs ds h1 h2
      split at h
      · rename_i hf
        split at h
        · rename_i a ha
          cases hb : backPs st st' (i + a.length) ps with
          | none => simp [hb] at h
          | some b =>
            simp [hb] at h
            subst h
            rcases List.mem_cons.1 hp with rfl | hp
            · refine ⟨cs.1, cs.2, ds.2, 0, a, h1, by rw [h2, hf], by simpa using ha, fun x v hx => ?_⟩
              have : x < a.length := by
                rcases Nat.lt_or_ge x a.length with h' | h'
                · exact h'
                · rw [List.getElem?_eq_none h'] at hx; cases hx
              rw [Nat.zero_add, List.getElem?_append_left this]; exact hx
            · obtain ⟨f, cs', ds', j, vs, e1, e2, e3, e4⟩ := backPs_spec hb p hp
              refine ⟨f, cs', ds', a.length + j, vs, e1, e2, by rwa [Nat.add_assoc] at e3, fun x v hx => ?_⟩
              rw [List.getElem?_append_right (by omega)]
              have := e4 x v hx
              rwa [show a.length + j + x - a.length = j + x by omega]
        · cases h
      · cases h
    · cases h
theorem mkJoin_ty {P : Program} {w : World} {O : Nat → Nat → Prop} {ρ : List C} {te : TypeId} {i : Nat} {r : E} (h : VecOK P w O te (at_ ρ i).loc (r.ev ρ)) : ∃ v rows d, (mkJoin i r).ev ρ = .s v rows ∧ TyN P d te rows ∧ ∀ n, (C.s v rows).small n := by
  obtain ⟨v', rows, d, e, ht⟩ := h.tyN
  have hs := h.small
  rw [mkJoin_ev h]
  have hr : (r.ev ρ).rows = rows := by rw [e]; rfl
  rw [hr]
  exact ⟨_, _, d, rfl, ht, C.small_rows (.inl hs) (by rw [hr]; exact Nat.le_refl _) (fun x hx => by rw [hr]; exact hx) _⟩
theorem backL_kinds {P : Program} {w : World} {O : Nat → Nat → Prop} {vec : Vecs} {Γ : Env} (hvec : ∀ j e, look vec j = some e → VecOK P w O e.1 (at_ Γ.ρ j).loc (e.2.ev Γ.ρ)) : ∀ {cs ds vs : List Lf} {i : Nat}, backL vec i cs ds = some vs → (∀ l ∈ ds, l.ok P w O Γ) → ∀ l ∈ vs, l.ok P w O Γ ∧ l.isVec = false
  | [], [], vs, i, h, _ => by simp [backL] at h; subst h; exact fun l hl => by cases hl
  | l :: cs, m :: ds, vs, i, h, ho => by
    have step : ∀ {vs' : List Lf} {i1 : Nat} {x : Lf}, backL vec i1 cs ds = some vs' → vs = x :: vs' → x.ok P w O Γ → x.isVec = false → ∀ l ∈ vs, l.ok P w O Γ ∧ l.isVec = false := by
      intro vs' i1 x hb e h1 h2 y hy
      subst e
      rcases List.mem_cons.1 hy with rfl | hy
      · exact ⟨h1, h2⟩
      · exact backL_kinds hvec hb (fun x hx => ho x (by simp [hx])) y hy
    simp only [backL] at h
    split at h
    · split at h
      · rename_i te' r'
        split at h
        · cases hb : backL vec (i + 1) cs ds with
          | none => simp [hb] at h
          | some vs' => simp [hb] at h; exact step hb h.symm (by have := ho (.cnt te' r') (by simp); rename_i hc; rw [hc.1]; exact this) rfl
        · cases h
      · cases h
    · split at h
      · split at h
        · rename_i te' j
          split at h
          · rename_i e he
            split at h
            · rename_i hc
              cases hb : backL vec (i + 1) cs ds with
              | none => simp [hb] at h
              | some vs' =>
                simp [hb] at h
                refine step hb h.symm ?_ rfl
                have := mkJoin_ty (hvec j e he)
                rw [hc.2] at this
                exact this
            · cases h
          · cases h
        · cases h
      · cases h
    · split at h
      · split at h
        · rename_i hc
          simp only [Bool.and_eq_true, decide_eq_true_eq] at hc
          cases hb : backL vec (i + 1) cs ds with
          | none => simp [hb] at h
          | some vs' =>
            simp [hb] at h
            refine step hb h.symm (ho m (by simp)) ?_
            have h2 := hc.1.2
            have h3 := hc.2
            cases m with
            | vec t j => cases h2; cases h3
            | _ => rfl
        · cases h
      · split at h
        · exact backL_kinds hvec h (fun x hx => ho x (by simp [hx]))
        · cases h
  | [], _ :: _, _, _, h, _ => by cases h
  | _ :: _, [], _, _, h, _ => by cases h
theorem Sat.cellsAt_ok {P : Program} {F : Nat → Prop} {w0 : World} {Γ : Env} {st : St} {a : Act} {w : World} (h : Sat P F w0 Γ st a w) {p : Pl} {f : Bool} {cs : List Lf} (hc : st.cellsAt p = some (f, cs)) : ∀ l ∈ cs, l.ok P w (Own Γ st) Γ := by
  cases p with
  | slot d =>
    simp only [St.cellsAt] at hc
    split at hc
    · rename_i l hl
      cases hc
      have := (h.slots d _ hl).2
      exact fun x hx => this x (by simpa [S0.cells] using hx)
    · rename_i l hl
      cases hc
      exact (h.slots d _ hl).2
    · cases hc
  | blk b =>
    simp only [St.cellsAt, Option.map_eq_some_iff] at hc
    obtain ⟨mb, hm, e⟩ := hc
    cases e
    exact (h.mem b mb hm).2.1
  | vec i =>
    simp only [St.cellsAt, Option.map_eq_some_iff] at hc
    obtain ⟨e, hm, e'⟩ := hc
    cases e'
    intro l hl
    simp at hl
    subst hl
    obtain ⟨v, rows, d, e1, ht⟩ := (h.vec i e hm).1.tyN
    have hs := (h.vec i e hm).1.small
    simp only [Lf.ok]
    rw [e1] at hs ⊢
    exact ⟨v, rows, d, rfl, ht, hs⟩
theorem backPs_ok {P : Program} {F : Nat → Prop} {w0 : World} {Γ : Env} {st st' : St} {a : Act} {w : World} (h : Sat P F w0 Γ st' a w) : ∀ {ps : List Pl} {i : Nat} {vals : List Lf}, backPs st st' i ps = some vals →
    ∀ l ∈ vals, l.ok P w (Own Γ st') Γ ∧ l.isVec = false
  | [], _, vals, hb => by simp [backPs] at hb; subst hb; exact fun l hl => by cases hl
  | q :: ps, i, vals, hb => by
    simp only [backPs] at hb
    split at hb
    · rename_i cs ds h1 h2
      split at hb
      · split at hb
        · rename_i x hx
          cases hb2 : backPs st st' (i + x.length) ps with
          | none => simp [hb2] at hb
          | some b =>
            simp [hb2] at hb
            subst hb
            intro l hl
            rcases List.mem_append.1 hl with hl | hl
            · exact backL_kinds (fun j e he => (h.vec j e he).1) hx (h.cellsAt_ok h2) l hl
            · exact backPs_ok h hb2 l hl
        · cases hb
      · cases hb
    · cases hb

theorem keyOf_mem : ∀ {vm : List (Nat × Nat)} {i j : Nat}, keyOf vm i = some j → (i, j) ∈ vm
  | [], _, _, h => by cases h
  | (k, j') :: l, i, j, h => by
    simp only [keyOf] at h
    split at h
    · rename_i e; subst e; cases h; simp
    · simp [keyOf_mem h]
/-- THE HEAD COMES AGAIN: a state in which all places hold something stands for the head's, at the values that they hold. -/
theorem Sat.rebase {P : Program} {F : Nat → Prop} {w0 : World} {Γ : Env} {st1 st : St} {a : Act} {w : World} (h : Sat P F w0 Γ st a w) {ρ0 : List C} (hρ : ∃ l, Γ.ρ = ρ0 ++ l) {ps : List Pl}
    (hsame : sameRest st1 st ρ0.length ps = true) {vals : List Lf} (hb : backPs st1 st ρ0.length ps = some vals) {ks : List Lk} (hk : kindsL vals = some ks) (hob : Obs Γ.ρ (rngL st.bds vals)) (hwf : headWf st1 ρ0.length ps = true)
    (hnt : st1.nt = st.nt) (hnb : st1.nb ≤ st.nb) (hnx : st1.nx = ρ0.length + ks.length) (hnum : Num st1.bds ρ0) :
    CTy P ks (cs_ Γ.ρ vals) ∧ Sat P F w0 { Γ with ρ := ρ0 ++ cs_ Γ.ρ vals, nb := st1.nb } st1 a w := by
  obtain ⟨l, hl⟩ := hρ
  have hty : CTy P ks (cs_ Γ.ρ vals) := Ls_ty (P := P) (w := w) h.num hk (backPs_ok h hb) hob
  refine ⟨hty, ?_⟩
  let Γ0 : Env := { Γ with ρ := ρ0, nb := st1.nb }
  let Γ' : Env := { Γ with ρ := ρ0 ++ cs_ Γ.ρ vals, nb := st1.nb }
  have e0 : Ext Γ0 Γ := ⟨⟨l, hl⟩, fun _ _ => rfl, by simp only [Γ0]; rw [h.nb]; exact hnb, rfl, rfl⟩
  have e0' : Ext Γ0 Γ' := ⟨⟨_, rfl⟩, fun _ _ => rfl, Nat.le_refl _, rfl, rfl⟩
  simp only [sameRest, Bool.and_eq_true, List.all_eq_true] at hsame
  obtain ⟨⟨⟨s1, s2⟩, s3⟩, s4⟩ := hsame
  simp only [sameVec, Bool.and_eq_true, List.all_eq_true] at s3
  obtain ⟨s3a, s3b⟩ := s3
  generalize hvm : vmapPs st1 st ps = vm at *
  simp only [headWf, Bool.and_eq_true, List.all_eq_true] at hwf
  obtain ⟨⟨⟨w1, w2⟩, w3⟩, w4⟩ := hwf
  have mem' : ∀ b mb, look st1.mem b = some mb → ∃ mb', look st.mem b = some mb' ∧ mb.1 = mb'.1 ∧ (Pl.blk b ∈ ps ∨ mb.2 = mb'.2) := by
    intro b mb hm
    obtain ⟨p, hp, rfl⟩ := look_mem hm
    have := s2 p hp
    rw [hm] at this
    simp only [] at this
    split at this
    · rename_i mb' hm'
      simp only [Bool.and_eq_true, Bool.or_eq_true, List.contains_iff_mem] at this
      exact ⟨mb', hm', Nat.eq_of_beq_eq_true this.1, this.2.imp id sameLs_eq⟩
    · cases this
  -- a slice at the head and the one that stands for it
  have vec' : ∀ i e, look st1.vec i = some e → ∃ e', look st.vec (curOf vm i) = some e' ∧ e.1 = e'.1 ∧ ((∃ j, keyOf vm i = some j ∧ ρ0.length ≤ i ∧ e.2 = .var i) ∨ (keyOf vm i = none ∧ i < ρ0.length ∧ (Pl.vec i ∈ ps ∨ (e.2 = e'.2 ∧ e.2.wf ρ0.length = true)))) := by
    intro i e hi
    obtain ⟨p, hp, rfl⟩ := look_mem hi
    have := s3a p hp
    rw [hi] at this
    simp only [] at this
    split at this
    · rename_i e' he'
      simp only [Bool.and_eq_true] at this
      refine ⟨e', he', Nat.eq_of_beq_eq_true this.1, ?_⟩
      have h2 := this.2
      split at h2
      · rename_i j hj
        simp only [Bool.and_eq_true, decide_eq_true_eq] at h2
        exact .inl ⟨j, hj, Nat.le_of_ble_eq_true h2.1, h2.2⟩
      · rename_i hj
        simp only [Bool.and_eq_true, Bool.or_eq_true, List.contains_iff_mem, decide_eq_true_eq, Nat.blt_eq] at h2
        exact .inr ⟨hj, h2.1, h2.2⟩
    · cases this
  have vinj : ∀ i e i' e', look st1.vec i = some e → look st1.vec i' = some e' → curOf vm i = curOf vm i' → i = i' := by
    intro i e i' e' h1 h2 heq
    obtain ⟨p, hp, rfl⟩ := look_mem h1
    obtain ⟨q, hq, rfl⟩ := look_mem h2
    have := s3b p hp q hq
    rw [h1, h2, heq] at this
    simp only [Nat.beq_refl, Bool.not_true, Bool.or_false, Option.isNone_some] at this
    exact Nat.eq_of_beq_eq_true this
  -- the places
  have place0 : ∀ (O' : Nat → Nat → Prop), (∀ b o, O' b o → Own Γ st b o) → ∀ p ∈ ps, ∃ f cs ds, st1.cellsAt p = some (f, cs) ∧ st.cellsAt p = some (f, ds) ∧ cs.map (Lf.den Γ') = ds.map (Lf.den Γ) ∧ (∀ l ∈ cs, l.ok P w O' Γ') ∧
      (∀ i' j', (i', j') ∈ vmapL cs ds → ∃ e, look st.vec j' = some e ∧ at_ Γ'.ρ i' = (mkJoin j' e.2).ev Γ.ρ) ∧ (∀ (x : Nat) te r te' r', cs[x]? = some (.cnt te r) → ds[x]? = some (.cnt te' r') → te = te' ∧ r.ev Γ'.ρ = r'.ev Γ.ρ) := by
    intro O' hown p hp
    obtain ⟨f, cs, ds, j, vs, c1, c2, c3, c4⟩ := backPs_spec hb p hp
    have hcw := w3 p hp
    rw [c1] at hcw
    simp only [List.all_eq_true] at hcw
    obtain ⟨g1, g2, g3, g4⟩ := backL_spec (P := P) (w := w) (O := Own Γ st) (Γ := Γ) (Γ0 := Γ0) (Γ' := Γ') (fun j e he => (h.vec j e he).1) e0 e0' hown c3 (h.cellsAt_ok c2) hcw (fun x v hx => by
      have hx' := c4 x v hx
      have : (cs_ Γ.ρ vals)[j + x]? = some (v.c Γ.ρ) := by simp [cs_, hx']
      rw [Nat.add_assoc]
      exact at_app this)
    exact ⟨f, cs, ds, c1, c2, g1, g2, g3, g4⟩
  have vkey : ∀ i j, keyOf vm i = some j → ∃ e, look st.vec j = some e ∧ at_ Γ'.ρ i = (mkJoin j e.2).ev Γ.ρ := by
    intro i j hij
    have hm := keyOf_mem hij
    rw [← hvm] at hm
    obtain ⟨p, hp, hm⟩ := List.mem_flatMap.1 hm
    obtain ⟨f, cs, ds, c1, c2, -, -, g3, -⟩ := place0 (Own Γ st) (fun _ _ h => h) p hp
    rw [c1, c2] at hm
    exact g3 i j hm
  -- where it lies and what it holds
  have hvec : ∀ i e, look st1.vec i = some e → ∃ e', look st.vec (curOf vm i) = some e' ∧ e.1 = e'.1 ∧ (at_ Γ'.ρ i).loc = (at_ Γ.ρ (curOf vm i)).loc ∧ (e.2.ev Γ'.ρ).rows = (e'.2.ev Γ.ρ).rows ∧ (∃ v, e.2.ev Γ'.ρ = .s v (e'.2.ev Γ.ρ).rows) ∧ i < st1.nx := by
    intro i e hi
    obtain ⟨e', h1, h2, h3⟩ := vec' i e hi
    refine ⟨e', h1, h2, ?_⟩
    have hv' := (h.vec _ e' h1).1
    rcases h3 with ⟨j, hj, hge, he2⟩ | ⟨hj, hlt, h3⟩
    · obtain ⟨e'', k1, k2⟩ := vkey i j hj
      have hcur : curOf vm i = j := by unfold curOf; rw [hj]; rfl
      rw [hcur] at h1 hv' ⊢
      obtain rfl : e' = e'' := Option.some.inj (h1.symm.trans k1)
      have hjo := mkJoin_ev hv'
      rw [hjo] at k2
      rw [he2]
      simp only [E.ev, k2]
      refine ⟨rfl, rfl, ⟨_, rfl⟩, ?_⟩
      -- the variable is among the new ones
      rw [hnx]
      rcases Nat.lt_or_ge i (ρ0.length + ks.length) with h | h
      · exact h
      · exfalso
        have hlen : (ρ0 ++ cs_ Γ.ρ vals).length = ρ0.length + ks.length := by rw [List.length_append, hty.len]
        have : at_ (ρ0 ++ cs_ Γ.ρ vals) i = .i 0 := by unfold at_; rw [List.getD_eq_getElem?_getD, List.getElem?_eq_none (by omega)]; rfl
        rw [show at_ Γ'.ρ i = at_ (ρ0 ++ cs_ Γ.ρ vals) i from rfl, this] at k2
        cases k2
    · have hcur : curOf vm i = i := by unfold curOf; rw [hj]; rfl
      rw [hcur] at h1 hv' ⊢
      have hat : at_ Γ'.ρ i = at_ Γ.ρ i := by
        show at_ (ρ0 ++ cs_ Γ.ρ vals) i = _
        rw [at_ext hlt, hl, at_ext hlt]
      rw [hat]
      have hx : ∃ v, e.2.ev Γ'.ρ = .s v (e'.2.ev Γ.ρ).rows := by
        obtain ⟨ks', us, -, ⟨v', hv2⟩, -⟩ := hv'
        rcases h3 with hp | ⟨he, hwf'⟩
        · obtain ⟨f, cs, ds, c1, c2, -, -, -, g4⟩ := place0 (Own Γ st) (fun _ _ h => h) _ hp
          simp only [St.cellsAt, hi, h1, Option.map_some, Option.some.injEq, Prod.mk.injEq] at c1 c2
          obtain ⟨-, rfl⟩ := c1
          obtain ⟨-, rfl⟩ := c2
          obtain ⟨-, g⟩ := g4 0 e.1 e.2 e'.1 e'.2 rfl rfl
          rw [g]; exact ⟨v', hv2⟩
        · have : e.2.ev Γ'.ρ = e'.2.ev Γ.ρ := by
            rw [← he]
            show e.2.ev (ρ0 ++ cs_ Γ.ρ vals) = _
            rw [E.ev_ext _ hwf', hl, E.ev_ext _ hwf']
          rw [this]; exact ⟨v', hv2⟩
      obtain ⟨v, hv⟩ := hx
      exact ⟨rfl, by rw [hv]; rfl, ⟨v, hv⟩, by rw [hnx]; omega⟩
  have hold' : ∀ s j b, Hold Γ' st1 s j b → Hold Γ st s (if s then j else curOf vm j) b := by
    intro s j b hh
    rcases hh.inv with ⟨rfl, mb, hj, rfl⟩ | ⟨rfl, e, hj, hb⟩
    · obtain ⟨mb', hm', -⟩ := mem' j mb hj
      exact ⟨mb', hm', rfl⟩
    · obtain ⟨e', k1, k2, k3, -⟩ := hvec j e hj
      exact Hold.vec (Γ := Γ) (i := curOf vm j) k1 (k3 ▸ hb)
  have hown : ∀ b o, Own Γ' st1 b o → Own Γ st b o := fun b o hb => by
    rcases Own.iff.1 hb with hb | ⟨s, j, hh⟩
    · exact .inl hb
    · exact (hold' s j b hh).own o
  have place : ∀ p ∈ ps, ∃ f cs ds, st1.cellsAt p = some (f, cs) ∧ st.cellsAt p = some (f, ds) ∧ cs.map (Lf.den Γ') = ds.map (Lf.den Γ) ∧ ∀ l ∈ cs, l.ok P w (Own Γ' st1) Γ' := fun p hp => by
    obtain ⟨f, cs, ds, c1, c2, g1, g2, -⟩ := place0 _ hown p hp
    exact ⟨f, cs, ds, c1, c2, g1, g2⟩
  refine ⟨fun t sv hs => ?_, by rw [hnt]; exact h.size, fun b mb hm => ?_, fun i e hi => ?_, fun i e hi => ?_, fun s j s' j' b h1 h2 => ?_, h.keeps, h.fold, h.base, h.defers, by simp [hnx, hty.len], rfl,
    ⟨Bds.ok_ext hnum.bds, hnum.len.app fun c hc => hty.small c hc⟩⟩
  · obtain ⟨p, hp, rfl⟩ := look_mem hs
    have h1 := s1 p hp
    rw [hs] at h1
    simp only [Bool.or_eq_true, List.contains_iff_mem] at h1
    by_cases hpl : Pl.slot p.1 ∈ ps
    · obtain ⟨f, cs, ds, c1, c2, g1, g2⟩ := place _ hpl
      simp only [St.cellsAt, hs] at c1
      split at c1
      · rename_i x hx
        cases hx
        cases c1
        simp only [St.cellsAt] at c2
        split at c2
        · rename_i y hy
          cases c2
          have := (h.slots p.1 _ hy).1
          simp at g1
          exact ⟨(show slotV Γ' a p.1 = slotV Γ a p.1 from rfl).trans (this.trans g1.symm), fun z hz => by simp [S0.cells] at hz; subst hz; exact g2 _ (by simp)⟩
        · cases c2
        · cases c2
      · rename_i x hx
        cases hx
        cases c1
        simp only [St.cellsAt] at c2
        split at c2
        · cases c2
        · rename_i y hy
          cases c2
          have := (h.slots p.1 _ hy).1
          exact ⟨(show slotV Γ' a p.1 = slotV Γ a p.1 from rfl).trans (this.trans (by show _ = Value.agg (List.map (Lf.den Γ') cs).toArray; rw [g1]; rfl)), fun z hz => g2 z hz⟩
        · cases c2
      · cases c1
    · rcases h1 with h1 | h1
      · exact absurd h1 hpl
      · split at h1
        · rename_i sv' hsv'
          have e := sameS_eq h1
          subst e
          have hw' := w1 p hp
          rw [hs] at hw'
          simp only [Bool.or_eq_true, List.contains_iff_mem] at hw'
          have hw2 : sv.wf Γ0.ρ.length Γ0.nb = true := hw'.resolve_left hpl
          obtain ⟨g1, g2⟩ := h.slots p.1 _ hsv'
          exact ⟨(show slotV Γ' a p.1 = slotV Γ a p.1 from rfl).trans (g1.trans ((SV.den_ext e0 sv hw2).trans (SV.den_ext e0' sv hw2).symm)), SV.ok_anti (SV.ok_ext e0' hw2 (SV.ok_unext e0 hw2 g2)) hown⟩
        · cases h1
  · obtain ⟨mb', hm', ht, hor⟩ := mem' b mb hm
    obtain ⟨m1, m2, m3, m4⟩ := h.mem b mb' hm'
    have hb2 : b < st1.nb ∧ (Pl.blk b ∈ ps ∨ mb.2.all (Lf.wf ρ0.length st1.nb) = true) := by
      obtain ⟨p, hp, rfl⟩ := look_mem hm
      have := w2 p hp
      rw [hm] at this
      simp only [Bool.and_eq_true, Nat.blt_eq, Bool.or_eq_true, List.contains_iff_mem] at this
      exact this
    by_cases hpl : Pl.blk b ∈ ps
    · obtain ⟨f, cs, ds, c1, c2, g1, g2⟩ := place _ hpl
      simp only [St.cellsAt, hm, hm', Option.map_some, Option.some.injEq, Prod.mk.injEq] at c1 c2
      obtain ⟨-, rfl⟩ := c1
      obtain ⟨-, rfl⟩ := c2
      refine ⟨?_, g2, m3, hb2.1⟩
      rw [ht, show dens _ mb.2 = dens Γ mb'.2 from by unfold dens; exact congrArg _ g1]
      exact m1
    · have e := hor.resolve_left hpl
      have hwl := hb2.2.resolve_left hpl
      refine ⟨?_, fun l hl => ?_, m3, hb2.1⟩
      · rw [ht, show dens _ mb.2 = dens Γ mb'.2 from by rw [← e]; exact (dens_ext e0' mb.2 hwl).trans (dens_ext e0 mb.2 hwl).symm]
        exact m1
      · have hl' : l.wf Γ0.ρ.length Γ0.nb = true := List.all_eq_true.1 hwl l hl
        exact Lf.ok_anti (Lf.ok_ext e0' hl' (Lf.ok_unext e0 hl' (m2 l (by rw [← e]; exact hl)))) hown
  · obtain ⟨e', k1, k2, k3, k4, k5, k6⟩ := hvec i e hi
    obtain ⟨g1, g2, g3⟩ := h.vec _ e' k1
    refine ⟨?_, k6, fun b hb => g3 b (by rw [← k3]; exact hb)⟩
    show VecOK P w (Own Γ' st1) e.1 (at_ Γ'.ρ i).loc (e.2.ev Γ'.ρ)
    rw [k3, k2]
    obtain ⟨ks', us, f1, f2, f3, f4, f5⟩ := g1.anti hown
    obtain ⟨v, hv⟩ := k5
    exact ⟨ks', us, f1, ⟨v, by rw [k4]; exact hv⟩, by rw [k4]; exact f3, by rw [k4]; exact f4, by rw [k4]; exact f5⟩
  · obtain ⟨p, hp, rfl⟩ := look_mem hi
    have := List.all_eq_true.1 s4 p hp
    rw [hi] at this
    simp only [] at this
    split at this
    · rename_i e' he'
      simp only [Bool.and_eq_true] at this
      obtain ⟨⟨⟨q1, q2⟩, q3⟩, q4⟩ := this
      have ee : e = e' := Prod.ext (Nat.eq_of_beq_eq_true q1) (Prod.ext (same0s_eq q2) (sameLs_eq q3))
      subst ee
      simp only [wfC, Bool.and_eq_true, Nat.blt_eq] at q4
      obtain ⟨⟨r1, r2⟩, r3⟩ := q4
      obtain ⟨k1, k2, k3⟩ := h.clo p.1 e he'
      have hat : at_ Γ'.ρ p.1 = at_ Γ.ρ p.1 := by
        show at_ (ρ0 ++ cs_ Γ.ρ vals) p.1 = _
        rw [at_ext r1, hl, at_ext r1]
      refine ⟨?_, fun s hs l hl' => ?_, fun l hl' => ?_⟩
      · rw [show at_ _ p.1 = at_ Γ'.ρ p.1 from rfl, hat, k1]
        have a1 : e.2.1.map (S0.den Γ) = e.2.1.map (S0.den Γ') := List.map_congr_left fun s hs => by
          have hws : s.wf Γ0.ρ.length Γ0.nb = true := List.all_eq_true.1 r2 s hs
          exact (S0.den_ext e0 s hws).trans (S0.den_ext e0' s hws).symm
        have a2 : e.2.2.map (Lf.den Γ) = e.2.2.map (Lf.den Γ') := List.map_congr_left fun l hl' => by
          have hws : l.wf Γ0.ρ.length Γ0.nb = true := List.all_eq_true.1 r3 l hl'
          exact (Lf.den_ext e0 l hws).trans (Lf.den_ext e0' l hws).symm
        rw [a1, a2]
      · have hws : l.wf Γ0.ρ.length Γ0.nb = true := S0.wf_cells (n := Γ0.ρ.length) (nb := Γ0.nb) (List.all_eq_true.1 r2 s hs) l hl'
        exact Lf.ok_anti (Lf.ok_ext e0' hws (Lf.ok_unext e0 hws (k2 s hs l hl'))) hown
      · have hws : l.wf Γ0.ρ.length Γ0.nb = true := List.all_eq_true.1 r3 l hl'
        exact Lf.ok_anti (Lf.ok_ext e0' hws (Lf.ok_unext e0 hws (k3 l hl'))) hown
    · cases this
  · have g1 := hold' _ _ _ h1
    have g2 := hold' _ _ _ h2
    obtain ⟨q1, q2⟩ := h.inj _ _ _ _ _ g1 g2
    subst q1
    cases s with
    | true => exact ⟨rfl, q2⟩
    | false =>
      obtain ⟨e, hj, -⟩ := h1
      obtain ⟨e', hj', -⟩ := h2
      exact ⟨rfl, vinj j e j' e' hj hj' q2⟩
end Go.Proofs.Ytlbgcjpkegpmlaa
