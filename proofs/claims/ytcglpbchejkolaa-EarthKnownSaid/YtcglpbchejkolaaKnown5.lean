/- Texts laid into one: Em Er Ev. -/
import Derived.Test.YtcglpbchejkolaaKnown4
import Derived.Scope
import Derived.CallsIn
import Derived.OrdersIn
import Derived.TacticsIn
/- The engine, part 13: a loop's head comes again. -/
namespace Go.Proofs.Ytcglpbchejkolaa
open Go.RowKit
set_option linter.unusedSimpArgs false
set_option linter.unusedVariables false

theorem look_forget {α : Type} : ∀ (l : List Nat) (sl : List (Nat × Option α)) (t : Nat) (v : α), look (l.foldl (fun sl d => (d, none) :: sl) sl) t = some v → look sl t = some v
  | [], _, _, _, h => h
  | d :: l, sl, t, v, h => by
    have := look_forget l _ t v h
    simp only [look] at this
    split at this
    · cases this
    · exact this
theorem Sat.forget {P : Program} {F : Nat → Prop} {w0 : World} {Γ : Env} {st : St} {a : Act} {w : World} (h : Sat P F w0 Γ st a w) (l : List Nat) : Sat P F w0 Γ (st.forget l) a w :=
  h.slots' (fun t sv hs => h.slots t sv (look_forget l _ t sv hs)) h.size h.defers h.num

theorem look_mem {α : Type} : ∀ {l : List (Nat × Option α)} {t : Nat} {v : α}, look l t = some v → ∃ p ∈ l, p.1 = t
  | [], _, _, h => by cases h
  | (k, u) :: l, t, v, h => by
    simp only [look] at h
    split at h
    · rename_i e; exact ⟨(k, u), by simp, e⟩
    · obtain ⟨p, hp, e⟩ := look_mem h; exact ⟨p, by simp [hp], e⟩

/-- Cells that were made unknown hold what their variables stand for. -/
theorem backL_spec {P : Program} {w : World} {O O' : Nat → Nat → Prop} {vec : Vecs} {Γ Γ0 Γ' : Env} (hvec : ∀ j e, look vec j = some e → VecOK P w O e.1 (at_ Γ.ρ j).loc (e.2.ev Γ.ρ)) (h0 : Ext Γ0 Γ) (h0' : Ext Γ0 Γ') (hO : ∀ b o, O' b o → O b o) : ∀ {cs ds vs : List Lf} {i : Nat}, backL vec i cs ds = some vs →
    (∀ l ∈ ds, l.ok P w O Γ) → (∀ l ∈ cs, (l.kind.isSome || l.wf Γ0.ρ.length Γ0.nb) = true) → (∀ j v, vs[j]? = some v → at_ Γ'.ρ (i + j) = v.c Γ.ρ) →
    cs.map (Lf.den Γ') = ds.map (Lf.den Γ) ∧ (∀ l ∈ cs, l.ok P w O' Γ') ∧ (∀ i' j', (i', j') ∈ vmapL cs ds → ∃ e, look vec j' = some e ∧ at_ Γ'.ρ i' = (mkJoin j' e.2).ev Γ.ρ) ∧
      (∀ (x : Nat) te r te' r', cs[x]? = some (.cnt te r) → ds[x]? = some (.cnt te' r') → te = te' ∧ r.ev Γ'.ρ = r'.ev Γ.ρ)
  | [], [], vs, i, h, _, _, _ => ⟨rfl, fun l hl => (by cases hl), fun i' j' hm => (by cases hm), fun x _ _ _ _ e => (by simp at e)⟩
  | l :: cs, m :: ds, vs, i, h, ho, hw, hv => by
    have step : ∀ {vs' : List Lf} {i1 : Nat}, backL vec i1 cs ds = some vs' → (∀ j v, vs'[j]? = some v → at_ Γ'.ρ (i1 + j) = v.c Γ.ρ) → l.den Γ' = m.den Γ → l.ok P w O' Γ' → (∀ te i' te' j', l = .vec te i' → m = .vec te' j' → ∃ e, look vec j' = some e ∧ at_ Γ'.ρ i' = (mkJoin j' e.2).ev Γ.ρ) → (∀ te r te' r', l = .cnt te r → m = .cnt te' r' → te = te' ∧ r.ev Γ'.ρ = r'.ev Γ.ρ) →
        (l :: cs).map (Lf.den Γ') = (m :: ds).map (Lf.den Γ) ∧ (∀ x ∈ l :: cs, x.ok P w O' Γ') ∧ (∀ i' j', (i', j') ∈ vmapL (l :: cs) (m :: ds) → ∃ e, look vec j' = some e ∧ at_ Γ'.ρ i' = (mkJoin j' e.2).ev Γ.ρ) ∧
          (∀ (x : Nat) te r te' r', (l :: cs)[x]? = some (.cnt te r) → (m :: ds)[x]? = some (.cnt te' r') → te = te' ∧ r.ev Γ'.ρ = r'.ev Γ.ρ) := by
      intro vs' i1 hb hv' hd hok hvm hcn
      obtain ⟨h1, h2, h3, h4⟩ := backL_spec hvec h0 h0' hO hb (fun x hx => ho x (by simp [hx])) (fun x hx => hw x (by simp [hx])) hv'
      refine ⟨by simp [hd, h1], fun x hx => ?_, fun i' j' hm => ?_, fun x te r te' r' hx hy => ?_⟩
      · rcases List.mem_cons.1 hx with rfl | hx
        · exact hok
        · exact h2 x hx
      · have hcase : (∃ te te', l = .vec te i' ∧ m = .vec te' j') ∨ (i', j') ∈ vmapL cs ds := by
          cases l <;> cases m <;> first
            | exact .inr hm
            | (simp only [vmapL, List.mem_cons, Prod.mk.injEq] at hm
               rcases hm with ⟨rfl, rfl⟩ | hm
               · exact .inl ⟨_, _, rfl, rfl⟩
               · exact .inr hm)
        rcases hcase with ⟨te, te', e1, e2⟩ | hm
        · exact hvm te i' te' j' e1 e2
        · exact h3 i' j' hm
      · cases x with
        | zero => simp at hx hy; exact hcn te r te' r' hx hy
        | succ x => exact h4 x te r te' r' (by simpa using hx) (by simpa using hy)
    have tail : ∀ {vs' : List Lf} {x : Lf}, vs = x :: vs' → (∀ j v, vs'[j]? = some v → at_ Γ'.ρ (i + 1 + j) = v.c Γ.ρ) ∧ at_ Γ'.ρ i = x.c Γ.ρ := fun {vs' x} e => by
      subst e
      exact ⟨fun j v hj => by have := hv (j + 1) v (by simpa using hj); rwa [show i + 1 + j = i + (j + 1) by omega], hv 0 x (by simp)⟩
    simp only [backL] at h
    split at h
    · rename_i te r
      split at h
      · rename_i te' r'
        split at h
        · rename_i hc
          obtain ⟨rfl, rfl⟩ := hc
          cases hb : backL vec (i + 1) cs ds with
          | none => simp [hb] at h
          | some vs' =>
            simp [hb] at h
            obtain ⟨t1, t2⟩ := tail h.symm
            have hev : (E.var i).ev Γ'.ρ = r'.ev Γ.ρ := t2
            have hmo := ho (.cnt te r') (by simp)
            refine step hb t1 (by simp only [Lf.den, hev]) (by simp only [Lf.ok, hev]; exact hmo) (fun _ _ _ _ e => (by cases e)) (fun te1 r1 te2 r2 e1 e2 => ?_)
            cases e1; cases e2; exact ⟨rfl, hev⟩
        · cases h
      · cases h
    · rename_i te i'
      split at h
      · rename_i e1
        subst e1
        split at h
        · rename_i te' j
          split at h
          · rename_i e he
            split at h
            · rename_i hc
              obtain ⟨rfl, hc2⟩ := hc
              cases hb : backL vec (i' + 1) cs ds with
              | none => simp [hb] at h
              | some vs' =>
                simp [hb] at h
                obtain ⟨t1, t2⟩ := tail h.symm
                simp only [Lf.c] at t2
                have hve := hvec j e he
                have hj := mkJoin_ev hve
                have hl : (at_ Γ'.ρ i').loc = (at_ Γ.ρ j).loc := by rw [t2, hj]; rfl
                obtain ⟨a, cap, hs⟩ := hve.slice
                refine step hb t1 (by simp only [Lf.den, hl]) ⟨a, _, cap, hl.trans hs⟩ (fun te1 i1 te2 j2 e1 e2 => ?_) (fun _ _ _ _ e => (by cases e))
                cases e1; cases e2; exact ⟨e, he, t2⟩
            · cases h
          · cases h
        · cases h
      · cases h
    · rename_i hn1 hn2
      split at h
      · rename_i k hk
        split at h
        · rename_i hc
          simp only [Bool.and_eq_true, decide_eq_true_eq] at hc
          obtain ⟨⟨c1, c2⟩, c3⟩ := hc
          cases hb : backL vec (i + 1) cs ds with
          | none => simp [hb] at h
          | some vs' =>
            simp [hb] at h
            obtain ⟨t1, t2⟩ := tail h.symm
            have hl := sameL_eq c1
            have hmo := ho m (by simp)
            have key : l.den Γ' = m.den Γ ∧ l.ok P w O' Γ' := by
              subst hl
              cases m with
              | int e => cases c2; exact ⟨by simp [Lf.ofKind, Lf.den, E.den_var, t2, Lf.c, C.int], trivial⟩
              | bool e => cases c2; exact ⟨by simp [Lf.ofKind, Lf.den, B.den, E.ev, t2, Lf.c, C.bool], trivial⟩
              | arr t e =>
                cases c2
                refine ⟨by simp [Lf.ofKind, Lf.den, E.ev, t2, Lf.c], ?_⟩
                simp only [Lf.ofKind, Lf.ok, E.ev, t2, Lf.c]
                exact ArrOK.anti hmo hO
              | vec t j => cases c2; cases c3
              | cnt t j => cases c2; cases c3
              | _ => cases c2
            exact step hb t1 key.1 key.2 (fun te i' _ _ e _ => absurd e (hn2 te i')) (fun te r _ _ e _ => absurd e (hn1 te r))
        · cases h
      · rename_i hk
        split at h
        · rename_i hs
          have e := sameL_eq hs
          subst e
          have hwl := hw l (by simp)
          rw [hk] at hwl
          simp only [Option.isSome_none, Bool.false_or] at hwl
          have hd : l.den Γ' = l.den Γ := by rw [Lf.den_ext h0' l hwl, Lf.den_ext h0 l hwl]
          exact step h hv hd (Lf.ok_anti (Lf.ok_ext h0' hwl (Lf.ok_unext h0 hwl (ho _ (by simp)))) hO) (fun te i' _ _ e _ => absurd e (hn2 te i')) (fun te r _ _ e _ => absurd e (hn1 te r))
        · cases h
  | [], _ :: _, _, _, h, _, _, _ => by cases h
  | _ :: _, [], _, _, h, _, _, _ => by cases h
theorem backPs_spec {st st' : St} : ∀ {ps : List Pl} {i : Nat} {vals : List Lf}, backPs st st' i ps = some vals → ∀ p ∈ ps, ∃ f cs ds j vs, st.cellsAt p = some (f, cs) ∧ st'.cellsAt p = some (f, ds) ∧
    backL st'.vec (i + j) cs ds = some vs ∧ ∀ (x : Nat) v, vs[x]? = some v → vals[j + x]? = some v
  | [], _, _, _, p, hp => by cases hp
  | q :: ps, i, vals, h, p, hp => by
    simp only [backPs] at h
    split at h
    · rename_i cs ds h1 h2
      split at h
      · rename_i hf
        split at h
        · rename_i a ha
          cases hb : backPs st st' (i + a.length) ps with
          | none => simp [hb] at h
          | some b =>
            simp [hb] at h
            subst h
            rcases List.mem_cons.1 hp with rfl | hp
            · refine ⟨cs.1, cs.2, ds.2, 0, a, h1, by rw [h2, hf], by simpa using ha, fun x v hx => ?_⟩
              have : x < a.length := by
                rcases Nat.lt_or_ge x a.length with h' | h'
                · exact h'
                · rw [List.getElem?_eq_none h'] at hx; cases hx
              rw [Nat.zero_add, List.getElem?_append_left this]; exact hx
            · obtain ⟨f, cs', ds', j, vs, e1, e2, e3, e4⟩ := backPs_spec hb p hp
              refine ⟨f, cs', ds', a.length + j, vs, e1, e2, by rwa [Nat.add_assoc] at e3, fun x v hx => ?_⟩
              rw [List.getElem?_append_right (by omega)]
              have := e4 x v hx
              rwa [show a.length + j + x - a.length = j + x by omega]
        · cases h
      · cases h
    · cases h
theorem mkJoin_ty {P : Program} {w : World} {O : Nat → Nat → Prop} {ρ : List C} {te : TypeId} {i : Nat} {r : E} (h : VecOK P w O te (at_ ρ i).loc (r.ev ρ)) : ∃ v rows d, (mkJoin i r).ev ρ = .s v rows ∧ TyN P d te rows ∧ ∀ n, (C.s v rows).small n := by
  obtain ⟨v', rows, d, e, ht⟩ := h.tyN
  have hs := h.small
  rw [mkJoin_ev h]
  have hr : (r.ev ρ).rows = rows := by rw [e]; rfl
  rw [hr]
  exact ⟨_, _, d, rfl, ht, C.small_rows (.inl hs) (by rw [hr]; exact Nat.le_refl _) (fun x hx => by rw [hr]; exact hx) _⟩
theorem backL_kinds {P : Program} {w : World} {O : Nat → Nat → Prop} {vec : Vecs} {Γ : Env} (hvec : ∀ j e, look vec j = some e → VecOK P w O e.1 (at_ Γ.ρ j).loc (e.2.ev Γ.ρ)) : ∀ {cs ds vs : List Lf} {i : Nat}, backL vec i cs ds = some vs → (∀ l ∈ ds, l.ok P w O Γ) → ∀ l ∈ vs, l.ok P w O Γ ∧ l.isVec = false
  | [], [], vs, i, h, _ => by simp [backL] at h; subst h; exact fun l hl => by cases hl
  | l :: cs, m :: ds, vs, i, h, ho => by
    have step : ∀ {vs' : List Lf} {i1 : Nat} {x : Lf}, backL vec i1 cs ds = some vs' → vs = x :: vs' → x.ok P w O Γ → x.isVec = false → ∀ l ∈ vs, l.ok P w O Γ ∧ l.isVec = false := by
      intro vs' i1 x hb e h1 h2 y hy
      subst e
      rcases List.mem_cons.1 hy with rfl | hy
      · exact ⟨h1, h2⟩
      · exact backL_kinds hvec hb (fun x hx => ho x (by simp [hx])) y hy
    simp only [backL] at h
    split at h
    · split at h
      · rename_i te' r'
        split at h
        · cases hb : backL vec (i + 1) cs ds with
          | none => simp [hb] at h
          | some vs' => simp [hb] at h; exact step hb h.symm (by have := ho (.cnt te' r') (by simp); rename_i hc; rw [hc.1]; exact this) rfl
        · cases h
      · cases h
    · split at h
      · split at h
        · rename_i te' j
          split at h
          · rename_i e he
            split at h
            · rename_i hc
              cases hb : backL vec (i + 1) cs ds with
              | none => simp [hb] at h
              | some vs' =>
                simp [hb] at h
                refine step hb h.symm ?_ rfl
                have := mkJoin_ty (hvec j e he)
                rw [hc.2] at this
                exact this
            · cases h
          · cases h
        · cases h
      · cases h
    · split at h
      · split at h
        · rename_i hc
          simp only [Bool.and_eq_true, decide_eq_true_eq] at hc
          cases hb : backL vec (i + 1) cs ds with
          | none => simp [hb] at h
          | some vs' =>
            simp [hb] at h
            refine step hb h.symm (ho m (by simp)) ?_
            have h2 := hc.1.2
            have h3 := hc.2
            cases m with
            | vec t j => cases h2; cases h3
            | _ => rfl
        · cases h
      · split at h
        · exact backL_kinds hvec h (fun x hx => ho x (by simp [hx]))
        · cases h
  | [], _ :: _, _, _, h, _ => by cases h
  | _ :: _, [], _, _, h, _ => by cases h
theorem Sat.cellsAt_ok {P : Program} {F : Nat → Prop} {w0 : World} {Γ : Env} {st : St} {a : Act} {w : World} (h : Sat P F w0 Γ st a w) {p : Pl} {f : Bool} {cs : List Lf} (hc : st.cellsAt p = some (f, cs)) : ∀ l ∈ cs, l.ok P w (Own Γ st) Γ := by
  cases p with
  | slot d =>
    simp only [St.cellsAt] at hc
    split at hc
    · rename_i l hl
      cases hc
      have := (h.slots d _ hl).2
      exact fun x hx => this x (by simpa [S0.cells] using hx)
    · rename_i l hl
      cases hc
      exact (h.slots d _ hl).2
    · cases hc
  | blk b =>
    simp only [St.cellsAt, Option.map_eq_some_iff] at hc
    obtain ⟨mb, hm, e⟩ := hc
    cases e
    exact (h.mem b mb hm).2.1
  | vec i =>
    simp only [St.cellsAt, Option.map_eq_some_iff] at hc
    obtain ⟨e, hm, e'⟩ := hc
    cases e'
    intro l hl
    simp at hl
    subst hl
    obtain ⟨v, rows, d, e1, ht⟩ := (h.vec i e hm).1.tyN
    have hs := (h.vec i e hm).1.small
    simp only [Lf.ok]
    rw [e1] at hs ⊢
    exact ⟨v, rows, d, rfl, ht, hs⟩
theorem backPs_ok {P : Program} {F : Nat → Prop} {w0 : World} {Γ : Env} {st st' : St} {a : Act} {w : World} (h : Sat P F w0 Γ st' a w) : ∀ {ps : List Pl} {i : Nat} {vals : List Lf}, backPs st st' i ps = some vals →
    ∀ l ∈ vals, l.ok P w (Own Γ st') Γ ∧ l.isVec = false
  | [], _, vals, hb => by simp [backPs] at hb; subst hb; exact fun l hl => by cases hl
  | q :: ps, i, vals, hb => by
    simp only [backPs] at hb
    split at hb
    · rename_i cs ds h1 h2
      split at hb
      · split at hb
        · rename_i x hx
          cases hb2 : backPs st st' (i + x.length) ps with
          | none => simp [hb2] at hb
          | some b =>
            simp [hb2] at hb
            subst hb
            intro l hl
            rcases List.mem_append.1 hl with hl | hl
            · exact backL_kinds (fun j e he => (h.vec j e he).1) hx (h.cellsAt_ok h2) l hl
            · exact backPs_ok h hb2 l hl
        · cases hb
      · cases hb
    · cases hb

theorem keyOf_mem : ∀ {vm : List (Nat × Nat)} {i j : Nat}, keyOf vm i = some j → (i, j) ∈ vm
  | [], _, _, h => by cases h
  | (k, j') :: l, i, j, h => by
    simp only [keyOf] at h
    split at h
    · rename_i e; subst e; cases h; simp
    · simp [keyOf_mem h]
/-- THE HEAD COMES AGAIN: a state in which all places hold something stands for the head's, at the values that they hold. -/
theorem Sat.rebase {P : Program} {F : Nat → Prop} {w0 : World} {Γ : Env} {st1 st : St} {a : Act} {w : World} (h : Sat P F w0 Γ st a w) {ρ0 : List C} (hρ : ∃ l, Γ.ρ = ρ0 ++ l) {ps : List Pl}
    (hsame : sameRest st1 st ρ0.length ps = true) {vals : List Lf} (hb : backPs st1 st ρ0.length ps = some vals) {ks : List Lk} (hk : kindsL vals = some ks) (hob : Obs Γ.ρ (rngL st.bds vals)) (hwf : headWf st1 ρ0.length ps = true)
    (hnt : st1.nt = st.nt) (hnb : st1.nb ≤ st.nb) (hnx : st1.nx = ρ0.length + ks.length) (hnum : Num st1.bds ρ0) :
    CTy P ks (cs_ Γ.ρ vals) ∧ Sat P F w0 { Γ with ρ := ρ0 ++ cs_ Γ.ρ vals, nb := st1.nb } st1 a w := by
  obtain ⟨l, hl⟩ := hρ
  have hty : CTy P ks (cs_ Γ.ρ vals) := Ls_ty (P := P) (w := w) h.num hk (backPs_ok h hb) hob
  refine ⟨hty, ?_⟩
  let Γ0 : Env := { Γ with ρ := ρ0, nb := st1.nb }
  let Γ' : Env := { Γ with ρ := ρ0 ++ cs_ Γ.ρ vals, nb := st1.nb }
  have e0 : Ext Γ0 Γ := ⟨⟨l, hl⟩, fun _ _ => rfl, by simp only [Γ0]; rw [h.nb]; exact hnb, rfl, rfl⟩
  have e0' : Ext Γ0 Γ' := ⟨⟨_, rfl⟩, fun _ _ => rfl, Nat.le_refl _, rfl, rfl⟩
  simp only [sameRest, Bool.and_eq_true, List.all_eq_true] at hsame
  obtain ⟨⟨⟨s1, s2⟩, s3⟩, s4⟩ := hsame
  simp only [sameVec, Bool.and_eq_true, List.all_eq_true] at s3
  obtain ⟨s3a, s3b⟩ := s3
  generalize hvm : vmapPs st1 st ps = vm at *
  simp only [headWf, Bool.and_eq_true, List.all_eq_true] at hwf
  obtain ⟨⟨⟨w1, w2⟩, w3⟩, w4⟩ := hwf
  have mem' : ∀ b mb, look st1.mem b = some mb → ∃ mb', look st.mem b = some mb' ∧ mb.1 = mb'.1 ∧ (Pl.blk b ∈ ps ∨ mb.2 = mb'.2) := by
    intro b mb hm
    obtain ⟨p, hp, rfl⟩ := look_mem hm
    have := s2 p hp
    rw [hm] at this
    simp only [] at this
    split at this
    · rename_i mb' hm'
      simp only [Bool.and_eq_true, Bool.or_eq_true, List.contains_iff_mem] at this
      exact ⟨mb', hm', Nat.eq_of_beq_eq_true this.1, this.2.imp id sameLs_eq⟩
    · cases this
  -- a slice at the head and the one that stands for it
  have vec' : ∀ i e, look st1.vec i = some e → ∃ e', look st.vec (curOf vm i) = some e' ∧ e.1 = e'.1 ∧ ((∃ j, keyOf vm i = some j ∧ ρ0.length ≤ i ∧ e.2 = .var i) ∨ (keyOf vm i = none ∧ i < ρ0.length ∧ (Pl.vec i ∈ ps ∨ (e.2 = e'.2 ∧ e.2.wf ρ0.length = true)))) := by
    intro i e hi
    obtain ⟨p, hp, rfl⟩ := look_mem hi
    have := s3a p hp
    rw [hi] at this
    simp only [] at this
    split at this
    · rename_i e' he'
      simp only [Bool.and_eq_true] at this
      refine ⟨e', he', Nat.eq_of_beq_eq_true this.1, ?_⟩
      have h2 := this.2
      split at h2
      · rename_i j hj
        simp only [Bool.and_eq_true, decide_eq_true_eq] at h2
        exact .inl ⟨j, hj, Nat.le_of_ble_eq_true h2.1, h2.2⟩
      · rename_i hj
        simp only [Bool.and_eq_true, Bool.or_eq_true, List.contains_iff_mem, decide_eq_true_eq, Nat.blt_eq] at h2
        exact .inr ⟨hj, h2.1, h2.2⟩
    · cases this
  have vinj : ∀ i e i' e', look st1.vec i = some e → look st1.vec i' = some e' → curOf vm i = curOf vm i' → i = i' := by
    intro i e i' e' h1 h2 heq
    obtain ⟨p, hp, rfl⟩ := look_mem h1
    obtain ⟨q, hq, rfl⟩ := look_mem h2
    have := s3b p hp q hq
    rw [h1, h2, heq] at this
    simp only [Nat.beq_refl, Bool.not_true, Bool.or_false, Option.isNone_some] at this
    exact Nat.eq_of_beq_eq_true this
  -- the places
  have place0 : ∀ (O' : Nat → Nat → Prop), (∀ b o, O' b o → Own Γ st b o) → ∀ p ∈ ps, ∃ f cs ds, st1.cellsAt p = some (f, cs) ∧ st.cellsAt p = some (f, ds) ∧ cs.map (Lf.den Γ') = ds.map (Lf.den Γ) ∧ (∀ l ∈ cs, l.ok P w O' Γ') ∧
      (∀ i' j', (i', j') ∈ vmapL cs ds → ∃ e, look st.vec j' = some e ∧ at_ Γ'.ρ i' = (mkJoin j' e.2).ev Γ.ρ) ∧ (∀ (x : Nat) te r te' r', cs[x]? = some (.cnt te r) → ds[x]? = some (.cnt te' r') → te = te' ∧ r.ev Γ'.ρ = r'.ev Γ.ρ) := by
    intro O' hown p hp
    obtain ⟨f, cs, ds, j, vs, c1, c2, c3, c4⟩ := backPs_spec hb p hp
    have hcw := w3 p hp
    rw [c1] at hcw
    simp only [List.all_eq_true] at hcw
    obtain ⟨g1, g2, g3, g4⟩ := backL_spec (P := P) (w := w) (O := Own Γ st) (Γ := Γ) (Γ0 := Γ0) (Γ' := Γ') (fun j e he => (h.vec j e he).1) e0 e0' hown c3 (h.cellsAt_ok c2) hcw (fun x v hx => by
      have hx' := c4 x v hx
      have : (cs_ Γ.ρ vals)[j + x]? = some (v.c Γ.ρ) := by simp [cs_, hx']
      rw [Nat.add_assoc]
      exact at_app this)
    exact ⟨f, cs, ds, c1, c2, g1, g2, g3, g4⟩
  have vkey : ∀ i j, keyOf vm i = some j → ∃ e, look st.vec j = some e ∧ at_ Γ'.ρ i = (mkJoin j e.2).ev Γ.ρ := by
    intro i j hij
    have hm := keyOf_mem hij
    rw [← hvm] at hm
    obtain ⟨p, hp, hm⟩ := List.mem_flatMap.1 hm
    obtain ⟨f, cs, ds, c1, c2, -, -, g3, -⟩ := place0 (Own Γ st) (fun _ _ h => h) p hp
    rw [c1, c2] at hm
    exact g3 i j hm
  -- where it lies and what it holds
  have hvec : ∀ i e, look st1.vec i = some e → ∃ e', look st.vec (curOf vm i) = some e' ∧ e.1 = e'.1 ∧ (at_ Γ'.ρ i).loc = (at_ Γ.ρ (curOf vm i)).loc ∧ (e.2.ev Γ'.ρ).rows = (e'.2.ev Γ.ρ).rows ∧ (∃ v, e.2.ev Γ'.ρ = .s v (e'.2.ev Γ.ρ).rows) ∧ i < st1.nx := by
    intro i e hi
    obtain ⟨e', h1, h2, h3⟩ := vec' i e hi
    refine ⟨e', h1, h2, ?_⟩
    have hv' := (h.vec _ e' h1).1
    rcases h3 with ⟨j, hj, hge, he2⟩ | ⟨hj, hlt, h3⟩
    · obtain ⟨e'', k1, k2⟩ := vkey i j hj
      have hcur : curOf vm i = j := by unfold curOf; rw [hj]; rfl
      rw [hcur] at h1 hv' ⊢
      obtain rfl : e' = e'' := Option.some.inj (h1.symm.trans k1)
      have hjo := mkJoin_ev hv'
      rw [hjo] at k2
      rw [he2]
      simp only [E.ev, k2]
      refine ⟨rfl, rfl, ⟨_, rfl⟩, ?_⟩
      -- the variable is among the new ones
      rw [hnx]
      rcases Nat.lt_or_ge i (ρ0.length + ks.length) with h | h
      · exact h
      · exfalso
        have hlen : (ρ0 ++ cs_ Γ.ρ vals).length = ρ0.length + ks.length := by rw [List.length_append, hty.len]
        have : at_ (ρ0 ++ cs_ Γ.ρ vals) i = .i 0 := by unfold at_; rw [List.getD_eq_getElem?_getD, List.getElem?_eq_none (by omega)]; rfl
        rw [show at_ Γ'.ρ i = at_ (ρ0 ++ cs_ Γ.ρ vals) i from rfl, this] at k2
        cases k2
    · have hcur : curOf vm i = i := by unfold curOf; rw [hj]; rfl
      rw [hcur] at h1 hv' ⊢
      have hat : at_ Γ'.ρ i = at_ Γ.ρ i := by
        show at_ (ρ0 ++ cs_ Γ.ρ vals) i = _
        rw [at_ext hlt, hl, at_ext hlt]
      rw [hat]
      have hx : ∃ v, e.2.ev Γ'.ρ = .s v (e'.2.ev Γ.ρ).rows := by
        obtain ⟨ks', us, -, ⟨v', hv2⟩, -⟩ := hv'
        rcases h3 with hp | ⟨he, hwf'⟩
        · obtain ⟨f, cs, ds, c1, c2, -, -, -, g4⟩ := place0 (Own Γ st) (fun _ _ h => h) _ hp
          simp only [St.cellsAt, hi, h1, Option.map_some, Option.some.injEq, Prod.mk.injEq] at c1 c2
          obtain ⟨-, rfl⟩ := c1
          obtain ⟨-, rfl⟩ := c2
          obtain ⟨-, g⟩ := g4 0 e.1 e.2 e'.1 e'.2 rfl rfl
          rw [g]; exact ⟨v', hv2⟩
        · have : e.2.ev Γ'.ρ = e'.2.ev Γ.ρ := by
            rw [← he]
            show e.2.ev (ρ0 ++ cs_ Γ.ρ vals) = _
            rw [E.ev_ext _ hwf', hl, E.ev_ext _ hwf']
          rw [this]; exact ⟨v', hv2⟩
      obtain ⟨v, hv⟩ := hx
      exact ⟨rfl, by rw [hv]; rfl, ⟨v, hv⟩, by rw [hnx]; omega⟩
  have hold' : ∀ s j b, Hold Γ' st1 s j b → Hold Γ st s (if s then j else curOf vm j) b := by
    intro s j b hh
    rcases hh.inv with ⟨rfl, mb, hj, rfl⟩ | ⟨rfl, e, hj, hb⟩
    · obtain ⟨mb', hm', -⟩ := mem' j mb hj
      exact ⟨mb', hm', rfl⟩
    · obtain ⟨e', k1, k2, k3, -⟩ := hvec j e hj
      exact Hold.vec (Γ := Γ) (i := curOf vm j) k1 (k3 ▸ hb)
  have hown : ∀ b o, Own Γ' st1 b o → Own Γ st b o := fun b o hb => by
    rcases Own.iff.1 hb with hb | ⟨s, j, hh⟩
    · exact .inl hb
    · exact (hold' s j b hh).own o
  have place : ∀ p ∈ ps, ∃ f cs ds, st1.cellsAt p = some (f, cs) ∧ st.cellsAt p = some (f, ds) ∧ cs.map (Lf.den Γ') = ds.map (Lf.den Γ) ∧ ∀ l ∈ cs, l.ok P w (Own Γ' st1) Γ' := fun p hp => by
    obtain ⟨f, cs, ds, c1, c2, g1, g2, -⟩ := place0 _ hown p hp
    exact ⟨f, cs, ds, c1, c2, g1, g2⟩
  refine ⟨fun t sv hs => ?_, by rw [hnt]; exact h.size, fun b mb hm => ?_, fun i e hi => ?_, fun i e hi => ?_, fun s j s' j' b h1 h2 => ?_, h.keeps, h.fold, h.base, h.defers, by simp [hnx, hty.len], rfl,
    ⟨Bds.ok_ext hnum.bds, hnum.len.app fun c hc => hty.small c hc⟩⟩
  · obtain ⟨p, hp, rfl⟩ := look_mem hs
    have h1 := s1 p hp
    rw [hs] at h1
    simp only [Bool.or_eq_true, List.contains_iff_mem] at h1
    by_cases hpl : Pl.slot p.1 ∈ ps
    · obtain ⟨f, cs, ds, c1, c2, g1, g2⟩ := place _ hpl
      simp only [St.cellsAt, hs] at c1
      split at c1
      · rename_i x hx
        cases hx
        cases c1
        simp only [St.cellsAt] at c2
        split at c2
        · rename_i y hy
          cases c2
          have := (h.slots p.1 _ hy).1
          simp at g1
          exact ⟨(show slotV Γ' a p.1 = slotV Γ a p.1 from rfl).trans (this.trans g1.symm), fun z hz => by simp [S0.cells] at hz; subst hz; exact g2 _ (by simp)⟩
        · cases c2
        · cases c2
      · rename_i x hx
        cases hx
        cases c1
        simp only [St.cellsAt] at c2
        split at c2
        · cases c2
        · rename_i y hy
          cases c2
          have := (h.slots p.1 _ hy).1
          exact ⟨(show slotV Γ' a p.1 = slotV Γ a p.1 from rfl).trans (this.trans (by show _ = Value.agg (List.map (Lf.den Γ') cs).toArray; rw [g1]; rfl)), fun z hz => g2 z hz⟩
        · cases c2
      · cases c1
    · rcases h1 with h1 | h1
      · exact absurd h1 hpl
      · split at h1
        · rename_i sv' hsv'
          have e := sameS_eq h1
          subst e
          have hw' := w1 p hp
          rw [hs] at hw'
          simp only [Bool.or_eq_true, List.contains_iff_mem] at hw'
          have hw2 : sv.wf Γ0.ρ.length Γ0.nb = true := hw'.resolve_left hpl
          obtain ⟨g1, g2⟩ := h.slots p.1 _ hsv'
          exact ⟨(show slotV Γ' a p.1 = slotV Γ a p.1 from rfl).trans (g1.trans ((SV.den_ext e0 sv hw2).trans (SV.den_ext e0' sv hw2).symm)), SV.ok_anti (SV.ok_ext e0' hw2 (SV.ok_unext e0 hw2 g2)) hown⟩
        · cases h1
  · obtain ⟨mb', hm', ht, hor⟩ := mem' b mb hm
    obtain ⟨m1, m2, m3, m4⟩ := h.mem b mb' hm'
    have hb2 : b < st1.nb ∧ (Pl.blk b ∈ ps ∨ mb.2.all (Lf.wf ρ0.length st1.nb) = true) := by
      obtain ⟨p, hp, rfl⟩ := look_mem hm
      have := w2 p hp
      rw [hm] at this
      simp only [Bool.and_eq_true, Nat.blt_eq, Bool.or_eq_true, List.contains_iff_mem] at this
      exact this
    by_cases hpl : Pl.blk b ∈ ps
    · obtain ⟨f, cs, ds, c1, c2, g1, g2⟩ := place _ hpl
      simp only [St.cellsAt, hm, hm', Option.map_some, Option.some.injEq, Prod.mk.injEq] at c1 c2
      obtain ⟨-, rfl⟩ := c1
      obtain ⟨-, rfl⟩ := c2
      refine ⟨?_, g2, m3, hb2.1⟩
      rw [ht, show dens _ mb.2 = dens Γ mb'.2 from by unfold dens; exact congrArg _ g1]
      exact m1
    · have e := hor.resolve_left hpl
      have hwl := hb2.2.resolve_left hpl
      refine ⟨?_, fun l hl => ?_, m3, hb2.1⟩
      · rw [ht, show dens _ mb.2 = dens Γ mb'.2 from by rw [← e]; exact (dens_ext e0' mb.2 hwl).trans (dens_ext e0 mb.2 hwl).symm]
        exact m1
      · have hl' : l.wf Γ0.ρ.length Γ0.nb = true := List.all_eq_true.1 hwl l hl
        exact Lf.ok_anti (Lf.ok_ext e0' hl' (Lf.ok_unext e0 hl' (m2 l (by rw [← e]; exact hl)))) hown
  · obtain ⟨e', k1, k2, k3, k4, k5, k6⟩ := hvec i e hi
    obtain ⟨g1, g2, g3⟩ := h.vec _ e' k1
    refine ⟨?_, k6, fun b hb => g3 b (by rw [← k3]; exact hb)⟩
    show VecOK P w (Own Γ' st1) e.1 (at_ Γ'.ρ i).loc (e.2.ev Γ'.ρ)
    rw [k3, k2]
    obtain ⟨ks', us, f1, f2, f3, f4, f5⟩ := g1.anti hown
    obtain ⟨v, hv⟩ := k5
    exact ⟨ks', us, f1, ⟨v, by rw [k4]; exact hv⟩, by rw [k4]; exact f3, by rw [k4]; exact f4, by rw [k4]; exact f5⟩
  · obtain ⟨p, hp, rfl⟩ := look_mem hi
    have := List.all_eq_true.1 s4 p hp
    rw [hi] at this
    simp only [] at this
    split at this
    · rename_i e' he'
      simp only [Bool.and_eq_true] at this
      obtain ⟨⟨⟨q1, q2⟩, q3⟩, q4⟩ := this
      have ee : e = e' := Prod.ext (Nat.eq_of_beq_eq_true q1) (Prod.ext (same0s_eq q2) (sameLs_eq q3))
      subst ee
      simp only [wfC, Bool.and_eq_true, Nat.blt_eq] at q4
      obtain ⟨⟨r1, r2⟩, r3⟩ := q4
      obtain ⟨k1, k2, k3⟩ := h.clo p.1 e he'
      have hat : at_ Γ'.ρ p.1 = at_ Γ.ρ p.1 := by
        show at_ (ρ0 ++ cs_ Γ.ρ vals) p.1 = _
        rw [at_ext r1, hl, at_ext r1]
      refine ⟨?_, fun s hs l hl' => ?_, fun l hl' => ?_⟩
      · rw [show at_ _ p.1 = at_ Γ'.ρ p.1 from rfl, hat, k1]
        have a1 : e.2.1.map (S0.den Γ) = e.2.1.map (S0.den Γ') := List.map_congr_left fun s hs => by
          have hws : s.wf Γ0.ρ.length Γ0.nb = true := List.all_eq_true.1 r2 s hs
          exact (S0.den_ext e0 s hws).trans (S0.den_ext e0' s hws).symm
        have a2 : e.2.2.map (Lf.den Γ) = e.2.2.map (Lf.den Γ') := List.map_congr_left fun l hl' => by
          have hws : l.wf Γ0.ρ.length Γ0.nb = true := List.all_eq_true.1 r3 l hl'
          exact (Lf.den_ext e0 l hws).trans (Lf.den_ext e0' l hws).symm
        rw [a1, a2]
      · have hws : l.wf Γ0.ρ.length Γ0.nb = true := S0.wf_cells (n := Γ0.ρ.length) (nb := Γ0.nb) (List.all_eq_true.1 r2 s hs) l hl'
        exact Lf.ok_anti (Lf.ok_ext e0' hws (Lf.ok_unext e0 hws (k2 s hs l hl'))) hown
      · have hws : l.wf Γ0.ρ.length Γ0.nb = true := List.all_eq_true.1 r3 l hl'
        exact Lf.ok_anti (Lf.ok_ext e0' hws (Lf.ok_unext e0 hws (k3 l hl'))) hown
    · cases this
  · have g1 := hold' _ _ _ h1
    have g2 := hold' _ _ _ h2
    obtain ⟨q1, q2⟩ := h.inj _ _ _ _ _ g1 g2
    subst q1
    cases s with
    | true => exact ⟨rfl, q2⟩
    | false =>
      obtain ⟨e, hj, -⟩ := h1
      obtain ⟨e', hj', -⟩ := h2
      exact ⟨rfl, vinj j e j' e' hj hj' q2⟩
end Go.Proofs.Ytcglpbchejkolaa
/- A code in a frame of a function's own, or in one of a round's (range over a function): the laws of the walk for both. -/
namespace Go.Proofs.Ytcglpbchejkolaa
open Go.RowKit
set_option linter.unusedSimpArgs false
set_option linter.unusedVariables false

/-- The fence of a frame. -/
def rf : Option Nat → Fence
  | none => Fence.wide
  | some l => Fence.wide.inRound l
theorem rf_round (r : Option Nat) : (rf r).round = r := by cases r <;> rfl
theorem rf_fn (r : Option Nat) (f : FuncId) : (rf r).fn f := by cases r <;> trivial
theorem rf_depth (r : Option Nat) : (rf r).depth = none := by cases r <;> rfl
theorem rf_fenced (r : Option Nat) (P : Program) : Machine.fenced P (rf r) = Machine.fenced P Fence.wide := by cases r <;> rfl
theorem rf_steps {r : Option Nat} {P : Program} {m m' : Machine} : StepsIn (Machine.fenced P (rf r)) P m m' ↔ Steps P m m' := by rw [rf_fenced]; exact stepsIn_wide
abbrev wpR (r : Option Nat) (P : Program) (c : Code) (Q : Exit → Act → World → Prop) (a : Act) (w : World) : Prop := c.wpIn (rf r) 0 P Q a w
theorem wpR_none {P : Program} {c : Code} {Q : Exit → Act → World → Prop} {a : Act} {w : World} : wpR none P c Q a w ↔ c.wp P Q a w := wpIn_wide
theorem calls_rf {r : Option Nat} {n : Nat} {P : Program} {f : FuncId} {args : Array Value} {w : World} {R : Ending → World → Prop} : CallsIn (rf r) n P f args w R ↔ Calls P f args w R := by
  cases r with
  | none => exact callsIn_wide
  | some l => exact (show CallsIn (Fence.wide.inRound l) n P f args w R ↔ CallsIn Fence.wide n P f args w R from Iff.rfl).trans callsIn_wide
theorem rows_rf {r : Option Nat} {n : Nat} {P : Program} {row : String} {args : Array Value} {w : World} {R : Value → World → Prop} (h : Rows P row args w R) : RowsIn (rf r) n P row args w R :=
  fun c cs _ => let ⟨v, w', hr, hs⟩ := h c cs; ⟨v, w', hr, rf_steps.2 hs⟩
theorem Oper.noDefer_spec {o : Oper} (h : noDefer o = true) (c : Call) : o.op ≠ .defer c := fun e => by simp [noDefer, e] at h
section
variable {r : Option Nat} {P : Program} {ops : Array Oper} {Q : Exit → Act → World → Prop} {a : Act} {w : World}
theorem op_in {o : Oper} (hd : Oper.noDefer o = true) {K : Act → World → Prop} (h : o.wp P a w K Q) : o.wpIn (rf r) 0 P a w K Q := by
  refine ⟨fun f _ => rf_fn r f, ?_⟩
  rw [rf_round, Oper.semAt_eq r a.eval o (Oper.noDefer_spec hd)]
  unfold Oper.wp at h
  generalize (execOp a.eval o).run P w = res at *
  have hdep : (rf r).depth.isSome = true → 1 ≤ 0 := fun hx => by rw [rf_depth] at hx; cases hx
  cases res with
  | ok x w' =>
    cases x with
    | value v => exact h
    | skip => exact h
    | defer d => exact h
    | enter f args => exact ⟨hdep, calls_rf.2 h⟩
    | row row args => exact ⟨hdep, rows_rf h⟩
    | _ => exact h.elim
  | halt x w' => cases x <;> exact h
theorem list_in (hQ : ¬ LetsOut Q) : ∀ (l : List Oper), (∀ o ∈ l, Oper.noDefer o = true) → ∀ a w, wpList P ops Q l a w → wpListIn (rf r) 0 P ops Q l a w
  | [], _, a, w, h => h
  | o :: l, hd, a, w, h => by
    unfold wpList at h
    unfold wpListIn
    have hl := list_in hQ l fun o ho => hd o (List.mem_cons_of_mem _ ho)
    split at h
    · rename_i hw
      rw [if_pos hw]
      exact (h.resolve_right fun h => hQ h.2) |> op_in (hd o (List.mem_cons_self ..)) |> Oper.wpIn_mono hl
    · rename_i hw
      rw [if_neg hw]
      exact ⟨fun f _ => rf_fn r f, hl _ _ h⟩
theorem opAt_in (hQ : ¬ LetsOut Q) (hd : ∀ o ∈ ops.toList, Oper.noDefer o = true) {i : Nat} {K K' : Act → World → Prop} (hK : ∀ a w, K a w → K' a w) (h : wpOp P ops Q i K a w) : wpOpIn (rf r) 0 P ops Q i K' a w := by
  unfold wpOp at h
  unfold wpOpIn
  cases ho : ops[i]? with
  | none => simp only [ho] at h ⊢; exact hK _ _ h
  | some o =>
    simp only [ho] at h ⊢
    have hm : o ∈ ops.toList := Array.mem_toList_iff.2 (Array.mem_of_getElem? ho)
    split at h
    · rename_i hw
      rw [if_pos hw]
      exact (h.resolve_right fun h => hQ h.2) |> op_in (hd o hm) |> Oper.wpIn_mono hK
    · rename_i hw
      rw [if_neg hw]
      exact ⟨fun f _ => rf_fn r f, hK _ _ h⟩
theorem any_in {md : Region.Mode} (hQ : ¬ LetsOut Q) (hd : ∀ o ∈ ops.toList, Oper.noDefer o = true) : ∀ (n : Nat) (L : Array Bool) (a : Act) (w : World), wpAny P md ops Q n L a w → wpAnyIn (rf r) 0 P md ops Q n L a w
  | 0, L, a, w, h => h
  | n + 1, L, a, w, h => ⟨h.1, fun i hi => opAt_in hQ hd (fun a w h => any_in hQ hd n _ a w h) (h.2 i hi)⟩
/-- Ends normally. -/
def nrmQ (K : Act → World → Prop) : Exit → Act → World → Prop := fun e a w => e = .normal ∧ K a w
theorem nrmQ_out (K : Act → World → Prop) : ¬ LetsOut (nrmQ K) := fun ⟨_, _, h⟩ => by cases h.1
theorem nrmQ_mono {c : Code} (h : wpR r P c (nrmQ (Q .normal)) a w) : wpR r P c Q a w := wpIn_mono h fun e a w hq => by obtain ⟨rfl, hq⟩ := hq; exact hq
theorem region_list {id : Nat} (hd : ops.toList.all Oper.noDefer = true) (h : wpList P ops (nrmQ (Q .normal)) ops.toList a w) : wpR r P (.region id ops false) Q a w :=
  nrmQ_mono (wpIn_region_list (list_in (nrmQ_out _) _ (List.all_eq_true.1 hd) _ _ h))
theorem region_any {id : Nat} (hm : P.follows .mixedOrders = true) (hd : ops.toList.all Oper.noDefer = true) (h : wpAny P .any ops (nrmQ (Q .normal)) ops.size (Array.replicate ops.size false) a { w with drawn := w.drawn + 1 }) : wpR r P (.region id ops true) Q a w :=
  nrmQ_mono (wpIn_region_any hm (any_in (nrmQ_out _) (List.all_eq_true.1 hd) _ _ _ _ h))
theorem wpR_scope {c : Code} (h : wpR r P c (Exit.noGoto Q) a w) : wpR r P (.scope c) Q a w := by
  intro b k cs hro hb hr
  have s1 : StepsIn (Machine.fenced P (rf r)) P (lone (b.atR a (.code (.scope c) :: k)) cs w) (lone (b.atR a (.code c :: .inScope c :: k)) cs w) :=
    rf_steps.2 (.one (step_lone_go (by simp [stepG, stepG.exec, Frame.atR])))
  obtain ⟨e, a₁, w₁, hq, harr⟩ := h b (.inScope c :: k) cs hro hb hr
  cases e with
  | normal => exact ⟨.normal, a₁, w₁, hq, StepsIn.trans s1 (StepsIn.trans harr (rf_steps.2 (.one (step_lone_go (by simp [stepG, stepG.exec, Frame.atR])))))⟩
  | exit id =>
    have hx : exitTo id (.inScope c :: k) = exitTo id k := by simp [exitTo]
    exact ⟨.exit id, a₁, w₁, hq, fun k' hk => StepsIn.trans s1 (harr.1 k' (by rw [hx]; exact hk)), fun hr' hk => let ⟨k₁, h1, h2⟩ := harr.2 hr' (by rw [hx]; exact hk); ⟨k₁, h1, StepsIn.trans s1 h2⟩⟩
  | goto l => exact hq.elim
  | ret => exact ⟨_, a₁, w₁, hq, .of_steps s1 harr⟩
  | panic ch => exact ⟨_, a₁, w₁, hq, .of_steps s1 harr⟩
  | outgrown => exact ⟨_, a₁, w₁, hq, .of_steps (b := b) (k := k) (cs := cs) (e := .outgrown) s1 harr⟩
theorem wpR_loop_ghost {c : Code} (I : Nat → Act → World → Prop) (n : Nat) (h₀ : I n a w)
    (round : ∀ n a w, I n a w → wpR r P c (Exit.then (fun a' w' => ∃ m, m < n ∧ I m a' w') Q) a w) : wpR r P (.loop c) Q a w := by
  intro b k cs hro hb hr
  have key : ∀ n a w, I n a w →
      ∃ e a' w', Q e a' w' ∧ ArrivesIn (Machine.fenced P (rf r)) P (lone (b.atR a (.code c :: .inLoop c :: k)) cs w) b k cs e a' w' := by
    intro n
    induction n using Nat.strongRecOn with
    | _ n ih =>
      intro a w hI
      obtain ⟨e, a₁, w₁, hq, harr⟩ := round n a w hI b (.inLoop c :: k) cs hro hb hr
      cases e with
      | normal =>
        obtain ⟨m, hlt, hI₁⟩ := hq
        obtain ⟨e₂, a₂, w₂, hq₂, harr₂⟩ := ih m hlt a₁ w₁ hI₁
        exact ⟨e₂, a₂, w₂, hq₂, .of_steps (StepsIn.trans harr (.one (fenced_calm hb hr rfl) stepR_inLoop)) harr₂⟩
      | exit id => exact ⟨_, a₁, w₁, hq, .pass (x := .inLoop c) rfl (fun _ _ => .inl (by simp)) harr⟩
      | goto l => exact ⟨_, a₁, w₁, hq, .pass (x := .inLoop c) rfl (fun _ _ => .inl (by simp)) harr⟩
      | ret => exact ⟨_, a₁, w₁, hq, .pass (x := .inLoop c) rfl (fun _ _ => .inl (by simp)) harr⟩
      | panic ch => exact ⟨_, a₁, w₁, hq, .pass (x := .inLoop c) rfl (fun _ _ => .inl (by simp)) harr⟩
      | outgrown => exact ⟨_, a₁, w₁, hq, .pass (x := .inLoop c) rfl (fun _ _ => .inl (by simp)) harr⟩
  obtain ⟨e, a', w', hq, harr⟩ := key _ a w h₀
  exact ⟨e, a', w', hq, .of_steps (.one (fenced_calm hb hr rfl) stepR_loop) harr⟩
end
end Go.Proofs.Ytcglpbchejkolaa
/- The engine, part 13b: drawn regions with allocations that are put off. -/
namespace Go.Proofs.Ytcglpbchejkolaa
open Go.RowKit
set_option linter.unusedSimpArgs false
set_option linter.unusedVariables false

section
variable {Γ : Env} {base' : Nat → Nat → Prop}
theorem Lf.den_base (l : Lf) : l.den { Γ with base := base' } = l.den Γ := by cases l <;> rfl
theorem dens_base (l : List Lf) : dens { Γ with base := base' } l = dens Γ l := by
  unfold dens; rw [List.map_congr_left fun x _ => Lf.den_base x]
theorem S0.den_base (s : S0) : s.den { Γ with base := base' } = s.den Γ := by
  cases s with
  | lf l => exact Lf.den_base l
  | agg l => simp only [S0.den, dens_base]
theorem SV.den_base (s : SV) : s.den { Γ with base := base' } = s.den Γ := by
  cases s with
  | one s => exact S0.den_base s
  | tup l => simp only [SV.den]; rw [List.map_congr_left fun x _ => S0.den_base x]
  | fn f l => simp only [SV.den, dens_base]
theorem Lf.ok_base {P : Program} {w : World} {O : Nat → Nat → Prop} {l : Lf} : l.ok P w O { Γ with base := base' } ↔ l.ok P w O Γ := by cases l <;> exact Iff.rfl
theorem S0.ok_base {P : Program} {w : World} {O : Nat → Nat → Prop} {s : S0} : s.ok P w O { Γ with base := base' } ↔ s.ok P w O Γ := ⟨fun h l hl => Lf.ok_base.1 (h l hl), fun h l hl => Lf.ok_base.2 (h l hl)⟩
theorem SV.ok_base {P : Program} {w : World} {O : Nat → Nat → Prop} {s : SV} : s.ok P w O { Γ with base := base' } ↔ s.ok P w O Γ := by
  cases s with
  | one s => exact S0.ok_base
  | tup l => exact ⟨fun h s hs => S0.ok_base.1 (h s hs), fun h s hs => S0.ok_base.2 (h s hs)⟩
  | fn f l => exact ⟨fun h l hl => Lf.ok_base.1 (h l hl), fun h l hl => Lf.ok_base.2 (h l hl)⟩
theorem Hold.base {st : St} {s : Bool} {j b : Nat} : Hold { Γ with base := base' } st s j b ↔ Hold Γ st s j b := by cases s <;> exact Iff.rfl
end
/-- Only blocks that are watched over and nobody's have turned; new ones may be watched over. -/
theorem Sat.hand {P : Program} {F : Nat → Prop} {w0 : World} {Γ : Env} {st : St} {a : Act} {w : World} (h : Sat P F w0 Γ st a w) {w' : World} {F' : Nat → Prop} {base' : Nat → Nat → Prop} (hsz : w.heap.size ≤ w'.heap.size)
    (hblk : ∀ i, i < w.heap.size → ¬ (F i ∧ ∀ o, Γ.base i o) → w'.heap[i]? = w.heap[i]?) (hb2 : ∀ b o, base' b o → Γ.base b o ∨ w.heap.size ≤ b) (hb3 : ∀ b o, base' b o → b < w'.heap.size)
    (hF : ∀ i, F' i → i < w'.heap.size ∧ (F i ∨ w.heap.size ≤ i ∨ ∃ o, ¬ Own Γ st i o)) : Sat P F' w' { Γ with base := base' } st a w' := by
  have hown : ∀ b o, Own { Γ with base := base' } st b o → Own Γ st b o ∨ w.heap.size ≤ b := fun b o hb => by
    rcases Own.iff.1 hb with hb | ⟨s, j, hh⟩
    · exact (hb2 b o hb).imp (fun h => .inl h) id
    · exact .inl ((Hold.base.1 hh).own o)
  have hkeep : ∀ b o, b < w.heap.size → ¬ Own Γ st b o → w'.cell? ⟨b, o, none⟩ = w.cell? ⟨b, o, none⟩ ∧ ¬ Own { Γ with base := base' } st b o := fun b o hlt hno =>
    ⟨World.cell?_of_block (hblk b hlt fun hx => hno (.inl (hx.2 o))), fun ho => (hown b o ho).elim hno fun hge => by omega⟩
  have hnF : ∀ b, b < w.heap.size → ¬ F b → (∀ o, Own Γ st b o) → ¬ F' b := fun b hlt hn ho hf => by
    obtain ⟨-, h1 | h1 | ⟨o, h1⟩⟩ := hF b hf
    · exact hn h1
    · omega
    · exact h1 (ho o)
  refine ⟨fun t sv ht => ?_, h.size, fun b mb hm => ?_, fun i e hi => ?_, fun i e hi => ?_, fun s j s' j' b h1 h2 => h.inj s j s' j' b (Hold.base.1 h1) (Hold.base.1 h2), Keeps.refl _ _, fun i hi => (hF i hi).1, hb3, h.defers, h.len, h.nb, h.num⟩
  · obtain ⟨h1, h2⟩ := h.slots t sv ht
    exact ⟨by rw [SV.den_base]; exact h1, SV.ok_base.2 (SV.ok_keep h2 hsz hkeep)⟩
  · obtain ⟨h1, h2, h3, h4⟩ := h.mem b mb hm
    exact ⟨by rw [dens_base]; exact (hblk _ h1.lt fun hx => h3 hx.1).trans h1, fun l hl => Lf.ok_base.2 (Lf.ok_keep (h2 l hl) hsz hkeep), hnF _ h1.lt h3 fun o => (Hold.mem (Γ := Γ) hm).own o, h4⟩
  · obtain ⟨h1, h2, h3⟩ := h.vec i e hi
    exact ⟨h1.keep hsz hkeep fun b hb => hblk b (h1.lt hb) fun hx => (h3 b hb).1 hx.1, h2, fun b hb => ⟨hnF b (h1.lt hb) (h3 b hb).1 fun o => (Hold.vec (Γ := Γ) hi hb).own o, fun o ho => (hb2 b o ho).elim (fun hx => (h3 b hb).2 o hx) fun hx => by have := h1.lt hb; omega⟩⟩
  · obtain ⟨h1, h2, h3⟩ := h.clo i e hi
    refine ⟨?_, fun s hs => S0.ok_base.2 (S0.ok_keep (h2 s hs) hsz hkeep), fun l hl => Lf.ok_base.2 (Lf.ok_keep (h3 l hl) hsz hkeep)⟩
    rw [List.map_congr_left fun s _ => S0.den_base s, List.map_congr_left fun l _ => Lf.den_base l]
    exact h1
/-- Back to what was watched over first. -/
theorem Sat.back {P : Program} {F F' : Nat → Prop} {w0 w1 : World} {Γ : Env} {st : St} {a : Act} {w : World} {base' : Nat → Nat → Prop} (h : Sat P F' w1 Γ st a w) (hF : ∀ i, F i → F' i) (hk : Keeps F w0 w) (hf : ∀ i, F i → i < w0.heap.size) (hb : ∀ b o, base' b o → Γ.base b o) : Sat P F w0 { Γ with base := base' } st a w := by
  have hown : ∀ b o, Own { Γ with base := base' } st b o → Own Γ st b o := fun b o ho => by
    rcases Own.iff.1 ho with ho | ⟨s, j, hh⟩
    · exact .inl (hb b o ho)
    · exact (Hold.base.1 hh).own o
  have hkeep : ∀ b o, b < w.heap.size → ¬ Own Γ st b o → w.cell? ⟨b, o, none⟩ = w.cell? ⟨b, o, none⟩ ∧ ¬ Own { Γ with base := base' } st b o := fun b o _ hno => ⟨rfl, fun ho => hno (hown b o ho)⟩
  refine ⟨fun t sv ht => ?_, h.size, fun b mb hm => ?_, fun i e hi => ?_, fun i e hi => ?_, fun s j s' j' b h1 h2 => h.inj s j s' j' b (Hold.base.1 h1) (Hold.base.1 h2), hk, hf, fun b o ho => h.base b o (hb b o ho), h.defers, h.len, h.nb, h.num⟩
  · obtain ⟨h1, h2⟩ := h.slots t sv ht
    exact ⟨by rw [SV.den_base]; exact h1, SV.ok_base.2 (SV.ok_keep h2 (Nat.le_refl _) hkeep)⟩
  · obtain ⟨h1, h2, h3, h4⟩ := h.mem b mb hm
    exact ⟨by rw [dens_base]; exact h1, fun l hl => Lf.ok_base.2 (Lf.ok_keep (h2 l hl) (Nat.le_refl _) hkeep), fun hx => h3 (hF _ hx), h4⟩
  · obtain ⟨h1, h2, h3⟩ := h.vec i e hi
    exact ⟨h1.keep (Nat.le_refl _) hkeep fun _ _ => rfl, h2, fun b hb' => ⟨fun hx => (h3 b hb').1 (hF _ hx), fun o ho => (h3 b hb').2 o (hb b o ho)⟩⟩
  · obtain ⟨h1, h2, h3⟩ := h.clo i e hi
    refine ⟨?_, fun s hs => S0.ok_base.2 (S0.ok_keep (h2 s hs) (Nat.le_refl _) hkeep), fun l hl => Lf.ok_base.2 (Lf.ok_keep (h3 l hl) (Nat.le_refl _) hkeep)⟩
    rw [List.map_congr_left fun s _ => S0.den_base s, List.map_congr_left fun l _ => Lf.den_base l]
    exact h1
section
variable {cx : Cx} {R : List C → Prop} {F : Nat → Prop} {w0 : World}
theorem zero_dens {P : Program} {t : TypeId} {cs : List Lf} (h : zeroLf P t = some cs) (Γ Γ' : Env) : dens Γ cs = dens Γ' cs := by
  obtain ⟨it, z, h1, h2, h3⟩ := zeroLf_spec h Γ
  obtain ⟨it', z', h1', h2', h3'⟩ := zeroLf_spec h Γ'
  rw [h1] at h1'
  cases h1'
  rw [h2] at h2'
  cases h2'
  rw [← h3, h3']
theorem zero_ok {P : Program} {t : TypeId} {cs : List Lf} (h : zeroLf P t = some cs) (w : World) (O : Nat → Nat → Prop) (Γ : Env) : ∀ l ∈ cs, l.ok P w O Γ := fun l hl => by
  unfold zeroLf at h
  split at h
  · rename_i it hi
    cases hzz : it.zero with
    | none => simp [hzz] at h
    | some zv =>
      simp [hzz] at h
      subst h
      obtain ⟨v, -, rfl⟩ := List.mem_map.1 hl
      unfold Lf.ofValue
      split <;> trivial
  · cases h
theorem run_alloc {P : Program} {o : Oper} {t : TypeId} (ho : o.op = .alloc t) {cs : List Lf} (hz : zeroLf P t = some cs) (Γ : Env) (a : Act) (w : World) :
    (execOp a.eval o).run P w = .ok (.value (.pointer (some ⟨w.heap.size, 0, none⟩))) (w.alloc (.cells (dens Γ cs) t)) := by
  obtain ⟨it, z, hi, hzz, hc⟩ := zeroLf_spec hz Γ
  unfold execOp
  rw [ho]
  simp [Instr.alloc, zeroValue, run_typeInfo' hi, hzz, newVar, newRow, hc]
theorem allocOp_spec {P : Program} {o : Oper} (h : allocOp P o = true) : ∃ t ca, o.op = .alloc t ∧ zeroLf P t = some ca ∧ o.guard = none := by
  simp only [allocOp, Bool.and_eq_true, Option.isNone_iff_eq_none] at h
  obtain ⟨⟨⟨h, hg⟩, -⟩, -⟩ := h
  split at h
  · rename_i t ht
    obtain ⟨ca, hca⟩ := Option.isSome_iff_exists.1 h
    exact ⟨t, ca, ht, hca, hg⟩
  · cases h
theorem Sat.noVec {P : Program} {F : Nat → Prop} {w0 : World} {Γ : Env} {st : St} {a : Act} {w : World} {ob : Nat → Prop} (h : Sat P F w0 (Γ.addO ob) st a w) {x : Nat} (hx : ob x) (j : Nat) : ¬ Hold Γ st false j x :=
  fun ⟨e, h1, h2⟩ => ((h.vec j e h1).2.2 x h2).2 0 (.inr hx)
/-- An allocation that came some time ago: now it is taken up. -/
theorem alloc_step {ops : Array Oper} {o : Oper} {rest : List Oper} {t : TypeId} (hopeq : o.op = .alloc t) (hg : o.guard = none) {k : St → Option Tree} {st : St} {T : Tree} (g2 : execOps cx ops (o :: rest) st k = some T) {Γ : Env} {ob : Nat → Prop} {a : Act} {w1 : World}
    (hsat : Sat cx.P F w0 (Γ.addO ob) st a w1) {b : Nat} (hob : ob b) {ca : List Lf} (hz : zeroLf cx.P t = some ca) (hb1 : ∀ Γ, Blk w1 b t (dens Γ ca)) (hb2 : w0.heap.size ≤ b) (hne : ∀ x, ob x → ∀ j, ¬ Hold Γ st true j x) {Ls : List (List C → Prop)} (g5 : VC cx R T Γ.ρ Ls) :
    ∃ st2 T2 Γ2, execOps cx ops rest st2 k = some T2 ∧ Ext Γ Γ2 ∧ st2.lvl = st.lvl ∧ VC cx R T2 Γ2.ρ Ls ∧ Sat cx.P F w0 (Γ2.addO fun x => ob x ∧ x ≠ b) st2 (a.put o.dst (.pointer (some ⟨b, 0, none⟩))) w1 ∧ ∀ x, ob x ∧ x ≠ b → ∀ j, ¬ Hold Γ2 st2 true j x := by
  have hct : ∀ rest st k, clearT cx st o rest k = none := fun rest st k => clearT_slice fun t x y u v e => by rw [hopeq] at e; cases e
  simp only [execOps, hct, hg] at g2
  have g2 := orF_some g2 g5
  have hfz : toFreeze cx st o = [] := by unfold toFreeze; rw [hopeq]
  have hov : opVal cx.P st o = none := by unfold opVal; rw [hopeq]
  simp only [doOpF, hfz, freezeAll, doOp, hov, hopeq, hz] at g2
  split at g2
  · rename_i s' st0 m hn
    obtain ⟨f1, f2, f3, f4, f5, f6, f7, f8, f9⟩ := hsat.nils hn (s := .agg ca) (zero_ok hz _ _ _)
    cases hf : st0.fresh t s'.cells with
    | none => simp [hf] at g2
    | some st1 =>
      cases hp : st1.put o.dst (some (.one (.lf (.ptr st.nb 0)))) with
      | none => simp [hf, hp] at g2
      | some st2 =>
        cases hk2 : execOps cx ops rest st2 k with
        | none => simp [hf, hp, hk2] at g2
        | some T2 =>
          simp [hf, hp, hk2] at g2
          subst g2
          have hvc2 := VC.dfnN g5
          have hd : dens { Γ with ρ := Γ.ρ ++ List.replicate m nilC } s'.cells = dens { Γ with ρ := Γ.ρ ++ List.replicate m nilC } ca := by
            have h9 := f9
            rw [show ({ (Γ.addO ob) with ρ := (Γ.addO ob).ρ ++ List.replicate m nilC } : Env) = ({ Γ with ρ := Γ.ρ ++ List.replicate m nilC } : Env).addO ob from rfl] at h9
            rw [List.map_congr_left fun l _ => Lf.den_addO _ ob l, List.map_congr_left fun l _ => Lf.den_addO Γ ob l] at h9
            have hz9 := zero_dens hz Γ { Γ with ρ := Γ.ρ ++ List.replicate m nilC }
            unfold dens at hz9 ⊢
            rw [h9]; exact hz9
          have hsat2 : Sat cx.P F w0 (({ Γ with ρ := Γ.ρ ++ List.replicate m nilC } : Env).addO ob) st0 a w1 := f2
          have hne2 : ∀ x, ob x → ∀ s j, ¬ Hold ({ Γ with ρ := Γ.ρ ++ List.replicate m nilC } : Env) st0 s j x := fun x hx s j hh => by
            cases s with
            | false => exact hsat2.noVec hx j hh
            | true =>
              obtain ⟨mb, h1, h2⟩ := hh
              rw [f7] at h1
              exact hne x hx j ⟨mb, h1, h2⟩
          obtain ⟨Γ2, e1, e2, e3, e6, e4, e5⟩ := hsat2.adoptS hob hf (by rw [hd]; exact hb1 _) hb2 (hne2 b hob) (fun l hl => Lf.ok_addO.1 (f4 l hl))
          have hput := e4.put hp (one_ok trivial)
          simp only [SV.den, S0.den, Lf.den] at hput
          rw [← f6, show (Γ2.addO fun x => ob x ∧ x ≠ b).blk st0.nb = b from e3] at hput
          have hext : Ext Γ { Γ with ρ := Γ.ρ ++ List.replicate m nilC } := ⟨⟨_, rfl⟩, fun _ _ => rfl, Nat.le_refl _, rfl, rfl⟩
          refine ⟨st2, T2, Γ2, hk2, hext.trans e1, by rw [St.put_lvl hp, e5, f5], by rw [e2]; exact hvc2, hput, fun x hx j hh => ?_⟩
          obtain ⟨mb, h1, h2⟩ := hh
          rw [St.put_mem hp] at h1
          rcases e6 true j x ⟨mb, h1, h2⟩ with h | h
          · exact hne2 x hx.1 true j h
          · exact hx.2 h
  · cases hf : st.fresh t ca with
    | none => simp [hf] at g2
    | some st1 =>
      cases hp : st1.put o.dst (some (.one (.lf (.ptr st.nb 0)))) with
      | none => simp [hf, hp] at g2
      | some st2 =>
        simp [hf, hp] at g2
        have hne2 : ∀ x, ob x → ∀ s j, ¬ Hold Γ st s j x := fun x hx s j hh => by
          cases s with
          | false => exact hsat.noVec hx j hh
          | true => exact hne x hx j hh
        obtain ⟨Γ2, e1, e2, e3, e6, e4, e5⟩ := hsat.adoptS hob hf (hb1 _) hb2 (hne2 b hob) (fun l hl => zero_ok hz _ _ _ l hl)
        have hput := e4.put hp (one_ok trivial)
        simp only [SV.den, S0.den, Lf.den] at hput
        rw [show (Γ2.addO fun x => ob x ∧ x ≠ b).blk st.nb = b from e3] at hput
        refine ⟨st2, T, Γ2, g2, e1, by rw [St.put_lvl hp, e5], by rw [e2]; exact g5, hput, fun x hx j hh => ?_⟩
        obtain ⟨mb, h1, h2⟩ := hh
        rw [St.put_mem hp] at h1
        rcases e6 true j x ⟨mb, h1, h2⟩ with h | h
        · exact hne2 x hx.1 true j h
        · exact hx.2 h
theorem joinOk_spec {st st1 : St} {ps : List Pl} {ks : List Lk} (hc : joinOk st st1 ps ks = true) : headWf st1 st.nx ps = true ∧ st1.nx = st.nx + ks.length ∧ st.nb ≤ st1.nb ∧ st1.nt = st.nt ∧ st1.bds = st.bds ∧ st1.lvl = st.lvl + 1 := by
  simp only [joinOk, Bool.and_eq_true, decide_eq_true_eq] at hc
  obtain ⟨⟨⟨⟨⟨c2, c4⟩, c5⟩, c6⟩, c7⟩, c8⟩ := hc
  exact ⟨c2, Nat.eq_of_beq_eq_true c4, Nat.le_of_ble_eq_true c5, Nat.eq_of_beq_eq_true c6, c7, Nat.eq_of_beq_eq_true c8⟩
/-- A way ends; what follows from where the ways meet. -/
theorem joinEnd_sound' {st st1 : St} {ps : List Pl} {ks : List Lk} (hc : joinOk st st1 ps ks = true) {k : St → Option Tree} {t : Tree} (ht : k st1 = some t) {Γ : Env} {Ls : List (List C → Prop)} (hl : Ls.length = st.lvl) (hlen : Γ.ρ.length = st.nx) (hnb0 : Γ.nb = st.nb) (hnum0 : Num st.bds Γ.ρ)
    {I : List C → Prop} (hall : allC cx.P ks fun xs => I xs → VC cx R t (Γ.ρ ++ xs) (Ls ++ [I])) {Q : Act → World → Prop} (hk : Next cx R F w0 k Γ Ls Q) {id : Nat} : Next cx R F w0 (joinEnd st st1 ps ks id) Γ (Ls ++ [I]) Q := by
  obtain ⟨c2, c4, c5, c6, c7, c8⟩ := joinOk_spec hc
  have hnum1 : Num st1.bds Γ.ρ := by rw [c7]; exact hnum0
  intro st' T' Γ' Ls' hk' he' hl' hlen' hv' a' w' hs'
  unfold joinEnd at hk'
  split at hk'
  · rename_i hc
    simp only [Bool.and_eq_true] at hc
    obtain ⟨⟨d1, d2⟩, d3⟩ := hc
    split at hk'
    · rename_i vals hvals
      split at hk'
      · rename_i hks'
        cases hk'
        obtain ⟨hob', hback⟩ := VC.obT hv'
        obtain ⟨l, hl2⟩ := he'.ρ
        obtain ⟨hty', hsat'⟩ := hs'.rebase (st1 := st1) (ρ0 := Γ.ρ) ⟨l, hl2⟩ (by rw [hlen]; exact d1) (by rw [hlen]; exact hvals) hks' hob' (by rw [hlen]; exact c2) (Nat.eq_of_beq_eq_true d3) (Nat.le_of_ble_eq_true d2) (by rw [hlen]; exact c4) hnum1
        have hget : Ls'[st.lvl]? = some I := by
          obtain ⟨m, rfl⟩ := hl'
          rw [List.append_assoc, List.getElem?_append_right (by omega), hl]
          simp
        simp only [VC, hget] at hback
        have hvx := allC_elim hall _ hty' hback
        refine hk st1 t { Γ' with ρ := Γ.ρ ++ cs_ Γ'.ρ vals, nb := st1.nb } (Ls ++ [I]) ht ⟨⟨_, rfl⟩, fun b hb => he'.blk b hb, by rw [hnb0]; exact c5, he'.base, he'.up⟩ (List.prefix_append _ _) (by simp [hl, c8]) hvx a' w' hsat'
      · cases hk'; exact hv'.elim
    · cases hk'; exact hv'.elim
  · cases hk'; exact hv'.elim
theorem joinEnd_sound {st st1 : St} {ps : List Pl} {ks : List Lk} (hc : joinOk st st1 ps ks = true) {k : St → Option Tree} {t : Tree} (ht : k st1 = some t) {Γ : Env} {Ls : List (List C → Prop)} (hl : Ls.length = st.lvl) {a : Act} {w : World} (hs : Sat cx.P F w0 Γ st a w)
    {I : List C → Prop} (hall : allC cx.P ks fun xs => I xs → VC cx R t (Γ.ρ ++ xs) (Ls ++ [I])) {Q : Act → World → Prop} (hk : Next cx R F w0 k Γ Ls Q) {id : Nat} : Next cx R F w0 (joinEnd st st1 ps ks id) Γ (Ls ++ [I]) Q :=
  joinEnd_sound' hc ht hl hs.len hs.nb hs.num hall hk
/-! Soundness -/
theorem Oper.wp_frame {P : Program} {o : Oper} {a : Act} {w : World} {K : Act → World → Prop} {Q : Exit → Act → World → Prop} (hh : o.wp P a w K Q) : o.wp P a w (fun a' w' => K a' w' ∧ ∀ t, o.dst ≠ some t → a'.tmps[t]? = a.tmps[t]?) Q := by
  have key : ∀ (a1 : Act) (v : Value), a1.tmps = a.tmps → ∀ t, o.dst ≠ some t → (a1.put o.dst v).tmps[t]? = a.tmps[t]? := fun a1 v h1 t ht => by
    cases hd : o.dst with
    | none => simp [Act.put, h1]
    | some d =>
      rw [hd] at ht
      simp only [Act.put, h1]
      rw [Array.getElem?_setIfInBounds, if_neg (fun e => ht (by rw [e]))]
  unfold Oper.wp at *
  generalize (execOp a.eval o).run P w = r at *
  cases r with
  | ok n w' =>
    cases n <;> simp only [Oper.upon] at hh ⊢ <;>
      first
        | exact ⟨hh, key _ _ rfl⟩
        | exact Calls.mono hh (fun e w'' he => by cases e <;> first | exact ⟨he, key _ _ rfl⟩ | exact he)
        | exact Rows.mono hh (fun _ _ he => ⟨he, key _ _ rfl⟩)
  | halt x w' => cases x <;> simp only [Oper.upon] at hh ⊢ <;> exact hh
theorem put_self {a : Act} {d : Nat} {v : Value} (h : a.tmps[d]? = some v) : a.put (some d) v = a := by
  obtain ⟨tmps, defers⟩ := a
  simp only [Act.put]
  congr 1
  apply Array.ext_getElem?
  intro i
  rw [Array.getElem?_setIfInBounds]
  split
  · rename_i e
    subst e
    have hlt : d < tmps.size := (Array.getElem?_eq_some_iff.1 h).1
    rw [if_pos hlt]; exact h.symm
  · rfl
theorem Env.unO {Γ Γ0 Γ2 : Env} {ob : Nat → Prop} (he : Ext Γ0 Γ) (he2 : Ext (Γ.addO ob) Γ2) : Ext Γ0 { Γ2 with base := Γ.base } ∧ Γ2 = ({ Γ2 with base := Γ.base } : Env).addO ob := by
  refine ⟨⟨?_, fun b hb => ?_, ?_, he.base, ?_⟩, ?_⟩
  · obtain ⟨l, e⟩ := he.ρ
    obtain ⟨m, e2⟩ := he2.ρ
    exact ⟨l ++ m, by show Γ2.ρ = _; rw [e2, show (Γ.addO ob).ρ = Γ.ρ from rfl, e, List.append_assoc]⟩
  · show Γ2.blk b = _
    rw [he2.blk b (Nat.lt_of_lt_of_le hb he.nb)]; exact he.blk b hb
  · exact Nat.le_trans he.nb he2.nb
  · show Γ2.up = _
    rw [he2.up]; exact he.up
  · have hb := he2.base
    cases Γ2
    simp only [Env.addO] at hb ⊢
    rw [hb]
/-- What is known while allocations are put off. -/
structure Late (P : Program) (ops : Array Oper) (F : Nat → Prop) (w0 : World) (Γ : Env) (ob : Nat → Option Nat) (L : Array Bool) (st : St) (a : Act) (w : World) : Prop where
  sat : ∃ wA, Keeps F w0 wA ∧ Sat P (fun i => F i ∨ madeOf ob i) wA (Γ.addO (madeOf ob)) st a w ∧ ∀ i b, ob i = some b → ∀ o t ca Γ', ops[i]? = some o → o.op = .alloc t → zeroLf P t = some ca → Blk wA b t (dens Γ' ca)
  old : ∀ i, F i → i < w0.heap.size
  rng : ∀ i b, ob i = some b → lateAt P ops i = true ∧ w0.heap.size ≤ b
  slot : ∀ i b o d, ob i = some b → ops[i]? = some o → o.dst = some d → a.tmps[d]? = some (.pointer (some ⟨b, 0, none⟩))
  inj : ∀ i j b, ob i = some b → ob j = some b → i = j
  all : ∀ i, lateAt P ops i = true → L.getD i false = (ob i).isSome
theorem Keeps.part {F F' : Nat → Prop} {w w' : World} (h : Keeps F' w w') (hF : ∀ i, F i → F' i) : Keeps F w w' := ⟨h.os, h.tape, h.output, h.size, fun i hi => h.block i (hF i hi)⟩
section
variable {P : Program} {ops : Array Oper} {Γ Γ0 : Env} {ob : Nat → Option Nat} {L : Array Bool} {st : St} {a : Act} {w : World}
theorem Late.mid (h : Late P ops F w0 Γ ob L st a w) : Sat P F w0 (Γ.addO (madeOf ob)) st a w := by
  obtain ⟨wA, h1, h2, -⟩ := h.sat
  exact h2.back (F := F) (base' := (Γ.addO (madeOf ob)).base) (fun i hi => .inl hi) (h1.trans (h2.keeps.part fun i hi => .inl hi)) h.old fun b o hb => hb
theorem Late.base (h : Late P ops F w0 Γ ob L st a w) : Sat P F w0 Γ st a w :=
  h.mid.back (F := F) (base' := Γ.base) (fun i hi => hi) h.mid.keeps h.old fun b o hb => .inl hb
theorem Late.blk (h : Late P ops F w0 Γ ob L st a w) {i b : Nat} (hb : ob i = some b) {o : Oper} {t : TypeId} {ca : List Lf} (ho : ops[i]? = some o) (hop : o.op = .alloc t) (hz : zeroLf P t = some ca) (Γ' : Env) : Blk w b t (dens Γ' ca) := by
  obtain ⟨wA, h1, h2, h3⟩ := h.sat
  exact (h2.keeps.block b (.inr ⟨i, hb⟩)).trans (h3 i b hb o t ca Γ' ho hop hz)
end
theorem lateAt_spec {P : Program} {ops : Array Oper} {i : Nat} (h : lateAt P ops i = true) : i < lcN ops ∧ ∃ o, ops[i]? = some o ∧ allocOp P o = true := by
  simp only [lateAt, Bool.and_eq_true] at h
  refine ⟨Nat.le_of_ble_eq_true h.1, ?_⟩
  have h2 := h.2
  split at h2
  · rename_i o ho; exact ⟨o, ho, h2⟩
  · cases h2
theorem allocOp_dst {P : Program} {o : Oper} (h : allocOp P o = true) : ∃ d, o.dst = some d := by
  simp only [allocOp, Bool.and_eq_true] at h
  exact Option.isSome_iff_exists.1 h.1.2
theorem allocOp_after {P : Program} {o : Oper} (h : allocOp P o = true) : ∀ e, e ∉ o.after := by
  simp only [allocOp, Bool.and_eq_true] at h
  intro e he
  have := h.2
  simp only [Array.isEmpty_iff] at this
  rw [this] at he
  simp at he
theorem lateDst_mem {P : Program} {ops : Array Oper} {i : Nat} {o : Oper} {d : Nat} (h : lateAt P ops i = true) (ho : ops[i]? = some o) (hd : o.dst = some d) : d ∈ lateDst P ops := by
  refine List.mem_filterMap.2 ⟨o, List.mem_filterMap.2 ⟨i, List.mem_filter.2 ⟨List.mem_range.2 (lateAt_spec h).1, h⟩, ho⟩, hd⟩
theorem nodup_fm {α β : Type} {f : α → Option β} : ∀ {l : List α}, l.Nodup → (l.filterMap f).Nodup → ∀ {x y : α} {b : β}, x ∈ l → y ∈ l → f x = some b → f y = some b → x = y
  | [], _, _, _, _, _, h, _, _, _ => nomatch h
  | z :: l, hn, hf, x, y, b, hx, hy, ex, ey => by
    rw [List.nodup_cons] at hn
    have tail : ∀ u, u ∈ l → f u = some b → f z = some b → False := fun u hu eu ez => by
      rw [List.filterMap_cons, ez] at hf
      exact (List.nodup_cons.1 hf).1 (List.mem_filterMap.2 ⟨u, hu, eu⟩)
    have hf2 : (l.filterMap f).Nodup := by
      rw [List.filterMap_cons] at hf
      split at hf
      · exact hf
      · exact (List.nodup_cons.1 hf).2
    rcases List.mem_cons.1 hx with e1 | hx1 <;> rcases List.mem_cons.1 hy with e2 | hy1
    · rw [e1, e2]
    · exact (tail y hy1 ey (e1 ▸ ex)).elim
    · exact (tail x hx1 ex (e2 ▸ ey)).elim
    · exact nodup_fm hn.2 hf2 hx1 hy1 ex ey
theorem lcN_spec (ops : Array Oper) : lcN ops = ops.size ∨ (lcAt ops (lcN ops) = true ∧ lcN ops < ops.size) := by
  unfold lcN
  cases h : (List.range ops.size).find? (lcAt ops) with
  | none => exact .inl rfl
  | some n => exact .inr ⟨List.find?_some h, by have := List.mem_of_find?_eq_some h; simpa using this⟩
theorem reach_listed {ops : Array Oper} {L : Array Bool} (hc : Closed ops L) : ∀ (l seen : List Nat), (∀ m ∈ seen, L.getD m false = true) → ∀ a ∈ reach ops seen l, L.getD a false = true
  | [], seen, hs, a, ha => hs a ha
  | b :: l, seen, hs, a, ha => by
    rw [reach] at ha
    split at ha
    · rename_i hb
      refine reach_listed hc l (b :: seen) (fun m hm => ?_) a ha
      rcases List.mem_cons.1 hm with rfl | hm
      · obtain ⟨m, hm, he⟩ := List.any_eq_true.1 hb
        unfold edgeTo at he
        split at he
        · rename_i o ho
          obtain ⟨e, he1, he2⟩ := Array.any_eq_true'.1 he
          simp only [Bool.and_eq_true] at he2
          have := hc m o ho (hs m hm) e he1 he2.1
          rwa [Nat.eq_of_beq_eq_true he2.2] at this
        · cases he
      · exact hs m hm
    · exact reach_listed hc l seen hs a ha
/-- One behind the late cut is listed: so is all that the cut waits for. -/
theorem lc_yes {ops : Array Oper} {L : Array Bool} (hc : Closed ops L) {i : Nat} (hi : lcN ops ≤ i) (his : i < ops.size) (hL : L.getD i false = true) {j : Nat} (hj : lcReach ops j = true) : L.getD j false = true := by
  rcases lcN_spec ops with h | ⟨h, hlt⟩
  · omega
  · have h0 : L.getD (lcN ops) false = true := by
      by_cases e : i = lcN ops
      · rw [← e]; exact hL
      · unfold lcAt at h
        simp only [Bool.and_eq_true] at h
        refine waitedBy_listed hc _ [lcN ops] (fun m hm => by simp at hm; rw [hm]; exact id) h.2 i ?_ hL
        obtain ⟨k, hk⟩ : ∃ k, i = lcN ops + 1 + k := ⟨i - (lcN ops + 1), by omega⟩
        refine List.mem_of_getElem? (i := k) ?_
        rw [List.getElem?_drop, hk]
        exact List.getElem?_range (by omega)
    unfold lcReach at hj
    rw [Bool.or_eq_true, List.contains_iff_mem] at hj
    rcases hj with hj | hj
    · exact reach_listed hc _ _ (fun m hm => by simp at hm; rw [hm]; exact h0) j hj
    · have := Nat.eq_of_beq_eq_true hj; omega
theorem lateOk_spec {P : Program} {ops : Array Oper} (h : lateOk P ops = true) : (∀ i j o o' d, lateAt P ops i = true → lateAt P ops j = true → ops[i]? = some o → ops[j]? = some o' → o.dst = some d → o'.dst = some d → i = j) ∧ (lcN ops ≤ cutN ops ∧ ∀ i, lateAt P ops i = true → lcReach ops i = true) ∧
    ∀ i, i < lcN ops → lateAt P ops i = false → ∃ o, ops[i]? = some o ∧ o.guard = none ∧ (∀ d ∈ lateDst P ops, o.dst ≠ some d) ∧ ∀ e ∈ o.after, Region.binds .any e = true → lateAt P ops e.on = false := by
  simp only [lateOk, Bool.and_eq_true, decide_eq_true_eq, List.all_eq_true] at h
  refine ⟨fun i j o o' d hi hj ho ho' hd hd' => ?_, ⟨Nat.le_of_ble_eq_true h.1.2.1, fun i hi => ?_⟩, fun i hi hl => ?_⟩
  rotate_left
  · have := h.1.2.2 i (List.mem_range.2 (lateAt_spec hi).1)
    rw [hi] at this
    simpa using this
  rotate_left
  · have hn := h.1.1
    have e : lateDst P ops = ((List.range (lcN ops)).filter (lateAt P ops)).filterMap fun i => (ops[i]?).bind (·.dst) := by
      unfold lateDst lateOps
      rw [List.filterMap_filterMap]
    rw [e] at hn
    refine nodup_fm (List.Pairwise.filter _ List.nodup_range) hn (List.mem_filter.2 ⟨List.mem_range.2 (lateAt_spec hi).1, hi⟩) (List.mem_filter.2 ⟨List.mem_range.2 (lateAt_spec hj).1, hj⟩) (b := d) ?_ ?_
    · simp [ho, hd]
    · simp [ho', hd']
  · have h2 := h.2 i (List.mem_range.2 hi)
    rw [hl, Bool.false_or] at h2
    split at h2
    · rename_i o ho
      simp only [Bool.and_eq_true, Option.isNone_iff_eq_none] at h2
      obtain ⟨⟨g1, g2⟩, g3⟩ := h2
      refine ⟨o, ho, g1, fun d hd e => ?_, fun e he hb => ?_⟩
      · have : ((lateDst P ops).any fun d => decide (o.dst = some d)) = true := List.any_eq_true.2 ⟨d, hd, decide_eq_true e⟩
        rw [this] at g2; cases g2
      · have := Array.all_eq_true'.1 g3 e he
        rw [hb] at this
        simpa using this
    · cases h2
theorem lateNone_spec {P : Program} {ops : Array Oper} {st : St} (h : lateNone P ops st = true) {d : Nat} (hd : d ∈ lateDst P ops) : look st.sl d = none ∧ d < st.nt ∧ d < 1000 := by
  have := List.all_eq_true.1 h d hd
  simp only [Bool.and_eq_true, Option.isNone_iff_eq_none] at this
  exact ⟨this.1.1, Nat.le_of_ble_eq_true this.1.2, Nat.le_of_ble_eq_true this.2⟩
/-- An allocation comes. -/
theorem late_alloc {ops : Array Oper} {Γ : Env} {ob : Nat → Option Nat} {L : Array Bool} {st : St} {a : Act} {w : World} (hlo : lateOk cx.P ops = true) (h : Late cx.P ops F w0 Γ ob L st a w) (hn : lateNone cx.P ops st = true) (hsz : L.size = ops.size) {i : Nat} (hi : lateAt cx.P ops i = true) (hL : L.getD i false = false)
    {Q : Exit → Act → World → Prop} {K : Act → World → Prop} (hK : ∀ a' w' ob', Below w.heap.size w w' → Late cx.P ops F w0 Γ ob' (L.setIfInBounds i true) st a' w' → K a' w') : wpOp cx.P ops Q i K a w := by
  obtain ⟨hcut, o, ho, hao⟩ := lateAt_spec hi
  obtain ⟨t, ca, hop, hz, hg⟩ := allocOp_spec hao
  obtain ⟨d, hd⟩ := allocOp_dst hao
  obtain ⟨hl1, hl2, hl3⟩ := lateNone_spec hn (lateDst_mem hi ho hd)
  have hnone : ob i = none := by
    have := h.all i hi
    rw [hL] at this
    cases hx : ob i with
    | none => rfl
    | some b => rw [hx] at this; cases this
  unfold wpOp
  rw [ho]
  simp only []
  rw [if_pos (by simp [Region.wanted, hg])]
  refine .inl ?_
  unfold Oper.wp
  rw [run_alloc hop hz Γ]
  simp only [Oper.upon]
  have hbel := below_alloc w (.cells (dens Γ ca) t)
  have hlt : w.heap.size < (w.alloc (.cells (dens Γ ca) t)).heap.size := by simp
  obtain ⟨wA, h1, h2, h3⟩ := h.sat
  have hmade : ∀ b, madeOf (setOb ob i w.heap.size) b → madeOf ob b ∨ b = w.heap.size := fun b ⟨j, hj⟩ => by
    unfold setOb at hj
    split at hj
    · cases hj; exact .inr rfl
    · exact .inl ⟨j, hj⟩
  have hmade2 : ∀ b, madeOf ob b → b < w.heap.size := fun b hb => h2.base b 0 (.inr hb)
  have hs3 : Sat cx.P (fun x => F x ∨ madeOf (setOb ob i w.heap.size) x) (w.alloc (.cells (dens Γ ca) t)) (Γ.addO (madeOf (setOb ob i w.heap.size))) st a (w.alloc (.cells (dens Γ ca) t)) := by
    refine h2.hand (w' := w.alloc (.cells (dens Γ ca) t)) (base' := (Γ.addO (madeOf (setOb ob i w.heap.size))).base) hbel.size (fun j hj _ => hbel.block j hj) (fun b o' hb => ?_) (fun b o' hb => ?_) (fun b hb => ?_)
    · rcases hb with hb | hb
      · exact .inl (.inl hb)
      · rcases hmade b hb with hb | hb
        · exact .inl (.inr hb)
        · exact .inr (by omega)
    · rcases hb with hb | hb
      · have := h2.base b o' (.inl hb); omega
      · rcases hmade b hb with hb | hb
        · have := hmade2 b hb; omega
        · omega
    · rcases hb with hb | hb
      · have := h2.fold b (.inl hb)
        have := h2.keeps.size
        exact ⟨by omega, .inl (.inl hb)⟩
      · rcases hmade b hb with hb | hb
        · have := hmade2 b hb
          exact ⟨by omega, .inl (.inr hb)⟩
        · exact ⟨by omega, .inr (.inl (by omega))⟩
  have hput : Sat cx.P (fun x => F x ∨ madeOf (setOb ob i w.heap.size) x) (w.alloc (.cells (dens Γ ca) t)) (Γ.addO (madeOf (setOb ob i w.heap.size))) st (a.put o.dst (.pointer (some ⟨w.heap.size, 0, none⟩))) (w.alloc (.cells (dens Γ ca) t)) := by
    rw [hd]
    refine hs3.slots' (fun t' sv hsv => ?_) (by simp [Act.put, hs3.size]) hs3.defers hs3.num
    have hne : d ≠ t' := fun e => by rw [e, hsv] at hl1; cases hl1
    rw [slotV_put (by rw [hs3.size]; exact hl2) hl3, if_neg hne]
    exact hs3.slots t' sv hsv
  have hk0 : Keeps F w0 (w.alloc (.cells (dens Γ ca) t)) := (h1.trans (h2.keeps.part fun x hx => .inl hx)).trans (Keeps.of_below hbel fun x hx => by
    have := h.old x hx
    have := h1.size
    have := h2.keeps.size
    omega)
  refine hK _ _ (setOb ob i w.heap.size) hbel ⟨⟨_, hk0, hput, fun j b hj o' t' ca' Γ' ho' hop' hz' => ?_⟩, h.old, fun j b hj => ?_, fun j b o' d' hj ho' hd' => ?_, fun j j' b hj hj' => ?_, fun j hj => ?_⟩
  · unfold setOb at hj
    split at hj
    · rename_i e
      subst e
      cases hj
      obtain rfl : o' = o := Option.some.inj (ho'.symm.trans ho)
      rw [hop] at hop'; cases hop'
      rw [hz] at hz'; cases hz'
      rw [zero_dens hz Γ' Γ]
      exact Blk.new w t _
    · exact (h.blk hj ho' hop' hz' Γ').below hbel
  · unfold setOb at hj
    split at hj
    · rename_i e
      subst e
      cases hj
      have := h1.size
      have := h2.keeps.size
      exact ⟨hi, by omega⟩
    · exact h.rng j b hj
  · unfold setOb at hj
    rw [hd]
    simp only [Act.put]
    rw [Array.getElem?_setIfInBounds]
    split at hj
    · rename_i e
      subst e
      cases hj
      obtain rfl : o' = o := Option.some.inj (ho'.symm.trans ho)
      obtain rfl : d' = d := Option.some.inj (hd'.symm.trans hd)
      rw [if_pos rfl, if_pos (by have := h2.size; omega)]
    · rename_i e
      rw [if_neg (fun e' => e ?_)]
      · exact h.slot j b o' d' hj ho' hd'
      · exact ((lateOk_spec hlo).1 j i o' o d (h.rng j b hj).1 hi ho' ho (e' ▸ hd') hd)
  · unfold setOb at hj hj'
    split at hj <;> split at hj'
    · omega
    · cases hj; have := hmade2 _ ⟨j', hj'⟩; omega
    · cases hj'; have := hmade2 _ ⟨j, hj⟩; omega
    · exact h.inj j j' b hj hj'
  · unfold setOb
    by_cases e : j = i
    · subst e
      have hlt2 : j < ops.size := (Array.getElem?_eq_some_iff.1 ho).1
      rw [if_pos rfl]
      simp [Array.getD_eq_getD_getElem?, hsz, hlt2]
    · rw [if_neg e, getD_set_ne false (Ne.symm e)]
      exact h.all j hj
theorem late_put {ops : Array Oper} {Γ : Env} {ob : Nat → Option Nat} {L : Array Bool} {st : St} {a : Act} {w : World} (h : Late cx.P ops F w0 Γ ob L st a w) {i : Nat} (hi : lateAt cx.P ops i = false) {st' : St} {a' : Act} {w' : World} {Γ' : Env}
    (hs : ∀ wA, Keeps F w0 wA → Sat cx.P (fun i => F i ∨ madeOf ob i) wA (Γ.addO (madeOf ob)) st a w → Sat cx.P (fun i => F i ∨ madeOf ob i) wA (Γ'.addO (madeOf ob)) st' a' w')
    (hfr : ∀ d ∈ lateDst cx.P ops, a'.tmps[d]? = a.tmps[d]?) : Late cx.P ops F w0 Γ' ob (L.setIfInBounds i true) st' a' w' := by
  obtain ⟨wA, h1, h2, h3⟩ := h.sat
  refine ⟨⟨wA, h1, hs wA h1 h2, h3⟩, h.old, h.rng, fun j b o d hj ho hd => ?_, h.inj, fun j hj => ?_⟩
  · rw [hfr d (lateDst_mem (h.rng j b hj).1 ho hd)]
    exact h.slot j b o d hj ho hd
  · rw [getD_set_ne false (fun e => by subst e; rw [hi] at hj; cases hj)]
    exact h.all j hj
theorem set_true {L : Array Bool} {i : Nat} (h : i < L.size) : (L.setIfInBounds i true).getD i false = true := by
  simp [Array.getD_eq_getD_getElem?, h]
theorem getD_lt {L : Array Bool} {i : Nat} (h : L.getD i false = true) : i < L.size := by
  rcases Nat.lt_or_ge i L.size with h1 | h1
  · exact h1
  · simp [Array.getD_eq_getD_getElem?, Array.getElem?_eq_none h1] at h
theorem getD_tf {L : Array Bool} {i : Nat} (h : i < L.size) : L.getD i true = L.getD i false := by
  simp [Array.getD_eq_getD_getElem?, h]
theorem pureF_ok {P : Program} {Γ : Env} {st : St} {ρ : Operand → Value} {w : World} {o : Oper} {obs : List B} {sv : SV} (hp : pureF o = true) (h : opVal P st o = some (obs, sv)) (hv : View P Γ st o.op.operands ρ w) (w' : World) :
    (execOp ρ o).run P w' = .ok (.value (sv.den Γ)) w' := by
  obtain ⟨dst, op, type, pos, after, guard⟩ := o
  unfold opVal at h
  cases op <;> simp only [pureF] at hp <;> try (cases hp; done)
  rename_i s x f
  simp only [] at h
  split at h
  · rename_i fs cs hu hx
    obtain ⟨h1, -⟩ := hv.s0 (by simp [Op.operands]) hx
    split at h
    · rename_i fd hf
      cases hpp : partS P fd.type cs fd.offset with
      | none => simp [hpp] at h
      | some s =>
        simp [hpp] at h
        obtain ⟨rfl, rfl⟩ := h
        simp [execOp, h1, Instr.field, run_underlying hu, hf, S0.den, asAgg, run_partS hpp, SV.den]
    · cases h
  · cases h
theorem execLate_sound (hcx : CxOK cx) {ops : Array Oper} (hsel : Region.noSelect ops = true) (hlo : lateOk cx.P ops = true) {h : St} (hch : cutH ops h = cutN ops) (hwf : h.wf = true) {k : St → Option Tree} {Γ0 : Env} {a0 : Act} {Ls0 : List (List C → Prop)} {Q : Exit → Act → World → Prop} (hQ : ∀ c a w, ¬ Q (.panic c) a w)
    (hk : ∀ st T Γ Ls ob L a w, k st = some T → Ext Γ0 Γ → Ls0 <+: Ls → Ls.length = st.lvl → VC cx R T Γ.ρ Ls → Late cx.P ops F w0 Γ ob L st a w → L.size = ops.size → Closed ops L → (∀ i, i < ops.size → L.getD i false = Nat.blt i (lcN ops)) → Kept cx.P F w0 Γ0 h a0 w → Picks cx.P ops Q (Until (cutH ops h) (Kept cx.P F w0 Γ0 h a0)) (ops.size - lcN ops) L a w) :
    ∀ (n f : Nat) (Ly L : Array Bool) (st : St) (T : Tree), execLate cx ops h k f Ly st = some T → ∀ (Γ : Env) (Ls : List (List C → Prop)) (a : Act) (w : World) (ob : Nat → Option Nat), Ext Γ0 Γ → Ls0 <+: Ls → Late cx.P ops F w0 Γ ob L st a w → Ly.size = ops.size → L.size = ops.size →
      (∀ i, i < ops.size → Ly.getD i false = (L.getD i false && !lateAt cx.P ops i)) → Closed ops L → (∀ i, lcN ops ≤ i → L.getD i false = false) → Kept cx.P F w0 Γ0 h a0 w → Ls.length = st.lvl → VC cx R T Γ.ρ Ls → lateNone cx.P ops st = true →
      n = (List.range ops.size).countP (fun j => !L.getD j false) → Picks cx.P ops Q (Until (cutH ops h) (Kept cx.P F w0 Γ0 h a0)) n L a w := by
  obtain ⟨lo1, ⟨lcle, lo3⟩, lo2⟩ := lateOk_spec hlo
  intro n
  induction n with
  | zero =>
    intro f Ly L st T hT Γ Ls a w ob he hpre hs hyz hsz hsym hcl hge hS hl hv hln hn
    have hall : ∀ j, j < ops.size → L.getD j false = true := fun j hj => by
      have := List.countP_eq_zero.1 hn.symm j (List.mem_range.2 hj)
      simpa using this
    have hcs : lcN ops = ops.size := by
      rcases lcN_spec ops with h1 | ⟨h1, h2⟩
      · exact h1
      · have := hge _ (Nat.le_refl _)
        rw [hall _ h2] at this; cases this
    cases f with
    | zero => cases hT
    | succ f =>
      simp only [execLate] at hT
      split at hT
      · split at hT
        · have := hk st T Γ Ls ob L a w hT he hpre hl hv hs hsz hcl (fun i hi => by rw [hall i hi, hcs]; exact (Nat.ble_eq_true_of_le hi).symm) hS
          rw [hcs, Nat.sub_self] at this
          exact this
        · cases hT
      · rename_i r rs hr
        have hm : r ∈ (Region.ready .any ops Ly).filter (earlyAt cx.P ops) := by rw [hr]; simp
        obtain ⟨h1, h2⟩ := List.mem_filter.1 hm
        simp only [earlyAt, Bool.and_eq_true, Bool.not_eq_true'] at h2
        obtain ⟨h3, o, ho, -⟩ := mem_ready.1 h1
        have hlt : r < ops.size := (Array.getElem?_eq_some_iff.1 ho).1
        have := hsym r hlt
        rw [hall r hlt, h2.2, ← getD_tf (by omega), h3] at this
        cases this
  | succ n ih =>
    intro f Ly L st T hT Γ Ls a w ob he hpre hs hyz hsz hsym hcl hge hS hl hv hln hn
    cases f with
    | zero => cases hT
    | succ f =>
      -- what is ready in truth, and in the text
      have toY : ∀ i, i ∈ Region.ready .any ops L → i < lcN ops → lateAt cx.P ops i = false → i ∈ (Region.ready .any ops Ly).filter (earlyAt cx.P ops) := fun i hi hc hla => by
        obtain ⟨h1, o, ho, h2⟩ := mem_ready.1 hi
        have hlt : i < ops.size := (Array.getElem?_eq_some_iff.1 ho).1
        obtain ⟨o', ho', -, -, h5⟩ := lo2 i hc hla
        rw [ho] at ho'; cases ho'
        refine List.mem_filter.2 ⟨mem_ready.2 ⟨?_, o, ho, fun e hee hb => ?_⟩, ?_⟩
        · rw [getD_tf (by omega), hsym i hlt, ← getD_tf (by omega), h1]; rfl
        · have := h2 e hee hb
          rw [hsym e.on (by have := getD_lt this; omega), this, h5 e hee hb]; rfl
        · simp only [earlyAt, Bool.and_eq_true, Bool.not_eq_true']
          exact ⟨Nat.ble_eq_true_of_le hc, hla⟩
      have ofY : ∀ i, i ∈ (Region.ready .any ops Ly).filter (earlyAt cx.P ops) → i ∈ Region.ready .any ops L ∧ i < lcN ops ∧ lateAt cx.P ops i = false := fun i hi => by
        obtain ⟨h1, h2⟩ := List.mem_filter.1 hi
        simp only [earlyAt, Bool.and_eq_true, Bool.not_eq_true'] at h2
        obtain ⟨h3, o, ho, h4⟩ := mem_ready.1 h1
        have hlt : i < ops.size := (Array.getElem?_eq_some_iff.1 ho).1
        refine ⟨mem_ready.2 ⟨?_, o, ho, fun e hee hb => ?_⟩, Nat.le_of_ble_eq_true h2.1, h2.2⟩
        · have := hsym i hlt
          rw [h2.2, Bool.not_false, Bool.and_true] at this
          rw [getD_tf (by omega), ← this, ← getD_tf (by omega)]; exact h3
        · have h5 := h4 e hee hb
          have := hsym e.on (by have := getD_lt h5; omega)
          rw [h5] at this
          simp only [Bool.true_eq, Bool.and_eq_true] at this
          exact this.1
      have cutAll : ∀ i, i ∈ Region.ready .any ops L → lcN ops ≤ i → ∀ j, j < lcN ops → lcReach ops j = true → L.getD j false = true := fun i hi hc j hj hr => by
        have hcl' := hcl.set hi
        obtain ⟨-, o, ho, -⟩ := mem_ready.1 hi
        have hlt : i < ops.size := (Array.getElem?_eq_some_iff.1 ho).1
        have := lc_yes hcl' hc hlt (set_true (by omega)) hr
        rw [getD_set_ne false (by omega)] at this
        exact this
      have symSet : ∀ i, i < ops.size → lateAt cx.P ops i = false → ∀ j, j < ops.size → (Ly.setIfInBounds i true).getD j false = ((L.setIfInBounds i true).getD j false && !lateAt cx.P ops j) := fun i hi hla j hj => by
        by_cases e : i = j
        · subst e
          rw [set_true (by omega), set_true (by omega), hla]; rfl
        · rw [getD_set_ne false e, getD_set_ne false e]; exact hsym j hj
      have cnt : ∀ i, i ∈ Region.ready .any ops L → n = (List.range ops.size).countP (fun j => !(L.setIfInBounds i true).getD j false) := fun i hi => by
        obtain ⟨h1, o, ho, -⟩ := mem_ready.1 hi
        have hlt : i < ops.size := (Array.getElem?_eq_some_iff.1 ho).1
        have := countP_set (p := fun j => !L.getD j false) (q := fun j => !(L.setIfInBounds i true).getD j false) (i := i) (by simp [getD_both h1]) (by simp [set_true (show i < L.size by omega)]) (fun j hj => by rw [getD_set_ne false (Ne.symm hj)]) (List.range ops.size) List.nodup_range (List.mem_range.2 hlt)
        omega
      have geSet : ∀ i, i < lcN ops → ∀ j, lcN ops ≤ j → (L.setIfInBounds i true).getD j false = false := fun i hi j hj => by
        rw [getD_set_ne false (by omega)]; exact hge j hj
      -- an allocation comes
      have alloc : ∀ i, i ∈ Region.ready .any ops L → lateAt cx.P ops i = true → wpOp cx.P ops Q i (fun a' w' => Until (cutH ops h) (Kept cx.P F w0 Γ0 h a0) (L.setIfInBounds i true) w' ∧ Picks cx.P ops Q (Until (cutH ops h) (Kept cx.P F w0 Γ0 h a0)) n (L.setIfInBounds i true) a' w') a w := fun i hi hla => by
        have h1 := (mem_ready.1 hi).1
        refine late_alloc hlo hs hln hsz hla (getD_both h1) fun a' w' ob' hb hs' => ?_
        have hS' : Kept cx.P F w0 Γ0 h a0 w' := Sat.below hS hb
        refine ⟨fun _ => hS', ih (f + 1) Ly (L.setIfInBounds i true) st T hT Γ Ls a' w' ob' he hpre hs' hyz (by rw [Array.size_setIfInBounds]; exact hsz) (fun j hj => ?_) (hcl.set hi) (geSet i (lateAt_spec hla).1) hS' hl hv hln (cnt i hi)⟩
        by_cases e : i = j
        · subst e
          rw [hsym i hj, hla]; simp
        · rw [getD_set_ne false e]; exact hsym j hj
      have hT0 := hT
      simp only [execLate] at hT
      split at hT
      · rename_i hr
        split at hT
        · rename_i hdone
          by_cases hall : ∀ j, j < lcN ops → L.getD j false = true
          · have hshape : ∀ i, i < ops.size → L.getD i false = Nat.blt i (lcN ops) := fun i hi => by
              by_cases hc : i < lcN ops
              · rw [hall i hc]; exact (Nat.ble_eq_true_of_le hc).symm
              · rw [hge i (by omega)]
                cases hx : Nat.blt i (lcN ops) with
                | false => rfl
                | true => exact absurd (Nat.le_of_ble_eq_true hx) hc
            have := hk st T Γ Ls ob L a w hT he hpre hl hv hs hsz hcl hshape hS
            have hle : lcN ops ≤ ops.size := by
              rcases lcN_spec ops with h1 | ⟨h1, h2⟩
              · omega
              · omega
            have hc : n + 1 = ops.size - lcN ops := by
              rw [hn]
              rw [List.countP_congr (q := fun j => !Nat.blt j (lcN ops)) (fun j hj => by rw [hshape j (List.mem_range.1 hj)])]
              have key : ∀ m c, c ≤ m → (List.range m).countP (fun j => !Nat.blt j c) = m - c := fun m c => by
                induction m with
                | zero => intro _; simp
                | succ m ihm =>
                  intro hc
                  rw [List.range_succ, List.countP_append]
                  by_cases e : c ≤ m
                  · rw [ihm e]
                    have : Nat.blt m c = false := by
                      cases hx : Nat.blt m c with
                      | false => rfl
                      | true => have := Nat.le_of_ble_eq_true hx; omega
                    simp [this]; omega
                  · have ec : c = m + 1 := by omega
                    subst ec
                    rw [List.countP_eq_zero.2 (fun j hj => by have := List.mem_range.1 hj; have : Nat.blt j (m + 1) = true := Nat.ble_eq_true_of_le (by omega); simp [this])]
                    have : Nat.blt m (m + 1) = true := Nat.ble_eq_true_of_le (by omega)
                    simp [this]
              exact key _ _ hle
            rw [hc]; exact this
          · obtain ⟨j, hj⟩ := Classical.not_forall.1 hall
            obtain ⟨hjc, hjn⟩ := Classical.not_imp.1 hj
            have hjf : L.getD j false = false := by simpa using hjn
            have hjl : lateAt cx.P ops j = true := by
              have h1 := List.all_eq_true.1 hdone j (List.mem_range.2 hjc)
              cases hx : lateAt cx.P ops j with
              | true => rfl
              | false =>
                rw [hx, Bool.or_false] at h1
                have hlt : j < ops.size := by
                  rcases lcN_spec ops with h2 | ⟨h2, h3⟩ <;> omega
                rw [hsym j hlt, hjf] at h1
                cases h1
            have hjr : j ∈ Region.ready .any ops L := by
              obtain ⟨-, o, ho, hao⟩ := lateAt_spec hjl
              have hlt : j < ops.size := (Array.getElem?_eq_some_iff.1 ho).1
              exact mem_ready.2 ⟨by rw [getD_tf (by omega)]; exact hjf, o, ho, fun e hee _ => absurd hee (allocOp_after hao e)⟩
            refine ⟨fun e => absurd hjr (by rw [e]; simp), fun i hi => alloc i hi ?_⟩
            cases hx : lateAt cx.P ops i with
            | true => rfl
            | false =>
              rcases Nat.lt_or_ge i (lcN ops) with hc | hc
              · have := toY i hi hc hx
                rw [hr] at this; cases this
              · have := cutAll i hi hc j hjc (lo3 j hjl)
                rw [hjf] at this; cases this
        · cases hT
      · rename_i r rs hr
        split at hT
        · rename_i i hfind
          have hiY : i ∈ (Region.ready .any ops Ly).filter (earlyAt cx.P ops) := by rw [hr]; exact List.mem_of_find?_eq_some hfind
          obtain ⟨hiL, hic, hila⟩ := ofY i hiY
          have hfa := List.find?_some hfind
          split at hT
          rotate_left
          · cases hT
          rename_i o ho
          have hro : readsOnly o = true := by
            unfold freeLate at hfa
            rw [Bool.or_eq_true] at hfa
            rcases hfa with hfa | hfa
            · unfold freeAt at hfa
              rw [ho] at hfa
              simp only [Bool.and_eq_true] at hfa
              exact hfa.1.1
            · rw [ho] at hfa
              simp only [Bool.and_eq_true] at hfa
              have := hfa.1.1
              unfold pureF at this
              unfold readsOnly
              split at this
              · rename_i e; rw [e]
              · cases this
          have hlt : i < ops.size := (Array.getElem?_eq_some_iff.1 ho).1
          obtain ⟨o', ho', hog, hod, -⟩ := lo2 i hic hila
          rw [ho] at ho'; cases ho'
          split at hT
          rotate_left
          · cases hT
          rename_i hfr
          -- the value is yielded in each world of the class
          have fin : ∀ (bs obs : List B) (sv : SV), (Obs Γ.ρ bs → Obs Γ.ρ obs) → opVal cx.P st o = some (obs, sv) → (((st.learnAll bs).put o.dst (some sv)).bind fun st' => if lateNone cx.P ops st' then (execLate cx ops h k f (Ly.setIfInBounds i true) st').map (obT bs) else none) = some T →
              (Obs Γ.ρ bs → ∀ w', Kept cx.P F w0 Γ0 h a0 w' → (execOp a.eval o).run cx.P w' = .ok (.value (sv.den Γ)) w') → Picks cx.P ops Q (Until (cutH ops h) (Kept cx.P F w0 Γ0 h a0)) (n + 1) L a w := fun bs obs sv hbs h1 hT hyield => by
            cases hp : (st.learnAll bs).put o.dst (some sv) with
            | none => simp [hp] at hT
            | some st' =>
              simp only [hp, Option.bind_some] at hT
              split at hT
              rotate_left
              · cases hT
              rename_i hln'
              cases hT' : execLate cx ops h k f (Ly.setIfInBounds i true) st' with
              | none => simp [hT'] at hT
              | some T' =>
                simp [hT'] at hT
                subst hT
                obtain ⟨hob, hv'⟩ := VC.obT hv
                refine Picks.first (cutH_ok ops h) ho hro hsel hQ (by rw [hch]; exact Nat.lt_of_lt_of_le hic lcle) (v := sv.den Γ) _ _ _ _ hsz hcl hS (.inl ⟨by simp [Region.wanted, hog], hyield hob⟩) hiL (fun j oj hoj hne hjL hno => ?_) ?_
                · refine Region.free_spec ho hfr j oj hoj hne ?_ hno
                  have hjlt : j < ops.size := (Array.getElem?_eq_some_iff.1 hoj).1
                  rw [getD_tf (by omega), hsym j hjlt, getD_both hjL]; rfl
                · have hs' : Late cx.P ops F w0 Γ ob (L.setIfInBounds i true) st' (a.put o.dst (sv.den Γ)) w := by
                    refine late_put hs hila (fun wA _ hs2 => ?_) fun d hd => ?_
                    · have hok := (opVal_ok h1 (hs2.view o.op.operands) (hbs hob)).2
                      have := (hs2.learn hob).put hp hok
                      rw [SV.den_addO] at this
                      exact this
                    · cases hdd : o.dst with
                      | none => rfl
                      | some d' =>
                        simp only [Act.put]
                        rw [Array.getElem?_setIfInBounds, if_neg (fun e => hod d hd (by rw [hdd, e]))]
                  exact ih f (Ly.setIfInBounds i true) (L.setIfInBounds i true) st' T' hT' Γ Ls _ w ob he hpre hs' (by rw [Array.size_setIfInBounds]; exact hyz) (by rw [Array.size_setIfInBounds]; exact hsz) (symSet i hlt hila) (hcl.set hiL) (geSet i hic) hS (by rw [St.put_lvl hp]; exact hl) hv' hln' (cnt i hiL)
          have hsb := hs.base
          split at hT
          · rename_i obs sv obs' sv' h1 h2
            split at hT
            rotate_left
            · cases hT
            rename_i hsame
            have e := sameS_eq hsame
            subst e
            exact fin (bothObs obs obs') obs sv (fun hob => (bothObs_ok hob).1) h1 hT fun hob w' hw' => by
              have hup := Kept.up hw' hsb he hwf
              exact (opVal_ok h2 (hup.view o.op.operands) (bothObs_ok hob).2).1
          · rename_i obs sv h1 h2
            split at hT
            rotate_left
            · cases hT
            rename_i hpf
            exact fin obs obs sv (fun hob => hob) h1 hT fun _ w' _ => pureF_ok hpf h1 (hsb.view o.op.operands) w'
          · cases hT
        · split at hT
          · cases hT
          rename_i hrch
          refine ⟨fun e => ?_, fun i hi => ?_⟩
          · have := (ofY r (by rw [hr]; simp)).1
            rw [e] at this; cases this
          cases hla : lateAt cx.P ops i with
          | true => exact alloc i hi hla
          | false =>
            have hic : i < lcN ops := by
              rcases Nat.lt_or_ge i (lcN ops) with hc | hc
              · exact hc
              · obtain ⟨q1, q2, q3⟩ := ofY r (by rw [hr]; simp)
                have hrr : lcReach ops r = true := by
                  have h9 : (r :: rs).all (lcReach ops) = true := by simpa using hrch
                  exact List.all_eq_true.1 h9 r (by simp)
                have := cutAll i hi hc r q2 hrr
                obtain ⟨h3, -⟩ := mem_ready.1 q1
                rw [getD_both h3] at this; cases this
            have hiY := toY i hi hic hla
            rw [hr] at hiY
            obtain ⟨T1, hT1, hvT⟩ := merge_mem hT _ (List.mem_map_of_mem hiY)
            replace hv := hvT hv
            obtain ⟨o, ho, hog, hod, -⟩ := lo2 i hic hla
            have hlt : i < ops.size := (Array.getElem?_eq_some_iff.1 ho).1
            rw [ho] at hT1
            simp only [] at hT1
            unfold wpOp
            rw [ho]
            simp only []
            rw [if_pos (by simp [Region.wanted, hog])]
            refine .inl ?_
            obtain ⟨wA, k1, k2, k3⟩ := hs.sat
            refine Oper.wp_mono (fun a' w' hx => hx.1 hx.2) (Oper.wp_frame (doOpF_sound (R := R) hcx hT1 hl (Γ := Γ.addO (madeOf ob)) hv k2 (K := fun a' w' => (∀ t, o.dst ≠ some t → a'.tmps[t]? = a.tmps[t]?) → Until (cutH ops h) (Kept cx.P F w0 Γ0 h a0) (L.setIfInBounds i true) w' ∧ Picks cx.P ops Q (Until (cutH ops h) (Kept cx.P F w0 Γ0 h a0)) n (L.setIfInBounds i true) a' w') fun st' T' Γ2 Ls' hk' he' hpre' hl' hv' a' w' hs' hfr => ?_))
            simp only [] at hk'
            split at hk'
            rotate_left
            · cases hk'
            rename_i hcov
            simp only [Bool.and_eq_true] at hcov
            obtain ⟨u1, u2⟩ := Env.unO he he'
            have hlate : Late cx.P ops F w0 { Γ2 with base := Γ.base } ob (L.setIfInBounds i true) st' a' w' := by
              refine ⟨⟨wA, k1, u2 ▸ hs', k3⟩, hs.old, hs.rng, fun j b oj d hj hoj hd => ?_, hs.inj, fun j hj => ?_⟩
              · rw [hfr d (hod d (lateDst_mem (hs.rng j b hj).1 hoj hd))]
                exact hs.slot j b oj d hj hoj hd
              · rw [getD_set_ne false (fun e => by subst e; rw [hla] at hj; cases hj)]
                exact hs.all j hj
            have hS' : Kept cx.P F w0 Γ0 h a0 w' := Kept.down hS hlate.base u1 hwf hcov.1
            exact ⟨fun _ => hS', ih f (Ly.setIfInBounds i true) (L.setIfInBounds i true) st' T' hk' _ Ls' a' w' ob u1 (hpre.trans hpre') hlate (by rw [Array.size_setIfInBounds]; exact hyz) (by rw [Array.size_setIfInBounds]; exact hsz) (symSet i hlt hla) (hcl.set hi) (geSet i hic) hS' hl' hv' hcov.2 (cnt i hi)⟩
/-- The allocations are taken up, one by one. -/
theorem late_lex {ops : Array Oper} {ob : Nat → Option Nat} {a : Act} {w : World} (hinj : ∀ i j b, ob i = some b → ob j = some b → i = j) (hge : ∀ i b, ob i = some b → w0.heap.size ≤ b)
    (hblk : ∀ i b o t ca Γ', ob i = some b → ops[i]? = some o → o.op = .alloc t → zeroLf cx.P t = some ca → Blk w b t (dens Γ' ca)) (hslot : ∀ i b o d, ob i = some b → ops[i]? = some o → o.dst = some d → a.tmps[d]? = some (.pointer (some ⟨b, 0, none⟩))) {k : St → Option Tree} {Ls : List (List C → Prop)} :
    ∀ (l : List Nat), l.Nodup → (∀ i ∈ l, lateAt cx.P ops i = true ∧ (ob i).isSome = true) → ∀ (st : St) (T : Tree), execOps cx ops (l.filterMap fun i => ops[i]?) st k = some T → ∀ (Γ : Env), VC cx R T Γ.ρ Ls →
    Sat cx.P F w0 (Γ.addO fun b => ∃ j ∈ l, ob j = some b) st a w → (∀ x, (∃ j ∈ l, ob j = some x) → ∀ j, ¬ Hold Γ st true j x) →
    ∃ st' T' Γ', k st' = some T' ∧ Ext Γ Γ' ∧ st'.lvl = st.lvl ∧ VC cx R T' Γ'.ρ Ls ∧ Sat cx.P F w0 Γ' st' a w
  | [], _, _, st, T, h, Γ, hv, hs, _ => by
    simp only [List.filterMap_nil, execOps] at h
    exact ⟨st, T, Γ, h, Ext.refl _, rfl, hv, by rwa [Env.addO_no (fun b ⟨j, h1, _⟩ => by cases h1)] at hs⟩
  | i :: l, hnd, hl, st, T, h, Γ, hv, hs, hne => by
    obtain ⟨hla, hsome⟩ := hl i (by simp)
    obtain ⟨-, o, ho, hao⟩ := lateAt_spec hla
    obtain ⟨t, ca, hop, hz, hg⟩ := allocOp_spec hao
    obtain ⟨d, hd⟩ := allocOp_dst hao
    obtain ⟨b, hb⟩ := Option.isSome_iff_exists.1 hsome
    rw [List.filterMap_cons, ho] at h
    simp only [] at h
    obtain ⟨st2, T2, Γ2, e1, e2, e3, e4, e5, e6⟩ := alloc_step hop hg h hs ⟨i, by simp, hb⟩ hz (fun Γ' => hblk i b o t ca Γ' hb ho hop hz) (hge i b hb) hne hv
    rw [List.nodup_cons] at hnd
    have hiff : ∀ x, ((∃ j ∈ i :: l, ob j = some x) ∧ x ≠ b) ↔ ∃ j ∈ l, ob j = some x := fun x => by
      constructor
      · rintro ⟨⟨j, h1, h2⟩, h3⟩
        rcases List.mem_cons.1 h1 with rfl | h1
        · rw [hb] at h2; cases h2; exact absurd rfl h3
        · exact ⟨j, h1, h2⟩
      · rintro ⟨j, h1, h2⟩
        refine ⟨⟨j, by simp [h1], h2⟩, fun e => ?_⟩
        subst e
        have := hinj i j x hb h2
        subst this
        exact hnd.1 h1
    rw [Env.addO_congr hiff, hd, put_self (hslot i b o d hb ho hd)] at e5
    obtain ⟨st', T', Γ', i1, i2, i3, i4, i5⟩ := late_lex hinj hge hblk hslot l hnd.2 (fun j hj => hl j (by simp [hj])) st2 T2 e1 Γ2 e4 e5 fun x hx => e6 x ((hiff x).2 hx)
    exact ⟨st', T', Γ', i1, e2.trans i2, i3.trans e3, i4, i5⟩
theorem cutL_get {ops : Array Oper} {i : Nat} (h : i < ops.size) : (cutL ops).getD i false = Nat.blt i (lcN ops) := by
  unfold cutL
  simp [Array.getD_eq_getD_getElem?, h]
theorem late_sound {r : Option Nat} (hcx : CxOK cx) {id : Nat} {ops : Array Oper} (hnd : ops.toList.all Oper.noDefer = true) {j : List (Nat × Bool × List Lk) × List Pl} {st : St} {k : St → Option Tree} {T : Tree} (h : lateT cx id ops j st k = some T) {Γ : Env} {Ls : List (List C → Prop)} (hl : Ls.length = st.lvl) (hv : VC cx R T Γ.ρ Ls) {a : Act} {w : World} (hs : Sat cx.P F w0 Γ st a w)
    {Q : Exit → Act → World → Prop} (hk : Next cx R F w0 k Γ Ls (fun a w => Q .normal a w)) : wpR r cx.P (.region id ops true) Q a w := by
  unfold lateT at h
  split at h
  rotate_left
  · cases h; exact hv.elim
  rename_i hcond
  simp only [Bool.and_eq_true] at hcond
  obtain ⟨⟨hc, hsel, hwf⟩, hlo, hln, hch⟩ := hcond
  split at h
  rotate_left
  · cases h
  rename_i ws t hws ht
  cases h
  obtain ⟨I, hvw, hall⟩ := hv
  generalize hst1 : joinSt1 j (dstsOf ops) (st.hide ((cx.hv (st.path * 100000 + 50000 + id)).filter fun p => !j.2.contains p)) = st1 at *
  have hw1 : Sat cx.P F w0 Γ st a { w with drawn := w.drawn + 1 } := hs.below ⟨rfl, rfl, rfl, Nat.le_refl _, fun _ _ => rfl⟩
  have hw2 : Sat cx.P F w0 Γ { st with lvl := st.lvl + 1 } a { w with drawn := w.drawn + 1 } := hw1.relvl _
  have hw3 := hw2.forget (lateDst cx.P ops)
  have hKept : Kept cx.P F w0 Γ (({ st with lvl := st.lvl + 1 } : St).hide (cx.hv (st.path * 100000 + 50000 + id))) a { w with drawn := w.drawn + 1 } := Kept.start hw2
  generalize hh : ({ st with lvl := st.lvl + 1 } : St).hide (cx.hv (st.path * 100000 + 50000 + id)) = hS at *
  refine region_any hcx.mixed hnd (Picks.any (execLate_sound (R := R) (F := F) (w0 := w0) hcx hsel hlo (Nat.eq_of_beq_eq_true hch) hwf (Γ0 := Γ) (a0 := a) (Ls0 := Ls ++ [I]) (Q := nrmQ (Q .normal)) (fun c a w hq => nomatch hq.1) ?_ ops.size _ _ _ _ ws hws Γ (Ls ++ [I]) a _ (fun _ => none) (Ext.refl _) (List.prefix_refl _) ?_ (by simp) (by simp) ?_ ?_ ?_ hKept (by simp [hl, St.forget]) hvw hln ?_))
  · intro st' T' Γ' Ls' ob L a' w' hk' he' hp' hlen' hv' hlate hsz hcl hshape hKept'
    obtain ⟨wA, k1, k2, k3⟩ := hlate.sat
    have heO : Ext (Γ.addO (madeOf ob)) (Γ'.addO (madeOf ob)) := ⟨he'.ρ, he'.blk, he'.nb, by show (fun b o => Γ'.base b o ∨ _) = _; rw [he'.base]; rfl, he'.up⟩
    refine joinEnd_sound' (R := R) (Γ := Γ.addO (madeOf ob)) (id := id) (k := fun s => execOps cx ops (lateOps cx.P ops) s fun st2 => execAny cx ops false hS k (3 * ops.size + 8) (ops.size - lcN ops) (cutL ops) st2) hc ht hl hs.len hs.nb hs.num hall (Q := fun a2 w2 => a2 = a' → w2 = w' → Picks cx.P ops (nrmQ (Q .normal)) (Until (cutH ops hS) (Kept cx.P F w0 Γ hS a)) (ops.size - lcN ops) L a2 w2) ?_ st' T' (Γ'.addO (madeOf ob)) Ls' hk' heO hp' hlen' hv' a' w' k2 rfl rfl
    intro st2 T2 Γ2 Ls2 hk2 he2 hp2 hlen2 hv2 a2 w2 hs2 ea ew
    subst ea ew
    obtain ⟨u1, u2⟩ := Env.unO (Ext.refl Γ) he2
    have hback := hs2.back (F := F) (base' := Γ2.base) (fun i hi => .inl hi) (k1.trans (hs2.keeps.part fun i hi => .inl hi)) hlate.old fun b o hb => hb
    have hback : Sat cx.P F w0 (({ Γ2 with base := Γ.base } : Env).addO (madeOf ob)) st2 a2 w2 := u2 ▸ hback
    have hnh : ∀ x, madeOf ob x → ∀ q, ¬ Hold ({ Γ2 with base := Γ.base } : Env) st2 true q x := fun x hx q => by
      rintro ⟨mb, hj, e⟩
      exact (hs2.mem q mb hj).2.2.1 (.inr (by rw [show Γ2.blk q = x from e]; exact hx))
    have hiff : ∀ b, madeOf ob b ↔ ∃ q ∈ (List.range (lcN ops)).filter (lateAt cx.P ops), ob q = some b := fun b =>
      ⟨fun ⟨q, hq⟩ => ⟨q, List.mem_filter.2 ⟨List.mem_range.2 (lateAt_spec (hlate.rng q b hq).1).1, (hlate.rng q b hq).1⟩, hq⟩, fun ⟨q, _, hq⟩ => ⟨q, hq⟩⟩
    rw [Env.addO_congr hiff] at hback
    obtain ⟨st3, T3, Γ3, i1, i2, i3, i4, i5⟩ := late_lex (R := R) (F := F) (w0 := w0) hlate.inj (fun i b hb => (hlate.rng i b hb).2) (fun i b o t ca Γ' hb ho hop hz => hlate.blk hb ho hop hz Γ') hlate.slot
      ((List.range (lcN ops)).filter (lateAt cx.P ops)) (List.Pairwise.filter _ List.nodup_range) (fun i hi => by
        obtain ⟨h1, h2⟩ := List.mem_filter.1 hi
        refine ⟨h2, ?_⟩
        rw [← hlate.all i h2, hshape i (by have := (lateAt_spec h2).2; obtain ⟨o, ho, -⟩ := this; exact (Array.getElem?_eq_some_iff.1 ho).1)]
        exact Nat.ble_eq_true_of_le (List.mem_range.1 h1)) st2 T2 hk2 { Γ2 with base := Γ.base } hv2 hback (fun x hx => hnh x ((hiff x).2 hx))
    have hL : L = cutL ops := by
      have hsz2 : (cutL ops).size = ops.size := by simp [cutL]
      apply Array.ext (by rw [hsz, hsz2])
      intro i h1 h2
      have e1 := hshape i (by omega)
      rw [← cutL_get (by omega)] at e1
      simpa [Array.getD_eq_getD_getElem?, h1, h2] using e1
    subst hL
    exact execAny_sound (R := R) hcx hsel hwf (Q := fun a w => Q .normal a w) (hk.mono (Ext.refl Γ) (List.prefix_refl _)) _ _ _ st3 T3 i1 Γ3 Ls2 a2 w2 (u1.trans i2) hp2 i5 hsz hcl (fun _ => hKept') (by rw [i3]; exact hlen2) i4
  · have e0 : (fun i => F i ∨ madeOf (fun _ => none) i) = F := funext fun i => propext ⟨fun hx => hx.elim (fun hm => hm) fun hm => absurd hm (madeOf_none i), .inl⟩
    refine ⟨⟨w0, Keeps.refl _ _, ?_, (fun i b hb => nomatch hb)⟩, hs.fold, (fun i b hb => nomatch hb), (fun i b o d hb => nomatch hb), (fun i j b hb => nomatch hb), fun i _ => getD_replicate_false _ _⟩
    rw [e0, Env.addO_no madeOf_none]
    exact hw3
  · intro i hi
    rw [getD_replicate_false]; rfl
  · intro q o ho hj
    rw [getD_replicate_false] at hj; cases hj
  · intro i _
    exact getD_replicate_false _ _
  · rw [List.countP_eq_length.2 (fun j _ => by rw [getD_replicate_false]; rfl)]
    simp
end
end Go.Proofs.Ytcglpbchejkolaa
