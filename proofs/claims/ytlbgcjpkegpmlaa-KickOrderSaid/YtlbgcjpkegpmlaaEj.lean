/- The engine, part 10: arguments and results; one operation, a row of operations. -/
import Derived.Test.YtlbgcjpkegpmlaaEi
namespace Go.Proofs.Ytlbgcjpkegpmlaa
open Go.RowKit
set_option linter.unusedSimpArgs false
set_option linter.unusedVariables false

/-! Typed data -/
def CTy (P : Program) : List Lk → List C → Prop
  | [], [] => True
  | k :: ks, c :: cs => ((∀ n, c.small n) ∧ match k with
    | .int => ∃ n, c = .i n
    | .bool => ∃ t, c = .b t
    | .arr t => ∃ v rows d, c = .s v rows ∧ TyN P d t rows
    | .vec t => ∃ v rows d, c = .s v rows ∧ TyN P d t rows) ∧ CTy P ks cs
  | _, _ => False
theorem CTy.len {P : Program} : ∀ {ks : List Lk} {cs : List C}, CTy P ks cs → cs.length = ks.length
  | [], [], _ => rfl
  | _ :: ks, _ :: cs, h => by simp [CTy.len h.2]
  | [], _ :: _, h => h.elim
  | _ :: _, [], h => h.elim
theorem CTy.small {P : Program} : ∀ {ks : List Lk} {cs : List C}, CTy P ks cs → ∀ c ∈ cs, ∀ n, c.small n
  | [], [], _, c, hc => by cases hc
  | _ :: ks, _ :: cs, h, c, hc => by
    rcases List.mem_cons.1 hc with rfl | hc
    · exact h.1.1
    · exact CTy.small h.2 c hc
  | [], _ :: _, h, _, _ => h.elim
  | _ :: _, [], h, _, _ => h.elim
theorem CTy.append {P : Program} : ∀ {ks ls : List Lk} {cs ds : List C}, CTy P ks cs → CTy P ls ds → CTy P (ks ++ ls) (cs ++ ds)
  | [], _, [], _, _, h => h
  | _ :: _, _, _ :: _, _, h, h' => ⟨h.1, CTy.append h.2 h'⟩
  | [], _, _ :: _, _, h, _ => h.elim
  | _ :: _, _, [], _, h, _ => h.elim
theorem allC_elim {P : Program} : ∀ {ks : List Lk} {p : List C → Prop}, allC P ks p → ∀ cs, CTy P ks cs → p cs
  | [], p, h, [], _ => h
  | .int :: ks, p, h, c :: cs, hc => by
    obtain ⟨⟨h1, n, rfl⟩, h2⟩ := hc
    exact allC_elim (h n (h1 0).1 (h1 0).2) cs h2
  | .bool :: ks, p, h, c :: cs, hc => by
    obtain ⟨⟨h1, n, rfl⟩, h2⟩ := hc
    exact allC_elim (h n) cs h2
  | .arr t :: ks, p, h, c :: cs, hc => by
    obtain ⟨⟨h1, v, rows, d, rfl, hty⟩, h2⟩ := hc
    exact allC_elim (h v rows d hty h1) cs h2
  | .vec t :: ks, p, h, c :: cs, hc => by
    obtain ⟨⟨h1, v, rows, d, rfl, hty⟩, h2⟩ := hc
    exact allC_elim (h v rows d hty h1) cs h2
  | [], _, _, _ :: _, h => h.elim
  | _ :: _, _, _, [], h => h.elim
theorem Smalls.app {ρ cs : List C} (h : Smalls ρ) (hc : ∀ c ∈ cs, ∀ n, c.small n) : Smalls (ρ ++ cs) := by
  intro i n
  unfold at_
  rw [List.getD_eq_getElem?_getD]
  by_cases hi : i < ρ.length
  · rw [List.getElem?_append_left hi]
    have := h i n
    unfold at_ at this
    rwa [List.getD_eq_getElem?_getD] at this
  · rw [List.getElem?_append_right (by omega)]
    cases hx : cs[i - ρ.length]? with
    | none => exact C.small_zero n
    | some c => exact hc c (List.mem_of_getElem? hx) n
theorem Smalls.nil : Smalls [] := fun i n => by simp [at_, C.small_zero]

theorem ArrN.tyN {P : Program} {S : Nat → Nat → Prop} {w : World} : ∀ (d : Nat) (te : TypeId) (v : Value) (rows : List (List C)), ArrN P S w d te v rows → TyN P d te rows ∨ ∃ ks, kinds P te = some ks ∧ rows = []
  | 0, _, _, _, h => h.elim
  | d + 1, te, v, rows, ⟨ks, hk, a, cap, hv, hh⟩ => by
    by_cases hne : rows = []
    · exact .inr ⟨ks, hk, hne⟩
    · left
      obtain ⟨b, o, ha, hr⟩ := hh hne
      refine ⟨ks, hk, fun r hr' => ?_⟩
      obtain ⟨i, hi⟩ := List.getElem?_of_mem hr'
      obtain ⟨hl, hc⟩ := hr i r hi
      refine ⟨hl, fun j k hj => ?_⟩
      obtain ⟨-, u, c, hu, hrj, hm⟩ := hc j k hj
      refine ⟨c, hrj, ?_⟩
      cases k with
      | int => obtain ⟨n, -, hn⟩ := hm; exact ⟨n, hn⟩
      | bool => obtain ⟨n, -, hn⟩ := hm; exact ⟨n, hn⟩
      | vec t => exact hm.elim
      | arr t =>
        obtain ⟨rows', hc', hn⟩ := hm
        refine ⟨u, rows', hc', ?_⟩
        rcases ArrN.tyN d t u rows' hn with h | ⟨ks', hk', rfl⟩
        · exact h
        · cases d with
          | zero => exact hn.elim
          | succ d => exact ⟨ks', hk', fun r hr => by cases hr⟩
theorem ArrOK.tyN {P : Program} {w : World} {O : Nat → Nat → Prop} {te : TypeId} {c : C} (h : ArrOK P w O te c) : ∃ v rows d, c = .s v rows ∧ TyN P d te rows := by
  obtain ⟨v, rows, rfl, d, S, hS, hA⟩ := h
  rcases hA.tyN with h | ⟨ks, hk, rfl⟩
  · exact ⟨v, rows, d, rfl, h⟩
  · exact ⟨v, [], 1, rfl, ks, hk, fun r hr => by cases hr⟩

theorem TyN.mono {P : Program} : ∀ {d : Nat} {te : TypeId} {rows : List (List C)}, TyN P d te rows → TyN P (d + 1) te rows
  | 0, _, _, h => h.elim
  | d + 1, te, rows, ⟨ks, hk, h⟩ => ⟨ks, hk, fun r hr => ⟨(h r hr).1, fun j k hj => by
      obtain ⟨c, hc, hm⟩ := (h r hr).2 j k hj
      refine ⟨c, hc, ?_⟩
      cases k with
      | arr t => obtain ⟨v, rows', e, ht⟩ := hm; exact ⟨v, rows', e, TyN.mono ht⟩
      | _ => exact hm⟩⟩
theorem TyN.le {P : Program} {d d' : Nat} (hd : d ≤ d') {te : TypeId} {rows : List (List C)} (h : TyN P d te rows) : TyN P d' te rows := by
  induction hd with
  | refl => exact h
  | step _ ih => exact ih.mono
theorem CReps.tyN {P : Program} {w : World} {O : Nat → Nat → Prop} : ∀ {ks : List Lk} {us : List Value} {cs : List C}, CReps P w O ks us cs → ∃ d, ∀ (j : Nat) (k : Lk), ks[j]? = some k → ∃ c : C, cs[j]? = some c ∧
      match k with
      | .int => ∃ n, c = .i n
      | .bool => ∃ t, c = .b t
      | .arr t => ∃ v rows', c = .s v rows' ∧ TyN P d t rows'
      | .vec _ => False
  | [], [], [], _ => ⟨0, fun j k hj => by simp at hj⟩
  | k :: ks, u :: us, c :: cs, h => by
    obtain ⟨d, hd⟩ := CReps.tyN h.2
    have h1 := h.1.2
    obtain ⟨d', hd'⟩ : ∃ d', match k with
      | .int => ∃ n, c = .i n
      | .bool => ∃ t, c = .b t
      | .arr t => ∃ v rows', c = .s v rows' ∧ TyN P d' t rows'
      | .vec _ => False := by
      cases k with
      | int => obtain ⟨n, -, e⟩ := h1; exact ⟨0, n, e⟩
      | bool => obtain ⟨n, -, e⟩ := h1; exact ⟨0, n, e⟩
      | arr t => obtain ⟨v, rows, d', e, ht⟩ := h1.2.tyN; exact ⟨d', v, rows, e, ht⟩
      | vec t => exact h1.elim
    refine ⟨Max.max d d', fun j k' hj => ?_⟩
    cases j with
    | zero =>
      simp at hj; subst hj
      refine ⟨c, rfl, ?_⟩
      cases k with
      | arr t => obtain ⟨v, rows, e, ht⟩ := hd'; exact ⟨v, rows, e, ht.le (by omega)⟩
      | _ => exact hd'
    | succ j =>
      obtain ⟨x, hx, hm⟩ := hd j k' (by simpa using hj)
      refine ⟨x, by simpa using hx, ?_⟩
      cases k' with
      | arr t => obtain ⟨v, rows, e, ht⟩ := hm; exact ⟨v, rows, e, ht.le (by omega)⟩
      | _ => exact hm
  | [], [], _ :: _, h => h.elim
  | [], _ :: _, _, h => h.elim
  | _ :: _, [], _, h => h.elim
  | _ :: _, _ :: _, [], h => h.elim
theorem VecOK.tyN {P : Program} {w : World} {O : Nat → Nat → Prop} {te : TypeId} {v : Value} {c : C} (h : VecOK P w O te v c) : ∃ v rows d, c = .s v rows ∧ TyN P d te rows := by
  obtain ⟨ks, us, hk, ⟨v', hc⟩, hl, hr, ho⟩ := h
  obtain ⟨d, hd⟩ := hr.tyN
  refine ⟨v', c.rows, d + 1, hc, ks, hk, fun r hr' => ⟨hl r hr', fun j k hj => ?_⟩⟩
  obtain ⟨i, hi⟩ := List.getElem?_of_mem hr'
  have hilt : i < c.rows.length := by
    rcases Nat.lt_or_ge i c.rows.length with h | h
    · exact h
    · rw [List.getElem?_eq_none h] at hi; cases hi
  have hjlt : j < ks.length := by
    rcases Nat.lt_or_ge j ks.length with h | h
    · exact h
    · rw [List.getElem?_eq_none h] at hj; cases hj
  obtain ⟨x, hx, hm⟩ := hd (i * ks.length + j) k (by rw [rowsK_get hilt hjlt]; exact hj)
  rw [flatten_get _ hl i j r hi hjlt] at hx
  exact ⟨x, hx, hm⟩
theorem CReps.small {P : Program} {w : World} {O : Nat → Nat → Prop} : ∀ {ks : List Lk} {us : List Value} {cs : List C}, CReps P w O ks us cs → ∀ c ∈ cs, ∀ n, c.small n
  | [], [], [], _, c, hc => by cases hc
  | _ :: _, _ :: _, _ :: _, h, c, hc => by
    rcases List.mem_cons.1 hc with rfl | hc
    · exact h.1.1
    · exact CReps.small h.2 c hc
  | [], [], _ :: _, h, _, _ => h.elim
  | [], _ :: _, _, h, _, _ => h.elim
  | _ :: _, [], _, h, _, _ => h.elim
  | _ :: _, _ :: _, [], h, _, _ => h.elim
theorem VecOK.small {P : Program} {w : World} {O : Nat → Nat → Prop} {te : TypeId} {v : Value} {c : C} (h : VecOK P w O te v c) : ∀ n, c.small n := by
  obtain ⟨ks, us, hk, ⟨v', hc⟩, hl, hr, ho⟩ := h
  have hlen : (c.rows.length : Int) ≤ 9223372036854775807 := by
    rcases ho.2 with ⟨-, hn⟩ | ⟨g, cap, cur, -, -, -, h1, h2, -⟩
    · rw [hn]; simp
    · simp only [maxLen] at h2; omega
  intro n
  rw [hc]
  cases n with
  | zero => trivial
  | succ n => exact ⟨hlen, fun r hr' x hx => hr.small x (List.mem_flatten.2 ⟨r, hr', hx⟩) n⟩

theorem LReps.ty {P : Program} {w : World} {Base : Nat → Nat → Prop} : ∀ {ks : List Lk} {us : List Value} {cs : List C}, LReps P w Base ks us cs → CTy P ks cs
  | [], [], [], _ => trivial
  | k :: ks, u :: us, c :: cs, h => by
    refine ⟨⟨h.1.1, ?_⟩, LReps.ty h.2⟩
    have h1 := h.1.2
    cases k with
    | int => obtain ⟨n, -, hn⟩ := h1; exact ⟨n, hn⟩
    | bool => obtain ⟨n, -, hn⟩ := h1; exact ⟨n, hn⟩
    | arr t => exact h1.2.tyN
    | vec t => exact h1.2.tyN
  | [], [], _ :: _, h => h.elim
  | [], _ :: _, _, h => h.elim
  | _ :: _, [], _, h => h.elim
  | _ :: _, _ :: _, [], h => h.elim
theorem Rep0.ty {P : Program} {w : World} {Base : Nat → Nat → Prop} {old : Option Nat} {s : Sh0} {v : Value} {cs : List C} (h : Rep0 P w Base old s v cs) : CTy P s.kinds cs := by
  cases s with
  | lf k => obtain ⟨c, rfl, hc⟩ := h; exact LReps.ty (us := [v]) ⟨hc, trivial⟩
  | agg l => obtain ⟨us, -, hc⟩ := h; exact LReps.ty hc
  | box t l => obtain ⟨b, us, -, -, -, hc⟩ := h; exact LReps.ty hc
theorem Reps.ty {P : Program} {w : World} {Base : Nat → Nat → Prop} {old : Option Nat} : ∀ {ss : List Sh0} {vs : List Value} {cs : List C}, Reps P w Base old ss vs cs → CTy P (kindsOf ss) cs
  | [], [], cs, h => by subst h; trivial
  | s :: ss, v :: vs, cs, h => by
    obtain ⟨c1, c2, rfl, h1, h2⟩ := h
    exact CTy.append h1.ty (Reps.ty h2)
  | [], _ :: _, _, h => h.elim
  | _ :: _, [], _, h => h.elim

/-! What is handed on -/
/-- What is handed on: a slice of one's own with what it holds. -/
def Lf.okR (P : Program) (w : World) (O : Nat → Nat → Prop) (Γ : Env) : Lf → Prop
  | .cnt te r => VecOK P w O te (r.ev Γ.ρ).loc (r.ev Γ.ρ)
  | .vec _ _ => False
  | l => l.ok P w O Γ
theorem Lf.okR_of {P : Program} {w : World} {O : Nat → Nat → Prop} {Γ : Env} {l : Lf} {k : Lk} (hk : l.kind = some k) (hn : k.noVec = true) (h : l.ok P w O Γ) : l.okR P w O Γ := by
  cases l with
  | cnt te r => cases hk; cases hn
  | vec te i => cases hk; cases hn
  | _ => exact h
theorem Lf.okR_anti {P : Program} {w : World} {O O' : Nat → Nat → Prop} {Γ : Env} {l : Lf} (h : l.okR P w O Γ) (hh : ∀ b o, O' b o → O b o) : l.okR P w O' Γ := by
  have key : l.ok P w O Γ → l.ok P w O' Γ := fun h => Lf.ok_anti h hh
  cases l with
  | cnt te r => exact VecOK.anti h hh
  | vec te i => exact h
  | _ => exact key h
theorem Lf.rep {P : Program} {w : World} {O : Nat → Nat → Prop} {Γ : Env} {bd : Bds} (hn : Num bd Γ.ρ) {l : Lf} {k : Lk} (hk : l.kind = some k) (ho : l.okR P w O Γ) (hr : Obs Γ.ρ (rngL bd [l])) : LRep P w O k (l.den Γ) (l.c Γ.ρ) := by
  cases l with
  | int e =>
    cases hk
    refine ⟨fun n => ?_, _, rfl, rfl⟩
    have h1 : Obs Γ.ρ (rng bd e) := by simpa [rngL] using hr
    have h2 : -9223372036854775808 ≤ e.den Γ.ρ ∧ e.den Γ.ρ ≤ 9223372036854775807 := by
      unfold rng at h1
      split at h1
      · rename_i p hp
        have := E.iv_ok hn.bds hn.len e _ hp
        split at h1
        · omega
        · exact inr_den (h1 _ (by simp))
      · exact inr_den (h1 _ (by simp))
    cases n <;> exact h2
  | bool b => cases hk; exact ⟨fun n => (by cases n <;> trivial), _, rfl, rfl⟩
  | arr t a =>
    cases hk
    refine ⟨fun n => ?_, rfl, ho⟩
    obtain ⟨v, rows, hc, -⟩ := ho
    rcases E.small hn.len a with h1 | h1
    · exact h1 n
    · simp only [Lf.c, hc, C.rows] at h1 ⊢
      subst h1
      cases n <;> simp [C.small]
  | vec t i => exact ho.elim
  | cnt t r => cases hk; exact ⟨VecOK.small ho, rfl, ho⟩
  | _ => cases hk
theorem rngL_cons {bd : Bds} {ρ : List C} {l : Lf} {ls : List Lf} (h : Obs ρ (rngL bd (l :: ls))) : Obs ρ (rngL bd [l]) ∧ Obs ρ (rngL bd ls) := by
  cases l with
  | int e =>
    simp only [rngL] at h ⊢
    simp only [List.append_nil]
    exact Obs.app h
  | _ => exact ⟨fun b hb => (by simp [rngL] at hb), h⟩
theorem rngL_app {bd : Bds} {ρ : List C} : ∀ {l m : List Lf}, Obs ρ (rngL bd (l ++ m)) → Obs ρ (rngL bd l) ∧ Obs ρ (rngL bd m)
  | [], m, h => ⟨fun b hb => (by cases hb), h⟩
  | x :: l, m, h => by
    obtain ⟨h1, h2⟩ := rngL_cons (ls := l ++ m) h
    obtain ⟨h3, h4⟩ := rngL_app h2
    refine ⟨?_, h4⟩
    cases x with
    | int e =>
      simp only [rngL, List.append_nil] at h1 ⊢
      intro b hb
      rcases List.mem_append.1 hb with hb | hb
      · exact h1 b hb
      · exact h3 b hb
    | _ => exact h3
theorem Ls_rep {P : Program} {w : World} {O : Nat → Nat → Prop} {Γ : Env} {bd : Bds} (hn : Num bd Γ.ρ) : ∀ {ls : List Lf} {ks : List Lk}, kindsL ls = some ks → (∀ l ∈ ls, l.okR P w O Γ) → Obs Γ.ρ (rngL bd ls) →
    LReps P w O ks (ls.map (Lf.den Γ)) (cs_ Γ.ρ ls)
  | [], ks, hk, _, _ => by simp [kindsL] at hk; subst hk; trivial
  | l :: ls, ks, hk, ho, hr => by
    simp only [kindsL] at hk
    split at hk
    · rename_i k ks' h1 h2
      cases hk
      obtain ⟨r1, r2⟩ := rngL_cons hr
      exact ⟨Lf.rep hn h1 (ho l (by simp)) r1, Ls_rep hn h2 (fun x hx => ho x (by simp [hx])) r2⟩
    · cases hk
/-- What is handed on is data of its kind. -/
theorem Ls_ty {P : Program} {w : World} {O : Nat → Nat → Prop} {Γ : Env} {bd : Bds} (hn : Num bd Γ.ρ) : ∀ {ls : List Lf} {ks : List Lk}, kindsL ls = some ks → (∀ l ∈ ls, l.ok P w O Γ ∧ l.isVec = false) → Obs Γ.ρ (rngL bd ls) → CTy P ks (cs_ Γ.ρ ls)
  | [], ks, hk, _, _ => by simp [kindsL] at hk; subst hk; trivial
  | l :: ls, ks, hk, ho, hr => by
    simp only [kindsL] at hk
    split at hk
    · rename_i k ks' h1 h2
      cases hk
      obtain ⟨r1, r2⟩ := rngL_cons hr
      refine ⟨?_, Ls_ty hn h2 (fun x hx => ho x (by simp [hx])) r2⟩
      obtain ⟨ho1, ho2⟩ := ho l (by simp)
      cases l with
      | cnt te r =>
        cases h1
        obtain ⟨v, rows, d, e, ht, hs⟩ := ho1
        simp only [Lf.c, e]
        exact ⟨hs, v, rows, d, rfl, ht⟩
      | vec te i => cases ho2
      | int e => have := Lf.rep (P := P) (w := w) (O := O) hn h1 (l := .int e) trivial r1; exact (LReps.ty (us := [_]) (ks := [k]) (cs := [_]) ⟨this, trivial⟩).1
      | bool e => have := Lf.rep (P := P) (w := w) (O := O) hn h1 (l := .bool e) trivial r1; exact (LReps.ty (us := [_]) (ks := [k]) (cs := [_]) ⟨this, trivial⟩).1
      | arr t e => have := Lf.rep (P := P) (w := w) (O := O) hn h1 (l := .arr t e) ho1 r1; exact (LReps.ty (us := [_]) (ks := [k]) (cs := [_]) ⟨this, trivial⟩).1
      | _ => cases h1
    · cases hk
theorem LRep.weaken {P : Program} {w : World} {O O' : Nat → Nat → Prop} (hh : ∀ b o, O' b o → O b o) {k : Lk} {u : Value} {c : C} (h : LRep P w O k u c) : LRep P w O' k u c := by
  refine ⟨h.1, ?_⟩
  have h2 := h.2
  cases k with
  | int => exact h2
  | bool => exact h2
  | arr t => exact ⟨h2.1, h2.2.anti hh⟩
  | vec t => exact ⟨h2.1, h2.2.anti hh⟩
theorem LReps.weaken {P : Program} {w : World} {O O' : Nat → Nat → Prop} (hh : ∀ b o, O' b o → O b o) : ∀ {ks : List Lk} {us : List Value} {cs : List C}, LReps P w O ks us cs → LReps P w O' ks us cs
  | [], [], [], _ => trivial
  | _ :: _, _ :: _, _ :: _, h => ⟨h.1.weaken hh, h.2.weaken hh⟩
  | [], [], _ :: _, h => h.elim
  | [], _ :: _, _, h => h.elim
  | _ :: _, [], _, h => h.elim
  | _ :: _, _ :: _, [], h => h.elim
theorem cells_rep {P : Program} {w : World} {O : Nat → Nat → Prop} {Γ : Env} {bd : Bds} (hn : Num bd Γ.ρ) {mem : Mem} {old : Option Nat} : ∀ {args : List S0} {ss : List Sh0}, shapes mem args = some ss → (∀ s ∈ args, ∀ l ∈ s.cells, l.okR P w O Γ) →
    (∀ b mb, S0.lf (.ptr b 0) ∈ args → look mem b = some mb → Blk w (Γ.blk b) mb.1 (dens Γ mb.2) ∧ (∀ l ∈ mb.2, l.okR P w (fun x o => O x o ∨ some (Γ.blk b) = some x) Γ) ∧ match old with | none => ∀ o, O (Γ.blk b) o | some n => n ≤ Γ.blk b) →
    Obs Γ.ρ (rngL bd (cellsOf mem args)) → Reps P w O old ss (args.map (S0.den Γ)) (cs_ Γ.ρ (cellsOf mem args))
  | [], ss, hs, _, _, _ => by simp [shapes] at hs; subst hs; rfl
  | s :: args, ss, hs, ho, hm, hr => by
    simp only [shapes] at hs
    split at hs
    · rename_i h hss h1 h2
      cases hs
      have hcell : cellsOf mem (s :: args) = s.cellsM mem ++ cellsOf mem args := by simp [cellsOf]
      rw [hcell] at hr ⊢
      obtain ⟨r1, r2⟩ := rngL_app hr
      refine ⟨cs_ Γ.ρ (s.cellsM mem), cs_ Γ.ρ (cellsOf mem args), by simp [cs_], ?_, cells_rep hn h2 (fun x hx => ho x (by simp [hx])) (fun b mb hb => hm b mb (by simp [hb])) r2⟩
      have hso := ho s (by simp)
      have plain : s.shapeM mem = s.shape → s.cellsM mem = s.cells → Rep0 P w O old h (s.den Γ) (cs_ Γ.ρ (s.cellsM mem)) := by
        intro e1 e2
        rw [e1] at h1
        rw [e2] at r1 ⊢
        cases s with
        | lf l =>
          simp only [S0.shape, Option.map_eq_some_iff] at h1
          obtain ⟨k, hk, rfl⟩ := h1
          exact ⟨_, rfl, Lf.rep hn hk (hso l (by simp [S0.cells])) r1⟩
        | agg ls =>
          simp only [S0.shape, Option.map_eq_some_iff] at h1
          obtain ⟨k, hk, rfl⟩ := h1
          exact ⟨_, rfl, Ls_rep hn hk hso r1⟩
      by_cases hp : ∃ b, s = .lf (.ptr b 0)
      · obtain ⟨b, rfl⟩ := hp
        simp only [S0.shapeM] at h1
        split at h1
        · rename_i mb hmb
          simp only [Option.map_eq_some_iff] at h1
          obtain ⟨ks, hks, rfl⟩ := h1
          obtain ⟨m1, m2, m3⟩ := hm b mb (by simp) hmb
          have hc : (S0.lf (.ptr b 0)).cellsM mem = mb.2 := by simp only [S0.cellsM, hmb]
          rw [hc] at r1 ⊢
          exact ⟨Γ.blk b, mb.2.map (Lf.den Γ), rfl, m1, m3, Ls_rep hn hks m2 r1⟩
        · cases h1
      · refine plain ?_ ?_
        · unfold S0.shapeM; split
          · exact absurd ⟨_, rfl⟩ hp
          · rfl
        · unfold S0.cellsM; split
          · exact absurd ⟨_, rfl⟩ hp
          · rfl
    · cases hs

/-! What comes back -/
theorem Lf.of_rep {P : Program} {w : World} {O : Nat → Nat → Prop} {Γ : Env} {k : Lk} {u : Value} {c : C} (h : LRep P w O k u c) {i : Nat} (hi : at_ Γ.ρ i = c) : (Lf.ofKind k i).den Γ = u ∧ (Lf.ofKind k i).ok P w O Γ := by
  cases k with
  | int => obtain ⟨n, rfl, rfl⟩ := h.2; exact ⟨by simp [Lf.ofKind, Lf.den, E.den_var, hi, C.int], trivial⟩
  | bool => obtain ⟨n, rfl, rfl⟩ := h.2; exact ⟨by simp [Lf.ofKind, Lf.den, B.den, E.ev, hi, C.bool], trivial⟩
  | arr t => obtain ⟨h1, h2⟩ := h.2; exact ⟨by simp [Lf.ofKind, Lf.den, E.ev, hi, h1], by simp only [Lf.ofKind, Lf.ok, E.ev, hi]; exact h2⟩
  | vec t => obtain ⟨h1, h2⟩ := h.2; exact ⟨by simp [Lf.ofKind, Lf.den, hi, h1], by simp only [Lf.ofKind, Lf.ok, hi, ← h1]; obtain ⟨a, cap, e⟩ := h2.slice; exact ⟨a, _, cap, e⟩⟩
theorem freshL_rep {P : Program} {w : World} {O : Nat → Nat → Prop} {Γ : Env} : ∀ {ks : List Lk} {us : List Value} {cs : List C}, LReps P w O ks us cs → ∀ i, (∀ j c, cs[j]? = some c → at_ Γ.ρ (i + j) = c) →
    (freshL ks i).map (Lf.den Γ) = us ∧ ∀ l ∈ freshL ks i, l.ok P w O Γ
  | [], [], [], _, i, _ => ⟨rfl, fun l hl => by cases hl⟩
  | k :: ks, u :: us, c :: cs, h, i, hi => by
    obtain ⟨h1, h2⟩ := Lf.of_rep (i := i) h.1 (hi 0 c (by simp))
    obtain ⟨h3, h4⟩ := freshL_rep h.2 (i + 1) (fun j c hj => by have := hi (j + 1) c (by simpa using hj); rwa [show i + 1 + j = i + (j + 1) by omega])
    refine ⟨by simp [freshL, h1, h3], fun l hl => ?_⟩
    rcases List.mem_cons.1 hl with rfl | hl
    · exact h2
    · exact h4 l hl
  | [], [], _ :: _, h, _, _ => h.elim
  | [], _ :: _, _, h, _, _ => h.elim
  | _ :: _, [], _, h, _, _ => h.elim
  | _ :: _, _ :: _, [], h, _, _ => h.elim
theorem freshS_rep {P : Program} {w : World} {O : Nat → Nat → Prop} {Γ : Env} {nb : Nat} {old : Option Nat} : ∀ {ss : List Sh0} {vs : List Value} {cs : List C}, Reps P w O old ss vs cs → (∀ b, IsBox ss vs b → Γ.blk nb = b) → ∀ i, (∀ j c, cs[j]? = some c → at_ Γ.ρ (i + j) = c) →
    (freshS nb ss i).map (S0.den Γ) = vs ∧ ∀ s ∈ freshS nb ss i, s.ok P w O Γ
  | [], [], cs, h, _, i, _ => ⟨rfl, fun l hl => by cases hl⟩
  | s :: ss, v :: vs, cs, h, hbx, i, hi => by
    obtain ⟨c1, c2, rfl, h1, h2⟩ := h
    have hlen : c1.length = s.kinds.length := h1.ty.len
    obtain ⟨h3, h4⟩ := freshS_rep h2 (fun b hb => hbx b (by cases s <;> first | exact hb | exact .inr hb)) (i + s.kinds.length) (fun j c hj => by
      have := hi (c1.length + j) c (by rw [List.getElem?_append_right (by omega)]; simpa using hj)
      rwa [← hlen, Nat.add_assoc])
    have hi1 : ∀ j c, c1[j]? = some c → at_ Γ.ρ (i + j) = c := fun j c hj => hi j c (by
      have : j < c1.length := by
        rcases Nat.lt_or_ge j c1.length with h' | h'
        · exact h'
        · rw [List.getElem?_eq_none h'] at hj; cases hj
      rw [List.getElem?_append_left this]; exact hj)
    have key : (s.fresh nb i).den Γ = v ∧ (s.fresh nb i).ok P w O Γ := by
      cases s with
      | lf k =>
        obtain ⟨c, rfl, hc⟩ := h1
        obtain ⟨h5, h6⟩ := Lf.of_rep hc (i := i) (hi1 0 c (by simp))
        exact ⟨h5, fun l hl => by simp [Sh0.fresh, S0.cells] at hl; subst hl; exact h6⟩
      | agg l =>
        obtain ⟨us, rfl, hc⟩ := h1
        obtain ⟨h5, h6⟩ := freshL_rep hc i hi1
        exact ⟨by simp only [Sh0.fresh, S0.den, dens, h5], h6⟩
      | box t l =>
        obtain ⟨b, us, rfl, -, -, -⟩ := h1
        have := hbx b (.inl rfl)
        exact ⟨by simp only [Sh0.fresh, S0.den, Lf.den, this], fun l hl => by simp [Sh0.fresh, S0.cells] at hl; subst hl; trivial⟩
    refine ⟨by simp [freshS, key.1, h3], fun x hx => ?_⟩
    rcases List.mem_cons.1 hx with rfl | hx
    · exact key.2
    · exact h4 x hx
  | [], _ :: _, _, h, _, _, _ => h.elim
  | _ :: _, [], _, h, _, _, _ => h.elim
theorem at_app {ρ cs : List C} {j : Nat} {c : C} (h : cs[j]? = some c) : at_ (ρ ++ cs) (ρ.length + j) = c := by
  unfold at_
  rw [List.getD_eq_getElem?_getD, List.getElem?_append_right (by omega)]
  simp [h]
theorem svOf_rep {P : Program} {w : World} {O : Nat → Nat → Prop} {Γ : Env} {nb n : Nat} {ss : List Sh0} {v : Value} {cs : List C} (h : Res P w O n ss v cs) (hbx : ∀ vs, Reps P w (fun b o => O b o ∨ b ∈ vecB (kindsOf ss) cs) (some n) ss vs cs → v = (match vs with | [x] => x | _ => .tuple vs.toArray) → ∀ b, IsBox ss vs b → Γ.blk nb = b)
    {i : Nat} (hi : ∀ j c, cs[j]? = some c → at_ Γ.ρ (i + j) = c) :
    (svOf (freshS nb ss i)).den Γ = v ∧ (svOf (freshS nb ss i)).ok P w (fun b o => O b o ∨ b ∈ vecB (kindsOf ss) cs) Γ := by
  obtain ⟨vs, hv, hr, -, -⟩ := h
  obtain ⟨h1, h2⟩ := freshS_rep (Γ := Γ) (nb := nb) hr (hbx vs hr hv) i hi
  subst hv
  match hss : freshS nb ss i, vs, h1 with
  | [], [], _ => exact ⟨rfl, fun s hs => by cases hs⟩
  | [s], [v], h1 =>
    simp at h1
    rw [hss] at h2
    exact ⟨h1, h2 s (by simp)⟩
  | s :: t :: l, v :: u :: m, h1 =>
    rw [hss] at h2
    refine ⟨?_, h2⟩
    simp only [svOf, SV.den]
    rw [h1]

/-! Pointers among the arguments -/
theorem shapes_noBox {mem : Mem} : ∀ {args : List S0} {ss : List Sh0}, shapes mem args = some ss → ss.all (fun s => !s.isBox) = true → boxOf args = none ∧ boxKinds ss = [] ∧ (∀ vs i, ¬ IsBox ss vs i) ∧ ∀ b, S0.lf (.ptr b 0) ∉ args
  | [], ss, h, _ => by simp [shapes] at h; subst h; exact ⟨rfl, rfl, fun vs i hi => (by cases vs <;> exact hi.elim), fun b hb => by cases hb⟩
  | s :: args, ss, h, hb => by
    simp only [shapes] at h
    split at h
    · rename_i sh hss h1 h2
      cases h
      simp only [List.all_cons, Bool.and_eq_true] at hb
      obtain ⟨i1, i2, i3, i4⟩ := shapes_noBox h2 hb.2
      have hnp : ∀ b, s ≠ .lf (.ptr b 0) := by
        rintro b rfl
        simp only [S0.shapeM] at h1
        split at h1
        · simp only [Option.map_eq_some_iff] at h1
          obtain ⟨ks, -, rfl⟩ := h1
          cases hb.1
        · cases h1
      refine ⟨?_, ?_, ?_, ?_⟩
      · unfold boxOf
        split
        · rename_i e; cases e
        · rename_i b l e; cases e; exact absurd rfl (hnp b)
        · rename_i e; cases e; exact i1
      · cases sh with
        | box t l => cases hb.1
        | _ => exact i2
      · intro vs i hi
        cases sh with
        | box t l => cases hb.1
        | _ => cases vs with
          | nil => exact hi.elim
          | cons v vs => exact i3 vs i hi
      · intro b hm
        rcases List.mem_cons.1 hm with e | hm
        · exact hnp b e.symm
        · exact i4 b hm
    · cases h
theorem outs_noBox {P : Program} {w : World} {O : Nat → Nat → Prop} : ∀ {ss : List Sh0} {vs : List Value} {outs : List C}, ss.all (fun s => !s.isBox) = true → Outs P w O ss vs outs → outs = []
  | [], vs, outs, _, h => by cases vs <;> exact h
  | s :: ss, [], outs, hb, h => by cases s <;> exact h
  | s :: ss, v :: vs, outs, hb, h => by
    simp only [List.all_cons, Bool.and_eq_true] at hb
    cases s with
    | box t l => cases hb.1
    | lf k => exact outs_noBox (ss := ss) (vs := vs) hb.2 h
    | agg l => exact outs_noBox (ss := ss) (vs := vs) hb.2 h
/-- One pointer among the arguments, or none. -/
theorem outs_one {P : Program} {w' : World} {O : Nat → Nat → Prop} {Γ : Env} {mem : Mem} : ∀ {args : List S0} {ss : List Sh0} {outs : List C}, shapes mem args = some ss → (ss.filter Sh0.isBox).length ≤ 1 → Outs P w' O ss (args.map (S0.den Γ)) outs →
    (ss.all (fun s => !s.isBox) = true) ∨
    (∃ b mb us, boxOf args = some b ∧ look mem b = some mb ∧ kindsL mb.2 = some (boxKinds ss) ∧ Blk w' (Γ.blk b) mb.1 us.toArray ∧ LReps P w' O (boxKinds ss) us outs ∧ (∀ i, IsBox ss (args.map (S0.den Γ)) i → i = Γ.blk b) ∧ ∀ c, S0.lf (.ptr c 0) ∈ args → c = b)
  | [], ss, outs, h, _, _ => by simp [shapes] at h; subst h; exact .inl rfl
  | s :: args, ss, outs, h, hl, ho => by
    simp only [shapes] at h
    split at h
    · rename_i sh hss h1 h2
      cases h
      by_cases hp : ∃ b, s = .lf (.ptr b 0)
      · obtain ⟨b, rfl⟩ := hp
        right
        simp only [S0.shapeM] at h1
        split at h1
        · rename_i mb hmb
          simp only [Option.map_eq_some_iff] at h1
          obtain ⟨ks, hks, rfl⟩ := h1
          have hno : hss.all (fun s => !s.isBox) = true := by
            rw [List.all_eq_true]
            intro x hx
            simp only [List.filter_cons, Sh0.isBox, if_true, List.length_cons] at hl
            have h0 : (hss.filter Sh0.isBox) = [] := List.eq_nil_of_length_eq_zero (by omega)
            cases hxb : x.isBox with
            | false => rfl
            | true => have := List.mem_filter.2 ⟨hx, hxb⟩; rw [h0] at this; cases this
          obtain ⟨i1, i2, i3, i4⟩ := shapes_noBox h2 hno
          obtain ⟨c1, c2, b', us, rfl, e, hblk, hrep, hrest⟩ := ho
          have hc2 := outs_noBox hno hrest
          subst hc2
          have hb' : b' = Γ.blk b := by cases e; rfl
          subst hb'
          have hbk : boxKinds (.box mb.1 ks :: hss) = ks := by
            have : boxKinds (.box mb.1 ks :: hss) = ks ++ boxKinds hss := rfl
            rw [this, i2, List.append_nil]
          refine ⟨b, mb, us, rfl, hmb, by rw [hbk]; exact hks, hblk, by rw [hbk, List.append_nil]; exact hrep, ?_, ?_⟩
          · rintro i (hi | hi)
            · cases hi; rfl
            · exact absurd hi (i3 _ i)
          · intro c hc
            rcases List.mem_cons.1 hc with e | hc
            · cases e; rfl
            · exact absurd hc (i4 c)
        · cases h1
      · have hsh : sh.isBox = false := by
          have : s.shapeM mem = s.shape := by
            unfold S0.shapeM; split
            · exact absurd ⟨_, rfl⟩ hp
            · rfl
          rw [this] at h1
          cases s with
          | lf l => simp only [S0.shape, Option.map_eq_some_iff] at h1; obtain ⟨k, -, rfl⟩ := h1; rfl
          | agg l => simp only [S0.shape, Option.map_eq_some_iff] at h1; obtain ⟨k, -, rfl⟩ := h1; rfl
        have hbo : boxOf (s :: args) = boxOf args := by
          unfold boxOf
          split
          · rename_i e; cases e
          · rename_i b l e; cases e; exact absurd ⟨b, rfl⟩ hp
          · rename_i e; cases e; conv => lhs; unfold boxOf
        have ho' : Outs P w' O hss (args.map (S0.den Γ)) outs := by cases sh <;> first | exact ho | cases hsh
        rcases outs_one h2 (by simpa [List.filter_cons, hsh] using hl) ho' with h3 | ⟨b, mb, us, g1, g2, g3, g4, g5, g6, g7⟩
        · left; simp [hsh, h3]
        · right
          have hbk : boxKinds (sh :: hss) = boxKinds hss := by cases sh <;> first | rfl | cases hsh
          refine ⟨b, mb, us, by rw [hbo]; exact g1, g2, by rw [hbk]; exact g3, g4, by rw [hbk]; exact g5, fun i hi => g6 i (by cases sh <;> first | exact hi | cases hsh), fun c hc => ?_⟩
          rcases List.mem_cons.1 hc with e | hc
          · exact absurd ⟨c, e.symm⟩ hp
          · exact g7 c hc
    · cases h
end Go.Proofs.Ytlbgcjpkegpmlaa
