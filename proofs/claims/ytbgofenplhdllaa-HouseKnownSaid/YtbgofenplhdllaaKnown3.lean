/- Texts laid into one: Ek Eo Ep Ex. -/
import Derived.Test.YtbgofenplhdllaaKnown2
import Derived.Maps.AppendAt
import Derived.Laws.MakeOwn
import Derived.Laws.OwnMore
import Derived.Laws.Slices
/- The engine, part 11: one operation, a row of operations. -/
namespace Go.Proofs.Ytbgofenplhdllaa
open Go.RowKit
set_option linter.unusedSimpArgs false
set_option linter.unusedVariables false

theorem VC.obT {cx : Cx} {R : List C → Prop} {ρ : List C} {Ls : List (List C → Prop)} : ∀ {l : List B} {t : Tree}, VC cx R (obT l t) ρ Ls → Obs ρ l ∧ VC cx R t ρ Ls
  | [], t, h => ⟨fun b hb => (by cases hb), h⟩
  | b :: l, t, h => by
    obtain ⟨h1, h2⟩ := h
    obtain ⟨h3, h4⟩ := VC.obT (l := l) h2
    refine ⟨fun x hx => ?_, h4⟩
    rcases List.mem_cons.1 hx with rfl | hx
    · exact h1
    · exact h3 x hx
theorem s0s_ok {P : Program} {Γ : Env} {st : St} {xs : Array Operand} {ρ : Operand → Value} {w : World} (hv : View P Γ st xs ρ w) : ∀ (l : List Operand) (r : List S0), st.s0s l = some r → (∀ x ∈ l, x ∈ xs) →
    l.map ρ = r.map (S0.den Γ) ∧ ∀ s ∈ r, s.ok P w (Own Γ st) Γ
  | [], r, h, _ => by simp [St.s0s] at h; subst h; simp
  | x :: l, r, h, hx => by
    simp only [St.s0s] at h
    split at h
    · rename_i s r' hs hr
      cases h
      obtain ⟨h1, h2⟩ := hv.s0 (hx x (by simp)) hs
      obtain ⟨h3, h4⟩ := s0s_ok hv l r' hr (fun y hy => hx y (by simp [hy]))
      refine ⟨by simp [h1, h3], fun y hy => ?_⟩
      rcases List.mem_cons.1 hy with rfl | hy
      · exact h2
      · exact h4 y hy
    · cases h
theorem run_callFunc' {P : Program} {f : FuncId} (h : Callable P f) (args : Array Value) (w : World) : (callFunc f args).run P w = .ok (.enter f args) w := by
  obtain ⟨fn, h1, h2, h3⟩ := h
  have h4 : fn.body.isNone = false := by cases hb : fn.body <;> simp_all
  simp only [callFunc, Sem.run_bind, run_program, Result.andThen_ok, h1, h2, h4, Bool.false_eq_true, if_false, Sem.run_pure]

/-! A slice built of its elements -/
theorem foldl_set (off : Nat) : ∀ (new : List Value) (i : Nat) (cs : List Value), off + i + new.length ≤ cs.length →
    (new.zipIdx i).foldl (fun cs (p : Value × Nat) => cs.set (off + p.2) p.1) cs = cs.take (off + i) ++ new ++ cs.drop (off + i + new.length)
  | [], i, cs, _ => by simp
  | x :: new, i, cs, h => by
    simp only [List.length_cons] at h
    simp only [List.zipIdx_cons, List.foldl_cons]
    rw [foldl_set off new (i + 1) _ (by simp; omega)]
    have e := list_seg_step cs (off + i) x new (by omega)
    simpa [Nat.add_assoc, Nat.add_comm, Nat.add_left_comm] using e
theorem fill_rows {Γ : Env} {sz : Nat} : ∀ (rows : List (Nat × S0)) (i : Nat) (out : List (List Lf)) (ks : List Lk) (cells : Array Value), ks.length = sz → rowsOf ks i rows = some out → (∀ p ∈ rows, ∀ l ∈ p.2.cells, (l.den Γ).cells = #[l.den Γ]) →
    (i + out.length) * sz ≤ cells.size → Instr.fill (fun i => some (i * sz, sz)) cells (rows.map fun p => (p.1, p.2.den Γ)) = some (cells.toList.take (i * sz) ++ (out.flatten.map (Lf.den Γ)) ++ cells.toList.drop ((i + out.length) * sz)).toArray
  | [], i, out, ks, cells, _, h, _, _ => by simp [rowsOf] at h; subst h; simp [Instr.fill]
  | (j, s) :: rows, i, out, ks, cells, hks, h, hs, hle => by
    simp only [rowsOf] at h
    split at h
    · rename_i hc
      simp only [Bool.and_eq_true, decide_eq_true_eq] at hc
      obtain ⟨h1, h2⟩ := hc
      have h1 := Nat.eq_of_beq_eq_true h1
      subst h1
      cases hr : rowsOf ks (i + 1) rows with
      | none => simp [hr] at h
      | some out' =>
        simp [hr] at h
        subst h
        have hlen : s.cells.length = sz := by
          rw [← hks]
          have key : ∀ (ls : List Lf) (ks : List Lk), kindsL ls = some ks → ls.length = ks.length := by
            intro ls
            induction ls with
            | nil => intro ks h; simp [kindsL] at h; subst h; rfl
            | cons l ls ih =>
              intro ks h
              simp only [kindsL] at h
              split at h
              · rename_i k ks' h1 h2; cases h; simp [ih _ h2]
              · cases h
          exact key _ _ h2
        have hcl := S0.den_cells Γ s (hs (i, s) (by simp))
        simp only [List.length_cons] at hle
        have hle2 : i * sz + sz ≤ cells.size := by
          have : (i + 1) * sz ≤ (i + (out'.length + 1)) * sz := Nat.mul_le_mul_right _ (by omega)
          rw [Nat.add_mul] at this; omega
        simp only [List.map_cons, Instr.fill, hcl, dens_size, hlen]
        rw [if_neg (by simp; omega)]
        have e : (dens Γ s.cells).zipIdx = (((s.cells.map (Lf.den Γ)).zipIdx)).toArray := by
          apply Array.ext'
          simp [dens]
        rw [e]
        simp only [List.foldl_toArray]
        have e2 : (List.foldl (fun (cs : Array Value) (x : Value × Nat) => match x with | (c, j) => cs.setIfInBounds (i * sz + j) c) cells ((s.cells.map (Lf.den Γ)).zipIdx)) =
            (cells.toList.take (i * sz) ++ s.cells.map (Lf.den Γ) ++ cells.toList.drop (i * sz + sz)).toArray := by
          have := foldl_set (i * sz) (s.cells.map (Lf.den Γ)) 0 cells.toList (by simp; omega)
          simp only [Nat.add_zero, List.length_map, hlen] at this
          rw [← this]
          generalize (s.cells.map (Lf.den Γ)).zipIdx = l
          have key : ∀ (l : List (Value × Nat)) (cs : Array Value), (List.foldl (fun (cs : Array Value) (x : Value × Nat) => match x with | (c, j) => cs.setIfInBounds (i * sz + j) c) cs l) = (List.foldl (fun cs (p : Value × Nat) => cs.set (i * sz + p.2) p.1) cs.toList l).toArray := by
            intro l
            induction l with
            | nil => intro cs; simp
            | cons p l ih => intro cs; simp only [List.foldl_cons]; rw [ih]; simp
          exact key l cells
        rw [e2]
        rw [fill_rows rows (i + 1) out' ks _ hks hr (fun p hp => hs p (by simp [hp])) (by
          simp only [List.size_toArray, List.length_append, List.length_take, List.length_map, List.length_drop, Array.length_toList, hlen]
          have : (i + 1 + out'.length) * sz = (i + (out'.length + 1)) * sz := by congr 1; omega
          omega)]
        congr 2
        simp only [List.flatten_cons, List.map_append]
        have a1 : (cells.toList.take (i * sz) ++ s.cells.map (Lf.den Γ) ++ cells.toList.drop (i * sz + sz)).take ((i + 1) * sz) = cells.toList.take (i * sz) ++ s.cells.map (Lf.den Γ) := by
          rw [Nat.add_mul, Nat.one_mul]
          have : i * sz + sz = (cells.toList.take (i * sz) ++ s.cells.map (Lf.den Γ)).length := by simp [hlen]; omega
          rw [this, List.take_left']
          rfl
        have a2 : (cells.toList.take (i * sz) ++ s.cells.map (Lf.den Γ) ++ cells.toList.drop (i * sz + sz)).drop ((i + 1 + out'.length) * sz) = cells.toList.drop ((i + (out'.length + 1)) * sz) := by
          have e3 : (i + 1 + out'.length) * sz = (i * sz + sz) + out'.length * sz := by rw [Nat.add_mul, Nat.add_mul, Nat.one_mul]
          have e4 : (i + (out'.length + 1)) * sz = (i * sz + sz) + out'.length * sz := by rw [Nat.add_mul, Nat.add_mul, Nat.one_mul]; omega
          have e5 : (cells.toList.take (i * sz) ++ s.cells.map (Lf.den Γ)).length = i * sz + sz := by simp [hlen]; omega
          rw [e3, e4, ← List.drop_drop, List.drop_left' e5, List.drop_drop]
        rw [List.toList_toArray, a1, a2]
        simp [List.append_assoc]
    · cases h
theorem rowsOf_len (ks : List Lk) : ∀ (rows : List (Nat × S0)) (i : Nat) (out : List (List Lf)), rowsOf ks i rows = some out → (∀ r ∈ out, kindsL r = some ks) ∧ ∀ r ∈ out, ∃ p ∈ rows, r = p.2.cells
  | [], i, out, h => by simp [rowsOf] at h; subst h; simp
  | (j, s) :: rows, i, out, h => by
    simp only [rowsOf] at h
    split at h
    · rename_i hc
      simp only [Bool.and_eq_true, decide_eq_true_eq] at hc
      cases hr : rowsOf ks (i + 1) rows with
      | none => simp [hr] at h
      | some out' =>
        simp [hr] at h
        subst h
        obtain ⟨h1, h2⟩ := rowsOf_len ks rows (i + 1) out' hr
        refine ⟨fun r hr => ?_, fun r hr => ?_⟩
        · rcases List.mem_cons.1 hr with rfl | hr
          · exact hc.2
          · exact h1 r hr
        · rcases List.mem_cons.1 hr with rfl | hr
          · exact ⟨(j, s), by simp, rfl⟩
          · obtain ⟨p, hp, e⟩ := h2 r hr
            exact ⟨p, by simp [hp], e⟩
    · cases h
theorem rngL_flatten {bd : Bds} {ρ : List C} : ∀ {rows : List (List Lf)}, Obs ρ (rngL bd rows.flatten) → ∀ r ∈ rows, Obs ρ (rngL bd r)
  | [], _, r, hr => by cases hr
  | x :: rows, h, r, hr => by
    rw [List.flatten_cons] at h
    obtain ⟨h1, h2⟩ := rngL_app h
    rcases List.mem_cons.1 hr with rfl | hr
    · exact h1
    · exact rngL_flatten h2 r hr
theorem kindsL_len : ∀ {ls : List Lf} {ks : List Lk}, kindsL ls = some ks → ls.length = ks.length
  | [], ks, h => by simp [kindsL] at h; subst h; rfl
  | l :: ls, ks, h => by
    simp only [kindsL] at h
    split at h
    · rename_i k ks' h1 h2; cases h; simp [kindsL_len h2]
    · cases h
/-! Slices of one's own -/
theorem ArrN.monoS {P : Program} {S S' : Nat → Nat → Prop} (hS : ∀ b o, S b o → S' b o) {w : World} : ∀ {d : Nat} {te : TypeId} {v : Value} {rows : List (List C)}, ArrN P S w d te v rows → ArrN P S' w d te v rows
  | 0, _, _, _, h => h.elim
  | d + 1, te, v, rows, ⟨ks, hk, a, cap, hv, hh⟩ => by
    refine ⟨ks, hk, a, cap, hv, fun hne => ?_⟩
    obtain ⟨b, o, ha, hcap, hr⟩ := hh hne
    refine ⟨b, o, ha, hcap, fun i r hi => ⟨(hr i r hi).1, fun j k hj => ?_⟩⟩
    obtain ⟨hs, u, c, hu, hc, hm⟩ := (hr i r hi).2 j k hj
    refine ⟨hS _ _ hs, u, c, hu, hc, ?_⟩
    cases k with
    | arr t => obtain ⟨rows', e, hn⟩ := hm; exact ⟨rows', e, ArrN.monoS hS hn⟩
    | _ => exact hm
theorem ArrN.monoD {P : Program} {S : Nat → Nat → Prop} {w : World} : ∀ {d : Nat} {te : TypeId} {v : Value} {rows : List (List C)}, ArrN P S w d te v rows → ArrN P S w (d + 1) te v rows
  | 0, _, _, _, h => h.elim
  | d + 1, te, v, rows, ⟨ks, hk, a, cap, hv, hh⟩ => by
    refine ⟨ks, hk, a, cap, hv, fun hne => ?_⟩
    obtain ⟨b, o, ha, hcap, hr⟩ := hh hne
    refine ⟨b, o, ha, hcap, fun i r hi => ⟨(hr i r hi).1, fun j k hj => ?_⟩⟩
    obtain ⟨hs, u, c, hu, hc, hm⟩ := (hr i r hi).2 j k hj
    refine ⟨hs, u, c, hu, hc, ?_⟩
    cases k with
    | arr t => obtain ⟨rows', e, hn⟩ := hm; exact ⟨rows', e, ArrN.monoD hn⟩
    | _ => exact hm
theorem ArrN.leD {P : Program} {S : Nat → Nat → Prop} {w : World} {d d' : Nat} (hd : d ≤ d') {te : TypeId} {v : Value} {rows : List (List C)} (h : ArrN P S w d te v rows) : ArrN P S w d' te v rows := by
  induction hd with
  | refl => exact h
  | step _ ih => exact ih.monoD
/-- The slices in a list of cells, all with one footprint. -/
theorem CReps.arrN {P : Program} {w : World} {O : Nat → Nat → Prop} : ∀ {ks : List Lk} {us : List Value} {cs : List C}, CReps P w O ks us cs → ∃ d S, (∀ b o, S b o → b < w.heap.size ∧ ¬ O b o) ∧ ∀ (j : Nat) (k : Lk), ks[j]? = some k → ∃ u c, us[j]? = some u ∧ cs[j]? = some c ∧
      match k with
      | .int => ∃ n, u = .int .i64 n ∧ c = .i n
      | .bool => ∃ t, u = .bool t ∧ c = .b t
      | .arr t => ∃ rows', c = .s u rows' ∧ ArrN P S w d t u rows'
      | .vec _ | .opq => False
  | [], [], [], _ => ⟨0, fun _ _ => False, fun _ _ h => h.elim, fun j k hj => by simp at hj⟩
  | k :: ks, u :: us, c :: cs, h => by
    obtain ⟨d, S, hS, hd⟩ := CReps.arrN h.2
    have h1 := h.1.2
    obtain ⟨d', S', hS', hd'⟩ : ∃ d' S', (∀ b o, S' b o → b < w.heap.size ∧ ¬ O b o) ∧ match k with
      | .int => ∃ n, u = .int .i64 n ∧ c = .i n
      | .bool => ∃ t, u = .bool t ∧ c = .b t
      | .arr t => ∃ rows', c = .s u rows' ∧ ArrN P S' w d' t u rows'
      | .vec _ | .opq => False := by
      cases k with
      | int => exact ⟨0, fun _ _ => False, fun _ _ h => h.elim, h1⟩
      | bool => exact ⟨0, fun _ _ => False, fun _ _ h => h.elim, h1⟩
      | arr t =>
        obtain ⟨e, v, rows, rfl, d', S', hS', hA⟩ := h1
        simp only [C.loc] at e
        subst e
        exact ⟨d', S', hS', rows, rfl, hA⟩
      | vec t => exact h1.elim
      | opq => exact h1.elim
    refine ⟨Max.max d d', fun b o => S b o ∨ S' b o, fun b o hb => hb.elim (hS b o) (hS' b o), fun j k' hj => ?_⟩
    cases j with
    | zero =>
      simp at hj; subst hj
      refine ⟨u, c, rfl, rfl, ?_⟩
      cases k with
      | arr t => obtain ⟨rows, e, hA⟩ := hd'; exact ⟨rows, e, (hA.monoS fun _ _ h => .inr h).leD (by omega)⟩
      | _ => exact hd'
    | succ j =>
      obtain ⟨u', c', hu, hc, hm⟩ := hd j k' (by simpa using hj)
      refine ⟨u', c', by simpa using hu, by simpa using hc, ?_⟩
      cases k' with
      | arr t => obtain ⟨rows, e, hA⟩ := hm; exact ⟨rows, e, (hA.monoS fun _ _ h => .inl h).leD (by omega)⟩
      | _ => exact hm
  | [], [], _ :: _, h => h.elim
  | [], _ :: _, _, h => h.elim
  | _ :: _, [], _, h => h.elim
  | _ :: _, _ :: _, [], h => h.elim
/-- A slice of one's own that is given up is a slice. -/
theorem VecOK.arr {P : Program} {w : World} {O O' : Nat → Nat → Prop} {te : TypeId} {v : Value} {c : C} (h : VecOK P w O te v c) (hO : ∀ b o, O' b o → O b o) (hb : ∀ b, v.ownBlock = some b → ∀ o, ¬ O' b o) : ArrOK P w O' te (.s v c.rows) := by
  obtain ⟨ks, us, hk, hc, hl, hr, ho⟩ := h
  obtain ⟨d, S, hS, hd⟩ := hr.arrN
  refine ⟨v, c.rows, rfl, d + 1, fun b o => S b o ∨ v.ownBlock = some b, fun b o hbo => ?_, ks, hk, ?_⟩
  · rcases hbo with hbo | hbo
    · exact ⟨(hS b o hbo).1, fun hx => (hS b o hbo).2 (hO b o hx)⟩
    · exact ⟨(ho.lt b hbo).2, hb b hbo o⟩
  · have hrow : ∀ i r, c.rows[i]? = some r → i < c.rows.length := fun i r hi => by
      rcases Nat.lt_or_ge i c.rows.length with h | h
      · exact h
      · rw [List.getElem?_eq_none h] at hi; cases hi
    rcases ho.2 with ⟨rfl, hn⟩ | ⟨g, cap, cur, rfl, -, -, hnc, -⟩
    · exact ⟨none, 0, by rw [hn], fun hne => absurd (List.eq_nil_of_length_eq_zero hn) hne⟩
    · refine ⟨_, cap, rfl, fun _ => ⟨g, 0, rfl, hnc, fun i r hi => ⟨hl r (List.mem_of_getElem? hi), fun j k hj => ⟨.inr rfl, ?_⟩⟩⟩⟩
      have hjlt : j < ks.length := by
        rcases Nat.lt_or_ge j ks.length with h | h
        · exact h
        · rw [List.getElem?_eq_none h] at hj; cases hj
      obtain ⟨u, x, hu, hx, hm⟩ := hd (i * ks.length + j) k (by rw [rowsK_get (hrow i r hi) hjlt]; exact hj)
      rw [flatten_get _ hl i j r hi hjlt] at hx
      have hcell := ho.cells (g := g) rfl _ _ hu
      rw [show (⟨g, 0, none⟩ : Addr).add (i * ks.length + j) = ⟨g, 0 + (i * ks.length + j), none⟩ by unfold Addr.add; split <;> simp_all] at hcell
      refine ⟨u, x, hcell, hx, ?_⟩
      cases k with
      | arr t => obtain ⟨rows', e, hA⟩ := hm; exact ⟨rows', e, hA.monoS fun _ _ h => .inl h⟩
      | _ => exact hm
theorem CReps.of_LReps {P : Program} {w : World} {O : Nat → Nat → Prop} : ∀ {ks : List Lk} {us : List Value} {cs : List C}, LReps P w O ks us cs → ks.all Lk.row = true → CReps P w O ks us cs
  | [], [], [], _, _ => trivial
  | k :: ks, u :: us, c :: cs, h, hn => by
    simp only [List.all_cons, Bool.and_eq_true] at hn
    refine ⟨⟨h.1.1, ?_⟩, CReps.of_LReps h.2 hn.2⟩
    have h1 := h.1.2
    cases k with
    | vec t => cases hn.1
    | opq => cases hn.1
    | _ => exact h1
  | [], [], _ :: _, h, _ => h.elim
  | [], _ :: _, _, h, _ => h.elim
  | _ :: _, [], _, h, _ => h.elim
  | _ :: _, _ :: _, [], h, _ => h.elim
/-- Rows that are laid into a new block. -/
theorem CReps.rows {P : Program} {w : World} {O : Nat → Nat → Prop} {ks : List Lk} : ∀ {rs : List (List Value × List C)}, (∀ r ∈ rs, CReps P w O ks r.1 r.2) → CReps P w O (rowsK rs.length ks) (rs.flatMap (·.1)) (rs.flatMap (·.2))
  | [], _ => trivial
  | r :: rs, h => by
    rw [List.length_cons, rowsK_succ, List.flatMap_cons, List.flatMap_cons]
    exact CReps.append (h r (by simp)) (CReps.rows fun x hx => h x (by simp [hx]))
/-- Only what is one's own in the way of slices turns; new variables. -/
theorem Sat.turnV {P : Program} {F : Nat → Prop} {w0 : World} {Γ : Env} {st : St} {a : Act} {w : World} (h : Sat P F w0 Γ st a w) (hw : st.wf = true) {rs : List C} (hsm : Smalls (Γ.ρ ++ rs)) {w' : World} {row : Option Nat} (hk : w.grownBy w' row) (hrow : ∀ b, row = some b → ∃ i, Hold Γ st false i b) {vec' : Vecs}
    (hv : ∀ i e, look vec' i = some e → (look st.vec i = some e ∧ ∀ b, (at_ Γ.ρ i).loc.ownBlock = some b → row ≠ some b) ∨
      (VecOK P w' (fun b o => Own Γ st b o ∨ w.heap.size ≤ b) e.1 (at_ (Γ.ρ ++ rs) i).loc (e.2.ev (Γ.ρ ++ rs)) ∧ i < st.nx + rs.length ∧ ∀ b, (at_ (Γ.ρ ++ rs) i).loc.ownBlock = some b → row = some b ∨ w.heap.size ≤ b))
    (hi : ∀ i e i' e' b, look vec' i = some e → look vec' i' = some e' → (at_ (Γ.ρ ++ rs) i).loc.ownBlock = some b → (at_ (Γ.ρ ++ rs) i').loc.ownBlock = some b → i = i') :
    Sat P F w0 { Γ with ρ := Γ.ρ ++ rs } { st with nx := st.nx + rs.length, vec := vec' } a w' := by
  have he : Ext Γ { Γ with ρ := Γ.ρ ++ rs } := ⟨⟨rs, rfl⟩, fun _ _ => rfl, Nat.le_refl _, rfl, rfl⟩
  have hhold : ∀ s j b, Hold { Γ with ρ := Γ.ρ ++ rs } { st with nx := st.nx + rs.length, vec := vec' } s j b → Hold Γ st s j b ∨ (s = false ∧ (row = some b ∨ w.heap.size ≤ b)) := by
    intro s j b hh
    rcases hh.inv with ⟨rfl, mb, hj, rfl⟩ | ⟨rfl, e, he', hb⟩
    · exact .inl ⟨mb, hj, rfl⟩
    · rcases hv j e he' with ⟨h1, h2⟩ | ⟨-, -, h3⟩
      · exact .inl (.vec (Γ := Γ) h1 (by rw [← h.vec_at he h1]; exact hb))
      · exact .inr ⟨rfl, h3 b hb⟩
  have hrowown : ∀ b, row = some b → ∀ o, Own Γ st b o := fun b hb o => by obtain ⟨i, hi⟩ := hrow b hb; exact hi.own o
  have hown : ∀ b o, Own { Γ with ρ := Γ.ρ ++ rs } { st with nx := st.nx + rs.length, vec := vec' } b o → Own Γ st b o ∨ w.heap.size ≤ b := fun b o hb => by
    rcases Own.iff.1 hb with hb | ⟨s, j, hh⟩
    · exact .inl (.inl hb)
    · rcases hhold s j b hh with hh | ⟨-, hh | hh⟩
      · exact .inl (hh.own o)
      · exact .inl (hrowown b hh o)
      · exact .inr hh
  have ht : Turn w w' (Own Γ st) (Own { Γ with ρ := Γ.ρ ++ rs } { st with nx := st.nx + rs.length, vec := vec' }) := ⟨hk.size, fun b o hlt hno => ⟨World.cell?_of_block (hk.block b hlt fun e => hno (hrowown b e.symm o)), fun ho => (hown b o ho).elim hno (fun hge => by omega)⟩⟩
  have hmemrow : ∀ b mb, look st.mem b = some mb → some (Γ.blk b) ≠ row := fun b mb hb e => by
    obtain ⟨i, hi⟩ := hrow _ e.symm
    have := (h.inj _ _ _ _ _ (Hold.mem (Γ := Γ) hb) hi).1
    cases this
  refine ⟨h.slots_ext hw he ht, h.size, fun b mb hm => ?_, fun i e hie => ?_, h.clo_ext hw he ht, fun s j s' j' b h1 h2 => ?_, h.keeps.trans ⟨hk.os, hk.tape, hk.output, hk.size, fun i hi => hk.block i ?_ fun e => ?_⟩, h.fold, fun b o hb => Nat.lt_of_lt_of_le (h.base b o hb) hk.size, h.defers, by simp [h.len], h.nb, ⟨Bds.ok_ext h.num.bds, hsm⟩⟩
  · obtain ⟨h1, h2, h3, h4⟩ := h.mem b mb hm
    have hwf := h.wf_mem hw hm
    rw [dens_ext he _ hwf]
    exact ⟨(hk.block _ h1.lt (hmemrow b mb hm)).trans h1, fun l hl => Lf.ok_ext he (List.all_eq_true.1 hwf l hl) (Lf.ok_keep (h2 l hl) ht.size ht.keep), h3, h4⟩
  · rcases hv i e hie with ⟨h1, h2⟩ | ⟨h1, h2, h3⟩
    · refine ⟨h.vec_ext hw he ht h1 fun b hb => hk.block b ((h.vec i e h1).1.lt hb) fun e' => h2 b hb e'.symm, Nat.lt_of_lt_of_le (h.vec i e h1).2.1 (Nat.le_add_right _ _), ?_⟩
      rw [h.vec_at he h1]; exact (h.vec i e h1).2.2
    · refine ⟨h1.anti fun b o hb => (hown b o hb).elim .inl .inr, h2, fun b hb => ?_⟩
      rcases h3 b hb with h3 | h3
      · obtain ⟨i', e', hi', hb'⟩ := hrow b h3
        exact (h.vec i' e' hi').2.2 b hb'
      · exact ⟨fun hF => by have := h.fold _ hF; have := h.keeps.size; omega, fun o ho => by have := h.base b o ho; omega⟩
  · have key : ∀ s j s' j', Hold { Γ with ρ := Γ.ρ ++ rs } { st with nx := st.nx + rs.length, vec := vec' } s j b → Hold { Γ with ρ := Γ.ρ ++ rs } { st with nx := st.nx + rs.length, vec := vec' } s' j' b → s = true → s' = false → False := by
      intro s j s' j' h1 h2 e1 e2
      subst e1 e2
      have h1' : Hold Γ st true j b := (hhold _ _ _ h1).resolve_right fun hx => by cases hx.1
      rcases hhold _ _ _ h2 with h2' | ⟨-, h2' | h2'⟩
      · have := (h.inj _ _ _ _ _ h1' h2').1; cases this
      · obtain ⟨i, hi⟩ := hrow b h2'; have := (h.inj _ _ _ _ _ h1' hi).1; cases this
      · have := h.hold_lt h1'; omega
    cases s <;> cases s'
    · rcases h1.inv with ⟨e, -⟩ | ⟨-, e1, k1, b1⟩
      · cases e
      · rcases h2.inv with ⟨e, -⟩ | ⟨-, e2, k2, b2⟩
        · cases e
        · exact ⟨rfl, hi _ _ _ _ _ k1 k2 b1 b2⟩
    · exact (key _ _ _ _ h2 h1 rfl rfl).elim
    · exact (key _ _ _ _ h1 h2 rfl rfl).elim
    · exact h.inj _ _ _ _ _ ((hhold _ _ _ h1).resolve_right fun hx => by cases hx.1) ((hhold _ _ _ h2).resolve_right fun hx => by cases hx.1)
  · have := h.fold i hi; have := h.keeps.size; omega
  · obtain ⟨j, e', hj, hb⟩ := hrow i e.symm; exact ((h.vec j e' hj).2.2 i hb).1 hi

/-! Behind a call -/
theorem Lfs.freshL_wf (nb : Nat) : ∀ (ks : List Lk) (i n : Nat), i + ks.length ≤ n → (freshL ks i).all (Lf.wf n nb) = true
  | [], _, _, _ => rfl
  | k :: ks, i, n, h => by
    simp only [List.length_cons] at h
    simp only [freshL, List.all_cons, Bool.and_eq_true]
    refine ⟨?_, Lfs.freshL_wf nb ks (i + 1) n (by omega)⟩
    cases k <;> simp only [Lf.ofKind, Lf.wf, E.wf, B.wf, Nat.blt_eq] <;> omega
theorem St.wf_grow {st : St} (h : st.wf = true) (n : Nat) : ({ st with nx := st.nx + n } : St).wf = true := by
  simp only [St.wf, Bool.and_eq_true, List.all_eq_true] at h ⊢
  refine ⟨⟨⟨fun p hp => ?_, fun p hp => ?_⟩, fun p hp => ?_⟩, fun p hp => ?_⟩
  · have := h.1.1.1 p hp
    cases hv : p.2 with
    | none => rfl
    | some sv => rw [hv] at this; exact SV.wf_mono (Nat.le_add_right _ _) sv this
  · have := h.1.1.2 p hp
    cases hv : p.2 with
    | none => rfl
    | some mb => rw [hv] at this; exact Lfs.wf_mono (Nat.le_add_right _ _) this
  · have := h.1.2 p hp
    cases hv : p.2 with
    | none => rfl
    | some e =>
      rw [hv] at this
      simp only [wfV, Bool.and_eq_true, Nat.blt_eq] at this ⊢
      exact ⟨by omega, E.wf_mono (Nat.le_add_right _ _) _ this.2⟩
  · have := h.2 p hp
    cases hv : p.2 with
    | none => rfl
    | some e =>
      rw [hv] at this
      simp only [wfC, Bool.and_eq_true, Nat.blt_eq] at this ⊢
      exact ⟨⟨by omega, List.all_eq_true.2 fun s hs => S0.wf_mono (Nat.le_add_right _ _) s (List.all_eq_true.1 this.1.2 s hs)⟩, Lfs.wf_mono (Nat.le_add_right _ _) this.2⟩
theorem freshMem_noBox (nb : Nat) : ∀ (ss : List Sh0) (i : Nat), ss.all (fun s => !s.isBox) = true → freshMem nb ss i = []
  | [], _, _ => rfl
  | s :: ss, i, h => by
    simp only [List.all_cons, Bool.and_eq_true] at h
    cases s with
    | box t l => cases h.1
    | lf k => exact freshMem_noBox nb ss _ h.2
    | agg l => exact freshMem_noBox nb ss _ h.2
theorem isBox_noBox : ∀ {ss : List Sh0} {vs : List Value} {i : Nat}, ss.all (fun s => !s.isBox) = true → ¬ IsBox ss vs i
  | [], vs, i, _, h => by cases vs <;> exact h
  | s :: ss, [], i, hb, h => by cases s <;> exact h
  | s :: ss, v :: vs, i, hb, h => by
    simp only [List.all_cons, Bool.and_eq_true] at hb
    cases s with
    | box t l => cases hb.1
    | lf k => exact isBox_noBox (ss := ss) (vs := vs) hb.2 h
    | agg l => exact isBox_noBox (ss := ss) (vs := vs) hb.2 h
theorem at_app2 {ρ cs ds : List C} {j : Nat} {c : C} (h : ds[j]? = some c) : at_ (ρ ++ (cs ++ ds)) (ρ.length + cs.length + j) = c := by
  rw [← List.append_assoc, ← List.length_append]
  exact at_app h
/-- Blocks that are not known yet, but nobody else's. -/
def Env.addL (Γ : Env) (VB : List Nat) : Env := { Γ with base := fun x o => Γ.base x o ∨ x ∈ VB }
section
variable {P : Program} {F : Nat → Prop} {w0 : World} {Γ : Env} {st : St} {a : Act} {w : World} {VB : List Nat}
theorem Lf.den_addL (l : Lf) : l.den (Γ.addL VB) = l.den Γ := by cases l <;> rfl
theorem dens_addL (l : List Lf) : dens (Γ.addL VB) l = dens Γ l := by
  unfold dens; rw [List.map_congr_left fun x _ => Lf.den_addL x]
theorem S0.den_addL (s : S0) : s.den (Γ.addL VB) = s.den Γ := by
  cases s with
  | lf l => exact Lf.den_addL l
  | agg l => simp only [S0.den, dens_addL]
theorem SV.den_addL (s : SV) : s.den (Γ.addL VB) = s.den Γ := by
  cases s with
  | one s => exact S0.den_addL s
  | tup l => simp only [SV.den]; rw [List.map_congr_left fun x _ => S0.den_addL x]
  | fn f l => simp only [SV.den, dens_addL]
theorem Lf.ok_addL {O : Nat → Nat → Prop} {l : Lf} : l.ok P w O (Γ.addL VB) ↔ l.ok P w O Γ := by cases l <;> exact Iff.rfl
theorem S0.ok_addL {O : Nat → Nat → Prop} {s : S0} : s.ok P w O (Γ.addL VB) ↔ s.ok P w O Γ := ⟨fun h l hl => Lf.ok_addL.1 (h l hl), fun h l hl => Lf.ok_addL.2 (h l hl)⟩
theorem SV.ok_addL {O : Nat → Nat → Prop} {s : SV} : s.ok P w O (Γ.addL VB) ↔ s.ok P w O Γ := by
  cases s with
  | one s => exact S0.ok_addL
  | tup l => exact ⟨fun h s hs => S0.ok_addL.1 (h s hs), fun h s hs => S0.ok_addL.2 (h s hs)⟩
  | fn f l => exact ⟨fun h l hl => Lf.ok_addL.1 (h l hl), fun h l hl => Lf.ok_addL.2 (h l hl)⟩
theorem Hold.addL {s : Bool} {j b : Nat} : Hold (Γ.addL VB) st s j b ↔ Hold Γ st s j b := by cases s <;> exact Iff.rfl
theorem Own.addL {b o : Nat} : Own (Γ.addL VB) st b o ↔ Own Γ st b o ∨ b ∈ VB := by
  constructor
  · intro h
    rcases Own.iff.1 h with (h | h) | ⟨s, j, h⟩
    · exact .inl (.inl h)
    · exact .inr h
    · exact .inl ((Hold.addL.1 h).own o)
  · rintro (h | h)
    · rcases Own.iff.1 h with h | ⟨s, j, h⟩
      · exact .inl (.inl h)
      · exact Hold.own (Γ := Γ.addL VB) (Hold.addL.2 h) o
    · exact .inl (.inr h)
theorem Turn.addL {w' : World} (hs : w.heap.size ≤ w'.heap.size) (hk : ∀ b o, b < w.heap.size → ¬ Own Γ st b o → w'.cell? ⟨b, o, none⟩ = w.cell? ⟨b, o, none⟩) (hVB : ∀ b ∈ VB, w.heap.size ≤ b) : Turn w w' (Own Γ st) (Own (Γ.addL VB) st) :=
  ⟨hs, fun b o hb hno => ⟨hk b o hb hno, fun ho => (Own.addL.1 ho).elim hno fun hx => by have := hVB b hx; omega⟩⟩
theorem Sat.belowL (h : Sat P F w0 Γ st a w) {w' : World} (hb : Below w.heap.size w w') (hVB : ∀ b ∈ VB, w.heap.size ≤ b ∧ b < w'.heap.size) : Sat P F w0 (Γ.addL VB) st a w' := by
  have ht : Turn w w' (Own Γ st) (Own (Γ.addL VB) st) := Turn.addL hb.size (fun b o hb' _ => World.cell?_of_block (hb.block b hb')) fun b hx => (hVB b hx).1
  refine ⟨fun t sv hs => ?_, h.size, fun b mb hm => ?_, fun i e hi => ⟨(h.vec i e hi).1.keep ht.size ht.keep fun b hb' => hb.block b ((h.vec i e hi).1.lt hb'), (h.vec i e hi).2.1, fun b hb' => ⟨((h.vec i e hi).2.2 b hb').1, fun o ho => ho.elim (((h.vec i e hi).2.2 b hb').2 o) fun hx => by
      have := (h.vec i e hi).1.lt hb'; have := hVB b hx; omega⟩⟩, fun i e hi => ?_, fun s j s' j' b h1 h2 => h.inj _ _ _ _ _ (Hold.addL.1 h1) (Hold.addL.1 h2), h.keeps.trans (Keeps.of_below hb fun i hi => ?_), h.fold, fun b o hb' => hb'.elim (fun hb' => Nat.lt_of_lt_of_le (h.base b o hb') hb.size) fun hx => (hVB b hx).2, h.defers, h.len, h.nb, h.num⟩
  · obtain ⟨h1, h2⟩ := h.slots_keep ht t sv hs
    exact ⟨by rw [SV.den_addL]; exact h1, SV.ok_addL.2 h2⟩
  · obtain ⟨h1, h2, h3, h4⟩ := h.mem b mb hm
    exact ⟨by rw [dens_addL]; exact h1.below hb, fun l hl => Lf.ok_addL.2 (Lf.ok_keep (h2 l hl) ht.size ht.keep), h3, h4⟩
  · obtain ⟨h1, h2, h3⟩ := h.clo_keep ht i e hi
    refine ⟨?_, fun s hs => S0.ok_addL.2 (h2 s hs), fun l hl => Lf.ok_addL.2 (h3 l hl)⟩
    rw [List.map_congr_left fun s _ => S0.den_addL s, List.map_congr_left fun l _ => Lf.den_addL l]
    exact h1
  · have := h.fold i hi; have := h.keeps.size; omega
theorem Sat.modL (h : Sat P F w0 Γ st a w) {b : Nat} {mb : TypeId × List Lf} (hb : look st.mem b = some mb) {w' : World} (hk : Keeps (fun i => i < w.heap.size ∧ i ≠ Γ.blk b) w w') {cs : List Lf}
    (hnew : Blk w' (Γ.blk b) mb.1 (dens Γ cs)) (hVB : ∀ b ∈ VB, w.heap.size ≤ b ∧ b < w'.heap.size) (hok : ∀ l ∈ cs, l.ok P w' (Own (Γ.addL VB) st) Γ) : Sat P F w0 (Γ.addL VB) { st with mem := (b, some (mb.1, cs)) :: st.mem } a w' := by
  obtain ⟨m1, m2, m3, m4⟩ := h.mem b mb hb
  have hhold : ∀ s j x, Hold (Γ.addL VB) { st with mem := (b, some (mb.1, cs)) :: st.mem } s j x → Hold Γ st s j x := fun s j x hh =>
    Hold.congr (Γ := Γ) (st := st) (Γ' := Γ.addL VB) (st' := { st with mem := (b, some (mb.1, cs)) :: st.mem }) (fun j mj hj => ⟨by
      simp only [look] at hj
      split at hj
      · rename_i e; subst e; exact ⟨mb, hb⟩
      · exact ⟨mj, hj⟩, rfl⟩) (fun i e hi => ⟨⟨e, hi⟩, rfl⟩) hh
  have hown : ∀ k o, Own (Γ.addL VB) { st with mem := (b, some (mb.1, cs)) :: st.mem } k o → Own (Γ.addL VB) st k o := fun k o hk => by
    rcases Own.iff.1 hk with hk | ⟨s, j, hh⟩
    · exact .inl hk
    · exact Hold.own (Γ := Γ.addL VB) (Hold.addL.2 (hhold s j k hh)) o
  have hbh : Hold Γ st true b (Γ.blk b) := .mem hb
  have ht0 : Turn w w' (Own Γ st) (Own (Γ.addL VB) st) := Turn.addL hk.size (fun k o hlt hno => World.cell?_of_block (hk.block k ⟨hlt, fun e => hno (e ▸ hbh.own o)⟩)) fun b hx => (hVB b hx).1
  have ht : Turn w w' (Own Γ st) (Own (Γ.addL VB) { st with mem := (b, some (mb.1, cs)) :: st.mem }) :=
    ⟨hk.size, fun k o hlt hno => ⟨(ht0.keep k o hlt hno).1, fun ho => (ht0.keep k o hlt hno).2 (hown k o ho)⟩⟩
  refine ⟨fun t sv hs => ?_, h.size, fun c mc hm => ?_, fun i e hi => ⟨(h.vec i e hi).1.keep ht.size ht.keep fun b' hb' => hk.block b' ⟨(h.vec i e hi).1.lt hb', fun e' => by
      have := (h.inj _ _ _ _ _ (Hold.vec (Γ := Γ) hi hb') (e' ▸ hbh)).1; cases this⟩, (h.vec i e hi).2.1, fun b' hb' => ⟨((h.vec i e hi).2.2 b' hb').1, fun o ho => ho.elim (((h.vec i e hi).2.2 b' hb').2 o) fun hx => by
      have := (h.vec i e hi).1.lt hb'; have := hVB b' hx; omega⟩⟩, fun i e hi => ?_, fun s j s' j' x h1 h2 => h.inj _ _ _ _ _ (hhold _ _ _ h1) (hhold _ _ _ h2), h.keeps.trans ⟨hk.os, hk.tape, hk.output, hk.size, fun i hi => hk.block i ⟨?_, fun e => m3 (e ▸ hi)⟩⟩, h.fold, fun b' o hb' => hb'.elim (fun hb' => Nat.lt_of_lt_of_le (h.base b' o hb') hk.size) fun hx => (hVB b' hx).2, h.defers, h.len, h.nb, h.num⟩
  · obtain ⟨h1, h2⟩ := h.slots_keep ht t sv hs
    exact ⟨by rw [SV.den_addL]; exact h1, SV.ok_addL.2 h2⟩
  · simp only [look] at hm
    split at hm
    · rename_i e
      subst e
      cases hm
      exact ⟨by rw [dens_addL]; exact hnew, fun l hl => Lf.ok_addL.2 ((hok l hl).anti' hown), m3, m4⟩
    · rename_i e
      obtain ⟨h1, h2, h3, h4⟩ := h.mem c mc hm
      refine ⟨?_, fun l hl => Lf.ok_addL.2 (Lf.ok_keep (h2 l hl) ht.size ht.keep), h3, h4⟩
      rw [dens_addL]
      exact (hk.block (Γ.blk c) ⟨h1.lt, fun e' => e (h.inj _ _ _ _ _ (Hold.mem (Γ := Γ) hm) (e' ▸ hbh)).2.symm⟩).trans h1
  · obtain ⟨h1, h2, h3⟩ := h.clo_keep ht i e hi
    refine ⟨?_, fun s hs => S0.ok_addL.2 (h2 s hs), fun l hl => Lf.ok_addL.2 (h3 l hl)⟩
    rw [List.map_congr_left fun s _ => S0.den_addL s, List.map_congr_left fun l _ => Lf.den_addL l]
    exact h1
  · have := h.fold i hi; have := h.keeps.size; omega
theorem look_freshV {m : Vecs} : ∀ {ks : List Lk} {i0 i : Nat} {e : TypeId × E}, look (freshV ks i0 ++ m) i = some e → (∃ j t, i = i0 + j ∧ ks[j]? = some (.vec t) ∧ e = (t, .var i)) ∨ ((∀ j t, i = i0 + j → ks[j]? ≠ some (.vec t)) ∧ look m i = some e)
  | [], i0, i, e, h => .inr ⟨fun j t _ => by simp, h⟩
  | k :: ks, i0, i, e, h => by
    have next : look (freshV ks (i0 + 1) ++ m) i = some e → (∀ t, i = i0 → k ≠ .vec t) → (∃ j t, i = i0 + j ∧ (k :: ks)[j]? = some (.vec t) ∧ e = (t, .var i)) ∨ ((∀ j t, i = i0 + j → (k :: ks)[j]? ≠ some (.vec t)) ∧ look m i = some e) := fun h hk => by
      rcases look_freshV h with ⟨j, t, rfl, hj, he⟩ | ⟨h1, h2⟩
      · exact .inl ⟨j + 1, t, by omega, by simpa using hj, he⟩
      · refine .inr ⟨fun j t hj => ?_, h2⟩
        cases j with
        | zero => simpa using hk t (by omega)
        | succ j => simpa using h1 j t (by omega)
    cases k with
    | vec t =>
      simp only [freshV, List.cons_append, look] at h
      split at h
      · rename_i e'; subst e'; cases h; exact .inl ⟨0, t, rfl, rfl, rfl⟩
      · rename_i hne; exact next h fun _ e' => absurd e'.symm hne
    | int => exact next h fun _ _ => by simp
    | bool => exact next h fun _ _ => by simp
    | opq => exact next h fun _ _ => by simp
    | arr t => exact next h fun _ _ => by simp
theorem vecB_mem : ∀ {ks : List Lk} {cs : List C} {j : Nat} {t : TypeId} {c : C} {b : Nat}, ks[j]? = some (.vec t) → cs[j]? = some c → c.loc.ownBlock = some b → b ∈ vecB ks cs
  | [], _, _, _, _, _, h, _, _ => by simp at h
  | _ :: _, [], _, _, _, _, _, h, _ => by simp at h
  | k :: ks, x :: cs, 0, t, c, b, h1, h2, h3 => by
    simp at h1 h2; subst h1 h2
    simp [vecB, h3]
  | k :: ks, x :: cs, j + 1, t, c, b, h1, h2, h3 => by
    have := vecB_mem (ks := ks) (cs := cs) (by simpa using h1) (by simpa using h2) h3
    cases k <;> simp [vecB, this]
theorem vecB_inj : ∀ {ks : List Lk} {cs : List C} {j j' : Nat} {t t' : TypeId} {c c' : C} {b : Nat}, (vecB ks cs).Nodup → ks[j]? = some (.vec t) → cs[j]? = some c → c.loc.ownBlock = some b → ks[j']? = some (.vec t') → cs[j']? = some c' → c'.loc.ownBlock = some b → j = j'
  | [], _, _, _, _, _, _, _, _, _, h, _, _, _, _, _ => by simp at h
  | _ :: _, [], _, _, _, _, _, _, _, _, _, h, _, _, _, _ => by simp at h
  | k :: ks, x :: cs, j, j', t, t', c, c', b, hn, h1, h2, h3, h4, h5, h6 => by
    have tail : (vecB ks cs).Nodup := by
      cases k with
      | vec t => simp only [vecB] at hn; exact (List.nodup_append.1 hn).2.1
      | _ => exact hn
    have key : ∀ (i : Nat) (u : TypeId) (d : C), (k :: ks)[0]? = some (.vec t) → (x :: cs)[0]? = some c → c.loc.ownBlock = some b → ks[i]? = some (.vec u) → cs[i]? = some d → d.loc.ownBlock = some b → ∀ (t : TypeId), k = .vec t → x.loc.ownBlock = some b → False := fun i u d _ _ _ g1 g2 g3 t e1 e2 => by
      subst e1
      simp only [vecB, e2] at hn
      exact (List.nodup_append.1 hn).2.2 b (by simp) b (vecB_mem g1 g2 g3) rfl
    cases j with
    | zero =>
      cases j' with
      | zero => rfl
      | succ j' =>
        exfalso
        simp at h1 h2; subst h1 h2
        exact key j' t' c' rfl rfl h3 (by simpa using h4) (by simpa using h5) h6 t rfl h3
    | succ j =>
      cases j' with
      | zero =>
        exfalso
        simp at h4 h5; subst h4 h5
        simp only [vecB, h6] at hn
        exact (List.nodup_append.1 hn).2.2 b (by simp) b (vecB_mem (by simpa using h1) (by simpa using h2) h3) rfl
      | succ j' => exact congrArg (· + 1) (vecB_inj (t := t) (t' := t') (c := c) (c' := c') (b := b) tail (by simpa using h1) (by simpa using h2) h3 (by simpa using h4) (by simpa using h5) h6)
/-- New slices of one's own. -/
theorem Sat.addVecs {ks : List Lk} {cs : List C} (h : Sat P F w0 (Γ.addL (vecB ks cs)) st a w) {i0 : Nat} (hat : ∀ (j : Nat) (c : C), cs[j]? = some c → at_ Γ.ρ (i0 + j) = c) (hlt : i0 + cs.length ≤ st.nx) (hlen : cs.length = ks.length)
    (hrep : ∀ (j : Nat) (t : TypeId) (c : C), ks[j]? = some (.vec t) → cs[j]? = some c → VecOK P w (Own (Γ.addL (vecB ks cs)) st) t c.loc c) (hnd : (vecB ks cs).Nodup) (hge : ∀ b ∈ vecB ks cs, ¬ F b ∧ (∀ s j, ¬ Hold Γ st s j b) ∧ ∀ o, ¬ Γ.base b o) :
    Sat P F w0 Γ { st with vec := freshV ks i0 ++ st.vec } a w := by
  have hcell : ∀ (j : Nat) (t : TypeId), ks[j]? = some (.vec t) → ∃ c, cs[j]? = some c ∧ at_ Γ.ρ (i0 + j) = c := fun j t hj => by
    have : j < cs.length := by
      rw [hlen]
      rcases Nat.lt_or_ge j ks.length with h | h
      · exact h
      · rw [List.getElem?_eq_none h] at hj; cases hj
    exact ⟨cs[j], by simp [this], hat j _ (by simp [this])⟩
  have hhold : ∀ s j b, Hold Γ { st with vec := freshV ks i0 ++ st.vec } s j b → Hold Γ st s j b ∨ (s = false ∧ ∃ (n : Nat) (t : TypeId) (c : C), j = i0 + n ∧ ks[n]? = some (.vec t) ∧ cs[n]? = some c ∧ c.loc.ownBlock = some b) := by
    intro s j b hh
    rcases hh.inv with ⟨rfl, mb, hj, rfl⟩ | ⟨rfl, e, he', hb⟩
    · exact .inl ⟨mb, hj, rfl⟩
    · rcases look_freshV he' with ⟨n, t, rfl, hn, rfl⟩ | ⟨-, hm⟩
      · obtain ⟨c, h1, h2⟩ := hcell n t hn
        rw [h2] at hb
        exact .inr ⟨rfl, n, t, c, rfl, hn, h1, hb⟩
      · exact .inl (.vec (Γ := Γ) hm hb)
  have hown : ∀ b o, Own Γ { st with vec := freshV ks i0 ++ st.vec } b o → Own (Γ.addL (vecB ks cs)) st b o := fun b o hb => by
    rcases Own.iff.1 hb with hb | ⟨s, j, hh⟩
    · exact .inl (.inl hb)
    · rcases hhold s j b hh with hh | ⟨-, n, t, c, -, h1, h2, h3⟩
      · exact Own.addL.2 (.inl (hh.own o))
      · exact Own.addL.2 (.inr (vecB_mem h1 h2 h3))
  have ht : Turn w w (Own (Γ.addL (vecB ks cs)) st) (Own Γ { st with vec := freshV ks i0 ++ st.vec }) := ⟨Nat.le_refl _, fun b o _ hno => ⟨rfl, fun ho => hno (hown b o ho)⟩⟩
  refine ⟨fun t sv hs => ?_, h.size, fun b mb hm => ?_, fun i e hi => ?_, fun i e hi => ?_, fun s j s' j' b h1 h2 => ?_, h.keeps, h.fold, fun b o hb => h.base b o (.inl hb), h.defers, h.len, h.nb, h.num⟩
  · obtain ⟨h1, h2⟩ := h.slots_keep ht t sv hs
    rw [SV.den_addL] at h1
    exact ⟨h1, SV.ok_addL.1 h2⟩
  · obtain ⟨h1, h2, h3, h4⟩ := h.mem b mb hm
    rw [dens_addL] at h1
    exact ⟨h1, fun l hl => Lf.ok_addL.1 (Lf.ok_keep (h2 l hl) ht.size ht.keep), h3, h4⟩
  · rcases look_freshV hi with ⟨n, t, rfl, hn, rfl⟩ | ⟨-, hm⟩
    · obtain ⟨c, h1, h2⟩ := hcell n t hn
      have hnlt : n < cs.length := by
        rcases Nat.lt_or_ge n cs.length with h | h
        · exact h
        · rw [List.getElem?_eq_none h] at h1; cases h1
      refine ⟨?_, by show _ < st.nx; omega, fun b hb => ?_⟩
      · simp only [E.ev, h2]
        exact (hrep n t c hn h1).anti hown
      · rw [h2] at hb
        have := hge b (vecB_mem hn h1 hb)
        exact ⟨this.1, this.2.2⟩
    · obtain ⟨h1, h2, h3⟩ := h.vec i e hm
      exact ⟨h1.anti hown, h2, fun b hb => ⟨(h3 b hb).1, fun o ho => (h3 b hb).2 o (.inl ho)⟩⟩
  · obtain ⟨h1, h2, h3⟩ := h.clo_keep ht i e hi
    refine ⟨?_, fun s hs => S0.ok_addL.1 (h2 s hs), fun l hl => Lf.ok_addL.1 (h3 l hl)⟩
    rw [List.map_congr_left fun s _ => S0.den_addL s, List.map_congr_left fun l _ => Lf.den_addL l] at h1
    exact h1
  · rcases hhold _ _ _ h1 with h1 | ⟨rfl, n, t, c, rfl, k1, k2, k3⟩ <;> rcases hhold _ _ _ h2 with h2 | ⟨rfl, n', t', c', rfl, k4, k5, k6⟩
    · exact h.inj _ _ _ _ _ (Hold.addL.2 h1) (Hold.addL.2 h2)
    · exact absurd h1 ((hge b (vecB_mem k4 k5 k6)).2.1 _ _)
    · exact absurd h2 ((hge b (vecB_mem k1 k2 k3)).2.1 _ _)
    · exact ⟨rfl, by rw [vecB_inj hnd k1 k2 k3 k4 k5 k6]⟩
theorem vecB_noVec : ∀ {ks : List Lk} {cs : List C}, ks.all Lk.noVec = true → vecB ks cs = []
  | [], _, _ => by simp [vecB]
  | _ :: _, [], h => by simp [vecB]
  | k :: ks, c :: cs, h => by
    simp only [List.all_cons, Bool.and_eq_true] at h
    cases k with
    | vec t => cases h.1
    | _ => exact vecB_noVec (ks := ks) h.2
theorem freshV_noVec : ∀ {ks : List Lk} {i : Nat}, ks.all Lk.noVec = true → freshV ks i = []
  | [], _, _ => rfl
  | k :: ks, i, h => by
    simp only [List.all_cons, Bool.and_eq_true] at h
    cases k with
    | vec t => cases h.1
    | _ => exact freshV_noVec (ks := ks) h.2
theorem LReps.get : ∀ {ks : List Lk} {us : List Value} {cs : List C} {O : Nat → Nat → Prop}, LReps P w O ks us cs → ∀ {j : Nat} {k : Lk} {c : C}, ks[j]? = some k → cs[j]? = some c → ∃ u, us[j]? = some u ∧ LRep P w O k u c
  | [], [], [], _, _, j, k, c, hj, _ => by simp at hj
  | _ :: _, u :: _, c :: _, _, h, 0, k, _, hj, hc => by simp at hj hc; subst hj hc; exact ⟨u, rfl, h.1⟩
  | _ :: _, _ :: _, _ :: _, _, h, j + 1, k, c, hj, hc => by simpa using LReps.get h.2 (j := j) (by simpa using hj) (by simpa using hc)
  | [], [], _ :: _, _, h, _, _, _, _, _ => h.elim
  | [], _ :: _, _, _, h, _, _, _, _, _ => h.elim
  | _ :: _, [], _, _, h, _, _, _, _, _ => h.elim
  | _ :: _, _ :: _, [], _, h, _, _, _, _, _ => h.elim
/-- The slices of one's own among results. -/
theorem Reps.vec {O : Nat → Nat → Prop} {old : Option Nat} : ∀ {ss : List Sh0} {vs : List Value} {cs : List C}, Reps P w O old ss vs cs → ∀ {j : Nat} {t : TypeId} {c : C}, (kindsOf ss)[j]? = some (.vec t) → cs[j]? = some c → VecOK P w O t c.loc c
  | [], [], cs, h, j, t, c, hj, _ => by simp [kindsOf] at hj
  | s :: ss, v :: vs, cs, h, j, t, c, hj, hc => by
    obtain ⟨c1, c2, rfl, h1, h2⟩ := h
    have hlen : c1.length = s.kinds.length := h1.ty.len
    have hko : kindsOf (s :: ss) = s.kinds ++ kindsOf ss := by simp [kindsOf]
    rw [hko] at hj
    by_cases hlt : j < s.kinds.length
    · rw [List.getElem?_append_left hlt] at hj
      rw [List.getElem?_append_left (by omega)] at hc
      have one : ∀ {O' : Nat → Nat → Prop} {us : List Value}, LReps P w O' s.kinds us c1 → (∀ b o, O b o → O' b o) → VecOK P w O t c.loc c := fun hr hO => by
        obtain ⟨u, -, hu⟩ := hr.get hj hc
        have := hu.2
        rw [← this.1]
        exact this.2.anti hO
      cases s with
      | lf k => obtain ⟨c', rfl, hr⟩ := h1; exact one (us := [v]) ⟨hr, trivial⟩ fun _ _ h => h
      | agg l => obtain ⟨us, -, hr⟩ := h1; exact one hr fun _ _ h => h
      | box t l => obtain ⟨b, us, -, -, -, hr⟩ := h1; exact one hr fun _ _ h => .inl h
    · rw [List.getElem?_append_right (by omega)] at hj
      rw [List.getElem?_append_right (by omega)] at hc
      exact Reps.vec h2 hj (by rw [← hlen]; exact hc)
  | [], _ :: _, _, h, _, _, _, _, _ => h.elim
  | _ :: _, [], _, h, _, _, _, _, _ => h.elim
theorem vecB_inv : ∀ {ks : List Lk} {cs : List C} {b : Nat}, b ∈ vecB ks cs → ∃ (j : Nat) (t : TypeId) (c : C), ks[j]? = some (.vec t) ∧ cs[j]? = some c ∧ c.loc.ownBlock = some b
  | [], _, _, h => by simp [vecB] at h
  | _ :: _, [], _, h => by simp [vecB] at h
  | k :: ks, c :: cs, b, h => by
    have next : b ∈ vecB ks cs → ∃ (j : Nat) (t : TypeId) (c' : C), (k :: ks)[j]? = some (.vec t) ∧ (c :: cs)[j]? = some c' ∧ c'.loc.ownBlock = some b := fun h => by
      obtain ⟨j, t, c', h1, h2, h3⟩ := vecB_inv h
      exact ⟨j + 1, t, c', by simpa using h1, by simpa using h2, h3⟩
    cases k with
    | vec t =>
      simp only [vecB, List.mem_append] at h
      rcases h with h | h
      · refine ⟨0, t, c, rfl, rfl, ?_⟩
        split at h
        · rename_i b' hb'; simp at h; subst h; exact hb'
        · cases h
      · exact next h
    | _ => exact next h
/-- What is known behind a call. -/
theorem Sat.called (hs : Sat P F w0 Γ st a w) (hwf : st.wf = true) {ct : Ct} {args : List S0} (hsh : shapes st.mem args = some ct.args) (hbx : boxOk ct = true)
    {w' : World} {v : Value} {rs outs : List C} (hres : Res P w' (Own Γ st) w.heap.size ct.res v rs) (houts : Outs P w' (fun b o => Own Γ st b o ∨ b ∈ vecB (kindsOf ct.res) rs) ct.args (args.map (S0.den Γ)) outs)
    (hkeep : Keeps (fun i => i < w.heap.size ∧ ¬ IsBox ct.args (args.map (S0.den Γ)) i) w w') :
    CTy P (kindsOf ct.res ++ boxKinds ct.args) (rs ++ outs) ∧ ∃ Γ', Ext Γ Γ' ∧ Γ'.ρ = Γ.ρ ++ (rs ++ outs) ∧ Sat P F w0 Γ' (st.called ct args) a w' ∧ (svOf (freshS st.nb ct.res st.nx)).den Γ' = v ∧ (svOf (freshS st.nb ct.res st.nx)).ok P w' (Own Γ' (st.called ct args)) Γ' := by
  have hrty : CTy P (kindsOf ct.res) rs := by obtain ⟨vs, -, hr, -⟩ := hres; exact hr.ty
  simp only [boxOk, Bool.and_eq_true, Bool.or_eq_true] at hbx
  obtain ⟨⟨hb1, hb2⟩, hb3⟩ := hbx
  have hrep : ∀ (j : Nat) (t : TypeId) (c : C), (kindsOf ct.res)[j]? = some (.vec t) → rs[j]? = some c → VecOK P w' (fun b o => Own Γ st b o ∨ b ∈ vecB (kindsOf ct.res) rs) t c.loc c := fun j t c h1 h2 => by
    obtain ⟨vs, -, hr, -⟩ := hres; exact hr.vec h1 h2
  have hnd : (vecB (kindsOf ct.res) rs).Nodup := hres.choose_spec.2.2.1
  have hge : ∀ b ∈ vecB (kindsOf ct.res) rs, w.heap.size ≤ b ∧ b < w'.heap.size := fun b hb => by
    refine ⟨hres.choose_spec.2.2.2 b hb, ?_⟩
    obtain ⟨j, t, c, h1, h2, h3⟩ := vecB_inv hb
    exact (hrep j t c h1 h2).lt h3
  have hge2 : ∀ b ∈ vecB (kindsOf ct.res) rs, ¬ F b ∧ (∀ s j, ¬ Hold Γ st s j b) ∧ ∀ o, ¬ Γ.base b o := fun b hb => by
    have h1 := (hge b hb).1
    exact ⟨fun hF => by have := hs.fold _ hF; have := hs.keeps.size; omega, fun s j hh => by have := hs.hold_lt hh; omega, fun o ho => by have := hs.base b o ho; omega⟩
  rcases outs_one hsh (Nat.le_of_ble_eq_true hb1) houts with hno | ⟨b, mb, us, g1, g2, g3, g4, g5, g6, g7⟩
  · obtain ⟨n1, n2, n3, n4⟩ := shapes_noBox hsh hno
    have ho := outs_noBox hno houts
    subst ho
    have hbel : Below w.heap.size w w' := ⟨hkeep.os, hkeep.tape, hkeep.output, hkeep.size, fun i hi => hkeep.block i ⟨hi, n3 _ i⟩⟩
    have hty : CTy P (kindsOf ct.res ++ boxKinds ct.args) (rs ++ []) := by rw [n2]; exact CTy.append hrty trivial
    refine ⟨hty, ?_⟩
    have hsm : Smalls (Γ.ρ ++ (rs ++ [])) := hs.num.len.app fun c hc => hty.small c hc
    have hbm : boxMem st.mem args (boxKinds ct.args) (st.nx + (kindsOf ct.res).length) = [] := by unfold boxMem; rw [n1]
    by_cases hrb : ct.res.all (fun s => !s.isBox) = true
    · have hfm := freshMem_noBox st.nb ct.res st.nx hrb
      have hgrow : Sat P F w0 (({ Γ with ρ := Γ.ρ ++ (rs ++ []) } : Env).addL (vecB (kindsOf ct.res) rs)) { st with nx := st.nx + (rs ++ []).length } a w' := (hs.belowL hbel hge).grow (rs := rs ++ []) hwf hsm
      rw [hty.len] at hgrow
      have hat : ∀ j c, rs[j]? = some c → at_ ({ Γ with ρ := Γ.ρ ++ (rs ++ []) } : Env).ρ (st.nx + j) = c := fun j c hj => by rw [← hs.len]; exact at_app (by rw [List.append_nil]; exact hj)
      have hadd := hgrow.addVecs hat (by show st.nx + rs.length ≤ st.nx + _; rw [hrty.len]; simp) hrty.len (fun j t c h1 h2 => (hrep j t c h1 h2).anti fun b o hb => (Own.addL.1 hb).imp (fun hb => by
          rcases Own.iff.1 hb with hb | ⟨s, j, hh⟩
          · exact .inl hb
          · exact Hold.own (Hold.congr (Γ := Γ) (st := st) (Γ' := { Γ with ρ := Γ.ρ ++ (rs ++ []) }) (st' := { st with nx := st.nx + (kindsOf ct.res ++ boxKinds ct.args).length }) (fun j mb hj => ⟨⟨mb, hj⟩, rfl⟩) (fun i e hi => ⟨⟨e, hi⟩, hs.vec_at (Γ' := { Γ with ρ := Γ.ρ ++ (rs ++ []) }) ⟨⟨_, rfl⟩, fun _ _ => rfl, Nat.le_refl _, rfl, rfl⟩ hi⟩) hh) o) id) hnd fun b hb => ⟨(hge2 b hb).1, fun s j hh => (hge2 b hb).2.1 s j (Hold.congr (Γ := Γ) (st := st) (Γ' := { Γ with ρ := Γ.ρ ++ (rs ++ []) }) (st' := { st with nx := st.nx + (kindsOf ct.res ++ boxKinds ct.args).length }) (fun j mb hj => ⟨⟨mb, hj⟩, rfl⟩) (fun i e hi => ⟨⟨e, hi⟩, hs.vec_at (Γ' := { Γ with ρ := Γ.ρ ++ (rs ++ []) }) ⟨⟨_, rfl⟩, fun _ _ => rfl, Nat.le_refl _, rfl, rfl⟩ hi⟩) hh), (hge2 b hb).2.2⟩
      have hcall : st.called ct args = { st with nx := st.nx + (kindsOf ct.res ++ boxKinds ct.args).length, vec := freshV (kindsOf ct.res) st.nx ++ st.vec } := by unfold St.called; rw [hfm, hbm]; rfl
      refine ⟨{ Γ with ρ := Γ.ρ ++ (rs ++ []) }, ⟨⟨_, rfl⟩, fun _ _ => rfl, Nat.le_refl _, rfl, rfl⟩, rfl, by rw [hcall]; exact hadd, ?_⟩
      have := svOf_rep (Γ := { Γ with ρ := Γ.ρ ++ (rs ++ []) }) (nb := st.nb) hres (fun vs _ _ b hb => absurd hb (isBox_noBox hrb)) (i := st.nx) hat
      refine ⟨this.1, SV.ok_keep this.2 (Nat.le_refl _) fun b o _ hno => ⟨rfl, fun hx => hno ?_⟩⟩
      rw [hcall] at hx
      rcases Own.iff.1 hx with hx | ⟨s, j, hh⟩
      · exact .inl (.inl hx)
      · rcases hh.inv with ⟨rfl, mb, hj, rfl⟩ | ⟨rfl, e, he', hb⟩
        · exact .inl ((Hold.mem (Γ := Γ) (st := st) hj).own o)
        · rcases look_freshV he' with ⟨n, t, rfl, hn, rfl⟩ | ⟨-, hm⟩
          · have hnlt : n < rs.length := by
              rw [hrty.len]
              rcases Nat.lt_or_ge n (kindsOf ct.res).length with h | h
              · exact h
              · rw [List.getElem?_eq_none h] at hn; cases hn
            rw [hat n rs[n] (by simp [hnlt])] at hb
            exact .inr (vecB_mem hn (by simp [hnlt]) hb)
          · exact .inl (Hold.own (Hold.vec (Γ := Γ) hm (by rw [← hs.vec_at (Γ' := { Γ with ρ := Γ.ρ ++ (rs ++ []) }) ⟨⟨_, rfl⟩, fun _ _ => rfl, Nat.le_refl _, rfl, rfl⟩ hm]; exact hb)) o)
    · have hone := hb2.resolve_left hrb
      have h1 := Nat.eq_of_beq_eq_true hone.1.1
      have hnv := hone.2
      have hvb : vecB (kindsOf ct.res) rs = [] := vecB_noVec hnv
      have hfv : freshV (kindsOf ct.res) st.nx = [] := freshV_noVec hnv
      obtain ⟨s, hs1⟩ : ∃ s, ct.res = [s] := by
        match hr : ct.res, h1 with
        | [s], _ => exact ⟨s, rfl⟩
      obtain ⟨vs, hv, hr, -, -⟩ := hres
      rw [hvb] at hr
      rw [hs1] at hrb hr hrty ⊢
      cases s with
      | lf k => exact absurd rfl hrb
      | agg l => exact absurd rfl hrb
      | box t l =>
        match vs, hr with
        | [x], hr =>
          obtain ⟨c1, c2, hc, hr1, hr2⟩ := hr
          cases hr2
          rw [List.append_nil] at hc
          subst hc
          obtain ⟨nb', us, rfl, hblk, hge', hrep'⟩ := hr1
          subst hv
          have hO := (hs.belowO hbel hge' hblk.lt).grow hwf hsm
          rw [hty.len] at hO
          have hk1 : kindsOf ([.box t l] : List Sh0) = l := by simp [kindsOf, Sh0.kinds]
          have hO' : Sat P F w0 (({ Γ with ρ := Γ.ρ ++ (rs ++ []) } : Env).addO (· = nb')) { st with nx := st.nx + (kindsOf ct.res ++ boxKinds ct.args).length } a w' := hO
          have hfr := freshL_rep (P := P) (w := w') (O := fun x o => Own Γ st x o ∨ x = nb') (Γ := { Γ with ρ := Γ.ρ ++ (rs ++ []) }) (hrep'.weaken fun x o hx => by
            rcases hx with hx | hx
            · exact .inl (.inl hx)
            · exact .inr (congrArg some (Eq.symm hx))) st.nx (fun j c hj => by rw [← hs.len, List.append_nil]; exact at_app hj)
          have hcs : (freshL l st.nx).all (Lf.wf (st.nx + (kindsOf ct.res ++ boxKinds ct.args).length) st.nb) = true := Lfs.freshL_wf st.nb l st.nx _ (by rw [hs1, hk1, List.length_append]; omega)
          have hcg : ∀ s j b, Hold ({ Γ with ρ := Γ.ρ ++ (rs ++ []) } : Env) { st with nx := st.nx + (kindsOf ct.res ++ boxKinds ct.args).length } s j b → Hold Γ st s j b := fun s j b hh =>
            Hold.congr (Γ := Γ) (st := st) (Γ' := { Γ with ρ := Γ.ρ ++ (rs ++ []) }) (st' := { st with nx := st.nx + (kindsOf ct.res ++ boxKinds ct.args).length }) (fun j mb hj => ⟨⟨mb, hj⟩, rfl⟩) (fun i e hi => ⟨⟨e, hi⟩, hs.vec_at (Γ' := { Γ with ρ := Γ.ρ ++ (rs ++ []) }) ⟨⟨_, rfl⟩, fun _ _ => rfl, Nat.le_refl _, rfl, rfl⟩ hi⟩) hh
          obtain ⟨Γ', e1, e2, e3, e4⟩ := hO'.adopt' (St.wf_grow hwf _) hcs (t := t) (by unfold dens; rw [hfr.1]; exact hblk) (by have := hs.keeps.size; omega) (fun s j hh => by have := hs.hold_lt (hcg s j _ hh); omega)
            (fun x hx => (hfr.2 x hx).anti' (fun y o hy => by
              rcases Own.iff.1 hy with (hy | hy) | ⟨s, j, hh⟩
              · exact .inl (.inl hy)
              · exact .inr hy
              · exact .inl ((hcg s j y hh.addO).own o)))
          have hcall : st.called ct args = { ({ st with nx := st.nx + (kindsOf ct.res ++ boxKinds ct.args).length } : St) with mem := (st.nb, some (t, freshL l st.nx)) :: st.mem, nb := st.nb + 1 } := by
            unfold St.called; rw [hbm, hfv, hs1]; rfl
          refine ⟨Γ', (⟨⟨rs ++ [], rfl⟩, fun _ _ => rfl, Nat.le_refl _, rfl, rfl⟩ : Ext Γ { Γ with ρ := Γ.ρ ++ (rs ++ []) }).trans e1, e2, by rw [hcall]; exact e4, ?_, ?_⟩
          · show Value.pointer (some ⟨Γ'.blk st.nb, 0, none⟩) = _
            rw [show Γ'.blk st.nb = nb' from e3]
          · intro y hy
            have : y = .ptr st.nb 0 := by simpa [svOf, freshS, Sh0.fresh, S0.cells] using hy
            subst this
            trivial
  · have hrb : ct.res.all (fun s => !s.isBox) = true := by
      rcases hb2 with h | h
      · exact h
      · exfalso
        obtain ⟨n1, -⟩ := shapes_noBox hsh h.1.2
        rw [n1] at g1; cases g1
    have hty : CTy P (kindsOf ct.res ++ boxKinds ct.args) (rs ++ outs) := CTy.append hrty g5.ty
    refine ⟨hty, ?_⟩
    have hsm : Smalls (Γ.ρ ++ (rs ++ outs)) := hs.num.len.app fun c hc => hty.small c hc
    have hgrow := hs.grow hwf hsm
    rw [hty.len] at hgrow
    have he : Ext Γ ({ Γ with ρ := Γ.ρ ++ (rs ++ outs) } : Env) := ⟨⟨_, rfl⟩, fun _ _ => rfl, Nat.le_refl _, rfl, rfl⟩
    have hfm := freshMem_noBox st.nb ct.res st.nx hrb
    have hbm : boxMem st.mem args (boxKinds ct.args) (st.nx + (kindsOf ct.res).length) = [(b, some (mb.1, freshL (boxKinds ct.args) (st.nx + (kindsOf ct.res).length)))] := by unfold boxMem; rw [g1]; simp only [g2]
    have hcall : st.called ct args = { ({ st with nx := st.nx + (kindsOf ct.res ++ boxKinds ct.args).length } : St) with mem := (b, some (mb.1, freshL (boxKinds ct.args) (st.nx + (kindsOf ct.res).length))) :: st.mem, vec := freshV (kindsOf ct.res) st.nx ++ st.vec } := by
      unfold St.called; rw [hfm, hbm]; rfl
    have hfr := freshL_rep (P := P) (w := w') (O := fun b o => Own Γ st b o ∨ b ∈ vecB (kindsOf ct.res) rs) (Γ := { Γ with ρ := Γ.ρ ++ (rs ++ outs) }) g5 (st.nx + (kindsOf ct.res).length) (fun j c hj => by rw [← hs.len, ← hrty.len]; exact at_app2 hj)
    generalize hcs : freshL (boxKinds ct.args) (st.nx + (kindsOf ct.res).length) = cs at *
    have hcg : ∀ s j x, Hold ({ Γ with ρ := Γ.ρ ++ (rs ++ outs) } : Env) { st with nx := st.nx + (kindsOf ct.res ++ boxKinds ct.args).length, mem := (b, some (mb.1, cs)) :: st.mem } s j x → Hold Γ st s j x := fun s j x hh =>
      Hold.congr (Γ := Γ) (st := st) (Γ' := { Γ with ρ := Γ.ρ ++ (rs ++ outs) }) (st' := { st with nx := st.nx + (kindsOf ct.res ++ boxKinds ct.args).length, mem := (b, some (mb.1, cs)) :: st.mem }) (fun j mj hj => ⟨by
        simp only [look] at hj
        split at hj
        · rename_i e; subst e; exact ⟨mb, g2⟩
        · exact ⟨mj, hj⟩, rfl⟩) (fun i e hi => ⟨⟨e, hi⟩, hs.vec_at he hi⟩) hh
    have hcg0 : ∀ s j x, Hold ({ Γ with ρ := Γ.ρ ++ (rs ++ outs) } : Env) { st with nx := st.nx + (kindsOf ct.res ++ boxKinds ct.args).length } s j x → Hold Γ st s j x := fun s j x hh =>
      Hold.congr (Γ := Γ) (st := st) (Γ' := { Γ with ρ := Γ.ρ ++ (rs ++ outs) }) (st' := { st with nx := st.nx + (kindsOf ct.res ++ boxKinds ct.args).length }) (fun j mj hj => ⟨⟨mj, hj⟩, rfl⟩) (fun i e hi => ⟨⟨e, hi⟩, hs.vec_at he hi⟩) hh
    have hmod := hgrow.modL (VB := vecB (kindsOf ct.res) rs) (b := b) (mb := mb) g2 (w' := w') ⟨hkeep.os, hkeep.tape, hkeep.output, hkeep.size, fun i hi => hkeep.block i ⟨hi.1, fun hx => hi.2 (g6 i hx)⟩⟩ (cs := cs) (by unfold dens; rw [hfr.1]; exact g4) hge (fun l hl => (hfr.2 l hl).anti' fun x o hx => by
      rcases Own.addL.1 hx with hx | hx
      · rcases Own.iff.1 hx with hx | ⟨s, j, hh⟩
        · exact .inl (.inl hx)
        · exact .inl ((hcg0 s j x hh).own o)
      · exact .inr hx)
    have hat : ∀ j c, rs[j]? = some c → at_ ({ Γ with ρ := Γ.ρ ++ (rs ++ outs) } : Env).ρ (st.nx + j) = c := fun j c hj => by
      rw [← hs.len, ← List.append_assoc, at_ext (by
        have : j < rs.length := by
          rcases Nat.lt_or_ge j rs.length with h | h
          · exact h
          · rw [List.getElem?_eq_none h] at hj; cases hj
        simp; omega)]
      exact at_app hj
    have hownC : ∀ x o, Own ({ Γ with ρ := Γ.ρ ++ (rs ++ outs) } : Env) { st with nx := st.nx + (kindsOf ct.res ++ boxKinds ct.args).length, mem := (b, some (mb.1, cs)) :: st.mem } x o → Own Γ st x o := fun x o hx => by
      rcases Own.iff.1 hx with hx | ⟨s, j, hh⟩
      · exact .inl hx
      · exact (hcg s j x hh).own o
    have hadd := hmod.addVecs (Γ := { Γ with ρ := Γ.ρ ++ (rs ++ outs) }) hat (by show st.nx + rs.length ≤ st.nx + _; rw [hrty.len]; simp) hrty.len (fun j t c h1 h2 => (hrep j t c h1 h2).anti fun x o hx => (Own.addL.1 hx).imp (hownC x o) id) hnd fun x hx => ⟨(hge2 x hx).1, fun s j hh => (hge2 x hx).2.1 s j (hcg s j x hh), (hge2 x hx).2.2⟩
    refine ⟨{ Γ with ρ := Γ.ρ ++ (rs ++ outs) }, he, rfl, by rw [hcall]; exact hadd, ?_⟩
    have := svOf_rep (Γ := { Γ with ρ := Γ.ρ ++ (rs ++ outs) }) (nb := st.nb) hres (fun vs _ _ b hb => absurd hb (isBox_noBox hrb)) (i := st.nx) hat
    refine ⟨this.1, SV.ok_keep this.2 (Nat.le_refl _) fun x o _ hno => ⟨rfl, fun hx => hno ?_⟩⟩
    rw [hcall] at hx
    rcases Own.iff.1 hx with hx | ⟨s, j, hh⟩
    · exact .inl (.inl hx)
    · rcases hh.inv with ⟨rfl, mj, hj, rfl⟩ | ⟨rfl, e, he', hb⟩
      · exact .inl ((hcg true j _ (Hold.mem (Γ := { Γ with ρ := Γ.ρ ++ (rs ++ outs) }) hj)).own o)
      · rcases look_freshV he' with ⟨n, t, rfl, hn, rfl⟩ | ⟨-, hm⟩
        · have hnlt : n < rs.length := by
            rw [hrty.len]
            rcases Nat.lt_or_ge n (kindsOf ct.res).length with h | h
            · exact h
            · rw [List.getElem?_eq_none h] at hn; cases hn
          rw [hat n rs[n] (by simp [hnlt])] at hb
          exact .inr (vecB_mem hn (by simp [hnlt]) hb)
        · exact .inl (Hold.own (Hold.vec (Γ := Γ) hm (by rw [← hs.vec_at he hm]; exact hb)) o)
end
section
variable {cx : Cx} {R : List C → Prop} {F : Nat → Prop} {w0 : World}

/-- What follows an operation. -/
def Next (cx : Cx) (R : List C → Prop) (F : Nat → Prop) (w0 : World) (k : St → Option Tree) (Γ : Env) (Ls : List (List C → Prop)) (K : Act → World → Prop) : Prop :=
  ∀ st' T' Γ' Ls', k st' = some T' → Ext Γ Γ' → Ls <+: Ls' → Ls'.length = st'.lvl → VC cx R T' Γ'.ρ Ls' → ∀ a' w', Sat cx.P F w0 Γ' st' a' w' → K a' w'
theorem Next.mono {k : St → Option Tree} {Γ Γ1 : Env} {Ls Ls1 : List (List C → Prop)} {K : Act → World → Prop} (h : Next cx R F w0 k Γ Ls K) (he : Ext Γ Γ1) (hl : Ls <+: Ls1) : Next cx R F w0 k Γ1 Ls1 K :=
  fun st' T' Γ' Ls' hk he' hl' => h st' T' Γ' Ls' hk (he.trans he') (hl.trans hl')
/-- Several results, as a value. -/
def valOf (vs : List Value) : Value := match vs with | [x] => x | vs => .tuple vs.toArray
theorem svOf_den (Γ : Env) (l : List S0) : (svOf l).den Γ = valOf (l.map (S0.den Γ)) := by
  match l with
  | [] => rfl
  | [s] => rfl
  | s :: t :: l => rfl
theorem svOf_ok {P : Program} {w : World} {O : Nat → Nat → Prop} {Γ : Env} {l : List S0} (h : ∀ s ∈ l, s.ok P w O Γ) : (svOf l).ok P w O Γ := by
  match l with
  | [] => exact fun s hs => h s hs
  | [s] => exact h s (by simp)
  | s :: t :: l => exact fun s hs => h s hs
/-- What is done with a function without a contract is right. -/
def HOK (cx : Cx) : Prop :=
  ∀ (f : Nat) (args : List S0) (st : St) (k : List S0 → St → Option Tree) (T : Tree), cx.H f args st k = some T → Callable cx.P f ∧
    ∀ (R : List C → Prop) (F : Nat → Prop) (w0 : World) (Γ : Env) (Ls : List (List C → Prop)) (a : Act) (w : World) (K : Value → World → Prop), Ls.length = st.lvl → VC cx R T Γ.ρ Ls → Sat cx.P F w0 Γ st a w →
      st.wf = true → args.all (S0.wf st.nx st.nb) = true → (∀ s ∈ args, s.ok cx.P w (Own Γ st) Γ) →
      (∀ l st' T' Γ' Ls', k l st' = some T' → Ext Γ Γ' → Ls <+: Ls' → Ls'.length = st'.lvl → VC cx R T' Γ'.ρ Ls' → ∀ w', Sat cx.P F w0 Γ' st' a w' → (∀ s ∈ l, s.ok cx.P w' (Own Γ' st') Γ') → K (valOf (l.map (S0.den Γ'))) w') →
      Calls cx.P f (args.map (S0.den Γ)).toArray w fun e w' => ∃ v, e = .returned v ∧ K v w'
structure CxOK (cx : Cx) : Prop where
  ct : ∀ f ct, cx.ct f = some ct → Callable cx.P f ∧ CtOK cx.P f ct ∧ (ct.det = true → ∀ cs rs rs', ct.post cs rs → ct.post cs rs' → rs = rs')
  mixed : cx.P.follows .mixedOrders = true
  inl : ∀ f g, cx.inl f = some g → Callable cx.P f ∧ InlOK cx.P f g
  sel : ∀ f g, cx.sel f = some g → Callable cx.P f ∧ SelOK cx.P f g
  hd : HOK cx

end
end Go.Proofs.Ytbgofenplhdllaa
/- The engine, part 11a: what turns with slices of one's own: made, appended to, written, given up; function values. -/
namespace Go.Proofs.Ytbgofenplhdllaa
open Go.RowKit
set_option linter.unusedSimpArgs false
set_option linter.unusedVariables false

/-! Rows of cells -/
section
variable {P : Program} {w : World} {O : Nat → Nat → Prop}
theorem CReps.take : ∀ {ks : List Lk} {us : List Value} {cs : List C}, CReps P w O ks us cs → ∀ n, CReps P w O (ks.take n) (us.take n) (cs.take n)
  | [], [], [], _, n => by simp [CReps]
  | _ :: _, _ :: _, _ :: _, h, 0 => trivial
  | _ :: _, _ :: _, _ :: _, h, n + 1 => ⟨h.1, CReps.take h.2 n⟩
  | [], [], _ :: _, h, _ => h.elim
  | [], _ :: _, _, h, _ => h.elim
  | _ :: _, [], _, h, _ => h.elim
  | _ :: _, _ :: _, [], h, _ => h.elim
theorem CReps.drop : ∀ {ks : List Lk} {us : List Value} {cs : List C}, CReps P w O ks us cs → ∀ n, CReps P w O (ks.drop n) (us.drop n) (cs.drop n)
  | [], [], [], _, n => by simp [CReps]
  | _ :: _, _ :: _, _ :: _, h, 0 => h
  | _ :: _, _ :: _, _ :: _, h, n + 1 => CReps.drop h.2 n
  | [], [], _ :: _, h, _ => h.elim
  | [], _ :: _, _, h, _ => h.elim
  | _ :: _, [], _, h, _ => h.elim
  | _ :: _, _ :: _, [], h, _ => h.elim
/-- A segment written anew. -/
theorem CReps.seg {ks : List Lk} {us : List Value} {cs : List C} (h : CReps P w O ks us cs) {n m : Nat} {vs : List Value} {ds : List C} (h' : CReps P w O ((ks.drop n).take m) vs ds) :
    CReps P w O ks (us.take n ++ vs ++ us.drop (n + m)) (cs.take n ++ ds ++ cs.drop (n + m)) := by
  have e : ks = ks.take n ++ (ks.drop n).take m ++ ks.drop (n + m) := by
    rw [← List.drop_drop, List.append_assoc, List.take_append_drop, List.take_append_drop]
  have := CReps.append (CReps.append (h.take n) h') (h.drop (n + m))
  rwa [← e] at this
end
theorem flatten_len {α : Type} {sz : Nat} : ∀ {rows : List (List α)}, (∀ r ∈ rows, r.length = sz) → rows.flatten.length = rows.length * sz
  | [], _ => by simp
  | x :: rows, h => by rw [List.flatten_cons, List.length_append, flatten_len (fun r hr => h r (by simp [hr])), h x (by simp), List.length_cons, Nat.add_mul]; omega
theorem flatten_upd {sz : Nat} : ∀ {rows : List (List C)}, (∀ r ∈ rows, r.length = sz) → ∀ {i o : Nat} {l : List C}, i < rows.length → o + l.length ≤ sz →
    (updRow rows i o l).flatten = rows.flatten.take (i * sz + o) ++ l ++ rows.flatten.drop (i * sz + o + l.length) ∧ (∀ r ∈ updRow rows i o l, r.length = sz) ∧ (updRow rows i o l).length = rows.length
  | [], _, i, o, l, hi, _ => by simp at hi
  | x :: rows, h, 0, o, l, _, ho => by
    have hx := h x (by simp)
    refine ⟨?_, ?_, by simp [updRow]⟩
    · simp only [updRow, List.set_cons_zero, List.getD_cons_zero, List.flatten_cons, Nat.zero_mul, Nat.zero_add]
      rw [List.take_append_of_le_length (by omega), List.drop_append_of_le_length (by omega)]
      simp [List.append_assoc]
    · intro r hr
      simp only [updRow, List.set_cons_zero, List.getD_cons_zero] at hr
      rcases List.mem_cons.1 hr with rfl | hr
      · simp; omega
      · exact h r (by simp [hr])
  | x :: rows, h, i + 1, o, l, hi, ho => by
    have hx := h x (by simp)
    obtain ⟨h1, h2, h3⟩ := flatten_upd (rows := rows) (fun r hr => h r (by simp [hr])) (i := i) (by simpa using hi) ho
    have e : updRow (x :: rows) (i + 1) o l = x :: updRow rows i o l := by simp [updRow]
    rw [e]
    refine ⟨?_, fun r hr => ?_, by simp [h3]⟩
    · rw [List.flatten_cons, h1, List.flatten_cons]
      have e1 : (i + 1) * sz + o = x.length + (i * sz + o) := by rw [Nat.add_mul]; omega
      have e2 : (i + 1) * sz + o + l.length = x.length + (i * sz + o + l.length) := by rw [Nat.add_mul]; omega
      rw [e2, e1, List.take_length_add_append, List.drop_length_add_append]
      simp [List.append_assoc]
    · rcases List.mem_cons.1 hr with rfl | hr
      · exact hx
      · exact h2 r hr
theorem World.grownBy.rfl' (w : World) (row : Option Nat) : w.grownBy w row := ⟨rfl, rfl, rfl, Nat.le_refl _, fun _ _ _ => rfl⟩
/-- What a row of cells in the memory holds. -/
def RowsAt (P : Program) (w : World) (O : Nat → Nat → Prop) (ks : List Lk) (v : Value) (rows : List (List C)) (us : List Value) : Prop :=
  CReps P w O (rowsK rows.length ks) us rows.flatten ∧ (∀ r ∈ rows, r.length = ks.length) ∧ ∃ a cap, v = .slice a rows.length cap ∧ (rows ≠ [] → ∃ b o, a = some ⟨b, o, none⟩ ∧ ∀ j u, us[j]? = some u → w.cell? ((⟨b, o, none⟩ : Addr).add j) = some u)
theorem VecOK.rowsAt {P : Program} {w : World} {O : Nat → Nat → Prop} {te : TypeId} {v : Value} {c : C} (h : VecOK P w O te v c) {ks : List Lk} (hk : kinds P te = some ks) : ∃ us, RowsAt P w O ks v c.rows us := by
  obtain ⟨ks', us, hk', hc, hl, hr, ho⟩ := h
  obtain rfl : ks = ks' := Option.some.inj (hk.symm.trans hk')
  refine ⟨us, hr, hl, ?_⟩
  rcases ho.2 with ⟨rfl, hn⟩ | ⟨g, cap, cur, rfl, -⟩
  · exact ⟨none, 0, by rw [hn], fun hne => absurd (List.eq_nil_of_length_eq_zero hn) hne⟩
  · exact ⟨_, cap, rfl, fun _ => ⟨g, 0, rfl, ho.cells (g := g) rfl⟩⟩
theorem ArrN.us {P : Program} {S : Nat → Nat → Prop} {w : World} {O : Nat → Nat → Prop} (hS : ∀ b o, S b o → b < w.heap.size ∧ ¬ O b o) {d : Nat} {te : TypeId} {v : Value} {rows : List (List C)} (h : ArrN P S w d te v rows) {ks : List Lk} (hk : kinds P te = some ks) (hsm : ∀ r ∈ rows, ∀ c ∈ r, ∀ n, c.small n) :
    ∃ us, RowsAt P w O ks v rows us := by
  cases d with
  | zero => exact h.elim
  | succ d =>
    obtain ⟨ks', hk', a, cap, hv, hh⟩ := h
    obtain rfl : ks = ks' := Option.some.inj (hk.symm.trans hk')
    by_cases hne : rows = []
    · subst hne; exact ⟨[], trivial, by simp, a, cap, hv, fun h => absurd rfl h⟩
    · obtain ⟨b, o, rfl, -, hr⟩ := hh hne
      -- one row
      have row : ∀ (i : Nat) (r : List C), rows[i]? = some r → ∃ us : List Value, CReps P w O ks us r ∧ ∀ j u, us[j]? = some u → w.cell? ⟨b, o + (i * ks.length + j), none⟩ = some u := fun i r hi => by
        obtain ⟨hl, hc⟩ := hr i r hi
        have hsr := hsm r (List.mem_of_getElem? hi)
        have key : ∀ (ls : List Lk) (cs : List C) (off : Nat), cs.length = ls.length → (∀ c ∈ cs, ∀ n, c.small n) → (∀ j k, ls[j]? = some k → S b (o + (i * ks.length + (off + j))) ∧ ∃ u c, w.cell? ⟨b, o + (i * ks.length + (off + j)), none⟩ = some u ∧ cs[j]? = some c ∧ match k with
            | .int => ∃ n, u = .int .i64 n ∧ c = .i n
            | .bool => ∃ t, u = .bool t ∧ c = .b t
            | .arr t => ∃ rows', c = .s u rows' ∧ ArrN P S w d t u rows'
            | .vec _ | .opq => False) → ∃ us : List Value, CReps P w O ls us cs ∧ ∀ j u, us[j]? = some u → w.cell? ⟨b, o + (i * ks.length + (off + j)), none⟩ = some u := by
          intro ls
          induction ls with
          | nil => intro cs off hl _ _; have := List.eq_nil_of_length_eq_zero hl; subst this; exact ⟨[], trivial, fun j u hj => by simp at hj⟩
          | cons k ls ih =>
            intro cs off hl hs hc
            cases cs with
            | nil => simp at hl
            | cons c cs =>
              obtain ⟨us, h1, h2⟩ := ih cs (off + 1) (by simpa using hl) (fun x hx => hs x (by simp [hx])) (fun j k hj => by
                have := hc (j + 1) k (by simpa using hj)
                rw [show off + (j + 1) = off + 1 + j by omega] at this
                simpa using this)
              obtain ⟨-, u, c', hu, hc', hm⟩ := hc 0 k rfl
              simp at hc'; subst hc'
              refine ⟨u :: us, ⟨⟨hs c (by simp), ?_⟩, h1⟩, fun j x hj => ?_⟩
              · cases k with
                | arr t => obtain ⟨rows', rfl, hn⟩ := hm; exact ⟨rfl, u, rows', rfl, d, S, hS, hn⟩
                | _ => exact hm
              · cases j with
                | zero => simp at hj; subst hj; exact hu
                | succ j => rw [show off + (j + 1) = off + 1 + j by omega]; exact h2 j x (by simpa using hj)
        obtain ⟨us, h1, h2⟩ := key ks r 0 hl hsr (fun j k hj => by rw [Nat.zero_add]; exact hc j k hj)
        exact ⟨us, h1, fun j u hj => by have := h2 j u hj; rwa [Nat.zero_add] at this⟩
      have all : ∀ (rs : List (List C)) (off : Nat), (∀ i r, rs[i]? = some r → rows[off + i]? = some r) → ∃ us : List Value, CReps P w O (rowsK rs.length ks) us rs.flatten ∧ ∀ j u, us[j]? = some u → w.cell? ⟨b, o + (off * ks.length + j), none⟩ = some u := by
        intro rs
        induction rs with
        | nil => intro off _; exact ⟨[], trivial, fun j u hj => by simp at hj⟩
        | cons r rs ih =>
          intro off hrs
          obtain ⟨us1, h1, h2⟩ := row off r (hrs 0 r rfl)
          obtain ⟨us2, h3, h4⟩ := ih (off + 1) (fun i x hi => by rw [show off + 1 + i = off + (i + 1) by omega]; exact hrs (i + 1) x (by simpa using hi))
          refine ⟨us1 ++ us2, by rw [List.length_cons, rowsK_succ, List.flatten_cons]; exact CReps.append h1 h3, fun j u hj => ?_⟩
          have hl1 := h1.len.1
          by_cases hjl : j < us1.length
          · rw [List.getElem?_append_left hjl] at hj; exact h2 j u hj
          · rw [List.getElem?_append_right (by omega)] at hj
            have := h4 _ u hj
            rwa [show (off + 1) * ks.length + (j - us1.length) = off * ks.length + j by rw [Nat.add_mul]; omega] at this
      obtain ⟨us, h1, h2⟩ := all rows 0 (fun i r hi => by rw [Nat.zero_add]; exact hi)
      refine ⟨us, h1, fun r hr' => ?_, _, cap, hv, fun _ => ⟨b, o, rfl, fun j u hj => ?_⟩⟩
      · obtain ⟨i, hi⟩ := List.getElem?_of_mem hr'; exact (hr i r hi).1
      · have := h2 j u hj
        rw [Nat.zero_mul, Nat.zero_add] at this
        unfold Addr.add
        split
        · rename_i e; subst e; exact this
        · exact this
theorem CReps.one {P : Program} {w : World} {O : Nat → Nat → Prop} : ∀ {ks : List Lk} {us : List Value} {cs : List C}, CReps P w O ks us cs → ∀ u ∈ us, u.oneCell' = true
  | [], [], [], _, u, hu => by cases hu
  | k :: _, u :: _, c :: _, h, x, hx => by
    rcases List.mem_cons.1 hx with rfl | hx
    · have h1 := h.1.2
      cases k with
      | int => obtain ⟨n, rfl, -⟩ := h1; rfl
      | bool => obtain ⟨n, rfl, -⟩ := h1; rfl
      | arr t =>
        obtain ⟨e, v, rows, rfl, d, S, -, hA⟩ := h1
        obtain ⟨a, cap, hv⟩ := hA.slice
        rw [e]; simp only [C.loc, hv]; rfl
      | vec t => exact h1.elim
      | opq => exact h1.elim
    · exact CReps.one h.2 x hx
  | [], [], _ :: _, h, _, _ => h.elim
  | [], _ :: _, _, h, _, _ => h.elim
  | _ :: _, [], _, h, _, _ => h.elim
  | _ :: _, _ :: _, [], h, _, _ => h.elim
theorem CReps.up {P : Program} {w w' : World} {O : Nat → Nat → Prop} {row : Option Nat} (hk : w.grownBy w' row) (hrow : ∀ b, row = some b → ∀ o, O b o) {ks : List Lk} {us : List Value} {cs : List C} (h : CReps P w O ks us cs) : CReps P w' (fun b o => O b o ∨ w.heap.size ≤ b) ks us cs :=
  h.keep hk.size fun b o hb hno => ⟨World.cell?_of_block (hk.block b hb fun e => hno (hrow b e.symm o)), fun ho => ho.elim hno fun hge => by omega⟩
/-- One slice of one's own more, in a new block or in that of another one, which it takes the place of. -/
theorem Sat.vnew {P : Program} {F : Nat → Prop} {w0 : World} {Γ : Env} {st : St} {a : Act} {w : World} (h : Sat P F w0 Γ st a w) (hw : st.wf = true) {c : C} {te : TypeId} {w' : World} {row : Option Nat} {ci : Option Nat}
    (hci : match ci with | some i => ∃ e, look st.vec i = some e ∧ row = (at_ Γ.ρ i).loc.ownBlock | none => row = none) (hk : w.grownBy w' row)
    (hc : VecOK P w' (fun b o => Own Γ st b o ∨ w.heap.size ≤ b) te c.loc c) (hblk : ∀ b, c.loc.ownBlock = some b → row = some b ∨ w.heap.size ≤ b) :
    Sat P F w0 { Γ with ρ := Γ.ρ ++ [c] } { st with nx := st.nx + 1, vec := (st.nx, some (te, .var st.nx)) :: (dropV ci st.vec) } a w' := by
  have hat : at_ (Γ.ρ ++ [c]) st.nx = c := by rw [← h.len]; exact at_app (j := 0) (by simp)
  have hsm : Smalls (Γ.ρ ++ [c]) := h.num.len.app fun x hx n => by simp at hx; subst hx; exact hc.small n
  have hrow : ∀ b, row = some b → ∃ i, Hold Γ st false i b := fun b hb => by
    cases ci with
    | none => rw [hci] at hb; cases hb
    | some i => obtain ⟨e, h1, h2⟩ := hci; exact ⟨i, .vec (Γ := Γ) h1 (by rw [← h2]; exact hb)⟩
  -- what else there is
  have old : ∀ i e, look (dropV ci st.vec) i = some e → look st.vec i = some e ∧ ∀ b, (at_ Γ.ρ i).loc.ownBlock = some b → row ≠ some b := fun i e he => by
    cases ci with
    | none => exact ⟨he, fun b _ hr => by rw [hci] at hr; cases hr⟩
    | some j =>
      simp only [dropV, look] at he
      split at he
      · cases he
      · rename_i hne
        refine ⟨he, fun b hb hr => ?_⟩
        obtain ⟨e', h1, h2⟩ := hci
        exact hne (h.inj _ _ _ _ _ (Hold.vec (Γ := Γ) h1 (by rw [← h2]; exact hr)) (Hold.vec (Γ := Γ) he hb)).2
  have hnx : ∀ i e, look st.vec i = some e → i < st.nx := fun i e he => (h.vec i e he).2.1
  have hx : ∀ i e, look st.vec i = some e → at_ (Γ.ρ ++ [c]) i = at_ Γ.ρ i := fun i e he => h.vec_at (Γ' := { Γ with ρ := Γ.ρ ++ [c] }) ⟨⟨[c], rfl⟩, fun _ _ => rfl, Nat.le_refl _, rfl, rfl⟩ he
  refine h.turnV hw (rs := [c]) hsm hk hrow (fun i e he => ?_) fun i e i' e' b he he' hb hb' => ?_
  · simp only [look] at he
    split at he
    · rename_i e1
      subst e1
      cases he
      right
      refine ⟨?_, by simp, fun b hb => ?_⟩
      · simp only [E.ev, hat]; exact hc
      · rw [hat] at hb; exact hblk b hb
    · exact .inl (old i e he)
  · simp only [look] at he he'
    split at he <;> split at he'
    · omega
    · rename_i e1 e2
      exfalso
      subst e1
      obtain ⟨h1, h2⟩ := old i' e' he'
      rw [hx i' e' h1] at hb'
      rw [hat] at hb
      rcases hblk b hb with h3 | h3
      · exact h2 b hb' h3
      · have := (h.vec i' e' h1).1.lt hb'; omega
    · rename_i e1 e2
      exfalso
      subst e2
      obtain ⟨h1, h2⟩ := old i e he
      rw [hx i e h1] at hb
      rw [hat] at hb'
      rcases hblk b hb' with h3 | h3
      · exact h2 b hb h3
      · have := (h.vec i e h1).1.lt hb; omega
    · obtain ⟨h1, -⟩ := old i e he
      obtain ⟨h2, -⟩ := old i' e' he'
      rw [hx i e h1] at hb
      rw [hx i' e' h2] at hb'
      exact (h.inj _ _ _ _ _ (Hold.vec (Γ := Γ) h1 hb) (Hold.vec (Γ := Γ) h2 hb')).2
/-- What a slice of one's own holds is written. -/
theorem Sat.vupd {P : Program} {F : Nat → Prop} {w0 : World} {Γ : Env} {st : St} {a : Act} {w : World} (h : Sat P F w0 Γ st a w) (hw : st.wf = true) {i : Nat} {e : TypeId × E} (hi : look st.vec i = some e) {c : C} {w' : World} (hk : w.grownBy w' (at_ Γ.ρ i).loc.ownBlock)
    (hc : VecOK P w' (fun b o => Own Γ st b o ∨ w.heap.size ≤ b) e.1 (at_ Γ.ρ i).loc c) :
    Sat P F w0 { Γ with ρ := Γ.ρ ++ [c] } { st with nx := st.nx + 1, vec := (i, some (e.1, .var st.nx)) :: st.vec } a w' := by
  have hat : at_ (Γ.ρ ++ [c]) st.nx = c := by rw [← h.len]; exact at_app (j := 0) (by simp)
  have hsm : Smalls (Γ.ρ ++ [c]) := h.num.len.app fun x hx n => by simp at hx; subst hx; exact hc.small n
  have hx : ∀ i e, look st.vec i = some e → at_ (Γ.ρ ++ [c]) i = at_ Γ.ρ i := fun i e he => h.vec_at (Γ' := { Γ with ρ := Γ.ρ ++ [c] }) ⟨⟨[c], rfl⟩, fun _ _ => rfl, Nat.le_refl _, rfl, rfl⟩ he
  have old : ∀ j e', look ((i, some (e.1, .var st.nx)) :: st.vec) j = some e' → ∃ e'', look st.vec j = some e'' := fun j e' he => by
    simp only [look] at he
    split at he
    · rename_i e1; subst e1; exact ⟨e, hi⟩
    · exact ⟨e', he⟩
  refine h.turnV hw (rs := [c]) hsm hk (fun b hb => ⟨i, .vec (Γ := Γ) hi hb⟩) (fun j e' he => ?_) fun j e' j' e'' b he he' hb hb' => ?_
  · simp only [look] at he
    split at he
    · rename_i e1
      subst e1
      cases he
      right
      refine ⟨?_, by have := (h.vec i e hi).2.1; simp; omega, fun b hb => ?_⟩
      · rw [hx i e hi]; simp only [E.ev, hat]; exact hc
      · rw [hx i e hi] at hb; exact .inl hb
    · rename_i hne
      refine .inl ⟨he, fun b hb hr => hne (h.inj _ _ _ _ _ (Hold.vec (Γ := Γ) hi hr) (Hold.vec (Γ := Γ) he hb)).2⟩
  · obtain ⟨x, h1⟩ := old j e' he
    obtain ⟨y, h2⟩ := old j' e'' he'
    rw [hx j x h1] at hb
    rw [hx j' y h2] at hb'
    exact (h.inj _ _ _ _ _ (Hold.vec (Γ := Γ) h1 hb) (Hold.vec (Γ := Γ) h2 hb')).2
/-- A function value. -/
theorem Sat.addClo {P : Program} {F : Nat → Prop} {w0 : World} {Γ : Env} {st : St} {a : Act} {w : World} (h : Sat P F w0 Γ st a w) {i : Nat} {e : Nat × List S0 × List Lf} (hi : (at_ Γ.ρ i).loc = .func (.func e.1) (e.2.1.map (S0.den Γ)).toArray (e.2.2.map (Lf.den Γ)).toArray) (h1 : ∀ s ∈ e.2.1, s.ok P w (Own Γ st) Γ) (h2 : ∀ l ∈ e.2.2, l.ok P w (Own Γ st) Γ) :
    Sat P F w0 Γ { st with clo := (i, some e) :: st.clo } a w := by
  refine ⟨h.slots, h.size, h.mem, h.vec, fun j e' hj => ?_, h.inj, h.keeps, h.fold, h.base, h.defers, h.len, h.nb, h.num⟩
  simp only [look] at hj
  split at hj
  · rename_i e1; subst e1; cases hj; exact ⟨hi, h1, h2⟩
  · exact h.clo j e' hj
/-! Slices of one's own that are given up -/
theorem mkJoin_ev {P : Program} {w : World} {O : Nat → Nat → Prop} {ρ : List C} {te : TypeId} {i : Nat} {r : E} (h : VecOK P w O te (at_ ρ i).loc (r.ev ρ)) : (mkJoin i r).ev ρ = .s (at_ ρ i).loc (r.ev ρ).rows := by
  obtain ⟨ks, us, hk, ⟨v', hc⟩, -⟩ := h
  unfold mkJoin
  split
  · rename_i j
    split
    · rename_i e; subst e
      simp only [E.ev] at hc ⊢
      rw [hc]; rfl
    · rfl
  · rfl
theorem Lf.frz_spec {P : Program} {w : World} {O O' : Nat → Nat → Prop} {Γ : Env} {te : TypeId} {i n : Nat} {rows : List (List C)} (hn : at_ Γ.ρ n = .s (at_ Γ.ρ i).loc rows) (hA : ArrOK P w O' te (at_ Γ.ρ n)) (hlen : ∃ a cap, (at_ Γ.ρ i).loc = .slice a rows.length cap) (hO : ∀ b o, O' b o → O b o)
    {l : Lf} (ho : frzOk te i l = true) (h : l.ok P w O Γ) : (l.frz i n).den Γ = l.den Γ ∧ (l.frz i n).ok P w O' Γ := by
  have other : (l.frz i n) = l → (l.frz i n).den Γ = l.den Γ ∧ (l.frz i n).ok P w O' Γ := fun e => by rw [e]; exact ⟨rfl, Lf.ok_anti h hO⟩
  cases l with
  | vec t j =>
    by_cases hj : j = i
    · subst hj
      simp only [frzOk, Nat.beq_refl, Bool.not_true, Bool.false_or] at ho
      have := Nat.eq_of_beq_eq_true ho
      subst this
      simp only [Lf.frz, if_true, Lf.den, E.ev, hn, C.loc, Lf.ok]
      rw [hn] at hA
      exact ⟨trivial, hA⟩
    · exact other (by simp [Lf.frz, hj])
  | velp t sz j x o =>
    by_cases hj : j = i
    · subst hj
      simp only [frzOk, Nat.beq_refl, Bool.not_true, Bool.false_or] at ho
      have := Nat.eq_of_beq_eq_true ho
      subst this
      obtain ⟨b, m, cap, h1, h2, h3, h4⟩ := h
      obtain ⟨a, cap', hl⟩ := hlen
      rw [hl] at h1
      cases h1
      simp only [Lf.frz, if_true, Lf.den, E.ev, hn, C.loc, Lf.ok]
      rw [hn] at hA
      exact ⟨trivial, hA, h3, by simpa [C.rows] using h4, h2⟩
    · exact other (by simp [Lf.frz, hj])
  | _ => exact other rfl
theorem look_map {α β : Type} (g : α → β) : ∀ (l : List (Nat × Option α)) (t : Nat), look (l.map fun p => (p.1, p.2.map g)) t = (look l t).map g
  | [], _ => rfl
  | (k, v) :: l, t => by
    simp only [List.map_cons, look]
    split
    · rfl
    · exact look_map g l t
theorem Sat.freeze {P : Program} {F : Nat → Prop} {w0 : World} {Γ : Env} {st st' : St} {a : Act} {w : World} (h : Sat P F w0 Γ st a w) {i : Nat} {e : E} (hf : st.freeze i = some (e, st')) :
    Ext Γ { Γ with ρ := Γ.ρ ++ [e.ev Γ.ρ] } ∧ Sat P F w0 { Γ with ρ := Γ.ρ ++ [e.ev Γ.ρ] } st' a w ∧ st'.lvl = st.lvl := by
  unfold St.freeze at hf
  split at hf
  · rename_i ve hi
    split at hf
    · rename_i hc
      simp only [Bool.and_eq_true] at hc
      obtain ⟨⟨hw, c1⟩, c2⟩ := hc
      cases hf
      have hve := h.vec i ve hi
      have hjoin := mkJoin_ev hve.1
      generalize hcc : (mkJoin i ve.2).ev Γ.ρ = c at *
      have hcs : ∀ n, c.small n := fun n => by
        rw [hjoin]
        obtain ⟨v', hv'⟩ := hve.1.choose_spec.choose_spec.2.1
        exact C.small_rows (.inl hve.1.small) (Nat.le_refl _) (fun _ h => h) _ n
      have hsm : Smalls (Γ.ρ ++ [c]) := h.num.len.app fun x hx n => by simp at hx; subst hx; exact hcs n
      have he : Ext Γ { Γ with ρ := Γ.ρ ++ [c] } := ⟨⟨[c], rfl⟩, fun _ _ => rfl, Nat.le_refl _, rfl, rfl⟩
      refine ⟨he, ?_, rfl⟩
      have hg := h.grow hw hsm
      simp only [List.length_cons, List.length_nil, Nat.zero_add] at hg
      have hat : at_ (Γ.ρ ++ [c]) st.nx = c := by rw [← h.len]; exact at_app (j := 0) (by simp)
      have hati : at_ (Γ.ρ ++ [c]) i = at_ Γ.ρ i := h.vec_at he hi
      have hown : ∀ b o, Own { Γ with ρ := Γ.ρ ++ [c] } { st with nx := st.nx + 1, vec := (i, none) :: st.vec, sl := st.sl.map fun p => (p.1, p.2.map (SV.frz i st.nx)), mem := st.mem.map fun p => (p.1, p.2.map fun mb => (mb.1, mb.2.map (Lf.frz i st.nx))) } b o → Own { Γ with ρ := Γ.ρ ++ [c] } { st with nx := st.nx + 1 } b o ∧ ((at_ Γ.ρ i).loc.ownBlock = some b → False) := by
        rintro b o (hb | ⟨j, mb, hj, rfl⟩ | ⟨j, e, hj, hb⟩)
        · exact ⟨.inl hb, fun hbi => (hve.2.2 b hbi).2 o hb⟩
        · rw [look_map] at hj
          cases hm : look st.mem j with
          | none => rw [hm] at hj; cases hj
          | some mb' => exact ⟨.inr (.inl ⟨j, mb', hm, rfl⟩), fun hbi => by have := (h.inj _ _ _ _ _ (Hold.mem (Γ := Γ) hm) (Hold.vec (Γ := Γ) hi hbi)).1; cases this⟩
        · simp only [look] at hj
          split at hj
          · cases hj
          · rename_i hne
            have hbj := hb
            rw [h.vec_at he hj] at hbj
            exact ⟨.inr (.inr ⟨j, e, hj, hb⟩), fun hbi => hne (h.inj _ _ _ _ _ (Hold.vec (Γ := Γ) hi hbi) (Hold.vec (Γ := Γ) hj hbj)).2⟩
      generalize hst' : ({ st with nx := st.nx + 1, vec := (i, none) :: st.vec, sl := st.sl.map fun p => (p.1, p.2.map (SV.frz i st.nx)), mem := st.mem.map fun p => (p.1, p.2.map fun mb => (mb.1, mb.2.map (Lf.frz i st.nx))) } : St) = st' at *
      have hO : ∀ b o, Own { Γ with ρ := Γ.ρ ++ [c] } st' b o → Own { Γ with ρ := Γ.ρ ++ [c] } { st with nx := st.nx + 1 } b o := fun b o hb => (hown b o hb).1
      have hgi := hg.vec i ve hi
      have hevi : ve.2.ev (Γ.ρ ++ [c]) = ve.2.ev Γ.ρ := E.ev_ext _ (h.wf_vec hw hi)
      have hn : at_ (Γ.ρ ++ [c]) st.nx = .s (at_ (Γ.ρ ++ [c]) i).loc (ve.2.ev (Γ.ρ ++ [c])).rows := hat.trans (hjoin.trans (by rw [hati, hevi]))
      have hA : ArrOK P w (Own { Γ with ρ := Γ.ρ ++ [c] } st') ve.1 (at_ (Γ.ρ ++ [c]) st.nx) := by
        have := hgi.1.arr hO (fun b hb o ho => by
          have hb' : (at_ Γ.ρ i).loc.ownBlock = some b := by rw [← hati]; exact hb
          exact (hown b o ho).2 hb')
        rw [hn]
        exact this
      have leaf : ∀ l : Lf, frzOk ve.1 i l = true → l.ok P w (Own { Γ with ρ := Γ.ρ ++ [c] } { st with nx := st.nx + 1 }) { Γ with ρ := Γ.ρ ++ [c] } → (l.frz i st.nx).den { Γ with ρ := Γ.ρ ++ [c] } = l.den { Γ with ρ := Γ.ρ ++ [c] } ∧ (l.frz i st.nx).ok P w (Own { Γ with ρ := Γ.ρ ++ [c] } st') { Γ with ρ := Γ.ρ ++ [c] } :=
        fun l h1 h2 => Lf.frz_spec (Γ := { Γ with ρ := Γ.ρ ++ [c] }) hn hA hgi.1.slice hO h1 h2
      have s0 : ∀ s : S0, (∀ l ∈ s.cells, frzOk ve.1 i l = true) → s.ok P w (Own { Γ with ρ := Γ.ρ ++ [c] } { st with nx := st.nx + 1 }) { Γ with ρ := Γ.ρ ++ [c] } → (s.frz i st.nx).den { Γ with ρ := Γ.ρ ++ [c] } = s.den { Γ with ρ := Γ.ρ ++ [c] } ∧ (s.frz i st.nx).ok P w (Own { Γ with ρ := Γ.ρ ++ [c] } st') { Γ with ρ := Γ.ρ ++ [c] } := fun s h1 h2 => by
        cases s with
        | lf l =>
          have := leaf l (h1 l (by simp [S0.cells])) (h2 l (by simp [S0.cells]))
          exact ⟨this.1, fun x hx => by simp [S0.frz, S0.cells] at hx; subst hx; exact this.2⟩
        | agg ls =>
          refine ⟨?_, fun x hx => ?_⟩
          · simp only [S0.frz, S0.den, dens, List.map_map]
            congr 2
            exact List.map_congr_left fun l hl => (leaf l (h1 l hl) (h2 l hl)).1
          · simp only [S0.frz, S0.cells, List.mem_map] at hx
            obtain ⟨l, hl, rfl⟩ := hx
            exact (leaf l (h1 l hl) (h2 l hl)).2
      have look_all : ∀ {α : Type} {g : Option α → Bool} {l : List (Nat × Option α)} {t : Nat} {v : α}, l.all (fun p => g p.2) = true → look l t = some v → g (some v) = true := fun {α g l t v} h1 h2 => look_wf (f := fun _ => g) h1 h2
      have hmm : ∀ b mb, look st'.mem b = some mb → ∃ mb', look st.mem b = some mb' ∧ mb = (mb'.1, mb'.2.map (Lf.frz i st.nx)) := fun b mb hb => by
        rw [← hst'] at hb
        simp only [] at hb
        rw [look_map] at hb
        cases hm : look st.mem b with
        | none => rw [hm] at hb; cases hb
        | some mb' => rw [hm] at hb; cases hb; exact ⟨mb', rfl, rfl⟩
      refine ⟨fun t sv hs => ?_, by rw [← hst']; exact h.size, fun b mb hb => ?_, fun j e hj => ?_, fun j e hj => ?_, fun s j s' j' b h1 h2 => ?_, h.keeps, h.fold, h.base, h.defers, by rw [← hst']; exact hg.len, by rw [← hst']; exact h.nb, by rw [← hst']; exact hg.num⟩
      · rw [← hst'] at hs
        simp only [] at hs
        rw [look_map] at hs
        cases hsv : look st.sl t with
        | none => rw [hsv] at hs; cases hs
        | some sv' =>
          rw [hsv] at hs
          cases hs
          obtain ⟨g1, g2⟩ := hg.slots t sv' hsv
          have hall : ∀ l ∈ sv'.cells, frzOk ve.1 i l = true := List.all_eq_true.1 (look_all (g := fun o => match o with | some sv => sv.cells.all (frzOk ve.1 i) | none => true) c1 hsv)
          cases sv' with
          | one s =>
            obtain ⟨k1, k2⟩ := s0 s hall g2
            exact ⟨by rw [g1]; exact k1.symm, k2⟩
          | tup ss =>
            have hss : ∀ s ∈ ss, (s.frz i st.nx).den { Γ with ρ := Γ.ρ ++ [c] } = s.den { Γ with ρ := Γ.ρ ++ [c] } ∧ (s.frz i st.nx).ok P w (Own { Γ with ρ := Γ.ρ ++ [c] } st') { Γ with ρ := Γ.ρ ++ [c] } := fun s hs => s0 s (fun l hl => hall l (List.mem_flatMap.2 ⟨s, hs, hl⟩)) (g2 s hs)
            refine ⟨?_, fun s hs => ?_⟩
            · rw [g1]
              simp only [SV.den, SV.frz, List.map_map]
              congr 2
              exact List.map_congr_left fun s hs => (hss s hs).1.symm
            · obtain ⟨s', hs', rfl⟩ := List.mem_map.1 hs
              exact (hss s' hs').2
          | fn f ls =>
            exact ⟨g1, fun l hl => Lf.ok_anti (g2 l hl) hO⟩
      · obtain ⟨mb', hm, rfl⟩ := hmm b mb hb
        obtain ⟨m1, m2, m3, m4⟩ := hg.mem b mb' hm
        have hall : ∀ l ∈ mb'.2, frzOk ve.1 i l = true := List.all_eq_true.1 (look_all (g := fun o => match o with | some mb => mb.2.all (frzOk ve.1 i) | none => true) c2 hm)
        refine ⟨?_, fun l hl => ?_, m3, by rw [← hst']; exact m4⟩
        · have : dens { Γ with ρ := Γ.ρ ++ [c] } (mb'.2.map (Lf.frz i st.nx)) = dens { Γ with ρ := Γ.ρ ++ [c] } mb'.2 := by
            unfold dens
            rw [List.map_map]
            congr 1
            exact List.map_congr_left fun l hl => (leaf l (hall l hl) (m2 l hl)).1
          rw [this]; exact m1
        · obtain ⟨l', hl', rfl⟩ := List.mem_map.1 hl
          exact (leaf l' (hall l' hl') (m2 l' hl')).2
      · rw [← hst'] at hj
        simp only [look] at hj
        split at hj
        · cases hj
        · obtain ⟨k1, k2, k3⟩ := hg.vec j e hj
          exact ⟨k1.anti hO, by rw [← hst']; exact k2, k3⟩
      · have hj' : look st.clo j = some e := by rw [← hst'] at hj; exact hj
        obtain ⟨k1, k2, k3⟩ := hg.clo j e hj'
        exact ⟨k1, fun s hs l hl => Lf.ok_anti (k2 s hs l hl) hO, fun l hl => Lf.ok_anti (k3 l hl) hO⟩
      · have conv : ∀ s j, Hold { Γ with ρ := Γ.ρ ++ [c] } st' s j b → Hold { Γ with ρ := Γ.ρ ++ [c] } { st with nx := st.nx + 1 } s j b := fun s j hh =>
          Hold.congr (Γ := { Γ with ρ := Γ.ρ ++ [c] }) (st := { st with nx := st.nx + 1 }) (Γ' := { Γ with ρ := Γ.ρ ++ [c] }) (st' := st') (fun j mb hj => by obtain ⟨mb', hm, -⟩ := hmm j mb hj; exact ⟨⟨mb', hm⟩, rfl⟩) (fun j e hj => by
            rw [← hst'] at hj
            simp only [look] at hj
            split at hj
            · cases hj
            · exact ⟨⟨e, hj⟩, rfl⟩) hh
        exact hg.inj _ _ _ _ _ (conv _ _ h1) (conv _ _ h2)
    · cases hf
  · cases hf
end Go.Proofs.Ytbgofenplhdllaa
/- The engine, part 11b: one operation, a row of operations. -/
namespace Go.Proofs.Ytbgofenplhdllaa
open Go.RowKit
set_option linter.unusedSimpArgs false
set_option linter.unusedVariables false

section
variable {P : Program} {F : Nat → Prop} {w0 : World} {Γ : Env} {st : St} {a : Act} {w : World}
/-! Nil slices -/
theorem Lf.isNil_eq {l : Lf} (h : l.isNil = true) : l = .cst (.slice none 0 0) := by
  unfold Lf.isNil at h
  split at h
  · rfl
  · cases h
def nilC : C := .s (.slice none 0 0) []
theorem nilC_small (n : Nat) : nilC.small n := by cases n <;> simp [nilC, C.small]
theorem look_nilV {m : Vecs} : ∀ {ts : List TypeId} {i0 i : Nat} {e : TypeId × E}, look (nilV ts i0 ++ m) i = some e → (∃ j t, i = i0 + j ∧ ts[j]? = some t ∧ e = (t, .var i)) ∨ look m i = some e
  | [], i0, i, e, h => .inr h
  | t :: ts, i0, i, e, h => by
    simp only [nilV, List.cons_append, look] at h
    split at h
    · rename_i e'; subst e'; cases h; exact .inl ⟨0, t, rfl, rfl, rfl⟩
    · rcases look_nilV h with ⟨j, t', rfl, hj, he⟩ | h
      · exact .inl ⟨j + 1, t', by omega, by simpa using hj, he⟩
      · exact .inr h
theorem ownL_spec {O : Nat → Nat → Prop} : ∀ {ks : List Lk} {ls : List Lf} {i0 : Nat}, (∀ j, j < (ownL ks ls i0).2.length → at_ Γ.ρ (i0 + j) = nilC) → (∀ l ∈ ls, l.ok P w O Γ) →
    (ownL ks ls i0).1.map (Lf.den Γ) = ls.map (Lf.den Γ) ∧ ∀ l ∈ (ownL ks ls i0).1, l.ok P w O Γ
  | [], ls, i0, _, h => by cases ls <;> exact ⟨rfl, h⟩
  | k :: ks, [], i0, _, h => by cases k <;> exact ⟨rfl, h⟩
  | k :: ks, l :: ls, i0, hn, h => by
    have plain : ∀ (i : Nat), (∀ j, j < (ownL ks ls i).2.length → at_ Γ.ρ (i + j) = nilC) → ∀ x : Lf, x.den Γ = l.den Γ → x.ok P w O Γ → (x :: (ownL ks ls i).1).map (Lf.den Γ) = (l :: ls).map (Lf.den Γ) ∧ ∀ y ∈ x :: (ownL ks ls i).1, y.ok P w O Γ := fun i hi x hx ho => by
      obtain ⟨h1, h2⟩ := ownL_spec hi (fun y hy => h y (by simp [hy]))
      refine ⟨by simp [hx, h1], fun y hy => ?_⟩
      rcases List.mem_cons.1 hy with rfl | hy
      · exact ho
      · exact h2 y hy
    cases k with
    | arr t =>
      simp only [ownL] at hn ⊢
      split
      · rename_i hnil
        rw [if_pos hnil] at hn
        have := Lf.isNil_eq hnil
        subst this
        have h0 := hn 0 (by simp)
        refine plain (i0 + 1) (fun j hj => by have := hn (j + 1) (by simpa using hj); rwa [show i0 + 1 + j = i0 + (j + 1) by omega]) (.vec t i0) ?_ ?_
        · simp only [Lf.den]; rw [show i0 = i0 + 0 from rfl, h0]; rfl
        · exact ⟨none, 0, 0, by rw [show i0 = i0 + 0 from rfl, h0]; rfl⟩
      · rename_i hnil
        rw [if_neg hnil] at hn
        exact plain i0 hn l rfl (h l (by simp))
    | int => exact plain i0 hn l rfl (h l (by simp))
    | bool => exact plain i0 hn l rfl (h l (by simp))
    | vec t => exact plain i0 hn l rfl (h l (by simp))
    | opq => exact plain i0 hn l rfl (h l (by simp))
theorem ownL_len : ∀ {ks : List Lk} {ls : List Lf} {i0 : Nat}, (ownL ks ls i0).1.length = ls.length
  | [], ls, i0 => by simp [ownL]
  | k :: ks, [], i0 => by cases k <;> simp [ownL]
  | k :: ks, l :: ls, i0 => by
    cases k with
    | arr t => simp only [ownL]; split <;> simp [ownL_len]
    | _ => simp [ownL, ownL_len]
theorem Sat.nils (h : Sat P F w0 Γ st a w) {t : TypeId} {s s' : S0} {st' : St} {n : Nat} (hn : st.nils P t s = some (s', st', n)) (hs : s.ok P w (Own Γ st) Γ) :
    Ext Γ { Γ with ρ := Γ.ρ ++ List.replicate n nilC } ∧ Sat P F w0 { Γ with ρ := Γ.ρ ++ List.replicate n nilC } st' a w ∧ s'.den { Γ with ρ := Γ.ρ ++ List.replicate n nilC } = s.den Γ ∧
      s'.ok P w (Own { Γ with ρ := Γ.ρ ++ List.replicate n nilC } st') { Γ with ρ := Γ.ρ ++ List.replicate n nilC } ∧ st'.lvl = st.lvl ∧ st'.nb = st.nb ∧ st'.mem = st.mem ∧ s'.den { Γ with ρ := Γ.ρ ++ List.replicate n nilC } = s.den Γ ∧ s'.cells.map (Lf.den { Γ with ρ := Γ.ρ ++ List.replicate n nilC }) = s.cells.map (Lf.den Γ) := by
  unfold St.nils at hn
  split at hn
  · rename_i ks hk
    split at hn
    · rename_i hc
      simp only [Bool.and_eq_true] at hc
      obtain ⟨⟨⟨⟨⟨c1, c2⟩, hw⟩, hsw⟩, c4⟩, c5⟩ := hc
      cases hn
      generalize hr : ownL ks s.cells st.nx = r at *
      have hsm : Smalls (Γ.ρ ++ List.replicate r.2.length nilC) := h.num.len.app fun c hc n => by rw [List.eq_of_mem_replicate hc]; exact nilC_small n
      have he : Ext Γ { Γ with ρ := Γ.ρ ++ List.replicate r.2.length nilC } := ⟨⟨_, rfl⟩, fun _ _ => rfl, Nat.le_refl _, rfl, rfl⟩
      have hat : ∀ j, j < r.2.length → at_ (Γ.ρ ++ List.replicate r.2.length nilC) (st.nx + j) = nilC := fun j hj => by rw [← h.len]; exact at_app (by simp [hj])
      have hT := h.turnV hw (rs := List.replicate r.2.length nilC) hsm (w' := w) (row := none) (World.grownBy.rfl' w none) (fun b hb => by cases hb) (vec' := nilV r.2 st.nx ++ st.vec) (fun i e he' => by
        rcases look_nilV he' with ⟨j, t', rfl, hj, rfl⟩ | he'
        · right
          have hjl : j < r.2.length := by
            rcases Nat.lt_or_ge j r.2.length with h | h
            · exact h
            · rw [List.getElem?_eq_none h] at hj; cases hj
          have hkt := List.all_eq_true.1 c5 t' (List.mem_of_getElem? hj)
          obtain ⟨kt, hkt⟩ := Option.isSome_iff_exists.1 hkt
          simp only [E.ev, hat j hjl]
          exact ⟨⟨kt, [], hkt, ⟨.slice none 0 0, rfl⟩, (by intro r hr; simp [nilC, C.rows] at hr), trivial, World.ownsRow_nil w 0 t' kt.length⟩, by simp; omega, fun b hb => by cases hb⟩
        · exact .inl ⟨he', fun b _ => by simp⟩) (fun i e i' e' b h1 h2 b1 b2 => by
        have old : ∀ i e, look (nilV r.2 st.nx ++ st.vec) i = some e → (at_ (Γ.ρ ++ List.replicate r.2.length nilC) i).loc.ownBlock = some b → ∃ e, look st.vec i = some e ∧ (at_ Γ.ρ i).loc.ownBlock = some b := fun i e he' hb => by
          rcases look_nilV he' with ⟨j, t', rfl, hj, rfl⟩ | he'
          · exfalso
            have hjl : j < r.2.length := by
              rcases Nat.lt_or_ge j r.2.length with h | h
              · exact h
              · rw [List.getElem?_eq_none h] at hj; cases hj
            rw [hat j hjl] at hb
            cases hb
          · exact ⟨e, he', by rw [← h.vec_at he he']; exact hb⟩
        obtain ⟨e1, k1, k2⟩ := old i e h1 b1
        obtain ⟨e2, k3, k4⟩ := old i' e' h2 b2
        exact (h.inj _ _ _ _ _ (Hold.vec (Γ := Γ) k1 k2) (Hold.vec (Γ := Γ) k3 k4)).2)
      rw [List.length_replicate] at hT
      have hown : ∀ b o, Own { Γ with ρ := Γ.ρ ++ List.replicate r.2.length nilC } { st with nx := st.nx + r.2.length, vec := nilV r.2 st.nx ++ st.vec } b o → Own Γ st b o := fun b o hb => by
        rcases Own.iff.1 hb with hb | ⟨s, j, hh⟩
        · exact .inl hb
        · rcases hh.inv with ⟨rfl, mb, hj, rfl⟩ | ⟨rfl, e, hj, hb⟩
          · exact (show Own Γ st (Γ.blk j) o from (Hold.mem (Γ := Γ) (st := st) hj).own o)
          · rcases look_nilV hj with ⟨j', t', rfl, hj', rfl⟩ | hj
            · exfalso
              have hjl : j' < r.2.length := by
                rcases Nat.lt_or_ge j' r.2.length with h | h
                · exact h
                · rw [List.getElem?_eq_none h] at hj'; cases hj'
              rw [hat j' hjl] at hb
              cases hb
            · exact (Hold.vec (Γ := Γ) hj (by rw [← h.vec_at he hj]; exact hb)).own o
      have hsw' : s.wf Γ.ρ.length Γ.nb = true := by rw [h.len, h.nb]; exact hsw
      have hs' : ∀ l ∈ s.cells, l.ok P w (Own { Γ with ρ := Γ.ρ ++ List.replicate r.2.length nilC } { st with nx := st.nx + r.2.length, vec := nilV r.2 st.nx ++ st.vec }) { Γ with ρ := Γ.ρ ++ List.replicate r.2.length nilC } := fun l hl => Lf.ok_anti (S0.ok_ext he hsw' hs l hl) hown
      obtain ⟨g1, g2⟩ := ownL_spec (P := P) (w := w) (Γ := { Γ with ρ := Γ.ρ ++ List.replicate r.2.length nilC }) (ks := ks) (ls := s.cells) (i0 := st.nx) (by rw [hr]; exact hat) hs'
      rw [hr] at g1 g2
      have hlen : r.1.length = s.cells.length := by rw [← hr]; exact ownL_len
      have hdS := S0.den_ext he s hsw'
      have hcl : (s.with r.1).cells = r.1 ∧ (s.with r.1).den { Γ with ρ := Γ.ρ ++ List.replicate r.2.length nilC } = s.den { Γ with ρ := Γ.ρ ++ List.replicate r.2.length nilC } := by
        cases s with
        | lf l =>
          obtain ⟨x, hx⟩ : ∃ x, r.1 = [x] := by
            match hr1 : r.1, hlen with
            | [x], _ => exact ⟨x, rfl⟩
          rw [hx] at g1 ⊢
          simp [S0.cells] at g1
          exact ⟨rfl, g1⟩
        | agg l => exact ⟨rfl, by simp only [S0.with, S0.den, dens]; rw [g1]; rfl⟩
      refine ⟨he, hT, ?_, fun l hl => ?_, rfl, rfl, rfl, ?_, ?_⟩
      · rw [hcl.2, hdS]
      · rw [hcl.1] at hl; exact g2 l hl
      · rw [hcl.2, hdS]
      · rw [hcl.1, g1]
        exact List.map_congr_left fun l hl => Lf.den_ext he l (by
          cases s with
          | lf x => simp [S0.cells] at hl; subst hl; exact hsw'
          | agg ls => exact List.all_eq_true.1 hsw' l hl)
    · cases hn
  · cases hn
theorem VC.dfnN {cx : Cx} {R : List C → Prop} : ∀ {n : Nat} {t : Tree} {ρ : List C} {Ls : List (List C → Prop)}, VC cx R (dfnN n t) ρ Ls → VC cx R t (ρ ++ List.replicate n nilC) Ls
  | 0, t, ρ, Ls, h => by rw [List.replicate_zero, List.append_nil]; exact h
  | n + 1, t, ρ, Ls, h => by
    have := VC.dfnN (n := n) h
    rwa [List.append_assoc, show [E.nil.ev ρ] ++ List.replicate n nilC = List.replicate (n + 1) nilC from rfl] at this

/-! Arguments -/
theorem Lf.adapt_spec (h : Sat P F w0 Γ st a w) {O' : Nat → Nat → Prop} (hO : ∀ b o, O' b o → Own Γ st b o) {k : Lk} {l : Lf} (hl : l.isVec = true → ∀ i e, look st.vec i = some e → ∀ b, (at_ Γ.ρ i).loc.ownBlock = some b → ∀ o, ¬ O' b o) (ho : l.ok P w (Own Γ st) Γ) :
    (l.adapt P st.vec k).den Γ = l.den Γ ∧ (l.adapt P st.vec k).ok P w O' Γ := by
  unfold Lf.adapt
  split
  · rename_i t te i
    split
    · rename_i e hi
      split
      · rename_i e1
        subst e1
        have hv := (h.vec i e hi).1
        have hj := mkJoin_ev hv
        refine ⟨by simp only [Lf.den, hj, C.loc], ?_⟩
        simp only [Lf.ok, hj]
        exact hv.arr hO (hl rfl i e hi)
      · exact ⟨rfl, Lf.ok_anti ho hO⟩
    · exact ⟨rfl, Lf.ok_anti ho hO⟩
  · rename_i te
    split
    · rename_i hk
      refine ⟨rfl, ?_⟩
      obtain ⟨ks, hks⟩ := Option.isSome_iff_exists.1 hk
      exact ⟨_, [], rfl, 1, fun _ _ => False, fun _ _ h => h.elim, ks, hks, none, 0, rfl, fun h => absurd rfl h⟩
    · exact ⟨rfl, trivial⟩
  · exact ⟨rfl, Lf.ok_anti ho hO⟩
theorem S0.adapt_spec (h : Sat P F w0 Γ st a w) {O' : Nat → Nat → Prop} (hO : ∀ b o, O' b o → Own Γ st b o) {sh : Sh0} {s : S0} (hl : ∀ l ∈ s.cells, l.isVec = true → ∀ i e, look st.vec i = some e → ∀ b, (at_ Γ.ρ i).loc.ownBlock = some b → ∀ o, ¬ O' b o) (ho : s.ok P w (Own Γ st) Γ) :
    (s.adapt P st.vec sh).den Γ = s.den Γ ∧ (s.adapt P st.vec sh).ok P w O' Γ := by
  have hL : ∀ (ks : List Lk) (ls : List Lf), (∀ l ∈ ls, l.isVec = true → ∀ i e, look st.vec i = some e → ∀ b, (at_ Γ.ρ i).loc.ownBlock = some b → ∀ o, ¬ O' b o) → (∀ l ∈ ls, l.ok P w (Own Γ st) Γ) → (adaptL P st.vec ks ls).map (Lf.den Γ) = ls.map (Lf.den Γ) ∧ ∀ l ∈ adaptL P st.vec ks ls, l.ok P w O' Γ := by
    intro ks
    induction ks with
    | nil => intro ls h1 h2; cases ls <;> exact ⟨rfl, fun l hl => Lf.ok_anti (h2 l hl) hO⟩
    | cons k ks ih =>
      intro ls h1 h2
      cases ls with
      | nil => exact ⟨rfl, fun l hl => by cases hl⟩
      | cons l ls =>
        obtain ⟨g1, g2⟩ := ih ls (fun x hx => h1 x (by simp [hx])) (fun x hx => h2 x (by simp [hx]))
        obtain ⟨g3, g4⟩ := Lf.adapt_spec h hO (k := k) (h1 l (by simp)) (h2 l (by simp))
        refine ⟨by simp [adaptL, g1, g3], fun x hx => ?_⟩
        rcases List.mem_cons.1 hx with rfl | hx
        · exact g4
        · exact g2 x hx
  unfold S0.adapt
  split
  · rename_i k l
    obtain ⟨g3, g4⟩ := Lf.adapt_spec h hO (k := k) (hl l (by simp [S0.cells])) (ho l (by simp [S0.cells]))
    exact ⟨g3, fun x hx => by simp [S0.cells] at hx; subst hx; exact g4⟩
  · rename_i ks ls
    obtain ⟨g1, g2⟩ := hL ks ls hl ho
    exact ⟨by simp only [S0.den, dens, g1], g2⟩
  · exact ⟨rfl, fun l hl => Lf.ok_anti (ho l hl) hO⟩
theorem adapts_spec (h : Sat P F w0 Γ st a w) {O' : Nat → Nat → Prop} (hO : ∀ b o, O' b o → Own Γ st b o) : ∀ {shs : List Sh0} {ss : List S0}, (∀ s ∈ ss, ∀ l ∈ s.cells, l.isVec = true → ∀ i e, look st.vec i = some e → ∀ b, (at_ Γ.ρ i).loc.ownBlock = some b → ∀ o, ¬ O' b o) → (∀ s ∈ ss, s.ok P w (Own Γ st) Γ) →
    (adapts P st.vec shs ss).map (S0.den Γ) = ss.map (S0.den Γ) ∧ ∀ s ∈ adapts P st.vec shs ss, s.ok P w O' Γ
  | [], ss, h1, h2 => by cases ss <;> exact ⟨rfl, fun s hs l hl => Lf.ok_anti (h2 s hs l hl) hO⟩
  | _ :: _, [], _, _ => ⟨rfl, fun l hl => by cases hl⟩
  | sh :: shs, s :: ss, h1, h2 => by
    obtain ⟨g1, g2⟩ := adapts_spec h hO (shs := shs) (ss := ss) (fun x hx => h1 x (by simp [hx])) (fun x hx => h2 x (by simp [hx]))
    obtain ⟨g3, g4⟩ := S0.adapt_spec h hO (sh := sh) (h1 s (by simp)) (h2 s (by simp))
    refine ⟨by simp [adapts, g1, g3], fun x hx => ?_⟩
    rcases List.mem_cons.1 hx with rfl | hx
    · exact g4
    · exact g2 x hx
theorem kindsL_noVec {O : Nat → Nat → Prop} : ∀ {ls : List Lf} {ks : List Lk}, kindsL ls = some ks → ks.all Lk.noVec = true → (∀ l ∈ ls, l.ok P w O Γ) → ∀ l ∈ ls, l.okR P w O Γ
  | [], _, _, _, _, l, hl => by cases hl
  | x :: ls, ks, h, hn, ho, l, hl => by
    simp only [kindsL] at h
    split at h
    · rename_i k ks' h1 h2
      cases h
      simp only [List.all_cons, Bool.and_eq_true] at hn
      rcases List.mem_cons.1 hl with rfl | hl
      · exact Lf.okR_of h1 hn.1 (ho _ (by simp))
      · exact kindsL_noVec h2 hn.2 (fun y hy => ho y (by simp [hy])) l hl
    · cases h
theorem shapes_okR {mem : Mem} {O : Nat → Nat → Prop} : ∀ {args : List S0} {ss : List Sh0}, shapes mem args = some ss → (kindsOf ss).all Lk.noVec = true → (∀ s ∈ args, s.ok P w O Γ) →
    (∀ s ∈ args, ∀ l ∈ s.cells, l.okR P w O Γ) ∧ ∀ b mb, S0.lf (.ptr b 0) ∈ args → look mem b = some mb → ∃ ks, kindsL mb.2 = some ks ∧ ks.all Lk.noVec = true
  | [], ss, _, _, _ => ⟨fun s hs => (by cases hs), fun b mb hb => (by cases hb)⟩
  | s :: args, ss, h, hn, ho => by
    simp only [shapes] at h
    split at h
    · rename_i sh hss h1 h2
      cases h
      have hk : kindsOf (sh :: hss) = sh.kinds ++ kindsOf hss := by simp [kindsOf]
      rw [hk, List.all_append, Bool.and_eq_true] at hn
      obtain ⟨i1, i2⟩ := shapes_okR h2 hn.2 (fun x hx => ho x (by simp [hx]))
      by_cases hp : ∃ b, s = .lf (.ptr b 0)
      · obtain ⟨b, rfl⟩ := hp
        refine ⟨fun x hx l hl => ?_, fun c mc hc hmc => ?_⟩
        · rcases List.mem_cons.1 hx with rfl | hx
          · simp [S0.cells] at hl; subst hl; trivial
          · exact i1 x hx l hl
        · rcases List.mem_cons.1 hc with e | hc
          · cases e
            simp only [S0.shapeM, hmc, Option.map_eq_some_iff] at h1
            obtain ⟨ks, hks, rfl⟩ := h1
            exact ⟨ks, hks, hn.1⟩
          · exact i2 c mc hc hmc
      · have hsm : s.shapeM mem = s.shape := by
          unfold S0.shapeM; split
          · exact absurd ⟨_, rfl⟩ hp
          · rfl
        rw [hsm] at h1
        refine ⟨fun x hx l hl => ?_, fun c mc hc hmc => ?_⟩
        · rcases List.mem_cons.1 hx with rfl | hx
          · cases x with
            | lf y =>
              simp only [S0.shape, Option.map_eq_some_iff] at h1
              obtain ⟨k, hk, rfl⟩ := h1
              simp [S0.cells] at hl; subst hl
              exact Lf.okR_of hk (by simpa [Sh0.kinds] using hn.1) (ho (.lf l) (by simp) l (by simp [S0.cells]))
            | agg ls =>
              simp only [S0.shape, Option.map_eq_some_iff] at h1
              obtain ⟨ks, hk', rfl⟩ := h1
              exact kindsL_noVec hk' hn.1 (ho (.agg ls) (by simp)) l hl
          · exact i1 x hx l hl
        · rcases List.mem_cons.1 hc with e | hc
          · exact absurd ⟨c, e.symm⟩ hp
          · exact i2 c mc hc hmc
    · cases h
/-! Results that hold no slice of somebody else -/
theorem CReps.flat {O O' : Nat → Nat → Prop} : ∀ {ks : List Lk} {us : List Value} {cs : List C}, CReps P w O ks us cs → ks.all Lk.noArr = true → CReps P w O' ks us cs
  | [], [], [], _, _ => trivial
  | k :: ks, u :: us, c :: cs, h, hn => by
    simp only [List.all_cons, Bool.and_eq_true] at hn
    refine ⟨⟨h.1.1, ?_⟩, CReps.flat h.2 hn.2⟩
    have h1 := h.1.2
    cases k with
    | arr t => cases hn.1
    | _ => exact h1
  | [], [], _ :: _, h, _ => h.elim
  | [], _ :: _, _, h, _ => h.elim
  | _ :: _, [], _, h, _ => h.elim
  | _ :: _, _ :: _, [], h, _ => h.elim
theorem rowsK_noArr {ks : List Lk} (h : ks.all Lk.noArr = true) (n : Nat) : (rowsK n ks).all Lk.noArr = true := by
  induction n with
  | zero => rfl
  | succ n ih => rw [rowsK_succ, List.all_append, h, ih]; rfl
theorem LRep.flat {O O' : Nat → Nat → Prop} {k : Lk} (hk : flatK P k = true) {u : Value} {c : C} (h : LRep P w O k u c) : LRep P w O' k u c := by
  refine ⟨h.1, ?_⟩
  have h1 := h.2
  cases k with
  | int => exact h1
  | bool => exact h1
  | arr t => cases hk
  | opq => exact h1
  | vec t =>
    refine ⟨h1.1, ?_⟩
    obtain ⟨ks, us, k1, k2, k3, k4, k5⟩ := h1.2
    simp only [flatK, k1] at hk
    exact ⟨ks, us, k1, k2, k3, k4.flat (rowsK_noArr hk _), k5⟩
theorem LReps.flat {O O' : Nat → Nat → Prop} : ∀ {ks : List Lk} {us : List Value} {cs : List C}, ks.all (flatK P) = true → LReps P w O ks us cs → LReps P w O' ks us cs
  | [], [], [], _, _ => trivial
  | k :: ks, u :: us, c :: cs, hn, h => by
    simp only [List.all_cons, Bool.and_eq_true] at hn
    exact ⟨h.1.flat hn.1, LReps.flat hn.2 h.2⟩
  | [], [], _ :: _, _, h => h.elim
  | [], _ :: _, _, _, h => h.elim
  | _ :: _, [], _, _, h => h.elim
  | _ :: _, _ :: _, [], _, h => h.elim
theorem Reps.flat {O O' : Nat → Nat → Prop} {n : Nat} : ∀ {ss : List Sh0} {vs : List Value} {cs : List C}, (kindsOf ss).all (flatK P) = true → Reps P w O (some n) ss vs cs → Reps P w O' (some n) ss vs cs
  | [], [], cs, _, h => h
  | s :: ss, v :: vs, cs, hn, h => by
    have hk : kindsOf (s :: ss) = s.kinds ++ kindsOf ss := by simp [kindsOf]
    rw [hk, List.all_append, Bool.and_eq_true] at hn
    obtain ⟨c1, c2, rfl, h1, h2⟩ := h
    refine ⟨c1, c2, rfl, ?_, Reps.flat hn.2 h2⟩
    cases s with
    | lf k => obtain ⟨c, rfl, hc⟩ := h1; exact ⟨c, rfl, hc.flat (by simpa [Sh0.kinds] using hn.1)⟩
    | agg l => obtain ⟨us, e, hc⟩ := h1; exact ⟨us, e, LReps.flat hn.1 hc⟩
    | box t l => obtain ⟨b, us, e, hb, hge, hc⟩ := h1; exact ⟨b, us, e, hb, hge, LReps.flat hn.1 hc⟩
  | [], _ :: _, _, _, h => h.elim
  | _ :: _, [], _, _, h => h.elim
theorem Outs.flat {O O' : Nat → Nat → Prop} : ∀ {ss : List Sh0} {vs : List Value} {cs : List C}, (boxKinds ss).all (flatK P) = true → Outs P w O ss vs cs → Outs P w O' ss vs cs
  | [], vs, cs, _, h => by cases vs <;> exact h
  | s :: ss, [], cs, _, h => by cases s <;> exact h
  | s :: ss, v :: vs, cs, hn, h => by
    cases s with
    | lf k => exact Outs.flat (ss := ss) hn h
    | agg l => exact Outs.flat (ss := ss) hn h
    | box t l =>
      have hk : boxKinds (.box t l :: ss) = l ++ boxKinds ss := rfl
      rw [hk, List.all_append, Bool.and_eq_true] at hn
      obtain ⟨c1, c2, b, us, e, ev, hb, hc, ho⟩ := h
      exact ⟨c1, c2, b, us, e, ev, hb, LReps.flat hn.1 hc, Outs.flat hn.2 ho⟩
theorem Res.flat {O O' : Nat → Nat → Prop} {n : Nat} {ss : List Sh0} {v : Value} {cs : List C} (hn : (kindsOf ss).all (flatK P) = true) (h : Res P w O n ss v cs) : Res P w O' n ss v cs := by
  obtain ⟨vs, hv, hr, h1, h2⟩ := h
  exact ⟨vs, hv, Reps.flat hn hr, h1, h2⟩
/-- What is known blocks' and older than the call. -/
def OwnM (Γ : Env) (st : St) (b o : Nat) : Prop := Γ.base b o ∨ ∃ j, Hold Γ st true j b
theorem OwnM.own {b o : Nat} (h : OwnM Γ st b o) : Own Γ st b o := by
  rcases h with h | ⟨j, h⟩
  · exact .inl h
  · exact h.own o
end
section
variable {cx : Cx} {R : List C → Prop} {F : Nat → Prop} {w0 : World}
theorem Lf.plain_ok {P : Program} {w : World} {O : Nat → Nat → Prop} {Γ : Env} {l : Lf} (h : l.plain = true) : l.ok P w O Γ := by
  cases l with
  | int e => trivial
  | bool e => trivial
  | _ => cases h
theorem SV.plain_ok {P : Program} {w : World} {O : Nat → Nat → Prop} {Γ : Env} {s : SV} (h : s.plain = true) : s.ok P w O Γ := by
  cases s with
  | one s => exact fun l hl => Lf.plain_ok (List.all_eq_true.1 h l hl)
  | tup ss => cases h
  | fn f ls => exact fun l hl => Lf.plain_ok (List.all_eq_true.1 h l hl)
theorem callCt_sound (hcx : CxOK cx) {st : St} {o : Oper} {f : Nat} {args : List S0} {k : St → Option Tree} {T : Tree} (h : callCt cx st o f args k = some T) {Γ : Env} {Ls : List (List C → Prop)} (hl : Ls.length = st.lvl) (hvc : VC cx R T Γ.ρ Ls)
    {a : Act} {w : World} (hs : Sat cx.P F w0 Γ st a w) {K : Act → World → Prop} {Q : Exit → Act → World → Prop} (hk : Next cx R F w0 k Γ Ls K) (ha2 : ∀ s ∈ args, s.ok cx.P w (Own Γ st) Γ)
    (hrun : ∀ hc : Callable cx.P f, (execOp a.eval o).run cx.P w = .ok (.enter f (args.map (S0.den Γ)).toArray) w) : o.wp cx.P a w K Q := by
  unfold callCt at h
  split at h
  · rename_i ct hct
    obtain ⟨hc, hcok, -⟩ := hcx.ct f ct hct
    split at h
    · rename_i hcond
      obtain ⟨hsh, hwf, hbx, hlend⟩ := hcond
      generalize hargs : adapts cx.P st.vec ct.args args = args' at *
      cases hp : (st.called ct args').put o.dst (some (svOf (freshS st.nb ct.res st.nx))) with
      | none => simp [hp] at h
      | some st' =>
        cases hk' : k st' with
        | none => simp [hp, hk'] at h
        | some T' =>
          simp [hp, hk'] at h
          subst h
          obtain ⟨hob, hvc'⟩ := VC.obT hvc
          simp only [VC, hct] at hvc'
          obtain ⟨hpre, hall⟩ := hvc'
          have hnv : (kindsOf ct.args).all Lk.noVec = true := by
            simp only [boxOk, Bool.and_eq_true] at hbx; exact hbx.2
          -- the blocks that the callee must not see
          obtain ⟨O, hO1, hO2, hO3, hO4⟩ : ∃ O : Nat → Nat → Prop, (∀ b o, O b o → Own Γ st b o) ∧ (∀ j mb, look st.mem j = some mb → ∀ o, O (Γ.blk j) o) ∧ (∀ s ∈ args, ∀ l ∈ s.cells, l.isVec = true → ∀ i e, look st.vec i = some e → ∀ b, (at_ Γ.ρ i).loc.ownBlock = some b → ∀ o, ¬ O b o) ∧
              (∀ w' v rs outs, Res cx.P w' O w.heap.size ct.res v rs → Outs cx.P w' (fun b o => O b o ∨ b ∈ vecB (kindsOf ct.res) rs) ct.args (args'.map (S0.den Γ)) outs → Res cx.P w' (Own Γ st) w.heap.size ct.res v rs ∧ Outs cx.P w' (fun b o => Own Γ st b o ∨ b ∈ vecB (kindsOf ct.res) rs) ct.args (args'.map (S0.den Γ)) outs) := by
            rcases hlend with hno | hflat
            · refine ⟨Own Γ st, fun _ _ h => h, fun j mb hj o => (Hold.mem (Γ := Γ) hj).own o, fun s hs' l hl' hv => ?_, fun w' v rs outs h1 h2 => ⟨h1, h2⟩⟩
              have := List.all_eq_true.1 (List.all_eq_true.1 hno s hs') l hl'
              rw [hv] at this; cases this
            · rw [List.all_append, Bool.and_eq_true] at hflat
              refine ⟨OwnM Γ st, fun _ _ h => h.own, fun j mb hj o => .inr ⟨j, Hold.mem (Γ := Γ) hj⟩, fun s hs' l hl' hv i e hi b hb o ho => ?_, fun w' v rs outs h1 h2 => ⟨h1.flat hflat.1, h2.flat hflat.2⟩⟩
              rcases ho with ho | ⟨j, ho⟩
              · exact ((hs.vec i e hi).2.2 b hb).2 o ho
              · have := (hs.inj _ _ _ _ _ ho (Hold.vec (Γ := Γ) hi hb)).1; cases this
          obtain ⟨hden, hok'⟩ := adapts_spec hs hO1 (shs := ct.args) hO3 ha2
          rw [hargs] at hden hok'
          obtain ⟨hokR, hboxk⟩ := shapes_okR (Γ := Γ) hsh hnv hok'
          have hreps := cells_rep (P := cx.P) (w := w) (O := O) (old := none) hs.num hsh hokR (fun b mb hin hmb => ⟨(hs.mem b mb hmb).1, fun l hl' => by
            obtain ⟨ks, hks, hkn⟩ := hboxk b mb hin hmb
            refine kindsL_noVec hks hkn (fun l hl' => ((hs.mem b mb hmb).2.1 l hl').anti' (fun x o hx => ?_)) l hl'
            rcases hx with hx | hx
            · exact hO1 x o hx
            · cases hx; exact (Hold.mem (Γ := Γ) hmb).own o, fun o => hO2 b mb hmb o⟩) hob
          unfold Oper.wp
          rw [hrun hc, ← hden]
          refine (hcok O w _ _ (fun b o hb => hs.own_lt b o (hO1 b o hb)) hreps hpre).mono ?_
          rintro e w' ⟨v, rs, outs, rfl, hres, houts, hpost, hkeep⟩
          obtain ⟨hres, houts⟩ := hO4 w' v rs outs hres houts
          obtain ⟨hty, Γ', e1, e2, e3, e4, e5⟩ := hs.called hwf hsh hbx hres houts hkeep
          have hvc2 := allC_elim hall (rs ++ outs) hty hpost
          rw [← e2] at hvc2
          have hput := e3.put hp e5
          rw [e4] at hput
          exact hk st' T' Γ' Ls hk' e1 (List.prefix_refl _) (by rw [St.put_lvl hp]; exact hl) hvc2 _ _ hput
    · cases h
  · cases h
theorem Sat.knowB {P : Program} {Γ : Env} {st : St} {a : Act} {w : World} (hs : Sat P F w0 Γ st a w) {b : B} {t : Bool} (hb : b.den Γ.ρ = t) : Sat P F w0 Γ (st.know none b t) a w :=
  hs.slots' hs.slots hs.size hs.defers ⟨learn_ok hs.num.len (by rw [hs.len]; exact Nat.le_refl _) b st.bds t hs.num.bds hb, hs.num.len⟩
theorem look_trim {α : Type} {nb : Nat} : ∀ {l : List (Nat × Option α)} {b : Nat}, (look (l.filter fun p => Nat.blt p.1 nb) b = look l b ∧ b < nb) ∨ look (l.filter fun p => Nat.blt p.1 nb) b = none
  | [], b => .inr rfl
  | (k, v) :: l, b => by
    rcases @look_trim α nb l b with ⟨h, hb⟩ | h
    · refine .inl ⟨?_, hb⟩
      by_cases hk : k = b
      · subst hk
        have : Nat.blt k nb = true := Nat.ble_eq_true_of_le hb
        simp only [List.filter, this, look, if_true]
      · cases hc : Nat.blt k nb <;> simp only [List.filter, hc, look, hk, if_false] <;> exact h
    · cases hc : Nat.blt k nb with
      | false => right; simp only [List.filter, hc]; exact h
      | true =>
        by_cases hk : k = b
        · subst hk
          exact .inl ⟨by simp only [List.filter, hc, look, if_true], Nat.le_of_ble_eq_true hc⟩
        · right; simp only [List.filter, hc, look, hk, if_false]; exact h
def Env.cutB (Γ : Env) (n : Nat) : Env := { Γ with nb := n }
theorem Lf.den_cutB (Γ : Env) (n : Nat) (l : Lf) : l.den (Γ.cutB n) = l.den Γ := by cases l <;> rfl
theorem dens_cutB (Γ : Env) (n : Nat) (l : List Lf) : dens (Γ.cutB n) l = dens Γ l := by
  exact congrArg List.toArray (List.map_congr_left fun x _ => Lf.den_cutB Γ n x)
theorem S0.den_cutB (Γ : Env) (n : Nat) (s : S0) : s.den (Γ.cutB n) = s.den Γ := by
  cases s with
  | lf l => exact Lf.den_cutB Γ n l
  | agg l => simp only [S0.den, dens_cutB]
theorem SV.den_cutB (Γ : Env) (n : Nat) (s : SV) : s.den (Γ.cutB n) = s.den Γ := by
  cases s with
  | one s => exact S0.den_cutB Γ n s
  | tup l => exact congrArg (fun m : List Value => Value.tuple m.toArray) (List.map_congr_left fun x _ => S0.den_cutB Γ n x)
  | fn f l => simp only [SV.den, dens_cutB]
theorem Lf.ok_cutB {P : Program} {w : World} {O : Nat → Nat → Prop} {Γ : Env} {n : Nat} {l : Lf} : l.ok P w O (Γ.cutB n) ↔ l.ok P w O Γ := by cases l <;> exact Iff.rfl
theorem S0.ok_cutB {P : Program} {w : World} {O : Nat → Nat → Prop} {Γ : Env} {n : Nat} {s : S0} : s.ok P w O (Γ.cutB n) ↔ s.ok P w O Γ := ⟨fun h l hl => Lf.ok_cutB.1 (h l hl), fun h l hl => Lf.ok_cutB.2 (h l hl)⟩
theorem SV.ok_cutB {P : Program} {w : World} {O : Nat → Nat → Prop} {Γ : Env} {n : Nat} {s : SV} : s.ok P w O (Γ.cutB n) ↔ s.ok P w O Γ := by
  cases s with
  | one s => exact S0.ok_cutB
  | tup l => exact ⟨fun h s hs => S0.ok_cutB.1 (h s hs), fun h s hs => S0.ok_cutB.2 (h s hs)⟩
  | fn f l => exact ⟨fun h x hx => Lf.ok_cutB.1 (h x hx), fun h x hx => Lf.ok_cutB.2 (h x hx)⟩
theorem SV.anti0 {P : Program} {w : World} {O O' : Nat → Nat → Prop} {Γ : Env} {l : SV} (h : l.ok P w O Γ) (hh : ∀ b o, O' b o → O b o) : l.ok P w O' Γ := by
  cases l with
  | one s => exact fun x hx => Lf.ok_anti (h x hx) hh
  | tup l => exact fun s hs x hx => Lf.ok_anti (h s hs x hx) hh
  | fn f l => exact fun x hx => Lf.ok_anti (h x hx) hh
theorem Sat.trim {P : Program} {F : Nat → Prop} {w0 : World} {Γ : Env} {st : St} {a : Act} {w : World} (h : Sat P F w0 Γ st a w) (n : Nat) : (∀ b o, Own (Γ.cutB n) (st.trim n) b o → Own Γ st b o) ∧ Sat P F w0 (Γ.cutB n) (st.trim n) a w := by
  have hl : ∀ b mb, look (st.trim n).mem b = some mb → look st.mem b = some mb ∧ b < n := fun b mb hb => by
    rcases @look_trim _ n st.mem b with ⟨h1, h2⟩ | h1
    · exact ⟨h1 ▸ hb, h2⟩
    · rw [show (st.trim n).mem = st.mem.filter fun p => Nat.blt p.1 n from rfl, h1] at hb; cases hb
  have hhold : ∀ s j b, Hold (Γ.cutB n) (st.trim n) s j b → Hold Γ st s j b := fun s j b hh => by
    rcases hh.inv with ⟨rfl, mb, h1, rfl⟩ | ⟨rfl, e, h1, h2⟩
    · exact Hold.mem (hl _ _ h1).1
    · exact Hold.vec (st := st) h1 h2
  have hown : ∀ b o, Own (Γ.cutB n) (st.trim n) b o → Own Γ st b o := fun b o ho => by
    rcases Own.iff.1 ho with ho | ⟨s, j, hh⟩
    · exact .inl ho
    · exact (hhold s j b hh).own o
  refine ⟨hown, fun t sv ht => ⟨?_, SV.ok_cutB.2 (SV.anti0 (h.slots t sv ht).2 hown)⟩, h.size, fun b mb hb => ?_, fun i e he => ?_, fun i e he => ?_, fun s j s' j' b h1 h2 => h.inj s j s' j' b (hhold _ _ _ h1) (hhold _ _ _ h2), h.keeps, h.fold, h.base, h.defers, h.len, rfl, h.num⟩
  · rw [SV.den_cutB]; exact (h.slots t sv ht).1
  · obtain ⟨h1, h2⟩ := hl b mb hb
    obtain ⟨m1, m2, m3, m4⟩ := h.mem b mb h1
    refine ⟨?_, fun l hl => Lf.ok_cutB.2 (Lf.ok_anti (m2 l hl) hown), m3, h2⟩
    rw [dens_cutB]; exact m1
  · obtain ⟨v1, v2, v3⟩ := h.vec i e he
    exact ⟨VecOK.anti v1 hown, v2, v3⟩
  · obtain ⟨c1, c2, c3⟩ := h.clo i e he
    refine ⟨?_, fun s hs => S0.ok_cutB.2 fun l hl => Lf.ok_anti (c2 s hs l hl) hown, fun l hl => Lf.ok_cutB.2 (Lf.ok_anti (c3 l hl) hown)⟩
    rw [show (at_ (Γ.cutB n).ρ i).loc = (at_ Γ.ρ i).loc from rfl, c1]
    rw [List.map_congr_left fun x _ => S0.den_cutB Γ n x, List.map_congr_left fun x _ => Lf.den_cutB Γ n x]
theorem callF_sound (hcx : CxOK cx) {st : St} {o : Oper} {f : Nat} {args : List S0} {k : St → Option Tree} {T : Tree} (h : callF cx st o f args k = some T) {Γ : Env} {Ls : List (List C → Prop)} (hl : Ls.length = st.lvl) (hvc : VC cx R T Γ.ρ Ls)
    {a : Act} {w : World} (hs : Sat cx.P F w0 Γ st a w) {K : Act → World → Prop} {Q : Exit → Act → World → Prop} (hk : Next cx R F w0 k Γ Ls K) (ha2 : ∀ s ∈ args, s.ok cx.P w (Own Γ st) Γ)
    (hrun : ∀ hc : Callable cx.P f, (execOp a.eval o).run cx.P w = .ok (.enter f (args.map (S0.den Γ)).toArray) w) : o.wp cx.P a w K Q := by
  unfold callF at h
  split at h
  · exact callCt_sound hcx h hl hvc hs hk ha2 hrun
  · split at h
    · rename_i hc
      simp only [Bool.and_eq_true] at hc
      obtain ⟨hc1, hc2⟩ := hcx.hd _ _ _ _ _ h
      unfold Oper.wp
      rw [hrun hc1]
      refine (hc2 R F w0 Γ Ls a w (fun v w' => K (a.put o.dst v) w') hl hvc (hs.repath _) hc.1 hc.2 ha2 ?_).mono ?_
      · intro l st' T' Γ' Ls' hk' he hl' hlen hvc' w' hs' hok
        have key : ∀ (st1 : St) (Γ1 : Env), trimH cx st o st' = st1 → Ext Γ Γ1 → st1.lvl = st'.lvl → Γ1.ρ = Γ'.ρ → Sat cx.P F w0 Γ1 st1 a w' → (∀ s ∈ l, s.ok cx.P w' (Own Γ1 st1) Γ1) → l.map (S0.den Γ1) = l.map (S0.den Γ') → K (a.put o.dst (valOf (l.map (S0.den Γ')))) w' := fun st1 Γ1 e1 he1 hlv hρ1 hs1 hok1 hden => by
          rw [e1] at hk'
          cases hp : ({ st1 with path := st.path } : St).put o.dst (some (svOf l)) with
          | none => simp [hp] at hk'
          | some st2 =>
            simp [hp] at hk'
            have hput := (hs1.repath st.path).put hp (svOf_ok hok1)
            rw [svOf_den, hden] at hput
            exact hk st2 T' Γ1 Ls' hk' he1 hl' (by rw [St.put_lvl hp]; show Ls'.length = st1.lvl; rw [hlv]; exact hlen) (by rw [hρ1]; exact hvc') _ _ hput
        unfold trimH at key
        by_cases hh : (cx.hv (st.path * 100000 + 80000 + o.dst.getD 0)).isEmpty = true
        · exact key st' Γ' (if_pos hh) he rfl rfl hs' hok rfl
        · obtain ⟨t1, t2⟩ := hs'.trim st.nb
          exact key (st'.trim st.nb) (Γ'.cutB st.nb) (if_neg hh) ⟨he.ρ, he.blk, by show Γ.nb ≤ st.nb; rw [hs.nb]; exact Nat.le_refl _, he.base, he.up⟩ rfl rfl t2 (fun s hsl => S0.ok_cutB.2 fun x hx => Lf.ok_anti (hok s hsl x hx) t1) (List.map_congr_left fun x _ => S0.den_cutB Γ' st.nb x)
      · rintro e w' ⟨v, rfl, hv⟩
        exact hv
    · cases h
theorem freezeAll_sound {k : St → Option Tree} : ∀ (l : List Nat) (st : St) (T : Tree), freezeAll l st k = some T → ∀ (Γ : Env) (Ls : List (List C → Prop)), VC cx R T Γ.ρ Ls → ∀ {a : Act} {w : World}, Sat cx.P F w0 Γ st a w →
    ∃ st' T' Γ', k st' = some T' ∧ Ext Γ Γ' ∧ st'.lvl = st.lvl ∧ VC cx R T' Γ'.ρ Ls ∧ Sat cx.P F w0 Γ' st' a w
  | [], st, T, h, Γ, Ls, hvc, a, w, hs => ⟨st, T, Γ, h, Ext.refl _, rfl, hvc, hs⟩
  | i :: l, st, T, h, Γ, Ls, hvc, a, w, hs => by
    simp only [freezeAll] at h
    split at h
    · rename_i e st1 hf
      cases hr : freezeAll l st1 k with
      | none => simp [hr] at h
      | some T1 =>
        simp [hr] at h
        subst h
        obtain ⟨e1, e2, e3⟩ := hs.freeze hf
        obtain ⟨st', T', Γ', g1, g2, g3, g4, g5⟩ := freezeAll_sound l st1 T1 hr { Γ with ρ := Γ.ρ ++ [e.ev Γ.ρ] } Ls hvc e2
        exact ⟨st', T', Γ', g1, e1.trans g2, g3.trans e3, g4, g5⟩
    · exact freezeAll_sound l st T h Γ Ls hvc hs
end
/-! Slices made, appended to, written -/
section
variable {P : Program} {F : Nat → Prop} {w0 : World} {Γ : Env} {st : St} {a : Act} {w : World}
theorem ownsRow_full (w : World) (te : TypeId) (size n : Nat) (cs : Array Value) (hcs : cs.size = n * size) (hn : n ≤ maxLen) : (w.alloc (.cells cs te)).ownsRow 0 te size (.slice (some ⟨w.heap.size, 0, none⟩) n n) n cs.toList :=
  ⟨by simpa using hcs, .inr ⟨w.heap.size, n, cs, rfl, Nat.zero_le _, heap_alloc_new w _, Nat.le_refl _, hn, hcs, by rw [List.take_of_length_le (by simp [hcs])]⟩⟩
/-- A new slice that has just been laid. -/
theorem VecOK.laid {te : TypeId} {ks : List Lk} (hk : kinds P te = some ks) {rows : List (List C)} {cs : Array Value} (hr : CReps P w (Own Γ st) (rowsK rows.length ks) cs.toList rows.flatten) (hl : ∀ r ∈ rows, r.length = ks.length) (hn : rows.length ≤ maxLen) :
    VecOK P (w.alloc (.cells cs te)) (fun b o => Own Γ st b o ∨ w.heap.size ≤ b) te (.slice (some ⟨w.heap.size, 0, none⟩) rows.length rows.length) (.s (.slice (some ⟨w.heap.size, 0, none⟩) rows.length rows.length) rows) := by
  have hlen := hr.len.1
  rw [rowsK_len, Array.length_toList] at hlen
  exact ⟨ks, cs.toList, hk, ⟨_, rfl⟩, hl, hr.up (row := none) (World.grownBy_alloc w _ none) (fun b hb => by cases hb), ownsRow_full w te ks.length rows.length cs hlen hn⟩
theorem rows_CReps {bd : Bds} (hn : Num bd Γ.ρ) {ks : List Lk} (hno : ks.all Lk.row = true) {rows : List (List Lf)} (hk : ∀ r ∈ rows, kindsL r = some ks) (ho : ∀ r ∈ rows, ∀ l ∈ r, l.ok P w (Own Γ st) Γ) (hob : Obs Γ.ρ (rngL bd rows.flatten)) :
    CReps P w (Own Γ st) (rowsK rows.length ks) (rows.flatten.map (Lf.den Γ)) (rows.map (cs_ Γ.ρ)).flatten := by
  have h := CReps.rows (P := P) (w := w) (O := Own Γ st) (ks := ks) (rs := rows.map fun r => (r.map (Lf.den Γ), cs_ Γ.ρ r)) (fun r hr => by
    obtain ⟨r', hr', rfl⟩ := List.mem_map.1 hr
    exact CReps.of_LReps (Ls_rep hn (hk r' hr') (kindsL_noVec (hk r' hr') (row_noVec hno) (ho r' hr')) (rngL_flatten hob r' hr')) hno)
  rw [List.length_map] at h
  have e1 : (rows.map fun r => (r.map (Lf.den Γ), cs_ Γ.ρ r)).flatMap (·.1) = rows.flatten.map (Lf.den Γ) := by
    rw [List.flatMap_map, List.map_flatten]; rfl
  have e2 : (rows.map fun r => (r.map (Lf.den Γ), cs_ Γ.ρ r)).flatMap (·.2) = (rows.map (cs_ Γ.ρ)).flatten := by
    rw [List.flatMap_map]; rfl
  rw [e1, e2] at h
  exact h
theorem madeCells_list (z : Array Value) (n : Nat) : (madeCells z (n * z.size)).toList = (List.replicate n z.toList).flatten := by
  apply List.ext_getElem?
  intro j
  by_cases hz : z.size = 0
  · have : z.toList = [] := List.eq_nil_of_length_eq_zero (by simpa using hz)
    simp [madeCells, hz, this]
  · by_cases hj : j < n * z.size
    · have hi : j / z.size < n := Nat.div_lt_of_lt_mul (by rwa [Nat.mul_comm] at hj)
      have hm : j % z.size < z.size := Nat.mod_lt _ (by omega)
      have hf := flatten_get (sz := z.size) (List.replicate n z.toList) (fun r hr => by rw [List.eq_of_mem_replicate hr]; simp) (j / z.size) (j % z.size) z.toList (by simp [hi]) hm
      rw [show j / z.size * z.size + j % z.size = j by rw [Nat.mul_comm]; exact Nat.div_add_mod _ _] at hf
      rw [hf]
      simp [madeCells, hj, hm]
    · have h1 : (madeCells z (n * z.size)).toList.length ≤ j := by simp [madeCells]; omega
      have h2 : (List.replicate n z.toList).flatten.length ≤ j := by
        rw [flatten_len (sz := z.size) (fun r hr => by rw [List.eq_of_mem_replicate hr]; simp)]
        simp; omega
      rw [List.getElem?_eq_none h1, List.getElem?_eq_none h2]
/-- Nothing is appended. -/
theorem run_append_empty {t ty e : TypeId} {i : TypeInfo} (ht : P.underlying t = some (.slice e)) (hi : P.info? e = some i) {v : Value} {n size : Nat} {xs : List Value} (ho : w.ownsRow 0 e size v n xs) {a : Option Addr} {c : Nat} :
    (Builtin.append_ #[t, t] ty #[v, .slice a 0 c]).run P w = .ok v w := by
  have hf : (Builtin.firstCells i.size 0 (.slice a 0 c)).run P w = .ok #[] w := by
    cases a with
    | none => exact run_firstCells_none w _ _ _ _
    | some b =>
      have := run_firstCells_some (P := P) w i.size 0 b 0 c [] (by simp) (fun j v hj => by simp at hj)
      exact this
  rcases ho.2 with ⟨rfl, rfl⟩ | ⟨g, cap, cur, rfl, -, hg, hnc, -⟩
  · simp [Builtin.append_, run_underlying ht, sizeOf, typeInfo, hi, Builtin.lenOf, hf]
  · simp [Builtin.append_, run_underlying ht, sizeOf, typeInfo, hi, Builtin.lenOf, hf, hnc, storeCells]
/-- What is appended to: a slice of one's own, or nil. -/
def CiOK (Γ : Env) (st : St) (ci : Option Nat) (v : Value) : Prop :=
  match ci with
  | some i => ∃ e, look st.vec i = some e ∧ v = (at_ Γ.ρ i).loc
  | none => v = .slice none 0 0
theorem Sat.append (h : Sat P F w0 Γ st a w) (hw : st.wf = true) {te t ty : TypeId} {ks : List Lk} {it : TypeInfo} {z : Value} (hk : kinds P te = some ks) (hu : P.underlying t = some (.slice te)) (hi : P.info? te = some it) (hz : it.zero = some z) (hzs : z.cells.size = ks.length) (hby : 1 ≤ it.bytes)
    {v vb : Value} {ra rb : List (List C)} {ci : Option Nat} (hci : CiOK Γ st ci v)
    (ha : VecOK P w (Own Γ st) te v (.s v ra)) {us : List Value} (hb : RowsAt P w (Own Γ st) ks vb rb us) (hle : ((ra.length : Int) + rb.length) * it.bytes ≤ 140737488355328) :
    ∃ v' w', (Builtin.append_ #[t, t] ty #[v, vb]).run P w = .ok v' w' ∧ Sat P F w0 { Γ with ρ := Γ.ρ ++ [.s v' (ra ++ rb)] } { st with nx := st.nx + 1, vec := (st.nx, some (te, .var st.nx)) :: dropV ci st.vec } a w' := by
  have hsz := kinds_size hk
  have hisz : it.size = ks.length := by have := hsz.1; simp only [sizeIs, hi, Option.map_some, Option.some.injEq] at this; exact this
  obtain ⟨ks', xs, hk', -, hla, hra, hoa⟩ := ha
  obtain rfl : ks = ks' := Option.some.inj (hk.symm.trans hk')
  simp only [C.rows] at hla hra hoa
  obtain ⟨hrb, hlb, ab, capb, rfl, hcb⟩ := hb
  have hle' : (ra.length + rb.length) * it.bytes ≤ 140737488355328 := by
    have : (((ra.length + rb.length) * it.bytes : Nat) : Int) ≤ 140737488355328 := by push_cast; exact hle
    omega
  have hmx : ra.length + rb.length ≤ maxLen := by
    have := Nat.le_mul_of_pos_right (ra.length + rb.length) (show 0 < it.bytes by omega)
    simp only [maxLen]; omega
  have hlab : ∀ r ∈ ra ++ rb, r.length = ks.length := fun r hr => (List.mem_append.1 hr).elim (hla r) (hlb r)
  have hrow : ∀ b, v.ownBlock = some b → ∀ o, Own Γ st b o := fun b hb o => by
    cases ci with
    | none => have hci : v = .slice none 0 0 := hci; rw [hci] at hb; cases hb
    | some i => obtain ⟨e, h1, h2⟩ := hci; exact (Hold.vec (Γ := Γ) h1 (by rw [← h2]; exact hb)).own o
  -- the new slice, where it lies in the row of the old one or in a new block
  have fin : ∀ v' w', (Builtin.append_ #[t, t] ty #[v, .slice ab rb.length capb]).run P w = .ok v' w' → w'.ownsRow 0 te ks.length v' (ra.length + rb.length) (xs ++ us) → w.grownBy w' v.ownBlock → (v'.ownBlock = v.ownBlock ∨ v'.ownBlock = some w.heap.size) →
      ∃ v' w', (Builtin.append_ #[t, t] ty #[v, .slice ab rb.length capb]).run P w = .ok v' w' ∧ Sat P F w0 { Γ with ρ := Γ.ρ ++ [.s v' (ra ++ rb)] } { st with nx := st.nx + 1, vec := (st.nx, some (te, .var st.nx)) :: dropV ci st.vec } a w' := by
    intro v' w' hrun hown hgr hat
    refine ⟨v', w', hrun, h.vnew hw (c := .s v' (ra ++ rb)) (te := te) (row := v.ownBlock) (ci := ci) ?_ hgr ?_ ?_⟩
    · cases ci with
      | none => have hci : v = .slice none 0 0 := hci; rw [hci]; rfl
      | some i => obtain ⟨e, h1, h2⟩ := hci; exact ⟨e, h1, by rw [h2]⟩
    · refine ⟨ks, xs ++ us, hk, ⟨_, rfl⟩, hlab, ?_, ?_⟩
      · simp only [C.rows, List.length_append, List.flatten_append]
        rw [rowsK_add]
        exact CReps.append (hra.up hgr hrow) (hrb.up hgr hrow)
      · simp only [C.loc, C.rows, List.length_append]; exact hown
    · intro b hb
      simp only [C.loc] at hb
      rcases hat with e | e
      · left; rw [← e]; exact hb
      · right; rw [e] at hb; cases hb; exact Nat.le_refl _
  by_cases h0 : rb = []
  · subst h0
    have hus : us = [] := List.eq_nil_of_length_eq_zero (by have := hrb.len.1; simpa [rowsK] using this)
    subst hus
    exact fin v w (run_append_empty hu hi hoa) (by simpa using hoa) (World.grownBy.rfl' w _) (.inl rfl)
  · obtain ⟨b, o, rfl, hcell⟩ := hcb h0
    obtain ⟨v', w', h1, h2, h3, h4, h5⟩ := run_append_own_at (P := P) w 0 t ty te it z ks.length it.bytes hu hi hz hisz rfl hzs (by omega) v ra.length xs hoa ⟨b, o, none⟩ rb.length capb us (by have := hrb.len.1; rwa [rowsK_len] at this) hcell hrb.one hmx hle' (Nat.zero_le _)
    exact fin v' w' h1 h2 h3 h5
theorem appA_spec (h : Sat P F w0 Γ st a w) {te : TypeId} {ks : List Lk} (hk : kinds P te = some ks) {la : Lf} {i : Option Nat} {ea : E} (hm : appA te st.vec la = some (i, ea)) : CiOK Γ st i (la.den Γ) ∧ VecOK P w (Own Γ st) te (la.den Γ) (.s (la.den Γ) (ea.ev Γ.ρ).rows) := by
  unfold appA at hm
  split at hm
  · rename_i ta j
    split at hm
    · rename_i e he
      split at hm
      · rename_i hce
        cases hm
        obtain ⟨ks', us, k1, k2, k3, k4, k5⟩ := (h.vec j e he).1
        refine ⟨⟨e, he, rfl⟩, ?_⟩
        rw [← hce.2]
        exact ⟨ks', us, k1, ⟨_, rfl⟩, k3, k4, k5⟩
      · cases hm
    · cases hm
  · split at hm
    · rename_i hnil
      cases hm
      have := Lf.isNil_eq hnil
      subst this
      exact ⟨rfl, ks, [], hk, ⟨_, rfl⟩, fun r hr => by simp [E.ev, C.rows] at hr, trivial, World.ownsRow_nil w 0 te ks.length⟩
    · cases hm
theorem appB_spec (h : Sat P F w0 Γ st a w) {te tb : TypeId} {ks : List Lk} (hk : kinds P tb = some ks) {lb : Lf} (ho : lb.ok P w (Own Γ st) Γ) {eb : E} (hm : appB te st.vec lb = some (tb, eb)) : ∃ us, RowsAt P w (Own Γ st) ks (lb.den Γ) (eb.ev Γ.ρ).rows us := by
  unfold appB at hm
  split at hm
  · rename_i hnil
    cases hm
    have := Lf.isNil_eq hnil
    subst this
    exact ⟨[], trivial, fun r hr => by simp [E.ev, C.rows] at hr, none, 0, rfl, fun hne => absurd rfl hne⟩
  · unfold rowsLf at hm
    split at hm
    · cases hm
      obtain ⟨v, rows, hev, d, S, hS, hA⟩ := ho
      have hd : (Lf.arr tb eb).den Γ = v := by simp only [Lf.den, hev, C.loc]
      rw [hd, hev]
      refine hA.us hS hk fun r hr c hc n => ?_
      rcases E.small h.num.len eb with h1 | h1
      · rw [hev] at h1; exact (h1 (n + 1)).2 r hr c hc
      · rw [hev] at h1; simp only [C.rows] at h1; subst h1; cases hr
    · split at hm
      · rename_i e he
        split at hm
        · cases hm
          exact (h.vec _ _ he).1.rowsAt hk
        · cases hm
      · cases hm
    · cases hm
end
end Go.Proofs.Ytbgofenplhdllaa
/- A slice of one's own, cut. -/
namespace Go.Proofs.Ytbgofenplhdllaa
open Go.RowKit
set_option linter.unusedSimpArgs false
set_option linter.unusedVariables false

theorem rowsK_take {n m : Nat} {ks : List Lk} (h : n ≤ m) : (rowsK m ks).take (n * ks.length) = rowsK n ks := by
  obtain ⟨d, rfl⟩ := Nat.exists_eq_add_of_le h
  rw [rowsK_add, List.take_append_of_le_length (by rw [rowsK_len]; exact Nat.le_refl _), List.take_of_length_le (by rw [rowsK_len]; exact Nat.le_refl _)]
theorem flatten_take {sz : Nat} : ∀ {rows : List (List C)}, (∀ r ∈ rows, r.length = sz) → ∀ n, rows.flatten.take (n * sz) = (rows.take n).flatten
  | [], _, n => by simp
  | r :: rows, h, 0 => by simp
  | r :: rows, h, n + 1 => by
    rw [List.flatten_cons, List.take_succ_cons, List.flatten_cons, ← flatten_take (fun x hx => h x (by simp [hx])) n, Nat.add_mul, Nat.one_mul, Nat.add_comm, ← h r (by simp), List.take_append, List.take_of_length_le (by omega)]
    rw [show r.length + n * r.length - r.length = n * r.length by omega]
section
variable {P : Program} {F : Nat → Prop} {w0 : World} {Γ : Env} {st : St} {a : Act} {w : World}
theorem Sat.cut (h : Sat P F w0 Γ st a w) (hw : st.wf = true) {te t : TypeId} {ks : List Lk} (hk : kinds P te = some ks) (hu : P.underlying t = some (.slice te)) {i : Nat} {e : TypeId × E} (he : look st.vec i = some e) (hte : e.1 = te) {n : Int} (h0 : 0 ≤ n) (h1 : n ≤ (e.2.ev Γ.ρ).rows.length) :
    ∃ v', (Instr.sliceAt t (at_ Γ.ρ i).loc none (some (.int .i64 n)) none).run P w = .ok v' w ∧ Sat P F w0 { Γ with ρ := Γ.ρ ++ [.s v' ((e.2.ev Γ.ρ).rows.take n.toNat)] } { st with nx := st.nx + 1, vec := (st.nx, some (te, .var st.nx)) :: dropV (some i) st.vec } a w := by
  obtain ⟨hvec, -, hF⟩ := h.vec i e he
  obtain ⟨ks', us, hk', ⟨v0, hv0⟩, hl, hr, ho⟩ := hvec
  rw [hte] at hk' ho
  obtain rfl : ks = ks' := Option.some.inj (hk.symm.trans hk')
  have hel : P.elem t = te := by simp [Program.elem, hu]
  have hsz := kinds_size hk
  have hown : ∀ b, (at_ Γ.ρ i).loc.ownBlock = some b → ∀ o, Own Γ st b o := fun b hb o => (Hold.vec (Γ := Γ) he hb).own o
  generalize hrows : (e.2.ev Γ.ρ).rows = rows at *
  generalize hloc : (at_ Γ.ρ i).loc = loc at *
  have hn : n.toNat ≤ rows.length := by omega
  have hlen : (rows.take n.toNat).length = n.toNat := by rw [List.length_take]; omega
  have hus := ho.1
  -- the value
  obtain ⟨v', hrun, hown', hob⟩ : ∃ v', (Instr.sliceAt t loc none (some (.int .i64 n)) none).run P w = .ok v' w ∧ w.ownsRow 0 te ks.length v' n.toNat (us.take (n.toNat * ks.length)) ∧ ∀ b, v'.ownBlock = some b → loc.ownBlock = some b := by
    have hul : P.underlying t = some (.slice (P.elem t)) := by rw [hel]; exact hu
    have hlt : (us.take (n.toNat * ks.length)).length = n.toNat * ks.length := by
      rw [List.length_take, hus]
      exact Nat.min_eq_left (Nat.mul_le_mul_right _ hn)
    obtain ⟨it, hit, hisz⟩ : ∃ it, P.info? te = some it ∧ it.size = ks.length := by
      have := hsz.1
      unfold sizeIs at this
      cases hi : P.info? te with
      | none => rw [hi] at this; cases this
      | some it => rw [hi] at this; exact ⟨it, rfl, by simpa using this⟩
    have hrs : (sizeOf (P.elem t)).run P w = .ok ks.length w := by
      rw [hel]; simp [sizeOf, typeInfo, hit, hisz]
    rcases ho.2 with ⟨e1, e2⟩ | ⟨g, cap, cur, e1, hB, hg, hnc, hcm, hcs, hct⟩
    · refine ⟨.slice none 0 0, ?_, ⟨hlt, .inl ⟨rfl, by omega⟩⟩, fun b hb => (by cases hb)⟩
      have : n = 0 := by omega
      subst this
      rw [e1, run_sliceAt_slice _ _ _ _ _ _ hul, run_slice_h (ht := hul) (h0 := by omega) (h2 := by omega), hrs]
      simp [Result.andThen, sliced]
    · refine ⟨.slice (some ⟨g, 0, none⟩) n.toNat cap, ?_, ⟨hlt, .inr ⟨g, cap, cur, rfl, hB, hg, by omega, hcm, hcs, ?_⟩⟩, fun b hb => (by rw [e1]; exact hb)⟩
      · rw [e1, run_sliceAt_slice _ _ _ _ _ _ hul, run_slice_h (ht := hul) (h0 := by omega) (h2 := by omega), hrs]
        simp [Result.andThen, sliced, Addr.add]
      · rw [← hct, List.take_take, Nat.min_eq_left (Nat.mul_le_mul_right _ hn)]
  refine ⟨v', hrun, h.vnew hw (c := .s v' (rows.take n.toNat)) (te := te) (row := loc.ownBlock) (ci := some i) ⟨e, he, by rw [hloc]⟩ (World.grownBy.rfl' w _) ?_ fun b hb => .inl (hob b hb)⟩
  refine ⟨ks, us.take (n.toNat * ks.length), hk, ⟨_, rfl⟩, fun r hr' => hl r (List.mem_of_mem_take hr'), ?_, ?_⟩
  · show CReps P w _ (rowsK (rows.take n.toNat).length ks) _ (rows.take n.toNat).flatten
    rw [hlen, ← rowsK_take hn, ← flatten_take hl]
    exact (hr.up (World.grownBy.rfl' w loc.ownBlock) hown).take _
  · show w.ownsRow 0 te ks.length v' (rows.take n.toNat).length _
    rw [hlen]
    exact hown'
end
end Go.Proofs.Ytbgofenplhdllaa
