/- The engine, part 11: one operation, a row of operations. -/
import Derived.Test.YtlbgcjpkegpmlaaEj
namespace Go.Proofs.Ytlbgcjpkegpmlaa
open Go.RowKit
set_option linter.unusedSimpArgs false
set_option linter.unusedVariables false

theorem VC.obT {cx : Cx} {R : List C → Prop} {ρ : List C} {Ls : List (List C → Prop)} : ∀ {l : List B} {t : Tree}, VC cx R (obT l t) ρ Ls → Obs ρ l ∧ VC cx R t ρ Ls
  | [], t, h => ⟨fun b hb => (by cases hb), h⟩
  | b :: l, t, h => by
    obtain ⟨h1, h2⟩ := h
    obtain ⟨h3, h4⟩ := VC.obT (l := l) h2
    refine ⟨fun x hx => ?_, h4⟩
    rcases List.mem_cons.1 hx with rfl | hx
    · exact h1
    · exact h3 x hx
theorem St.learnAll_lvl (st : St) (l : List B) : (st.learnAll l).lvl = st.lvl := rfl
theorem s0s_ok {P : Program} {Γ : Env} {st : St} {xs : Array Operand} {ρ : Operand → Value} {w : World} (hv : View P Γ st xs ρ w) : ∀ (l : List Operand) (r : List S0), st.s0s l = some r → (∀ x ∈ l, x ∈ xs) →
    l.map ρ = r.map (S0.den Γ) ∧ ∀ s ∈ r, s.ok P w (Own Γ st) Γ
  | [], r, h, _ => by simp [St.s0s] at h; subst h; simp
  | x :: l, r, h, hx => by
    simp only [St.s0s] at h
    split at h
    · rename_i s r' hs hr
      cases h
      obtain ⟨h1, h2⟩ := hv.s0 (hx x (by simp)) hs
      obtain ⟨h3, h4⟩ := s0s_ok hv l r' hr (fun y hy => hx y (by simp [hy]))
      refine ⟨by simp [h1, h3], fun y hy => ?_⟩
      rcases List.mem_cons.1 hy with rfl | hy
      · exact h2
      · exact h4 y hy
    · cases h
theorem run_callFunc' {P : Program} {f : FuncId} (h : Callable P f) (args : Array Value) (w : World) : (callFunc f args).run P w = .ok (.enter f args) w := by
  obtain ⟨fn, h1, h2, h3⟩ := h
  have h4 : fn.body.isNone = false := by cases hb : fn.body <;> simp_all
  simp only [callFunc, Sem.run_bind, run_program, Result.andThen_ok, h1, h2, h4, Bool.false_eq_true, if_false, Sem.run_pure]

/-! A slice built of its elements -/
theorem foldl_set (off : Nat) : ∀ (new : List Value) (i : Nat) (cs : List Value), off + i + new.length ≤ cs.length →
    (new.zipIdx i).foldl (fun cs (p : Value × Nat) => cs.set (off + p.2) p.1) cs = cs.take (off + i) ++ new ++ cs.drop (off + i + new.length)
  | [], i, cs, _ => by simp
  | x :: new, i, cs, h => by
    simp only [List.length_cons] at h
    simp only [List.zipIdx_cons, List.foldl_cons]
    rw [foldl_set off new (i + 1) _ (by simp; omega)]
    have e := list_seg_step cs (off + i) x new (by omega)
    simpa [Nat.add_assoc, Nat.add_comm, Nat.add_left_comm] using e
theorem fill_rows {Γ : Env} {sz : Nat} : ∀ (rows : List (Nat × S0)) (i : Nat) (out : List (List Lf)) (ks : List Lk) (cells : Array Value), ks.length = sz → rowsOf ks i rows = some out → (∀ p ∈ rows, ∀ l ∈ p.2.cells, (l.den Γ).cells = #[l.den Γ]) →
    (i + out.length) * sz ≤ cells.size → Instr.fill (fun i => some (i * sz, sz)) cells (rows.map fun p => (p.1, p.2.den Γ)) = some (cells.toList.take (i * sz) ++ (out.flatten.map (Lf.den Γ)) ++ cells.toList.drop ((i + out.length) * sz)).toArray
  | [], i, out, ks, cells, _, h, _, _ => by simp [rowsOf] at h; subst h; simp [Instr.fill]
  | (j, s) :: rows, i, out, ks, cells, hks, h, hs, hle => by
    simp only [rowsOf] at h
    split at h
    · rename_i hc
      simp only [Bool.and_eq_true, decide_eq_true_eq] at hc
      obtain ⟨h1, h2⟩ := hc
      have h1 := Nat.eq_of_beq_eq_true h1
      subst h1
      cases hr : rowsOf ks (i + 1) rows with
      | none => simp [hr] at h
      | some out' =>
        simp [hr] at h
        subst h
        have hlen : s.cells.length = sz := by
          rw [← hks]
          have key : ∀ (ls : List Lf) (ks : List Lk), kindsL ls = some ks → ls.length = ks.length := by
            intro ls
            induction ls with
            | nil => intro ks h; simp [kindsL] at h; subst h; rfl
            | cons l ls ih =>
              intro ks h
              simp only [kindsL] at h
              split at h
              · rename_i k ks' h1 h2; cases h; simp [ih _ h2]
              · cases h
          exact key _ _ h2
        have hcl := S0.den_cells Γ s (hs (i, s) (by simp))
        simp only [List.length_cons] at hle
        have hle2 : i * sz + sz ≤ cells.size := by
          have : (i + 1) * sz ≤ (i + (out'.length + 1)) * sz := Nat.mul_le_mul_right _ (by omega)
          rw [Nat.add_mul] at this; omega
        simp only [List.map_cons, Instr.fill, hcl, dens_size, hlen]
        rw [if_neg (by simp; omega)]
        have e : (dens Γ s.cells).zipIdx = (((s.cells.map (Lf.den Γ)).zipIdx)).toArray := by
          apply Array.ext'
          simp [dens]
        rw [e]
        simp only [List.foldl_toArray]
        have e2 : (List.foldl (fun (cs : Array Value) (x : Value × Nat) => match x with | (c, j) => cs.setIfInBounds (i * sz + j) c) cells ((s.cells.map (Lf.den Γ)).zipIdx)) =
            (cells.toList.take (i * sz) ++ s.cells.map (Lf.den Γ) ++ cells.toList.drop (i * sz + sz)).toArray := by
          have := foldl_set (i * sz) (s.cells.map (Lf.den Γ)) 0 cells.toList (by simp; omega)
          simp only [Nat.add_zero, List.length_map, hlen] at this
          rw [← this]
          generalize (s.cells.map (Lf.den Γ)).zipIdx = l
          have key : ∀ (l : List (Value × Nat)) (cs : Array Value), (List.foldl (fun (cs : Array Value) (x : Value × Nat) => match x with | (c, j) => cs.setIfInBounds (i * sz + j) c) cs l) = (List.foldl (fun cs (p : Value × Nat) => cs.set (i * sz + p.2) p.1) cs.toList l).toArray := by
            intro l
            induction l with
            | nil => intro cs; simp
            | cons p l ih => intro cs; simp only [List.foldl_cons]; rw [ih]; simp
          exact key l cells
        rw [e2]
        rw [fill_rows rows (i + 1) out' ks _ hks hr (fun p hp => hs p (by simp [hp])) (by
          simp only [List.size_toArray, List.length_append, List.length_take, List.length_map, List.length_drop, Array.length_toList, hlen]
          have : (i + 1 + out'.length) * sz = (i + (out'.length + 1)) * sz := by congr 1; omega
          omega)]
        congr 2
        simp only [List.flatten_cons, List.map_append]
        have a1 : (cells.toList.take (i * sz) ++ s.cells.map (Lf.den Γ) ++ cells.toList.drop (i * sz + sz)).take ((i + 1) * sz) = cells.toList.take (i * sz) ++ s.cells.map (Lf.den Γ) := by
          rw [Nat.add_mul, Nat.one_mul]
          have : i * sz + sz = (cells.toList.take (i * sz) ++ s.cells.map (Lf.den Γ)).length := by simp [hlen]; omega
          rw [this, List.take_left']
          rfl
        have a2 : (cells.toList.take (i * sz) ++ s.cells.map (Lf.den Γ) ++ cells.toList.drop (i * sz + sz)).drop ((i + 1 + out'.length) * sz) = cells.toList.drop ((i + (out'.length + 1)) * sz) := by
          have e3 : (i + 1 + out'.length) * sz = (i * sz + sz) + out'.length * sz := by rw [Nat.add_mul, Nat.add_mul, Nat.one_mul]
          have e4 : (i + (out'.length + 1)) * sz = (i * sz + sz) + out'.length * sz := by rw [Nat.add_mul, Nat.add_mul, Nat.one_mul]; omega
          have e5 : (cells.toList.take (i * sz) ++ s.cells.map (Lf.den Γ)).length = i * sz + sz := by simp [hlen]; omega
          rw [e3, e4, ← List.drop_drop, List.drop_left' e5, List.drop_drop]
        rw [List.toList_toArray, a1, a2]
        simp [List.append_assoc]
    · cases h
theorem rowsOf_len (ks : List Lk) : ∀ (rows : List (Nat × S0)) (i : Nat) (out : List (List Lf)), rowsOf ks i rows = some out → (∀ r ∈ out, kindsL r = some ks) ∧ ∀ r ∈ out, ∃ p ∈ rows, r = p.2.cells
  | [], i, out, h => by simp [rowsOf] at h; subst h; simp
  | (j, s) :: rows, i, out, h => by
    simp only [rowsOf] at h
    split at h
    · rename_i hc
      simp only [Bool.and_eq_true, decide_eq_true_eq] at hc
      cases hr : rowsOf ks (i + 1) rows with
      | none => simp [hr] at h
      | some out' =>
        simp [hr] at h
        subst h
        obtain ⟨h1, h2⟩ := rowsOf_len ks rows (i + 1) out' hr
        refine ⟨fun r hr => ?_, fun r hr => ?_⟩
        · rcases List.mem_cons.1 hr with rfl | hr
          · exact hc.2
          · exact h1 r hr
        · rcases List.mem_cons.1 hr with rfl | hr
          · exact ⟨(j, s), by simp, rfl⟩
          · obtain ⟨p, hp, e⟩ := h2 r hr
            exact ⟨p, by simp [hp], e⟩
    · cases h
theorem rngL_flatten {bd : Bds} {ρ : List C} : ∀ {rows : List (List Lf)}, Obs ρ (rngL bd rows.flatten) → ∀ r ∈ rows, Obs ρ (rngL bd r)
  | [], _, r, hr => by cases hr
  | x :: rows, h, r, hr => by
    rw [List.flatten_cons] at h
    obtain ⟨h1, h2⟩ := rngL_app h
    rcases List.mem_cons.1 hr with rfl | hr
    · exact h1
    · exact rngL_flatten h2 r hr
theorem kindsL_len : ∀ {ls : List Lf} {ks : List Lk}, kindsL ls = some ks → ls.length = ks.length
  | [], ks, h => by simp [kindsL] at h; subst h; rfl
  | l :: ls, ks, h => by
    simp only [kindsL] at h
    split at h
    · rename_i k ks' h1 h2; cases h; simp [kindsL_len h2]
    · cases h
/-! Slices of one's own -/
theorem ArrN.monoS {P : Program} {S S' : Nat → Nat → Prop} (hS : ∀ b o, S b o → S' b o) {w : World} : ∀ {d : Nat} {te : TypeId} {v : Value} {rows : List (List C)}, ArrN P S w d te v rows → ArrN P S' w d te v rows
  | 0, _, _, _, h => h.elim
  | d + 1, te, v, rows, ⟨ks, hk, a, cap, hv, hh⟩ => by
    refine ⟨ks, hk, a, cap, hv, fun hne => ?_⟩
    obtain ⟨b, o, ha, hr⟩ := hh hne
    refine ⟨b, o, ha, fun i r hi => ⟨(hr i r hi).1, fun j k hj => ?_⟩⟩
    obtain ⟨hs, u, c, hu, hc, hm⟩ := (hr i r hi).2 j k hj
    refine ⟨hS _ _ hs, u, c, hu, hc, ?_⟩
    cases k with
    | arr t => obtain ⟨rows', e, hn⟩ := hm; exact ⟨rows', e, ArrN.monoS hS hn⟩
    | _ => exact hm
theorem ArrN.monoD {P : Program} {S : Nat → Nat → Prop} {w : World} : ∀ {d : Nat} {te : TypeId} {v : Value} {rows : List (List C)}, ArrN P S w d te v rows → ArrN P S w (d + 1) te v rows
  | 0, _, _, _, h => h.elim
  | d + 1, te, v, rows, ⟨ks, hk, a, cap, hv, hh⟩ => by
    refine ⟨ks, hk, a, cap, hv, fun hne => ?_⟩
    obtain ⟨b, o, ha, hr⟩ := hh hne
    refine ⟨b, o, ha, fun i r hi => ⟨(hr i r hi).1, fun j k hj => ?_⟩⟩
    obtain ⟨hs, u, c, hu, hc, hm⟩ := (hr i r hi).2 j k hj
    refine ⟨hs, u, c, hu, hc, ?_⟩
    cases k with
    | arr t => obtain ⟨rows', e, hn⟩ := hm; exact ⟨rows', e, ArrN.monoD hn⟩
    | _ => exact hm
theorem ArrN.leD {P : Program} {S : Nat → Nat → Prop} {w : World} {d d' : Nat} (hd : d ≤ d') {te : TypeId} {v : Value} {rows : List (List C)} (h : ArrN P S w d te v rows) : ArrN P S w d' te v rows := by
  induction hd with
  | refl => exact h
  | step _ ih => exact ih.monoD
/-- The slices in a list of cells, all with one footprint. -/
theorem CReps.arrN {P : Program} {w : World} {O : Nat → Nat → Prop} : ∀ {ks : List Lk} {us : List Value} {cs : List C}, CReps P w O ks us cs → ∃ d S, (∀ b o, S b o → b < w.heap.size ∧ ¬ O b o) ∧ ∀ (j : Nat) (k : Lk), ks[j]? = some k → ∃ u c, us[j]? = some u ∧ cs[j]? = some c ∧
      match k with
      | .int => ∃ n, u = .int .i64 n ∧ c = .i n
      | .bool => ∃ t, u = .bool t ∧ c = .b t
      | .arr t => ∃ rows', c = .s u rows' ∧ ArrN P S w d t u rows'
      | .vec _ => False
  | [], [], [], _ => ⟨0, fun _ _ => False, fun _ _ h => h.elim, fun j k hj => by simp at hj⟩
  | k :: ks, u :: us, c :: cs, h => by
    obtain ⟨d, S, hS, hd⟩ := CReps.arrN h.2
    have h1 := h.1.2
    obtain ⟨d', S', hS', hd'⟩ : ∃ d' S', (∀ b o, S' b o → b < w.heap.size ∧ ¬ O b o) ∧ match k with
      | .int => ∃ n, u = .int .i64 n ∧ c = .i n
      | .bool => ∃ t, u = .bool t ∧ c = .b t
      | .arr t => ∃ rows', c = .s u rows' ∧ ArrN P S' w d' t u rows'
      | .vec _ => False := by
      cases k with
      | int => exact ⟨0, fun _ _ => False, fun _ _ h => h.elim, h1⟩
      | bool => exact ⟨0, fun _ _ => False, fun _ _ h => h.elim, h1⟩
      | arr t =>
        obtain ⟨e, v, rows, rfl, d', S', hS', hA⟩ := h1
        simp only [C.loc] at e
        subst e
        exact ⟨d', S', hS', rows, rfl, hA⟩
      | vec t => exact h1.elim
    refine ⟨Max.max d d', fun b o => S b o ∨ S' b o, fun b o hb => hb.elim (hS b o) (hS' b o), fun j k' hj => ?_⟩
    cases j with
    | zero =>
      simp at hj; subst hj
      refine ⟨u, c, rfl, rfl, ?_⟩
      cases k with
      | arr t => obtain ⟨rows, e, hA⟩ := hd'; exact ⟨rows, e, (hA.monoS fun _ _ h => .inr h).leD (by omega)⟩
      | _ => exact hd'
    | succ j =>
      obtain ⟨u', c', hu, hc, hm⟩ := hd j k' (by simpa using hj)
      refine ⟨u', c', by simpa using hu, by simpa using hc, ?_⟩
      cases k' with
      | arr t => obtain ⟨rows, e, hA⟩ := hm; exact ⟨rows, e, (hA.monoS fun _ _ h => .inl h).leD (by omega)⟩
      | _ => exact hm
  | [], [], _ :: _, h => h.elim
  | [], _ :: _, _, h => h.elim
  | _ :: _, [], _, h => h.elim
  | _ :: _, _ :: _, [], h => h.elim
/-- A slice of one's own that is given up is a slice. -/
theorem VecOK.arr {P : Program} {w : World} {O O' : Nat → Nat → Prop} {te : TypeId} {v : Value} {c : C} (h : VecOK P w O te v c) (hO : ∀ b o, O' b o → O b o) (hb : ∀ b, v.ownBlock = some b → ∀ o, ¬ O' b o) : ArrOK P w O' te (.s v c.rows) := by
  obtain ⟨ks, us, hk, hc, hl, hr, ho⟩ := h
  obtain ⟨d, S, hS, hd⟩ := hr.arrN
  refine ⟨v, c.rows, rfl, d + 1, fun b o => S b o ∨ v.ownBlock = some b, fun b o hbo => ?_, ks, hk, ?_⟩
  · rcases hbo with hbo | hbo
    · exact ⟨(hS b o hbo).1, fun hx => (hS b o hbo).2 (hO b o hx)⟩
    · exact ⟨(ho.lt b hbo).2, hb b hbo o⟩
  · have hrow : ∀ i r, c.rows[i]? = some r → i < c.rows.length := fun i r hi => by
      rcases Nat.lt_or_ge i c.rows.length with h | h
      · exact h
      · rw [List.getElem?_eq_none h] at hi; cases hi
    rcases ho.2 with ⟨rfl, hn⟩ | ⟨g, cap, cur, rfl, -⟩
    · exact ⟨none, 0, by rw [hn], fun hne => absurd (List.eq_nil_of_length_eq_zero hn) hne⟩
    · refine ⟨_, cap, rfl, fun _ => ⟨g, 0, rfl, fun i r hi => ⟨hl r (List.mem_of_getElem? hi), fun j k hj => ⟨.inr rfl, ?_⟩⟩⟩⟩
      have hjlt : j < ks.length := by
        rcases Nat.lt_or_ge j ks.length with h | h
        · exact h
        · rw [List.getElem?_eq_none h] at hj; cases hj
      obtain ⟨u, x, hu, hx, hm⟩ := hd (i * ks.length + j) k (by rw [rowsK_get (hrow i r hi) hjlt]; exact hj)
      rw [flatten_get _ hl i j r hi hjlt] at hx
      have hcell := ho.cells (g := g) rfl _ _ hu
      rw [show (⟨g, 0, none⟩ : Addr).add (i * ks.length + j) = ⟨g, 0 + (i * ks.length + j), none⟩ by unfold Addr.add; split <;> simp_all] at hcell
      refine ⟨u, x, hcell, hx, ?_⟩
      cases k with
      | arr t => obtain ⟨rows', e, hA⟩ := hm; exact ⟨rows', e, hA.monoS fun _ _ h => .inl h⟩
      | _ => exact hm
theorem CReps.of_LReps {P : Program} {w : World} {O : Nat → Nat → Prop} : ∀ {ks : List Lk} {us : List Value} {cs : List C}, LReps P w O ks us cs → ks.all Lk.noVec = true → CReps P w O ks us cs
  | [], [], [], _, _ => trivial
  | k :: ks, u :: us, c :: cs, h, hn => by
    simp only [List.all_cons, Bool.and_eq_true] at hn
    refine ⟨⟨h.1.1, ?_⟩, CReps.of_LReps h.2 hn.2⟩
    have h1 := h.1.2
    cases k with
    | vec t => cases hn.1
    | _ => exact h1
  | [], [], _ :: _, h, _ => h.elim
  | [], _ :: _, _, h, _ => h.elim
  | _ :: _, [], _, h, _ => h.elim
  | _ :: _, _ :: _, [], h, _ => h.elim
/-- Rows that are laid into a new block. -/
theorem CReps.rows {P : Program} {w : World} {O : Nat → Nat → Prop} {ks : List Lk} : ∀ {rs : List (List Value × List C)}, (∀ r ∈ rs, CReps P w O ks r.1 r.2) → CReps P w O (rowsK rs.length ks) (rs.flatMap (·.1)) (rs.flatMap (·.2))
  | [], _ => trivial
  | r :: rs, h => by
    rw [List.length_cons, rowsK_succ, List.flatMap_cons, List.flatMap_cons]
    exact CReps.append (h r (by simp)) (CReps.rows fun x hx => h x (by simp [hx]))
/-- Only what is one's own in the way of slices turns; new variables. -/
theorem Sat.turnV {P : Program} {F : Nat → Prop} {w0 : World} {Γ : Env} {st : St} {a : Act} {w : World} (h : Sat P F w0 Γ st a w) (hw : st.wf = true) {rs : List C} (hsm : Smalls (Γ.ρ ++ rs)) {w' : World} {row : Option Nat} (hk : w.grownBy w' row) (hrow : ∀ b, row = some b → ∃ i, Hold Γ st false i b) {vec' : Vecs}
    (hv : ∀ i e, look vec' i = some e → (look st.vec i = some e ∧ ∀ b, (at_ Γ.ρ i).loc.ownBlock = some b → row ≠ some b) ∨
      (VecOK P w' (fun b o => Own Γ st b o ∨ w.heap.size ≤ b) e.1 (at_ (Γ.ρ ++ rs) i).loc (e.2.ev (Γ.ρ ++ rs)) ∧ i < st.nx + rs.length ∧ ∀ b, (at_ (Γ.ρ ++ rs) i).loc.ownBlock = some b → row = some b ∨ w.heap.size ≤ b))
    (hi : ∀ i e i' e' b, look vec' i = some e → look vec' i' = some e' → (at_ (Γ.ρ ++ rs) i).loc.ownBlock = some b → (at_ (Γ.ρ ++ rs) i').loc.ownBlock = some b → i = i') :
    Sat P F w0 { Γ with ρ := Γ.ρ ++ rs } { st with nx := st.nx + rs.length, vec := vec' } a w' := by
  have he : Ext Γ { Γ with ρ := Γ.ρ ++ rs } := ⟨⟨rs, rfl⟩, fun _ _ => rfl, Nat.le_refl _, rfl, rfl⟩
  have hhold : ∀ s j b, Hold { Γ with ρ := Γ.ρ ++ rs } { st with nx := st.nx + rs.length, vec := vec' } s j b → Hold Γ st s j b ∨ (s = false ∧ (row = some b ∨ w.heap.size ≤ b)) := by
    intro s j b hh
    rcases hh.inv with ⟨rfl, mb, hj, rfl⟩ | ⟨rfl, e, he', hb⟩
    · exact .inl ⟨mb, hj, rfl⟩
    · rcases hv j e he' with ⟨h1, h2⟩ | ⟨-, -, h3⟩
      · exact .inl (.vec (Γ := Γ) h1 (by rw [← h.vec_at he h1]; exact hb))
      · exact .inr ⟨rfl, h3 b hb⟩
  have hrowown : ∀ b, row = some b → ∀ o, Own Γ st b o := fun b hb o => by obtain ⟨i, hi⟩ := hrow b hb; exact hi.own o
  have hown : ∀ b o, Own { Γ with ρ := Γ.ρ ++ rs } { st with nx := st.nx + rs.length, vec := vec' } b o → Own Γ st b o ∨ w.heap.size ≤ b := fun b o hb => by
    rcases Own.iff.1 hb with hb | ⟨s, j, hh⟩
    · exact .inl (.inl hb)
    · rcases hhold s j b hh with hh | ⟨-, hh | hh⟩
      · exact .inl (hh.own o)
      · exact .inl (hrowown b hh o)
      · exact .inr hh
  have ht : Turn w w' (Own Γ st) (Own { Γ with ρ := Γ.ρ ++ rs } { st with nx := st.nx + rs.length, vec := vec' }) := ⟨hk.size, fun b o hlt hno => ⟨World.cell?_of_block (hk.block b hlt fun e => hno (hrowown b e.symm o)), fun ho => (hown b o ho).elim hno (fun hge => by omega)⟩⟩
  have hmemrow : ∀ b mb, look st.mem b = some mb → some (Γ.blk b) ≠ row := fun b mb hb e => by
    obtain ⟨i, hi⟩ := hrow _ e.symm
    have := (h.inj _ _ _ _ _ (Hold.mem (Γ := Γ) hb) hi).1
    cases this
  refine ⟨h.slots_ext hw he ht, h.size, fun b mb hm => ?_, fun i e hie => ?_, h.clo_ext hw he ht, fun s j s' j' b h1 h2 => ?_, h.keeps.trans ⟨hk.os, hk.tape, hk.output, hk.size, fun i hi => hk.block i ?_ fun e => ?_⟩, h.fold, fun b o hb => Nat.lt_of_lt_of_le (h.base b o hb) hk.size, h.defers, by simp [h.len], h.nb, ⟨Bds.ok_ext h.num.bds, hsm⟩⟩
  · obtain ⟨h1, h2, h3, h4⟩ := h.mem b mb hm
    have hwf := h.wf_mem hw hm
    rw [dens_ext he _ hwf]
    exact ⟨(hk.block _ h1.lt (hmemrow b mb hm)).trans h1, fun l hl => Lf.ok_ext he (List.all_eq_true.1 hwf l hl) (Lf.ok_keep (h2 l hl) ht.size ht.keep), h3, h4⟩
  · rcases hv i e hie with ⟨h1, h2⟩ | ⟨h1, h2, h3⟩
    · refine ⟨h.vec_ext hw he ht h1 fun b hb => hk.block b ((h.vec i e h1).1.lt hb) fun e' => h2 b hb e'.symm, Nat.lt_of_lt_of_le (h.vec i e h1).2.1 (Nat.le_add_right _ _), ?_⟩
      rw [h.vec_at he h1]; exact (h.vec i e h1).2.2
    · refine ⟨h1.anti fun b o hb => (hown b o hb).elim .inl .inr, h2, fun b hb => ?_⟩
      rcases h3 b hb with h3 | h3
      · obtain ⟨i', e', hi', hb'⟩ := hrow b h3
        exact (h.vec i' e' hi').2.2 b hb'
      · exact ⟨fun hF => by have := h.fold _ hF; have := h.keeps.size; omega, fun o ho => by have := h.base b o ho; omega⟩
  · have key : ∀ s j s' j', Hold { Γ with ρ := Γ.ρ ++ rs } { st with nx := st.nx + rs.length, vec := vec' } s j b → Hold { Γ with ρ := Γ.ρ ++ rs } { st with nx := st.nx + rs.length, vec := vec' } s' j' b → s = true → s' = false → False := by
      intro s j s' j' h1 h2 e1 e2
      subst e1 e2
      have h1' : Hold Γ st true j b := (hhold _ _ _ h1).resolve_right fun hx => by cases hx.1
      rcases hhold _ _ _ h2 with h2' | ⟨-, h2' | h2'⟩
      · have := (h.inj _ _ _ _ _ h1' h2').1; cases this
      · obtain ⟨i, hi⟩ := hrow b h2'; have := (h.inj _ _ _ _ _ h1' hi).1; cases this
      · have := h.hold_lt h1'; omega
    cases s <;> cases s'
    · rcases h1.inv with ⟨e, -⟩ | ⟨-, e1, k1, b1⟩
      · cases e
      · rcases h2.inv with ⟨e, -⟩ | ⟨-, e2, k2, b2⟩
        · cases e
        · exact ⟨rfl, hi _ _ _ _ _ k1 k2 b1 b2⟩
    · exact (key _ _ _ _ h2 h1 rfl rfl).elim
    · exact (key _ _ _ _ h1 h2 rfl rfl).elim
    · exact h.inj _ _ _ _ _ ((hhold _ _ _ h1).resolve_right fun hx => by cases hx.1) ((hhold _ _ _ h2).resolve_right fun hx => by cases hx.1)
  · have := h.fold i hi; have := h.keeps.size; omega
  · obtain ⟨j, e', hj, hb⟩ := hrow i e.symm; exact ((h.vec j e' hj).2.2 i hb).1 hi

/-! Behind a call -/
theorem Lfs.freshL_wf (nb : Nat) : ∀ (ks : List Lk) (i n : Nat), i + ks.length ≤ n → (freshL ks i).all (Lf.wf n nb) = true
  | [], _, _, _ => rfl
  | k :: ks, i, n, h => by
    simp only [List.length_cons] at h
    simp only [freshL, List.all_cons, Bool.and_eq_true]
    refine ⟨?_, Lfs.freshL_wf nb ks (i + 1) n (by omega)⟩
    cases k <;> simp only [Lf.ofKind, Lf.wf, E.wf, B.wf, Nat.blt_eq] <;> omega
theorem St.wf_grow {st : St} (h : st.wf = true) (n : Nat) : ({ st with nx := st.nx + n } : St).wf = true := by
  simp only [St.wf, Bool.and_eq_true, List.all_eq_true] at h ⊢
  refine ⟨⟨⟨fun p hp => ?_, fun p hp => ?_⟩, fun p hp => ?_⟩, fun p hp => ?_⟩
  · have := h.1.1.1 p hp
    cases hv : p.2 with
    | none => rfl
    | some sv => rw [hv] at this; exact SV.wf_mono (Nat.le_add_right _ _) sv this
  · have := h.1.1.2 p hp
    cases hv : p.2 with
    | none => rfl
    | some mb => rw [hv] at this; exact Lfs.wf_mono (Nat.le_add_right _ _) this
  · have := h.1.2 p hp
    cases hv : p.2 with
    | none => rfl
    | some e =>
      rw [hv] at this
      simp only [wfV, Bool.and_eq_true, Nat.blt_eq] at this ⊢
      exact ⟨by omega, E.wf_mono (Nat.le_add_right _ _) _ this.2⟩
  · have := h.2 p hp
    cases hv : p.2 with
    | none => rfl
    | some e =>
      rw [hv] at this
      simp only [wfC, Bool.and_eq_true, Nat.blt_eq] at this ⊢
      exact ⟨⟨by omega, List.all_eq_true.2 fun s hs => S0.wf_mono (Nat.le_add_right _ _) s (List.all_eq_true.1 this.1.2 s hs)⟩, Lfs.wf_mono (Nat.le_add_right _ _) this.2⟩
theorem freshMem_noBox (nb : Nat) : ∀ (ss : List Sh0) (i : Nat), ss.all (fun s => !s.isBox) = true → freshMem nb ss i = []
  | [], _, _ => rfl
  | s :: ss, i, h => by
    simp only [List.all_cons, Bool.and_eq_true] at h
    cases s with
    | box t l => cases h.1
    | lf k => exact freshMem_noBox nb ss _ h.2
    | agg l => exact freshMem_noBox nb ss _ h.2
theorem isBox_noBox : ∀ {ss : List Sh0} {vs : List Value} {i : Nat}, ss.all (fun s => !s.isBox) = true → ¬ IsBox ss vs i
  | [], vs, i, _, h => by cases vs <;> exact h
  | s :: ss, [], i, hb, h => by cases s <;> exact h
  | s :: ss, v :: vs, i, hb, h => by
    simp only [List.all_cons, Bool.and_eq_true] at hb
    cases s with
    | box t l => cases hb.1
    | lf k => exact isBox_noBox (ss := ss) (vs := vs) hb.2 h
    | agg l => exact isBox_noBox (ss := ss) (vs := vs) hb.2 h
theorem at_app2 {ρ cs ds : List C} {j : Nat} {c : C} (h : ds[j]? = some c) : at_ (ρ ++ (cs ++ ds)) (ρ.length + cs.length + j) = c := by
  rw [← List.append_assoc, ← List.length_append]
  exact at_app h
/-- Blocks that are not known yet, but nobody else's. -/
def Env.addL (Γ : Env) (VB : List Nat) : Env := { Γ with base := fun x o => Γ.base x o ∨ x ∈ VB }
theorem Env.addL_nil (Γ : Env) : Γ.addL [] = Γ := by
  unfold Env.addL
  cases Γ
  simp
section
variable {P : Program} {F : Nat → Prop} {w0 : World} {Γ : Env} {st : St} {a : Act} {w : World} {VB : List Nat}
theorem Lf.den_addL (l : Lf) : l.den (Γ.addL VB) = l.den Γ := by cases l <;> rfl
theorem dens_addL (l : List Lf) : dens (Γ.addL VB) l = dens Γ l := by
  unfold dens; rw [List.map_congr_left fun x _ => Lf.den_addL x]
theorem S0.den_addL (s : S0) : s.den (Γ.addL VB) = s.den Γ := by
  cases s with
  | lf l => exact Lf.den_addL l
  | agg l => simp only [S0.den, dens_addL]
theorem SV.den_addL (s : SV) : s.den (Γ.addL VB) = s.den Γ := by
  cases s with
  | one s => exact S0.den_addL s
  | tup l => simp only [SV.den]; rw [List.map_congr_left fun x _ => S0.den_addL x]
  | fn f l => simp only [SV.den, dens_addL]
theorem Lf.ok_addL {O : Nat → Nat → Prop} {l : Lf} : l.ok P w O (Γ.addL VB) ↔ l.ok P w O Γ := by cases l <;> exact Iff.rfl
theorem S0.ok_addL {O : Nat → Nat → Prop} {s : S0} : s.ok P w O (Γ.addL VB) ↔ s.ok P w O Γ := ⟨fun h l hl => Lf.ok_addL.1 (h l hl), fun h l hl => Lf.ok_addL.2 (h l hl)⟩
theorem SV.ok_addL {O : Nat → Nat → Prop} {s : SV} : s.ok P w O (Γ.addL VB) ↔ s.ok P w O Γ := by
  cases s with
  | one s => exact S0.ok_addL
  | tup l => exact ⟨fun h s hs => S0.ok_addL.1 (h s hs), fun h s hs => S0.ok_addL.2 (h s hs)⟩
  | fn f l => exact ⟨fun h l hl => Lf.ok_addL.1 (h l hl), fun h l hl => Lf.ok_addL.2 (h l hl)⟩
theorem Hold.addL {s : Bool} {j b : Nat} : Hold (Γ.addL VB) st s j b ↔ Hold Γ st s j b := by cases s <;> exact Iff.rfl
theorem Own.addL {b o : Nat} : Own (Γ.addL VB) st b o ↔ Own Γ st b o ∨ b ∈ VB := by
  constructor
  · intro h
    rcases Own.iff.1 h with (h | h) | ⟨s, j, h⟩
    · exact .inl (.inl h)
    · exact .inr h
    · exact .inl ((Hold.addL.1 h).own o)
  · rintro (h | h)
    · rcases Own.iff.1 h with h | ⟨s, j, h⟩
      · exact .inl (.inl h)
      · exact Hold.own (Γ := Γ.addL VB) (Hold.addL.2 h) o
    · exact .inl (.inr h)
theorem Turn.addL {w' : World} (hs : w.heap.size ≤ w'.heap.size) (hk : ∀ b o, b < w.heap.size → ¬ Own Γ st b o → w'.cell? ⟨b, o, none⟩ = w.cell? ⟨b, o, none⟩) (hVB : ∀ b ∈ VB, w.heap.size ≤ b) : Turn w w' (Own Γ st) (Own (Γ.addL VB) st) :=
  ⟨hs, fun b o hb hno => ⟨hk b o hb hno, fun ho => (Own.addL.1 ho).elim hno fun hx => by have := hVB b hx; omega⟩⟩
theorem Sat.belowL (h : Sat P F w0 Γ st a w) {w' : World} (hb : Below w.heap.size w w') (hVB : ∀ b ∈ VB, w.heap.size ≤ b ∧ b < w'.heap.size) : Sat P F w0 (Γ.addL VB) st a w' := by
  have ht : Turn w w' (Own Γ st) (Own (Γ.addL VB) st) := Turn.addL hb.size (fun b o hb' _ => World.cell?_of_block (hb.block b hb')) fun b hx => (hVB b hx).1
  refine ⟨fun t sv hs => ?_, h.size, fun b mb hm => ?_, fun i e hi => ⟨(h.vec i e hi).1.keep ht.size ht.keep fun b hb' => hb.block b ((h.vec i e hi).1.lt hb'), (h.vec i e hi).2.1, fun b hb' => ⟨((h.vec i e hi).2.2 b hb').1, fun o ho => ho.elim (((h.vec i e hi).2.2 b hb').2 o) fun hx => by
      have := (h.vec i e hi).1.lt hb'; have := hVB b hx; omega⟩⟩, fun i e hi => ?_, fun s j s' j' b h1 h2 => h.inj _ _ _ _ _ (Hold.addL.1 h1) (Hold.addL.1 h2), h.keeps.trans (Keeps.of_below hb fun i hi => ?_), h.fold, fun b o hb' => hb'.elim (fun hb' => Nat.lt_of_lt_of_le (h.base b o hb') hb.size) fun hx => (hVB b hx).2, h.defers, h.len, h.nb, h.num⟩
  · obtain ⟨h1, h2⟩ := h.slots_keep ht t sv hs
    exact ⟨by rw [SV.den_addL]; exact h1, SV.ok_addL.2 h2⟩
  · obtain ⟨h1, h2, h3, h4⟩ := h.mem b mb hm
    exact ⟨by rw [dens_addL]; exact h1.below hb, fun l hl => Lf.ok_addL.2 (Lf.ok_keep (h2 l hl) ht.size ht.keep), h3, h4⟩
  · obtain ⟨h1, h2, h3⟩ := h.clo_keep ht i e hi
    refine ⟨?_, fun s hs => S0.ok_addL.2 (h2 s hs), fun l hl => Lf.ok_addL.2 (h3 l hl)⟩
    rw [List.map_congr_left fun s _ => S0.den_addL s, List.map_congr_left fun l _ => Lf.den_addL l]
    exact h1
  · have := h.fold i hi; have := h.keeps.size; omega
theorem Sat.modL (h : Sat P F w0 Γ st a w) {b : Nat} {mb : TypeId × List Lf} (hb : look st.mem b = some mb) {w' : World} (hk : Keeps (fun i => i < w.heap.size ∧ i ≠ Γ.blk b) w w') {cs : List Lf}
    (hnew : Blk w' (Γ.blk b) mb.1 (dens Γ cs)) (hVB : ∀ b ∈ VB, w.heap.size ≤ b ∧ b < w'.heap.size) (hok : ∀ l ∈ cs, l.ok P w' (Own (Γ.addL VB) st) Γ) : Sat P F w0 (Γ.addL VB) { st with mem := (b, some (mb.1, cs)) :: st.mem } a w' := by
  obtain ⟨m1, m2, m3, m4⟩ := h.mem b mb hb
  have hhold : ∀ s j x, Hold (Γ.addL VB) { st with mem := (b, some (mb.1, cs)) :: st.mem } s j x → Hold Γ st s j x := fun s j x hh =>
    Hold.congr (Γ := Γ) (st := st) (Γ' := Γ.addL VB) (st' := { st with mem := (b, some (mb.1, cs)) :: st.mem }) (fun j mj hj => ⟨by
      simp only [look] at hj
      split at hj
      · rename_i e; subst e; exact ⟨mb, hb⟩
      · exact ⟨mj, hj⟩, rfl⟩) (fun i e hi => ⟨⟨e, hi⟩, rfl⟩) hh
  have hown : ∀ k o, Own (Γ.addL VB) { st with mem := (b, some (mb.1, cs)) :: st.mem } k o → Own (Γ.addL VB) st k o := fun k o hk => by
    rcases Own.iff.1 hk with hk | ⟨s, j, hh⟩
    · exact .inl hk
    · exact Hold.own (Γ := Γ.addL VB) (Hold.addL.2 (hhold s j k hh)) o
  have hbh : Hold Γ st true b (Γ.blk b) := .mem hb
  have ht0 : Turn w w' (Own Γ st) (Own (Γ.addL VB) st) := Turn.addL hk.size (fun k o hlt hno => World.cell?_of_block (hk.block k ⟨hlt, fun e => hno (e ▸ hbh.own o)⟩)) fun b hx => (hVB b hx).1
  have ht : Turn w w' (Own Γ st) (Own (Γ.addL VB) { st with mem := (b, some (mb.1, cs)) :: st.mem }) :=
    ⟨hk.size, fun k o hlt hno => ⟨(ht0.keep k o hlt hno).1, fun ho => (ht0.keep k o hlt hno).2 (hown k o ho)⟩⟩
  refine ⟨fun t sv hs => ?_, h.size, fun c mc hm => ?_, fun i e hi => ⟨(h.vec i e hi).1.keep ht.size ht.keep fun b' hb' => hk.block b' ⟨(h.vec i e hi).1.lt hb', fun e' => by
      have := (h.inj _ _ _ _ _ (Hold.vec (Γ := Γ) hi hb') (e' ▸ hbh)).1; cases this⟩, (h.vec i e hi).2.1, fun b' hb' => ⟨((h.vec i e hi).2.2 b' hb').1, fun o ho => ho.elim (((h.vec i e hi).2.2 b' hb').2 o) fun hx => by
      have := (h.vec i e hi).1.lt hb'; have := hVB b' hx; omega⟩⟩, fun i e hi => ?_, fun s j s' j' x h1 h2 => h.inj _ _ _ _ _ (hhold _ _ _ h1) (hhold _ _ _ h2), h.keeps.trans ⟨hk.os, hk.tape, hk.output, hk.size, fun i hi => hk.block i ⟨?_, fun e => m3 (e ▸ hi)⟩⟩, h.fold, fun b' o hb' => hb'.elim (fun hb' => Nat.lt_of_lt_of_le (h.base b' o hb') hk.size) fun hx => (hVB b' hx).2, h.defers, h.len, h.nb, h.num⟩
  · obtain ⟨h1, h2⟩ := h.slots_keep ht t sv hs
    exact ⟨by rw [SV.den_addL]; exact h1, SV.ok_addL.2 h2⟩
  · simp only [look] at hm
    split at hm
    · rename_i e
      subst e
      cases hm
      exact ⟨by rw [dens_addL]; exact hnew, fun l hl => Lf.ok_addL.2 ((hok l hl).anti' hown), m3, m4⟩
    · rename_i e
      obtain ⟨h1, h2, h3, h4⟩ := h.mem c mc hm
      refine ⟨?_, fun l hl => Lf.ok_addL.2 (Lf.ok_keep (h2 l hl) ht.size ht.keep), h3, h4⟩
      rw [dens_addL]
      exact (hk.block (Γ.blk c) ⟨h1.lt, fun e' => e (h.inj _ _ _ _ _ (Hold.mem (Γ := Γ) hm) (e' ▸ hbh)).2.symm⟩).trans h1
  · obtain ⟨h1, h2, h3⟩ := h.clo_keep ht i e hi
    refine ⟨?_, fun s hs => S0.ok_addL.2 (h2 s hs), fun l hl => Lf.ok_addL.2 (h3 l hl)⟩
    rw [List.map_congr_left fun s _ => S0.den_addL s, List.map_congr_left fun l _ => Lf.den_addL l]
    exact h1
  · have := h.fold i hi; have := h.keeps.size; omega
theorem look_freshV {m : Vecs} : ∀ {ks : List Lk} {i0 i : Nat} {e : TypeId × E}, look (freshV ks i0 ++ m) i = some e → (∃ j t, i = i0 + j ∧ ks[j]? = some (.vec t) ∧ e = (t, .var i)) ∨ ((∀ j t, i = i0 + j → ks[j]? ≠ some (.vec t)) ∧ look m i = some e)
  | [], i0, i, e, h => .inr ⟨fun j t _ => by simp, h⟩
  | k :: ks, i0, i, e, h => by
    have next : look (freshV ks (i0 + 1) ++ m) i = some e → (∀ t, i = i0 → k ≠ .vec t) → (∃ j t, i = i0 + j ∧ (k :: ks)[j]? = some (.vec t) ∧ e = (t, .var i)) ∨ ((∀ j t, i = i0 + j → (k :: ks)[j]? ≠ some (.vec t)) ∧ look m i = some e) := fun h hk => by
      rcases look_freshV h with ⟨j, t, rfl, hj, he⟩ | ⟨h1, h2⟩
      · exact .inl ⟨j + 1, t, by omega, by simpa using hj, he⟩
      · refine .inr ⟨fun j t hj => ?_, h2⟩
        cases j with
        | zero => simpa using hk t (by omega)
        | succ j => simpa using h1 j t (by omega)
    cases k with
    | vec t =>
      simp only [freshV, List.cons_append, look] at h
      split at h
      · rename_i e'; subst e'; cases h; exact .inl ⟨0, t, rfl, rfl, rfl⟩
      · rename_i hne; exact next h fun _ e' => absurd e'.symm hne
    | int => exact next h fun _ _ => by simp
    | bool => exact next h fun _ _ => by simp
    | arr t => exact next h fun _ _ => by simp
theorem vecB_mem : ∀ {ks : List Lk} {cs : List C} {j : Nat} {t : TypeId} {c : C} {b : Nat}, ks[j]? = some (.vec t) → cs[j]? = some c → c.loc.ownBlock = some b → b ∈ vecB ks cs
  | [], _, _, _, _, _, h, _, _ => by simp at h
  | _ :: _, [], _, _, _, _, _, h, _ => by simp at h
  | k :: ks, x :: cs, 0, t, c, b, h1, h2, h3 => by
    simp at h1 h2; subst h1 h2
    simp [vecB, h3]
  | k :: ks, x :: cs, j + 1, t, c, b, h1, h2, h3 => by
    have := vecB_mem (ks := ks) (cs := cs) (by simpa using h1) (by simpa using h2) h3
    cases k <;> simp [vecB, this]
theorem vecB_inj : ∀ {ks : List Lk} {cs : List C} {j j' : Nat} {t t' : TypeId} {c c' : C} {b : Nat}, (vecB ks cs).Nodup → ks[j]? = some (.vec t) → cs[j]? = some c → c.loc.ownBlock = some b → ks[j']? = some (.vec t') → cs[j']? = some c' → c'.loc.ownBlock = some b → j = j'
  | [], _, _, _, _, _, _, _, _, _, h, _, _, _, _, _ => by simp at h
  | _ :: _, [], _, _, _, _, _, _, _, _, _, h, _, _, _, _ => by simp at h
  | k :: ks, x :: cs, j, j', t, t', c, c', b, hn, h1, h2, h3, h4, h5, h6 => by
    have tail : (vecB ks cs).Nodup := by
      cases k with
      | vec t => simp only [vecB] at hn; exact (List.nodup_append.1 hn).2.1
      | _ => exact hn
    have key : ∀ (i : Nat) (u : TypeId) (d : C), (k :: ks)[0]? = some (.vec t) → (x :: cs)[0]? = some c → c.loc.ownBlock = some b → ks[i]? = some (.vec u) → cs[i]? = some d → d.loc.ownBlock = some b → ∀ (t : TypeId), k = .vec t → x.loc.ownBlock = some b → False := fun i u d _ _ _ g1 g2 g3 t e1 e2 => by
      subst e1
      simp only [vecB, e2] at hn
      exact (List.nodup_append.1 hn).2.2 b (by simp) b (vecB_mem g1 g2 g3) rfl
    cases j with
    | zero =>
      cases j' with
      | zero => rfl
      | succ j' =>
        exfalso
        simp at h1 h2; subst h1 h2
        exact key j' t' c' rfl rfl h3 (by simpa using h4) (by simpa using h5) h6 t rfl h3
    | succ j =>
      cases j' with
      | zero =>
        exfalso
        simp at h4 h5; subst h4 h5
        simp only [vecB, h6] at hn
        exact (List.nodup_append.1 hn).2.2 b (by simp) b (vecB_mem (by simpa using h1) (by simpa using h2) h3) rfl
      | succ j' => exact congrArg (· + 1) (vecB_inj (t := t) (t' := t') (c := c) (c' := c') (b := b) tail (by simpa using h1) (by simpa using h2) h3 (by simpa using h4) (by simpa using h5) h6)
/-- New slices of one's own. -/
theorem Sat.addVecs {ks : List Lk} {cs : List C} (h : Sat P F w0 (Γ.addL (vecB ks cs)) st a w) {i0 : Nat} (hat : ∀ (j : Nat) (c : C), cs[j]? = some c → at_ Γ.ρ (i0 + j) = c) (hlt : i0 + cs.length ≤ st.nx) (hlen : cs.length = ks.length)
    (hrep : ∀ (j : Nat) (t : TypeId) (c : C), ks[j]? = some (.vec t) → cs[j]? = some c → VecOK P w (Own (Γ.addL (vecB ks cs)) st) t c.loc c) (hnd : (vecB ks cs).Nodup) (hge : ∀ b ∈ vecB ks cs, ¬ F b ∧ (∀ s j, ¬ Hold Γ st s j b) ∧ ∀ o, ¬ Γ.base b o) :
    Sat P F w0 Γ { st with vec := freshV ks i0 ++ st.vec } a w := by
  have hcell : ∀ (j : Nat) (t : TypeId), ks[j]? = some (.vec t) → ∃ c, cs[j]? = some c ∧ at_ Γ.ρ (i0 + j) = c := fun j t hj => by
    have : j < cs.length := by
      rw [hlen]
      rcases Nat.lt_or_ge j ks.length with h | h
      · exact h
      · rw [List.getElem?_eq_none h] at hj; cases hj
    exact ⟨cs[j], by simp [this], hat j _ (by simp [this])⟩
  have hhold : ∀ s j b, Hold Γ { st with vec := freshV ks i0 ++ st.vec } s j b → Hold Γ st s j b ∨ (s = false ∧ ∃ (n : Nat) (t : TypeId) (c : C), j = i0 + n ∧ ks[n]? = some (.vec t) ∧ cs[n]? = some c ∧ c.loc.ownBlock = some b) := by
    intro s j b hh
    rcases hh.inv with ⟨rfl, mb, hj, rfl⟩ | ⟨rfl, e, he', hb⟩
    · exact .inl ⟨mb, hj, rfl⟩
    · rcases look_freshV he' with ⟨n, t, rfl, hn, rfl⟩ | ⟨-, hm⟩
      · obtain ⟨c, h1, h2⟩ := hcell n t hn
        rw [h2] at hb
        exact .inr ⟨rfl, n, t, c, rfl, hn, h1, hb⟩
      · exact .inl (.vec (Γ := Γ) hm hb)
  have hown : ∀ b o, Own Γ { st with vec := freshV ks i0 ++ st.vec } b o → Own (Γ.addL (vecB ks cs)) st b o := fun b o hb => by
    rcases Own.iff.1 hb with hb | ⟨s, j, hh⟩
    · exact .inl (.inl hb)
    · rcases hhold s j b hh with hh | ⟨-, n, t, c, -, h1, h2, h3⟩
      · exact Own.addL.2 (.inl (hh.own o))
      · exact Own.addL.2 (.inr (vecB_mem h1 h2 h3))
  have ht : Turn w w (Own (Γ.addL (vecB ks cs)) st) (Own Γ { st with vec := freshV ks i0 ++ st.vec }) := ⟨Nat.le_refl _, fun b o _ hno => ⟨rfl, fun ho => hno (hown b o ho)⟩⟩
  refine ⟨fun t sv hs => ?_, h.size, fun b mb hm => ?_, fun i e hi => ?_, fun i e hi => ?_, fun s j s' j' b h1 h2 => ?_, h.keeps, h.fold, fun b o hb => h.base b o (.inl hb), h.defers, h.len, h.nb, h.num⟩
  · obtain ⟨h1, h2⟩ := h.slots_keep ht t sv hs
    rw [SV.den_addL] at h1
    exact ⟨h1, SV.ok_addL.1 h2⟩
  · obtain ⟨h1, h2, h3, h4⟩ := h.mem b mb hm
    rw [dens_addL] at h1
    exact ⟨h1, fun l hl => Lf.ok_addL.1 (Lf.ok_keep (h2 l hl) ht.size ht.keep), h3, h4⟩
  · rcases look_freshV hi with ⟨n, t, rfl, hn, rfl⟩ | ⟨-, hm⟩
    · obtain ⟨c, h1, h2⟩ := hcell n t hn
      have hnlt : n < cs.length := by
        rcases Nat.lt_or_ge n cs.length with h | h
        · exact h
        · rw [List.getElem?_eq_none h] at h1; cases h1
      refine ⟨?_, by show _ < st.nx; omega, fun b hb => ?_⟩
      · simp only [E.ev, h2]
        exact (hrep n t c hn h1).anti hown
      · rw [h2] at hb
        have := hge b (vecB_mem hn h1 hb)
        exact ⟨this.1, this.2.2⟩
    · obtain ⟨h1, h2, h3⟩ := h.vec i e hm
      exact ⟨h1.anti hown, h2, fun b hb => ⟨(h3 b hb).1, fun o ho => (h3 b hb).2 o (.inl ho)⟩⟩
  · obtain ⟨h1, h2, h3⟩ := h.clo_keep ht i e hi
    refine ⟨?_, fun s hs => S0.ok_addL.1 (h2 s hs), fun l hl => Lf.ok_addL.1 (h3 l hl)⟩
    rw [List.map_congr_left fun s _ => S0.den_addL s, List.map_congr_left fun l _ => Lf.den_addL l] at h1
    exact h1
  · rcases hhold _ _ _ h1 with h1 | ⟨rfl, n, t, c, rfl, k1, k2, k3⟩ <;> rcases hhold _ _ _ h2 with h2 | ⟨rfl, n', t', c', rfl, k4, k5, k6⟩
    · exact h.inj _ _ _ _ _ (Hold.addL.2 h1) (Hold.addL.2 h2)
    · exact absurd h1 ((hge b (vecB_mem k4 k5 k6)).2.1 _ _)
    · exact absurd h2 ((hge b (vecB_mem k1 k2 k3)).2.1 _ _)
    · exact ⟨rfl, by rw [vecB_inj hnd k1 k2 k3 k4 k5 k6]⟩
theorem vecB_noVec : ∀ {ks : List Lk} {cs : List C}, ks.all Lk.noVec = true → vecB ks cs = []
  | [], _, _ => by simp [vecB]
  | _ :: _, [], h => by simp [vecB]
  | k :: ks, c :: cs, h => by
    simp only [List.all_cons, Bool.and_eq_true] at h
    cases k with
    | vec t => cases h.1
    | _ => exact vecB_noVec (ks := ks) h.2
theorem freshV_noVec : ∀ {ks : List Lk} {i : Nat}, ks.all Lk.noVec = true → freshV ks i = []
  | [], _, _ => rfl
  | k :: ks, i, h => by
    simp only [List.all_cons, Bool.and_eq_true] at h
    cases k with
    | vec t => cases h.1
    | _ => exact freshV_noVec (ks := ks) h.2
theorem LReps.get : ∀ {ks : List Lk} {us : List Value} {cs : List C} {O : Nat → Nat → Prop}, LReps P w O ks us cs → ∀ {j : Nat} {k : Lk} {c : C}, ks[j]? = some k → cs[j]? = some c → ∃ u, us[j]? = some u ∧ LRep P w O k u c
  | [], [], [], _, _, j, k, c, hj, _ => by simp at hj
  | _ :: _, u :: _, c :: _, _, h, 0, k, _, hj, hc => by simp at hj hc; subst hj hc; exact ⟨u, rfl, h.1⟩
  | _ :: _, _ :: _, _ :: _, _, h, j + 1, k, c, hj, hc => by simpa using LReps.get h.2 (j := j) (by simpa using hj) (by simpa using hc)
  | [], [], _ :: _, _, h, _, _, _, _, _ => h.elim
  | [], _ :: _, _, _, h, _, _, _, _, _ => h.elim
  | _ :: _, [], _, _, h, _, _, _, _, _ => h.elim
  | _ :: _, _ :: _, [], _, h, _, _, _, _, _ => h.elim
/-- The slices of one's own among results. -/
theorem Reps.vec {O : Nat → Nat → Prop} {old : Option Nat} : ∀ {ss : List Sh0} {vs : List Value} {cs : List C}, Reps P w O old ss vs cs → ∀ {j : Nat} {t : TypeId} {c : C}, (kindsOf ss)[j]? = some (.vec t) → cs[j]? = some c → VecOK P w O t c.loc c
  | [], [], cs, h, j, t, c, hj, _ => by simp [kindsOf] at hj
  | s :: ss, v :: vs, cs, h, j, t, c, hj, hc => by
    obtain ⟨c1, c2, rfl, h1, h2⟩ := h
    have hlen : c1.length = s.kinds.length := h1.ty.len
    have hko : kindsOf (s :: ss) = s.kinds ++ kindsOf ss := by simp [kindsOf]
    rw [hko] at hj
    by_cases hlt : j < s.kinds.length
    · rw [List.getElem?_append_left hlt] at hj
      rw [List.getElem?_append_left (by omega)] at hc
      have one : ∀ {O' : Nat → Nat → Prop} {us : List Value}, LReps P w O' s.kinds us c1 → (∀ b o, O b o → O' b o) → VecOK P w O t c.loc c := fun hr hO => by
        obtain ⟨u, -, hu⟩ := hr.get hj hc
        have := hu.2
        rw [← this.1]
        exact this.2.anti hO
      cases s with
      | lf k => obtain ⟨c', rfl, hr⟩ := h1; exact one (us := [v]) ⟨hr, trivial⟩ fun _ _ h => h
      | agg l => obtain ⟨us, -, hr⟩ := h1; exact one hr fun _ _ h => h
      | box t l => obtain ⟨b, us, -, -, -, hr⟩ := h1; exact one hr fun _ _ h => .inl h
    · rw [List.getElem?_append_right (by omega)] at hj
      rw [List.getElem?_append_right (by omega)] at hc
      exact Reps.vec h2 hj (by rw [← hlen]; exact hc)
  | [], _ :: _, _, h, _, _, _, _, _ => h.elim
  | _ :: _, [], _, h, _, _, _, _, _ => h.elim
theorem VecOK.some_lt {O : Nat → Nat → Prop} {t : TypeId} {c : C} (h : VecOK P w O t c.loc c) {b : Nat} (hb : c.loc.ownBlock = some b) : b < w.heap.size := h.lt hb
theorem vecB_inv : ∀ {ks : List Lk} {cs : List C} {b : Nat}, b ∈ vecB ks cs → ∃ (j : Nat) (t : TypeId) (c : C), ks[j]? = some (.vec t) ∧ cs[j]? = some c ∧ c.loc.ownBlock = some b
  | [], _, _, h => by simp [vecB] at h
  | _ :: _, [], _, h => by simp [vecB] at h
  | k :: ks, c :: cs, b, h => by
    have next : b ∈ vecB ks cs → ∃ (j : Nat) (t : TypeId) (c' : C), (k :: ks)[j]? = some (.vec t) ∧ (c :: cs)[j]? = some c' ∧ c'.loc.ownBlock = some b := fun h => by
      obtain ⟨j, t, c', h1, h2, h3⟩ := vecB_inv h
      exact ⟨j + 1, t, c', by simpa using h1, by simpa using h2, h3⟩
    cases k with
    | vec t =>
      simp only [vecB, List.mem_append] at h
      rcases h with h | h
      · refine ⟨0, t, c, rfl, rfl, ?_⟩
        split at h
        · rename_i b' hb'; simp at h; subst h; exact hb'
        · cases h
      · exact next h
    | _ => exact next h
/-- What is known behind a call. -/
theorem Sat.called (hs : Sat P F w0 Γ st a w) (hwf : st.wf = true) {ct : Ct} {args : List S0} (hsh : shapes st.mem args = some ct.args) (hbx : boxOk ct = true)
    {w' : World} {v : Value} {rs outs : List C} (hres : Res P w' (Own Γ st) w.heap.size ct.res v rs) (houts : Outs P w' (fun b o => Own Γ st b o ∨ b ∈ vecB (kindsOf ct.res) rs) ct.args (args.map (S0.den Γ)) outs)
    (hkeep : Keeps (fun i => i < w.heap.size ∧ ¬ IsBox ct.args (args.map (S0.den Γ)) i) w w') :
    CTy P (kindsOf ct.res ++ boxKinds ct.args) (rs ++ outs) ∧ ∃ Γ', Ext Γ Γ' ∧ Γ'.ρ = Γ.ρ ++ (rs ++ outs) ∧ Sat P F w0 Γ' (st.called ct args) a w' ∧ (svOf (freshS st.nb ct.res st.nx)).den Γ' = v ∧ (svOf (freshS st.nb ct.res st.nx)).ok P w' (Own Γ' (st.called ct args)) Γ' := by
  have hrty : CTy P (kindsOf ct.res) rs := by obtain ⟨vs, -, hr, -⟩ := hres; exact hr.ty
  simp only [boxOk, Bool.and_eq_true, Bool.or_eq_true] at hbx
  obtain ⟨⟨hb1, hb2⟩, hb3⟩ := hbx
  have hrep : ∀ (j : Nat) (t : TypeId) (c : C), (kindsOf ct.res)[j]? = some (.vec t) → rs[j]? = some c → VecOK P w' (fun b o => Own Γ st b o ∨ b ∈ vecB (kindsOf ct.res) rs) t c.loc c := fun j t c h1 h2 => by
    obtain ⟨vs, -, hr, -⟩ := hres; exact hr.vec h1 h2
  have hnd : (vecB (kindsOf ct.res) rs).Nodup := hres.choose_spec.2.2.1
  have hge : ∀ b ∈ vecB (kindsOf ct.res) rs, w.heap.size ≤ b ∧ b < w'.heap.size := fun b hb => by
    refine ⟨hres.choose_spec.2.2.2 b hb, ?_⟩
    obtain ⟨j, t, c, h1, h2, h3⟩ := vecB_inv hb
    exact (hrep j t c h1 h2).lt h3
  have hge2 : ∀ b ∈ vecB (kindsOf ct.res) rs, ¬ F b ∧ (∀ s j, ¬ Hold Γ st s j b) ∧ ∀ o, ¬ Γ.base b o := fun b hb => by
    have h1 := (hge b hb).1
    exact ⟨fun hF => by have := hs.fold _ hF; have := hs.keeps.size; omega, fun s j hh => by have := hs.hold_lt hh; omega, fun o ho => by have := hs.base b o ho; omega⟩
  rcases outs_one hsh (Nat.le_of_ble_eq_true hb1) houts with hno | ⟨b, mb, us, g1, g2, g3, g4, g5, g6, g7⟩
  · obtain ⟨n1, n2, n3, n4⟩ := shapes_noBox hsh hno
    have ho := outs_noBox hno houts
    subst ho
    have hbel : Below w.heap.size w w' := ⟨hkeep.os, hkeep.tape, hkeep.output, hkeep.size, fun i hi => hkeep.block i ⟨hi, n3 _ i⟩⟩
    have hty : CTy P (kindsOf ct.res ++ boxKinds ct.args) (rs ++ []) := by rw [n2]; exact CTy.append hrty trivial
    refine ⟨hty, ?_⟩
    have hsm : Smalls (Γ.ρ ++ (rs ++ [])) := hs.num.len.app fun c hc => hty.small c hc
    have hbm : boxMem st.mem args (boxKinds ct.args) (st.nx + (kindsOf ct.res).length) = [] := by unfold boxMem; rw [n1]
    by_cases hrb : ct.res.all (fun s => !s.isBox) = true
    · have hfm := freshMem_noBox st.nb ct.res st.nx hrb
      have hgrow : Sat P F w0 (({ Γ with ρ := Γ.ρ ++ (rs ++ []) } : Env).addL (vecB (kindsOf ct.res) rs)) { st with nx := st.nx + (rs ++ []).length } a w' := (hs.belowL hbel hge).grow (rs := rs ++ []) hwf hsm
      rw [hty.len] at hgrow
      have hat : ∀ j c, rs[j]? = some c → at_ ({ Γ with ρ := Γ.ρ ++ (rs ++ []) } : Env).ρ (st.nx + j) = c := fun j c hj => by rw [← hs.len]; exact at_app (by rw [List.append_nil]; exact hj)
      have hadd := hgrow.addVecs hat (by show st.nx + rs.length ≤ st.nx + _; rw [hrty.len]; simp) hrty.len (fun j t c h1 h2 => (hrep j t c h1 h2).anti fun b o hb => (Own.addL.1 hb).imp (fun hb => by
          rcases Own.iff.1 hb with hb | ⟨s, j, hh⟩
          · exact .inl hb
          · exact Hold.own (Hold.congr (Γ := Γ) (st := st) (Γ' := { Γ with ρ := Γ.ρ ++ (rs ++ []) }) (st' := { st with nx := st.nx + (kindsOf ct.res ++ boxKinds ct.args).length }) (fun j mb hj => ⟨⟨mb, hj⟩, rfl⟩) (fun i e hi => ⟨⟨e, hi⟩, hs.vec_at (Γ' := { Γ with ρ := Γ.ρ ++ (rs ++ []) }) ⟨⟨_, rfl⟩, fun _ _ => rfl, Nat.le_refl _, rfl, rfl⟩ hi⟩) hh) o) id) hnd fun b hb => ⟨(hge2 b hb).1, fun s j hh => (hge2 b hb).2.1 s j (Hold.congr (Γ := Γ) (st := st) (Γ' := { Γ with ρ := Γ.ρ ++ (rs ++ []) }) (st' := { st with nx := st.nx + (kindsOf ct.res ++ boxKinds ct.args).length }) (fun j mb hj => ⟨⟨mb, hj⟩, rfl⟩) (fun i e hi => ⟨⟨e, hi⟩, hs.vec_at (Γ' := { Γ with ρ := Γ.ρ ++ (rs ++ []) }) ⟨⟨_, rfl⟩, fun _ _ => rfl, Nat.le_refl _, rfl, rfl⟩ hi⟩) hh), (hge2 b hb).2.2⟩
      have hcall : st.called ct args = { st with nx := st.nx + (kindsOf ct.res ++ boxKinds ct.args).length, vec := freshV (kindsOf ct.res) st.nx ++ st.vec } := by unfold St.called; rw [hfm, hbm]; rfl
      refine ⟨{ Γ with ρ := Γ.ρ ++ (rs ++ []) }, ⟨⟨_, rfl⟩, fun _ _ => rfl, Nat.le_refl _, rfl, rfl⟩, rfl, by rw [hcall]; exact hadd, ?_⟩
      have := svOf_rep (Γ := { Γ with ρ := Γ.ρ ++ (rs ++ []) }) (nb := st.nb) hres (fun vs _ _ b hb => absurd hb (isBox_noBox hrb)) (i := st.nx) hat
      refine ⟨this.1, SV.ok_keep this.2 (Nat.le_refl _) fun b o _ hno => ⟨rfl, fun hx => hno ?_⟩⟩
      rw [hcall] at hx
      rcases Own.iff.1 hx with hx | ⟨s, j, hh⟩
      · exact .inl (.inl hx)
      · rcases hh.inv with ⟨rfl, mb, hj, rfl⟩ | ⟨rfl, e, he', hb⟩
        · exact .inl ((Hold.mem (Γ := Γ) (st := st) hj).own o)
        · rcases look_freshV he' with ⟨n, t, rfl, hn, rfl⟩ | ⟨-, hm⟩
          · have hnlt : n < rs.length := by
              rw [hrty.len]
              rcases Nat.lt_or_ge n (kindsOf ct.res).length with h | h
              · exact h
              · rw [List.getElem?_eq_none h] at hn; cases hn
            rw [hat n rs[n] (by simp [hnlt])] at hb
            exact .inr (vecB_mem hn (by simp [hnlt]) hb)
          · exact .inl (Hold.own (Hold.vec (Γ := Γ) hm (by rw [← hs.vec_at (Γ' := { Γ with ρ := Γ.ρ ++ (rs ++ []) }) ⟨⟨_, rfl⟩, fun _ _ => rfl, Nat.le_refl _, rfl, rfl⟩ hm]; exact hb)) o)
    · have hone := hb2.resolve_left hrb
      have h1 := Nat.eq_of_beq_eq_true hone.1.1
      have hnv := hone.2
      have hvb : vecB (kindsOf ct.res) rs = [] := vecB_noVec hnv
      have hfv : freshV (kindsOf ct.res) st.nx = [] := freshV_noVec hnv
      obtain ⟨s, hs1⟩ : ∃ s, ct.res = [s] := by
        match hr : ct.res, h1 with
        | [s], _ => exact ⟨s, rfl⟩
      obtain ⟨vs, hv, hr, -, -⟩ := hres
      rw [hvb] at hr
      rw [hs1] at hrb hr hrty ⊢
      cases s with
      | lf k => exact absurd rfl hrb
      | agg l => exact absurd rfl hrb
      | box t l =>
        match vs, hr with
        | [x], hr =>
          obtain ⟨c1, c2, hc, hr1, hr2⟩ := hr
          cases hr2
          rw [List.append_nil] at hc
          subst hc
          obtain ⟨nb', us, rfl, hblk, hge', hrep'⟩ := hr1
          subst hv
          have hO := (hs.belowO hbel hge' hblk.lt).grow hwf hsm
          rw [hty.len] at hO
          have hk1 : kindsOf ([.box t l] : List Sh0) = l := by simp [kindsOf, Sh0.kinds]
          have hO' : Sat P F w0 (({ Γ with ρ := Γ.ρ ++ (rs ++ []) } : Env).addO (some nb')) { st with nx := st.nx + (kindsOf ct.res ++ boxKinds ct.args).length } a w' := hO
          have hfr := freshL_rep (P := P) (w := w') (O := fun x o => Own Γ st x o ∨ some nb' = some x) (Γ := { Γ with ρ := Γ.ρ ++ (rs ++ []) }) (hrep'.weaken fun x o hx => by
            rcases hx with hx | hx
            · exact .inl (.inl hx)
            · exact .inr hx) st.nx (fun j c hj => by rw [← hs.len, List.append_nil]; exact at_app hj)
          have hcs : (freshL l st.nx).all (Lf.wf (st.nx + (kindsOf ct.res ++ boxKinds ct.args).length) st.nb) = true := Lfs.freshL_wf st.nb l st.nx _ (by rw [hs1, hk1, List.length_append]; omega)
          have hcg : ∀ s j b, Hold ({ Γ with ρ := Γ.ρ ++ (rs ++ []) } : Env) { st with nx := st.nx + (kindsOf ct.res ++ boxKinds ct.args).length } s j b → Hold Γ st s j b := fun s j b hh =>
            Hold.congr (Γ := Γ) (st := st) (Γ' := { Γ with ρ := Γ.ρ ++ (rs ++ []) }) (st' := { st with nx := st.nx + (kindsOf ct.res ++ boxKinds ct.args).length }) (fun j mb hj => ⟨⟨mb, hj⟩, rfl⟩) (fun i e hi => ⟨⟨e, hi⟩, hs.vec_at (Γ' := { Γ with ρ := Γ.ρ ++ (rs ++ []) }) ⟨⟨_, rfl⟩, fun _ _ => rfl, Nat.le_refl _, rfl, rfl⟩ hi⟩) hh
          obtain ⟨Γ', e1, e2, e3, e4⟩ := hO'.adopt' (St.wf_grow hwf _) hcs (t := t) (by unfold dens; rw [hfr.1]; exact hblk) (by have := hs.keeps.size; omega) (fun s j hh => by have := hs.hold_lt (hcg s j _ hh); omega)
            (fun x hx => (hfr.2 x hx).anti' (fun y o hy => by
              rcases Own.iff.1 hy with (hy | hy) | ⟨s, j, hh⟩
              · exact .inl (.inl hy)
              · exact .inr hy
              · exact .inl ((hcg s j y hh.addO).own o)))
          have hcall : st.called ct args = { ({ st with nx := st.nx + (kindsOf ct.res ++ boxKinds ct.args).length } : St) with mem := (st.nb, some (t, freshL l st.nx)) :: st.mem, nb := st.nb + 1 } := by
            unfold St.called; rw [hbm, hfv, hs1]; rfl
          refine ⟨Γ', (⟨⟨rs ++ [], rfl⟩, fun _ _ => rfl, Nat.le_refl _, rfl, rfl⟩ : Ext Γ { Γ with ρ := Γ.ρ ++ (rs ++ []) }).trans e1, e2, by rw [hcall]; exact e4, ?_, ?_⟩
          · show Value.pointer (some ⟨Γ'.blk st.nb, 0, none⟩) = _
            rw [show Γ'.blk st.nb = nb' from e3]
          · intro y hy
            have : y = .ptr st.nb 0 := by simpa [svOf, freshS, Sh0.fresh, S0.cells] using hy
            subst this
            trivial
  · have hrb : ct.res.all (fun s => !s.isBox) = true := by
      rcases hb2 with h | h
      · exact h
      · exfalso
        obtain ⟨n1, -⟩ := shapes_noBox hsh h.1.2
        rw [n1] at g1; cases g1
    have hty : CTy P (kindsOf ct.res ++ boxKinds ct.args) (rs ++ outs) := CTy.append hrty g5.ty
    refine ⟨hty, ?_⟩
    have hsm : Smalls (Γ.ρ ++ (rs ++ outs)) := hs.num.len.app fun c hc => hty.small c hc
    have hgrow := hs.grow hwf hsm
    rw [hty.len] at hgrow
    have he : Ext Γ ({ Γ with ρ := Γ.ρ ++ (rs ++ outs) } : Env) := ⟨⟨_, rfl⟩, fun _ _ => rfl, Nat.le_refl _, rfl, rfl⟩
    have hfm := freshMem_noBox st.nb ct.res st.nx hrb
    have hbm : boxMem st.mem args (boxKinds ct.args) (st.nx + (kindsOf ct.res).length) = [(b, some (mb.1, freshL (boxKinds ct.args) (st.nx + (kindsOf ct.res).length)))] := by unfold boxMem; rw [g1]; simp only [g2]
    have hcall : st.called ct args = { ({ st with nx := st.nx + (kindsOf ct.res ++ boxKinds ct.args).length } : St) with mem := (b, some (mb.1, freshL (boxKinds ct.args) (st.nx + (kindsOf ct.res).length))) :: st.mem, vec := freshV (kindsOf ct.res) st.nx ++ st.vec } := by
      unfold St.called; rw [hfm, hbm]; rfl
    have hfr := freshL_rep (P := P) (w := w') (O := fun b o => Own Γ st b o ∨ b ∈ vecB (kindsOf ct.res) rs) (Γ := { Γ with ρ := Γ.ρ ++ (rs ++ outs) }) g5 (st.nx + (kindsOf ct.res).length) (fun j c hj => by rw [← hs.len, ← hrty.len]; exact at_app2 hj)
    generalize hcs : freshL (boxKinds ct.args) (st.nx + (kindsOf ct.res).length) = cs at *
    have hcg : ∀ s j x, Hold ({ Γ with ρ := Γ.ρ ++ (rs ++ outs) } : Env) { st with nx := st.nx + (kindsOf ct.res ++ boxKinds ct.args).length, mem := (b, some (mb.1, cs)) :: st.mem } s j x → Hold Γ st s j x := fun s j x hh =>
      Hold.congr (Γ := Γ) (st := st) (Γ' := { Γ with ρ := Γ.ρ ++ (rs ++ outs) }) (st' := { st with nx := st.nx + (kindsOf ct.res ++ boxKinds ct.args).length, mem := (b, some (mb.1, cs)) :: st.mem }) (fun j mj hj => ⟨by
        simp only [look] at hj
        split at hj
        · rename_i e; subst e; exact ⟨mb, g2⟩
        · exact ⟨mj, hj⟩, rfl⟩) (fun i e hi => ⟨⟨e, hi⟩, hs.vec_at he hi⟩) hh
    have hcg0 : ∀ s j x, Hold ({ Γ with ρ := Γ.ρ ++ (rs ++ outs) } : Env) { st with nx := st.nx + (kindsOf ct.res ++ boxKinds ct.args).length } s j x → Hold Γ st s j x := fun s j x hh =>
      Hold.congr (Γ := Γ) (st := st) (Γ' := { Γ with ρ := Γ.ρ ++ (rs ++ outs) }) (st' := { st with nx := st.nx + (kindsOf ct.res ++ boxKinds ct.args).length }) (fun j mj hj => ⟨⟨mj, hj⟩, rfl⟩) (fun i e hi => ⟨⟨e, hi⟩, hs.vec_at he hi⟩) hh
    have hmod := hgrow.modL (VB := vecB (kindsOf ct.res) rs) (b := b) (mb := mb) g2 (w' := w') ⟨hkeep.os, hkeep.tape, hkeep.output, hkeep.size, fun i hi => hkeep.block i ⟨hi.1, fun hx => hi.2 (g6 i hx)⟩⟩ (cs := cs) (by unfold dens; rw [hfr.1]; exact g4) hge (fun l hl => (hfr.2 l hl).anti' fun x o hx => by
      rcases Own.addL.1 hx with hx | hx
      · rcases Own.iff.1 hx with hx | ⟨s, j, hh⟩
        · exact .inl (.inl hx)
        · exact .inl ((hcg0 s j x hh).own o)
      · exact .inr hx)
    have hat : ∀ j c, rs[j]? = some c → at_ ({ Γ with ρ := Γ.ρ ++ (rs ++ outs) } : Env).ρ (st.nx + j) = c := fun j c hj => by
      rw [← hs.len, ← List.append_assoc, at_ext (by
        have : j < rs.length := by
          rcases Nat.lt_or_ge j rs.length with h | h
          · exact h
          · rw [List.getElem?_eq_none h] at hj; cases hj
        simp; omega)]
      exact at_app hj
    have hownC : ∀ x o, Own ({ Γ with ρ := Γ.ρ ++ (rs ++ outs) } : Env) { st with nx := st.nx + (kindsOf ct.res ++ boxKinds ct.args).length, mem := (b, some (mb.1, cs)) :: st.mem } x o → Own Γ st x o := fun x o hx => by
      rcases Own.iff.1 hx with hx | ⟨s, j, hh⟩
      · exact .inl hx
      · exact (hcg s j x hh).own o
    have hadd := hmod.addVecs (Γ := { Γ with ρ := Γ.ρ ++ (rs ++ outs) }) hat (by show st.nx + rs.length ≤ st.nx + _; rw [hrty.len]; simp) hrty.len (fun j t c h1 h2 => (hrep j t c h1 h2).anti fun x o hx => (Own.addL.1 hx).imp (hownC x o) id) hnd fun x hx => ⟨(hge2 x hx).1, fun s j hh => (hge2 x hx).2.1 s j (hcg s j x hh), (hge2 x hx).2.2⟩
    refine ⟨{ Γ with ρ := Γ.ρ ++ (rs ++ outs) }, he, rfl, by rw [hcall]; exact hadd, ?_⟩
    have := svOf_rep (Γ := { Γ with ρ := Γ.ρ ++ (rs ++ outs) }) (nb := st.nb) hres (fun vs _ _ b hb => absurd hb (isBox_noBox hrb)) (i := st.nx) hat
    refine ⟨this.1, SV.ok_keep this.2 (Nat.le_refl _) fun x o _ hno => ⟨rfl, fun hx => hno ?_⟩⟩
    rw [hcall] at hx
    rcases Own.iff.1 hx with hx | ⟨s, j, hh⟩
    · exact .inl (.inl hx)
    · rcases hh.inv with ⟨rfl, mj, hj, rfl⟩ | ⟨rfl, e, he', hb⟩
      · exact .inl ((hcg true j _ (Hold.mem (Γ := { Γ with ρ := Γ.ρ ++ (rs ++ outs) }) hj)).own o)
      · rcases look_freshV he' with ⟨n, t, rfl, hn, rfl⟩ | ⟨-, hm⟩
        · have hnlt : n < rs.length := by
            rw [hrty.len]
            rcases Nat.lt_or_ge n (kindsOf ct.res).length with h | h
            · exact h
            · rw [List.getElem?_eq_none h] at hn; cases hn
          rw [hat n rs[n] (by simp [hnlt])] at hb
          exact .inr (vecB_mem hn (by simp [hnlt]) hb)
        · exact .inl (Hold.own (Hold.vec (Γ := Γ) hm (by rw [← hs.vec_at he hm]; exact hb)) o)
end
section
variable {cx : Cx} {R : List C → Prop} {F : Nat → Prop} {w0 : World}

/-- What follows an operation. -/
def Next (cx : Cx) (R : List C → Prop) (F : Nat → Prop) (w0 : World) (k : St → Option Tree) (Γ : Env) (Ls : List (List C → Prop)) (K : Act → World → Prop) : Prop :=
  ∀ st' T' Γ' Ls', k st' = some T' → Ext Γ Γ' → Ls <+: Ls' → Ls'.length = st'.lvl → VC cx R T' Γ'.ρ Ls' → ∀ a' w', Sat cx.P F w0 Γ' st' a' w' → K a' w'
theorem Next.mono {k : St → Option Tree} {Γ Γ1 : Env} {Ls Ls1 : List (List C → Prop)} {K : Act → World → Prop} (h : Next cx R F w0 k Γ Ls K) (he : Ext Γ Γ1) (hl : Ls <+: Ls1) : Next cx R F w0 k Γ1 Ls1 K :=
  fun st' T' Γ' Ls' hk he' hl' => h st' T' Γ' Ls' hk (he.trans he') (hl.trans hl')
/-- Several results, as a value. -/
def valOf (vs : List Value) : Value := match vs with | [x] => x | vs => .tuple vs.toArray
theorem svOf_den (Γ : Env) (l : List S0) : (svOf l).den Γ = valOf (l.map (S0.den Γ)) := by
  match l with
  | [] => rfl
  | [s] => rfl
  | s :: t :: l => rfl
theorem svOf_ok {P : Program} {w : World} {O : Nat → Nat → Prop} {Γ : Env} {l : List S0} (h : ∀ s ∈ l, s.ok P w O Γ) : (svOf l).ok P w O Γ := by
  match l with
  | [] => exact fun s hs => h s hs
  | [s] => exact h s (by simp)
  | s :: t :: l => exact fun s hs => h s hs
/-- What is done with a function without a contract is right. -/
def HOK (cx : Cx) : Prop :=
  ∀ (f : Nat) (args : List S0) (st : St) (k : List S0 → St → Option Tree) (T : Tree), cx.H f args st k = some T → Callable cx.P f ∧
    ∀ (R : List C → Prop) (F : Nat → Prop) (w0 : World) (Γ : Env) (Ls : List (List C → Prop)) (a : Act) (w : World) (K : Value → World → Prop), Ls.length = st.lvl → VC cx R T Γ.ρ Ls → Sat cx.P F w0 Γ st a w →
      st.wf = true → args.all (S0.wf st.nx st.nb) = true → (∀ s ∈ args, s.ok cx.P w (Own Γ st) Γ) →
      (∀ l st' T' Γ' Ls', k l st' = some T' → Ext Γ Γ' → Ls <+: Ls' → Ls'.length = st'.lvl → VC cx R T' Γ'.ρ Ls' → ∀ w', Sat cx.P F w0 Γ' st' a w' → (∀ s ∈ l, s.ok cx.P w' (Own Γ' st') Γ') → K (valOf (l.map (S0.den Γ'))) w') →
      Calls cx.P f (args.map (S0.den Γ)).toArray w fun e w' => ∃ v, e = .returned v ∧ K v w'
structure CxOK (cx : Cx) : Prop where
  ct : ∀ f ct, cx.ct f = some ct → Callable cx.P f ∧ CtOK cx.P f ct ∧ (ct.det = true → ∀ cs rs rs', ct.post cs rs → ct.post cs rs' → rs = rs')
  mixed : cx.P.follows .mixedOrders = true
  inl : ∀ f g, cx.inl f = some g → Callable cx.P f ∧ InlOK cx.P f g
  sel : ∀ f g, cx.sel f = some g → Callable cx.P f ∧ SelOK cx.P f g
  hd : HOK cx

end
end Go.Proofs.Ytlbgcjpkegpmlaa
