/- The engine, part 11: one operation, a row of operations. -/
import Derived.Test.YtlbgcjpkegpmlaaEj
namespace Go.Proofs.Ytlbgcjpkegpmlaa
open Go.RowKit
set_option linter.unusedSimpArgs false
set_option linter.unusedVariables false

theorem VC.obT {cx : Cx} {R : List C → Prop} {ρ : List C} {Ls : List (List C → Prop)} : ∀ {l : List B} {t : Tree}, VC cx R (obT l t) ρ Ls → Obs ρ l ∧ VC cx R t ρ Ls
  | [], t, h => ⟨fun b hb => (by cases hb), h⟩
  | b :: l, t, h => by
    obtain ⟨h1, h2⟩ := h
    obtain ⟨h3, h4⟩ := VC.obT (l := l) h2
    refine ⟨fun x hx => ?_, h4⟩
    rcases List.mem_cons.1 hx with rfl | hx
    · exact h1
    · exact h3 x hx
theorem St.learnAll_lvl (st : St) (l : List B) : (st.learnAll l).lvl = st.lvl := rfl
theorem s0s_ok {P : Program} {Γ : Env} {st : St} {xs : Array Operand} {ρ : Operand → Value} {w : World} (hv : View P Γ st xs ρ w) : ∀ (l : List Operand) (r : List S0), st.s0s l = some r → (∀ x ∈ l, x ∈ xs) →
    l.map ρ = r.map (S0.den Γ) ∧ ∀ s ∈ r, s.ok P w (Own Γ st) Γ
  | [], r, h, _ => by simp [St.s0s] at h; subst h; simp
  | x :: l, r, h, hx => by
    simp only [St.s0s] at h
    split at h
    · rename_i s r' hs hr
      cases h
      obtain ⟨h1, h2⟩ := hv.s0 (hx x (by simp)) hs
      obtain ⟨h3, h4⟩ := s0s_ok hv l r' hr (fun y hy => hx y (by simp [hy]))
      refine ⟨by simp [h1, h3], fun y hy => ?_⟩
      rcases List.mem_cons.1 hy with rfl | hy
      · exact h2
      · exact h4 y hy
    · cases h
theorem run_callFunc' {P : Program} {f : FuncId} (h : Callable P f) (args : Array Value) (w : World) : (callFunc f args).run P w = .ok (.enter f args) w := by
  obtain ⟨fn, h1, h2, h3⟩ := h
  have h4 : fn.body.isNone = false := by cases hb : fn.body <;> simp_all
  simp only [callFunc, Sem.run_bind, run_program, Result.andThen_ok, h1, h2, h4, Bool.false_eq_true, if_false, Sem.run_pure]

/-! A slice built of its elements -/
theorem foldl_set (off : Nat) : ∀ (new : List Value) (i : Nat) (cs : List Value), off + i + new.length ≤ cs.length →
    (new.zipIdx i).foldl (fun cs (p : Value × Nat) => cs.set (off + p.2) p.1) cs = cs.take (off + i) ++ new ++ cs.drop (off + i + new.length)
  | [], i, cs, _ => by simp
  | x :: new, i, cs, h => by
    simp only [List.length_cons] at h
    simp only [List.zipIdx_cons, List.foldl_cons]
    rw [foldl_set off new (i + 1) _ (by simp; omega)]
    have e := list_seg_step cs (off + i) x new (by omega)
    simpa [Nat.add_assoc, Nat.add_comm, Nat.add_left_comm] using e
theorem fill_rows {Γ : Env} {sz : Nat} : ∀ (rows : List (Nat × S0)) (i : Nat) (out : List (List Lf)) (ks : List Lk) (cells : Array Value), ks.length = sz → rowsOf ks i rows = some out → (∀ p ∈ rows, ∀ l ∈ p.2.cells, (l.den Γ).cells = #[l.den Γ]) →
    (i + out.length) * sz ≤ cells.size → Instr.fill (fun i => some (i * sz, sz)) cells (rows.map fun p => (p.1, p.2.den Γ)) = some (cells.toList.take (i * sz) ++ (out.flatten.map (Lf.den Γ)) ++ cells.toList.drop ((i + out.length) * sz)).toArray
  | [], i, out, ks, cells, _, h, _, _ => by simp [rowsOf] at h; subst h; simp [Instr.fill]
  | (j, s) :: rows, i, out, ks, cells, hks, h, hs, hle => by
    simp only [rowsOf] at h
    split at h
    · rename_i hc
      simp only [Bool.and_eq_true, decide_eq_true_eq] at hc
      obtain ⟨h1, h2⟩ := hc
      have h1 := Nat.eq_of_beq_eq_true h1
      subst h1
      cases hr : rowsOf ks (i + 1) rows with
      | none => simp [hr] at h
      | some out' =>
        simp [hr] at h
        subst h
        have hlen : s.cells.length = sz := by
          rw [← hks]
          have key : ∀ (ls : List Lf) (ks : List Lk), kindsL ls = some ks → ls.length = ks.length := by
            intro ls
            induction ls with
            | nil => intro ks h; simp [kindsL] at h; subst h; rfl
            | cons l ls ih =>
              intro ks h
              simp only [kindsL] at h
              split at h
              · rename_i k ks' h1 h2; cases h; simp [ih _ h2]
              · cases h
          exact key _ _ h2
        have hcl := S0.den_cells Γ s (hs (i, s) (by simp))
        simp only [List.length_cons] at hle
        have hle2 : i * sz + sz ≤ cells.size := by
          have : (i + 1) * sz ≤ (i + (out'.length + 1)) * sz := Nat.mul_le_mul_right _ (by omega)
          rw [Nat.add_mul] at this; omega
        simp only [List.map_cons, Instr.fill, hcl, dens_size, hlen]
        rw [if_neg (by simp; omega)]
        have e : (dens Γ s.cells).zipIdx = (((s.cells.map (Lf.den Γ)).zipIdx)).toArray := by
          apply Array.ext'
          simp [dens]
        rw [e]
        simp only [List.foldl_toArray]
        have e2 : (List.foldl (fun (cs : Array Value) (x : Value × Nat) => match x with | (c, j) => cs.setIfInBounds (i * sz + j) c) cells ((s.cells.map (Lf.den Γ)).zipIdx)) =
            (cells.toList.take (i * sz) ++ s.cells.map (Lf.den Γ) ++ cells.toList.drop (i * sz + sz)).toArray := by
          have := foldl_set (i * sz) (s.cells.map (Lf.den Γ)) 0 cells.toList (by simp; omega)
          simp only [Nat.add_zero, List.length_map, hlen] at this
          rw [← this]
          generalize (s.cells.map (Lf.den Γ)).zipIdx = l
          have key : ∀ (l : List (Value × Nat)) (cs : Array Value), (List.foldl (fun (cs : Array Value) (x : Value × Nat) => match x with | (c, j) => cs.setIfInBounds (i * sz + j) c) cs l) = (List.foldl (fun cs (p : Value × Nat) => cs.set (i * sz + p.2) p.1) cs.toList l).toArray := by
            intro l
            induction l with
            | nil => intro cs; simp
            | cons p l ih => intro cs; simp only [List.foldl_cons]; rw [ih]; simp
          exact key l cells
        rw [e2]
        rw [fill_rows rows (i + 1) out' ks _ hks hr (fun p hp => hs p (by simp [hp])) (by
          simp only [List.size_toArray, List.length_append, List.length_take, List.length_map, List.length_drop, Array.length_toList, hlen]
          have : (i + 1 + out'.length) * sz = (i + (out'.length + 1)) * sz := by congr 1; omega
          omega)]
        congr 2
        simp only [List.flatten_cons, List.map_append]
        have a1 : (cells.toList.take (i * sz) ++ s.cells.map (Lf.den Γ) ++ cells.toList.drop (i * sz + sz)).take ((i + 1) * sz) = cells.toList.take (i * sz) ++ s.cells.map (Lf.den Γ) := by
          rw [Nat.add_mul, Nat.one_mul]
          have : i * sz + sz = (cells.toList.take (i * sz) ++ s.cells.map (Lf.den Γ)).length := by simp [hlen]; omega
          rw [this, List.take_left']
          rfl
        have a2 : (cells.toList.take (i * sz) ++ s.cells.map (Lf.den Γ) ++ cells.toList.drop (i * sz + sz)).drop ((i + 1 + out'.length) * sz) = cells.toList.drop ((i + (out'.length + 1)) * sz) := by
          have e3 : (i + 1 + out'.length) * sz = (i * sz + sz) + out'.length * sz := by rw [Nat.add_mul, Nat.add_mul, Nat.one_mul]
          have e4 : (i + (out'.length + 1)) * sz = (i * sz + sz) + out'.length * sz := by rw [Nat.add_mul, Nat.add_mul, Nat.one_mul]; omega
          have e5 : (cells.toList.take (i * sz) ++ s.cells.map (Lf.den Γ)).length = i * sz + sz := by simp [hlen]; omega
          rw [e3, e4, ← List.drop_drop, List.drop_left' e5, List.drop_drop]
        rw [List.toList_toArray, a1, a2]
        simp [List.append_assoc]
    · cases h
theorem rowsOf_len (ks : List Lk) : ∀ (rows : List (Nat × S0)) (i : Nat) (out : List (List Lf)), rowsOf ks i rows = some out → (∀ r ∈ out, kindsL r = some ks) ∧ ∀ r ∈ out, ∃ p ∈ rows, r = p.2.cells
  | [], i, out, h => by simp [rowsOf] at h; subst h; simp
  | (j, s) :: rows, i, out, h => by
    simp only [rowsOf] at h
    split at h
    · rename_i hc
      simp only [Bool.and_eq_true, decide_eq_true_eq] at hc
      cases hr : rowsOf ks (i + 1) rows with
      | none => simp [hr] at h
      | some out' =>
        simp [hr] at h
        subst h
        obtain ⟨h1, h2⟩ := rowsOf_len ks rows (i + 1) out' hr
        refine ⟨fun r hr => ?_, fun r hr => ?_⟩
        · rcases List.mem_cons.1 hr with rfl | hr
          · exact hc.2
          · exact h1 r hr
        · rcases List.mem_cons.1 hr with rfl | hr
          · exact ⟨(j, s), by simp, rfl⟩
          · obtain ⟨p, hp, e⟩ := h2 r hr
            exact ⟨p, by simp [hp], e⟩
    · cases h
theorem rngL_flatten {bd : Bds} {ρ : List C} : ∀ {rows : List (List Lf)}, Obs ρ (rngL bd rows.flatten) → ∀ r ∈ rows, Obs ρ (rngL bd r)
  | [], _, r, hr => by cases hr
  | x :: rows, h, r, hr => by
    rw [List.flatten_cons] at h
    obtain ⟨h1, h2⟩ := rngL_app h
    rcases List.mem_cons.1 hr with rfl | hr
    · exact h1
    · exact rngL_flatten h2 r hr
theorem flatten_get {α : Type} {sz : Nat} : ∀ (rows : List (List α)), (∀ r ∈ rows, r.length = sz) → ∀ (i j : Nat) (r : List α), rows[i]? = some r → j < sz → rows.flatten[i * sz + j]? = r[j]?
  | [], _, i, j, r, h, _ => by simp at h
  | x :: rows, hl, 0, j, r, h, hj => by
    simp at h
    subst h
    rw [List.flatten_cons, Nat.zero_mul, Nat.zero_add, List.getElem?_append_left (by rw [hl x (by simp)]; exact hj)]
  | x :: rows, hl, i + 1, j, r, h, hj => by
    rw [List.flatten_cons, List.getElem?_append_right (by rw [hl x (by simp), Nat.add_mul]; omega), hl x (by simp)]
    have := flatten_get rows (fun r hr => hl r (by simp [hr])) i j r (by simpa using h) hj
    rw [← this]
    congr 1
    rw [Nat.add_mul]; omega
theorem kindsL_len : ∀ {ls : List Lf} {ks : List Lk}, kindsL ls = some ks → ls.length = ks.length
  | [], ks, h => by simp [kindsL] at h; subst h; rfl
  | l :: ls, ks, h => by
    simp only [kindsL] at h
    split at h
    · rename_i k ks' h1 h2; cases h; simp [kindsL_len h2]
    · cases h
/-- The slice whose cells a new block holds. -/
theorem ArrOK.made {P : Program} {w : World} {O : Nat → Nat → Prop} {Γ : Env} {te : TypeId} {ks : List Lk} (hk : kinds P te = some ks) (hno : ks.all Lk.noArr = true) {rows : List (List Lf)} (hrows : ∀ r ∈ rows, kindsL r = some ks)
    {b : Nat} (hb : Blk w b te (dens Γ rows.flatten)) (hO : ∀ o, ¬ O b o) : ArrOK P w O te (.s (.slice (some ⟨b, 0, none⟩) rows.length rows.length) (rows.map (cs_ Γ.ρ))) := by
  refine ⟨_, _, rfl, 1, fun x o => x = b, fun x o hx => ⟨by rw [hx]; exact hb.lt, by rw [hx]; exact hO o⟩, ks, hk, _, rows.length, by simp, fun _ => ⟨b, 0, rfl, fun i r hr => ?_⟩⟩
  simp only [List.getElem?_map, Option.map_eq_some_iff] at hr
  obtain ⟨r', hr', rfl⟩ := hr
  have hkr := hrows r' (List.mem_of_getElem? hr')
  refine ⟨by simp [cs_, kindsL_len hkr], fun j k hj => ⟨rfl, ?_⟩⟩
  have hjlt : j < ks.length := by
    rcases Nat.lt_or_ge j ks.length with h | h
    · exact h
    · rw [List.getElem?_eq_none h] at hj; cases hj
  have hjr : j < r'.length := by rw [kindsL_len hkr]; exact hjlt
  refine ⟨r'[j].den Γ, r'[j].c Γ.ρ, ?_, by simp [cs_, hjr], ?_⟩
  · rw [Nat.zero_add]
    refine hb.cell _ ?_
    rw [dens_get, flatten_get rows (fun r hr => kindsL_len (hrows r hr)) i j r' hr' hjlt, List.getElem?_eq_getElem hjr]
    rfl
  · have key : ∀ (ls : List Lf) (ks : List Lk), kindsL ls = some ks → ∀ j (h : j < ls.length) k, ks[j]? = some k → ls[j].kind = some k := by
      intro ls
      induction ls with
      | nil => intro ks _ j h; simp at h
      | cons l ls ih =>
        intro ks hks j h k hkj
        simp only [kindsL] at hks
        split at hks
        · rename_i k' ks' h1 h2
          cases hks
          cases j with
          | zero => simp at hkj; subst hkj; exact h1
          | succ j => exact ih ks' h2 j (by simpa using h) k (by simpa using hkj)
        · cases hks
    have hkind := key r' ks hkr j hjr k hj
    have hkno := List.all_eq_true.1 hno k (List.mem_of_getElem? hj)
    generalize r'[j] = l at *
    cases l with
    | int e => cases hkind; exact ⟨_, rfl, rfl⟩
    | bool e => cases hkind; exact ⟨_, rfl, rfl⟩
    | arr t e => cases hkind; cases hkno
    | _ => cases hkind

/-! Behind a call -/
theorem Lfs.freshL_wf (nb : Nat) : ∀ (ks : List Lk) (i n : Nat), i + ks.length ≤ n → (freshL ks i).all (Lf.wf n nb) = true
  | [], _, _, _ => rfl
  | k :: ks, i, n, h => by
    simp only [List.length_cons] at h
    simp only [freshL, List.all_cons, Bool.and_eq_true]
    refine ⟨?_, Lfs.freshL_wf nb ks (i + 1) n (by omega)⟩
    cases k <;> simp only [Lf.ofKind, Lf.wf, E.wf, B.wf, Nat.blt_eq] <;> omega
theorem St.wf_grow {st : St} (h : st.wf = true) (n : Nat) : ({ st with nx := st.nx + n } : St).wf = true := by
  simp only [St.wf, Bool.and_eq_true, List.all_eq_true] at h ⊢
  refine ⟨fun p hp => ?_, fun p hp => ?_⟩
  · have := h.1 p hp
    cases hv : p.2 with
    | none => rfl
    | some sv => rw [hv] at this; exact SV.wf_mono (Nat.le_add_right _ _) sv this
  · have := h.2 p hp
    cases hv : p.2 with
    | none => rfl
    | some mb => rw [hv] at this; exact Lfs.wf_mono (Nat.le_add_right _ _) this
theorem freshMem_noBox (nb : Nat) : ∀ (ss : List Sh0) (i : Nat), ss.all (fun s => !s.isBox) = true → freshMem nb ss i = []
  | [], _, _ => rfl
  | s :: ss, i, h => by
    simp only [List.all_cons, Bool.and_eq_true] at h
    cases s with
    | box t l => cases h.1
    | lf k => exact freshMem_noBox nb ss _ h.2
    | agg l => exact freshMem_noBox nb ss _ h.2
theorem isBox_noBox : ∀ {ss : List Sh0} {vs : List Value} {i : Nat}, ss.all (fun s => !s.isBox) = true → ¬ IsBox ss vs i
  | [], vs, i, _, h => by cases vs <;> exact h
  | s :: ss, [], i, hb, h => by cases s <;> exact h
  | s :: ss, v :: vs, i, hb, h => by
    simp only [List.all_cons, Bool.and_eq_true] at hb
    cases s with
    | box t l => cases hb.1
    | lf k => exact isBox_noBox (ss := ss) (vs := vs) hb.2 h
    | agg l => exact isBox_noBox (ss := ss) (vs := vs) hb.2 h
theorem at_app2 {ρ cs ds : List C} {j : Nat} {c : C} (h : ds[j]? = some c) : at_ (ρ ++ (cs ++ ds)) (ρ.length + cs.length + j) = c := by
  rw [← List.append_assoc, ← List.length_append]
  exact at_app h
theorem Sat.called {P : Program} {F : Nat → Prop} {w0 : World} {Γ : Env} {st : St} {a : Act} {w : World} (hs : Sat P F w0 Γ st a w) (hwf : st.wf = true) {ct : Ct} {args : List S0} (hsh : shapes st.mem args = some ct.args) (hbx : boxOk ct = true)
    {w' : World} {v : Value} {rs outs : List C} (hres : Res P w' (Own Γ st) w.heap.size ct.res v rs) (houts : Outs P w' (Own Γ st) ct.args (args.map (S0.den Γ)) outs)
    (hkeep : Keeps (fun i => i < w.heap.size ∧ ¬ IsBox ct.args (args.map (S0.den Γ)) i) w w') :
    CTy P (kindsOf ct.res ++ boxKinds ct.args) (rs ++ outs) ∧ ∃ Γ', Ext Γ Γ' ∧ Γ'.ρ = Γ.ρ ++ (rs ++ outs) ∧ Sat P F w0 Γ' (st.called ct args) a w' ∧ (svOf (freshS st.nb ct.res st.nx)).den Γ' = v ∧ (svOf (freshS st.nb ct.res st.nx)).ok P w' (Own Γ' (st.called ct args)) Γ' := by
  have hrty : CTy P (kindsOf ct.res) rs := by obtain ⟨vs, -, hr⟩ := hres; exact hr.ty
  simp only [boxOk, Bool.and_eq_true, Bool.or_eq_true] at hbx
  obtain ⟨hb1, hb2⟩ := hbx
  rcases outs_one hsh (Nat.le_of_ble_eq_true hb1) houts with hno | ⟨b, mb, us, g1, g2, g3, g4, g5, g6, g7⟩
  · obtain ⟨n1, n2, n3, n4⟩ := shapes_noBox hsh hno
    have ho := outs_noBox hno houts
    subst ho
    have hbel : Below w.heap.size w w' := ⟨hkeep.os, hkeep.tape, hkeep.output, hkeep.size, fun i hi => hkeep.block i ⟨hi, n3 _ i⟩⟩
    have hty : CTy P (kindsOf ct.res ++ boxKinds ct.args) (rs ++ []) := by rw [n2]; exact CTy.append hrty trivial
    refine ⟨hty, ?_⟩
    have hsm : Smalls (Γ.ρ ++ (rs ++ [])) := hs.num.len.app fun c hc => hty.small c hc
    have hbm : boxMem st.mem args (boxKinds ct.args) (st.nx + (kindsOf ct.res).length) = [] := by unfold boxMem; rw [n1]
    by_cases hrb : ct.res.all (fun s => !s.isBox) = true
    · have hfm := freshMem_noBox st.nb ct.res st.nx hrb
      have hgrow := (hs.below hbel).grow hwf hsm
      rw [hty.len] at hgrow
      have hcall : st.called ct args = { st with nx := st.nx + (kindsOf ct.res ++ boxKinds ct.args).length } := by unfold St.called; rw [hfm, hbm]; rfl
      refine ⟨{ Γ with ρ := Γ.ρ ++ (rs ++ []) }, ⟨⟨_, rfl⟩, fun _ _ => rfl, Nat.le_refl _, rfl⟩, rfl, by rw [hcall]; exact hgrow, ?_⟩
      have := svOf_rep (Γ := { Γ with ρ := Γ.ρ ++ (rs ++ []) }) (nb := st.nb) hres (fun vs _ _ b hb => absurd hb (isBox_noBox hrb)) (i := st.nx) (fun j c hj => by rw [← hs.len, List.append_nil]; exact at_app hj)
      exact ⟨this.1, by rw [hcall]; exact this.2⟩
    · have hone := hb2.resolve_left hrb
      have h1 := Nat.eq_of_beq_eq_true hone.1
      obtain ⟨s, hs1⟩ : ∃ s, ct.res = [s] := by
        match hr : ct.res, h1 with
        | [s], _ => exact ⟨s, rfl⟩
      rw [hs1] at hrb hres hrty ⊢
      cases s with
      | lf k => exact absurd rfl hrb
      | agg l => exact absurd rfl hrb
      | box t l =>
        obtain ⟨vs, hv, hr⟩ := hres
        match vs, hr with
        | [x], hr =>
          obtain ⟨c1, c2, hc, hr1, hr2⟩ := hr
          cases hr2
          rw [List.append_nil] at hc
          subst hc
          obtain ⟨nb', us, rfl, hblk, hge, hrep⟩ := hr1
          subst hv
          have hO := (hs.belowO hbel hge hblk.lt).grow hwf hsm
          rw [hty.len] at hO
          have hk1 : kindsOf ([.box t l] : List Sh0) = l := by simp [kindsOf, Sh0.kinds]
          have hO' : Sat P F w0 (({ Γ with ρ := Γ.ρ ++ (rs ++ []) } : Env).addO (some nb')) { st with nx := st.nx + (kindsOf ct.res ++ boxKinds ct.args).length } a w' := hO
          have hfr := freshL_rep (P := P) (w := w') (O := fun x o => Own Γ st x o ∨ some nb' = some x) (Γ := { Γ with ρ := Γ.ρ ++ (rs ++ []) }) hrep st.nx (fun j c hj => by rw [← hs.len, List.append_nil]; exact at_app hj)
          have hcs : (freshL l st.nx).all (Lf.wf (st.nx + (kindsOf ct.res ++ boxKinds ct.args).length) st.nb) = true := Lfs.freshL_wf st.nb l st.nx _ (by rw [hs1, hk1, List.length_append]; omega)
          obtain ⟨Γ', e1, e2, e3, e4⟩ := hO'.adopt' (St.wf_grow hwf _) hcs (t := t) (by unfold dens; rw [hfr.1]; exact hblk) (by have := hs.keeps.size; omega) (fun j mb hj e => by have := (hs.mem j mb hj).1.lt; have e' : Γ.blk j = nb' := e; omega)
            (fun x hx => (hfr.2 x hx).anti' (fun y o hy => by
              rcases hy with (hy | hy) | hy
              · exact .inl (.inl hy)
              · exact .inr hy
              · exact .inl (.inr hy)))
          have hcall : st.called ct args = { ({ st with nx := st.nx + (kindsOf ct.res ++ boxKinds ct.args).length } : St) with mem := (st.nb, some (t, freshL l st.nx)) :: st.mem, nb := st.nb + 1 } := by
            unfold St.called; rw [hbm, hs1]; rfl
          refine ⟨Γ', (⟨⟨rs ++ [], rfl⟩, fun _ _ => rfl, Nat.le_refl _, rfl⟩ : Ext Γ { Γ with ρ := Γ.ρ ++ (rs ++ []) }).trans e1, e2, by rw [hcall]; exact e4, ?_, ?_⟩
          · show Value.pointer (some ⟨Γ'.blk st.nb, 0, none⟩) = _
            rw [show Γ'.blk st.nb = nb' from e3]
          · intro y hy
            have : y = .ptr st.nb 0 := by simpa [svOf, freshS, Sh0.fresh, S0.cells] using hy
            subst this
            trivial
  · have hrb : ct.res.all (fun s => !s.isBox) = true := by
      rcases hb2 with h | h
      · exact h
      · exfalso
        obtain ⟨n1, -⟩ := shapes_noBox hsh h.2
        rw [n1] at g1; cases g1
    have hty : CTy P (kindsOf ct.res ++ boxKinds ct.args) (rs ++ outs) := CTy.append hrty g5.ty
    refine ⟨hty, ?_⟩
    have hsm : Smalls (Γ.ρ ++ (rs ++ outs)) := hs.num.len.app fun c hc => hty.small c hc
    have hgrow := hs.grow hwf hsm
    rw [hty.len] at hgrow
    have hfm := freshMem_noBox st.nb ct.res st.nx hrb
    have hbm : boxMem st.mem args (boxKinds ct.args) (st.nx + (kindsOf ct.res).length) = [(b, some (mb.1, freshL (boxKinds ct.args) (st.nx + (kindsOf ct.res).length)))] := by unfold boxMem; rw [g1]; simp only [g2]
    have hcall : st.called ct args = { ({ st with nx := st.nx + (kindsOf ct.res ++ boxKinds ct.args).length } : St) with mem := (b, some (mb.1, freshL (boxKinds ct.args) (st.nx + (kindsOf ct.res).length))) :: st.mem } := by
      unfold St.called; rw [hfm, hbm]; rfl
    have hfr := freshL_rep (P := P) (w := w') (O := Own Γ st) (Γ := { Γ with ρ := Γ.ρ ++ (rs ++ outs) }) g5 (st.nx + (kindsOf ct.res).length) (fun j c hj => by rw [← hs.len, ← hrty.len]; exact at_app2 hj)
    have hmod := hgrow.mod (b := b) (mb := mb) g2 (w' := w') ⟨hkeep.os, hkeep.tape, hkeep.output, hkeep.size, fun i hi => hkeep.block i ⟨hi.1, fun hx => hi.2 (g6 i hx)⟩⟩ (cs := freshL (boxKinds ct.args) (st.nx + (kindsOf ct.res).length)) (by unfold dens; rw [hfr.1]; exact g4) hfr.2
    refine ⟨{ Γ with ρ := Γ.ρ ++ (rs ++ outs) }, ⟨⟨_, rfl⟩, fun _ _ => rfl, Nat.le_refl _, rfl⟩, rfl, by rw [hcall]; exact hmod, ?_⟩
    have := svOf_rep (Γ := { Γ with ρ := Γ.ρ ++ (rs ++ outs) }) (nb := st.nb) hres (fun vs _ _ b hb => absurd hb (isBox_noBox hrb)) (i := st.nx) (fun j c hj => by
      rw [← hs.len, ← List.append_assoc, at_ext (by
        have : j < rs.length := by
          rcases Nat.lt_or_ge j rs.length with h | h
          · exact h
          · rw [List.getElem?_eq_none h] at hj; cases hj
        simp; omega)]
      exact at_app hj)
    refine ⟨this.1, SV.ok_keep this.2 (Nat.le_refl _) fun x o _ hno => ⟨rfl, fun hx => hno ?_⟩⟩
    rw [hcall] at hx
    rcases hx with hx | ⟨j, mj, hj, rfl⟩
    · exact .inl hx
    · simp only [look] at hj
      split at hj
      · rename_i e; subst e; exact .inr ⟨b, mb, g2, rfl⟩
      · exact .inr ⟨j, mj, hj, rfl⟩

section
variable {cx : Cx} {R : List C → Prop} {F : Nat → Prop} {w0 : World}

/-- What follows an operation. -/
def Next (cx : Cx) (R : List C → Prop) (F : Nat → Prop) (w0 : World) (k : St → Option Tree) (Γ : Env) (lvl : Nat) (Ls : List (List C → Prop)) (K : Act → World → Prop) : Prop :=
  ∀ st' T' Γ', k st' = some T' → Ext Γ Γ' → st'.lvl = lvl → VC cx R T' Γ'.ρ Ls → ∀ a' w', Sat cx.P F w0 Γ' st' a' w' → K a' w'

theorem Lf.plain_ok {P : Program} {w : World} {O : Nat → Nat → Prop} {Γ : Env} {l : Lf} (h : l.plain = true) : l.ok P w O Γ := by
  cases l with
  | arr t a => cases h
  | elp t s a x o => cases h
  | _ => trivial
theorem SV.plain_ok {P : Program} {w : World} {O : Nat → Nat → Prop} {Γ : Env} {s : SV} (h : s.plain = true) : s.ok P w O Γ := by
  cases s with
  | one s => exact fun l hl => Lf.plain_ok (List.all_eq_true.1 h l hl)
  | tup ss => cases h
  | fn f ls => exact fun l hl => Lf.plain_ok (List.all_eq_true.1 h l hl)
theorem callCt_sound (hcx : CxOK cx) {st : St} {o : Oper} {f : Nat} {args : List S0} {k : St → Option Tree} {T : Tree} (h : callCt cx st o f args k = some T) {Γ : Env} {Ls : List (List C → Prop)} (hvc : VC cx R T Γ.ρ Ls)
    {a : Act} {w : World} (hs : Sat cx.P F w0 Γ st a w) {K : Act → World → Prop} {Q : Exit → Act → World → Prop} (hk : Next cx R F w0 k Γ st.lvl Ls K) (ha2 : ∀ s ∈ args, s.ok cx.P w (Own Γ st) Γ)
    (hrun : ∀ hc : Callable cx.P f, (execOp a.eval o).run cx.P w = .ok (.enter f (args.map (S0.den Γ)).toArray) w) : o.wp cx.P a w K Q := by
  unfold callCt at h
  split at h
  · rename_i ct hct
    obtain ⟨hc, hcok, -⟩ := hcx.ct f ct hct
    split at h
    · rename_i hcond
      obtain ⟨hsh, hwf, hbx⟩ := hcond
      cases hp : (st.called ct args).put o.dst (some (svOf (freshS st.nb ct.res st.nx))) with
      | none => simp [hp] at h
      | some st' =>
        cases hk' : k st' with
        | none => simp [hp, hk'] at h
        | some T' =>
          simp [hp, hk'] at h
          subst h
          obtain ⟨hob, hvc'⟩ := VC.obT hvc
          simp only [VC, hct] at hvc'
          obtain ⟨hpre, hall⟩ := hvc'
          have hreps := cells_rep (P := cx.P) (w := w) (O := Own Γ st) (old := none) hs.num hsh ha2 (fun b mb _ hmb => ⟨(hs.mem b mb hmb).1, fun l hl => ((hs.mem b mb hmb).2.1 l hl).anti' (fun x o hx => by
            rcases hx with hx | hx
            · exact hx
            · cases hx; exact .inr ⟨b, mb, hmb, rfl⟩), fun o => .inr ⟨b, mb, hmb, rfl⟩⟩) hob
          unfold Oper.wp
          rw [hrun hc]
          refine (hcok (Own Γ st) w _ _ (fun b o hb => hs.own_lt b o hb) hreps hpre).mono ?_
          rintro e w' ⟨v, rs, outs, rfl, hres, houts, hpost, hkeep⟩
          obtain ⟨hty, Γ', e1, e2, e3, e4, e5⟩ := hs.called hwf hsh hbx hres houts hkeep
          have hvc2 := allC_elim hall (rs ++ outs) hty hpost
          rw [← e2] at hvc2
          have hput := e3.put hp e5
          rw [e4] at hput
          exact hk st' T' Γ' hk' e1 (by rw [St.put_lvl hp]; rfl) hvc2 _ _ hput
    · cases h
  · cases h
theorem Sat.knowB {P : Program} {Γ : Env} {st : St} {a : Act} {w : World} (hs : Sat P F w0 Γ st a w) {b : B} {t : Bool} (hb : b.den Γ.ρ = t) : Sat P F w0 Γ (st.know none b t) a w :=
  ⟨hs.slots, hs.size, hs.mem, hs.inj, hs.keeps, hs.fold, hs.base, hs.defers, hs.len, hs.nb, ⟨learn_ok hs.num.len (by rw [hs.len]; exact Nat.le_refl _) b st.bds t hs.num.bds hb, hs.num.len⟩⟩
theorem doOp_sound (hcx : CxOK cx) {st : St} {o : Oper} {k : St → Option Tree} {T : Tree} (h : doOp cx st o k = some T) {Γ : Env} {Ls : List (List C → Prop)} (hvc : VC cx R T Γ.ρ Ls)
    {a : Act} {w : World} (hs : Sat cx.P F w0 Γ st a w) {K : Act → World → Prop} {Q : Exit → Act → World → Prop} (hk : Next cx R F w0 k Γ st.lvl Ls K) : o.wp cx.P a w K Q := by
  have hv := hs.view o.op.operands
  unfold doOp at h
  split at h
  · rename_i obs sv hop
    cases hp : (st.learnAll obs).put o.dst (some sv) with
    | none => simp [hp] at h
    | some st' =>
      cases hk' : k st' with
      | none => simp [hp, hk'] at h
      | some T' =>
        simp [hp, hk'] at h
        subst h
        obtain ⟨hob, hvc'⟩ := VC.obT hvc
        obtain ⟨h1, h2⟩ := opVal_ok hop hv hob
        unfold Oper.wp
        rw [h1]
        exact hk st' T' Γ hk' (Ext.refl Γ) (by rw [St.put_lvl hp]; rfl) hvc' _ _ ((hs.learn hob).put hp h2)
  · split at h
    · rename_i t hopeq
      split at h
      · rename_i cs hz
        cases hf : st.fresh t cs with
        | none => simp [hf] at h
        | some st1 =>
          cases hp : st1.put o.dst (some (.one (.lf (.ptr st.nb 0)))) with
          | none => simp [hf, hp] at h
          | some st' =>
            simp [hf, hp] at h
            obtain ⟨it, z, hi, hzz, hc⟩ := zeroLf_spec hz Γ
            have zok : ∀ l ∈ cs, l.ok cx.P w (Own Γ st) Γ := fun l hl => by
              unfold zeroLf at hz
              split at hz
              · rename_i it hi
                cases hzz : it.zero with
                | none => simp [hzz] at hz
                | some zv =>
                  simp [hzz] at hz
                  subst hz
                  obtain ⟨v, -, rfl⟩ := List.mem_map.1 hl
                  unfold Lf.ofValue
                  split <;> trivial
              · cases hz
            obtain ⟨Γ', he, hρ, hb, hs', hlvl⟩ := hs.fresh hf zok
            have hrun : (execOp a.eval o).run cx.P w = .ok (.value (.pointer (some ⟨w.heap.size, 0, none⟩))) (w.alloc (.cells (dens Γ cs) t)) := by
              unfold execOp
              rw [hopeq]
              simp [Instr.alloc, zeroValue, run_typeInfo' hi, hzz, newVar, newRow, hc]
            unfold Oper.wp
            rw [hrun]
            have hput := hs'.put (sv := .one (.lf (.ptr st.nb 0))) hp (one_ok trivial)
            simp only [SV.den, S0.den, Lf.den, hb] at hput
            exact hk st' T Γ' h he ((St.put_lvl hp).trans hlvl) (by rw [hρ]; exact hvc) _ _ hput
      · cases h
    · rename_i t x hopeq
      split at h
      · rename_i s hx
        obtain ⟨hx1, hx2⟩ := hv.s0 (by rw [hopeq]; simp [Op.operands]) hx
        cases hf : st.fresh t s.cells with
        | none => simp [hf] at h
        | some st1 =>
          cases hp : st1.put o.dst (some (.one (.lf (.ptr st.nb 0)))) with
          | none => simp [hf, hp] at h
          | some st' =>
            simp [hf, hp] at h
            obtain ⟨Γ', he, hρ, hb, hs', hlvl⟩ := hs.fresh hf hx2
            have hfl : s.cells.all Lf.flat = true := by
              unfold St.fresh at hf
              split at hf
              · rename_i hc; simp only [Bool.and_eq_true] at hc; exact hc.2
              · cases hf
            have hcell : (s.den Γ).cells = dens Γ s.cells := S0.den_cells Γ s fun l hl => one_cells (Lf.one_cell (List.all_eq_true.1 hfl l hl) (hx2 l hl))
            have hrun : (execOp a.eval o).run cx.P w = .ok (.value (.pointer (some ⟨w.heap.size, 0, none⟩))) (w.alloc (.cells (dens Γ s.cells) t)) := by
              unfold execOp
              rw [hopeq]
              simp [Instr.box, newVar, newRow, hx1, hcell]
            unfold Oper.wp
            rw [hrun]
            have hput := hs'.put (sv := .one (.lf (.ptr st.nb 0))) hp (one_ok trivial)
            simp only [SV.den, S0.den, Lf.den, hb] at hput
            exact hk st' T Γ' h he ((St.put_lvl hp).trans hlvl) (by rw [hρ]; exact hvc) _ _ hput
      · cases h
    · rename_i t p x hopeq
      split at h
      · rename_i b off s hp hx
        obtain ⟨hx1, hx2⟩ := hv.s0 (by rw [hopeq]; simp [Op.operands]) hx
        obtain ⟨hp1, -⟩ := hv.lf (by rw [hopeq]; simp [Op.operands]) hp
        split at h
        · rename_i mb n hm hn
          split at h
          · rename_i hc
            obtain ⟨hc1, hc2, hc3⟩ := hc
            generalize hst1 : ({ st with mem := (b, some (mb.1, mb.2.take off ++ s.cells ++ mb.2.drop (off + n))) :: st.mem } : St) = st1 at h
            cases hput : st1.put o.dst none with
            | none => simp [hput] at h
            | some st' =>
              simp [hput] at h
              have hcell : (s.den Γ).cells = dens Γ s.cells := S0.den_cells Γ s fun l hl => one_cells (Lf.one_cell (List.all_eq_true.1 hc3 l hl) (hx2 l hl))
              have hm1 : w.heap[Γ.blk b]? = some (.cells (dens Γ mb.2) mb.1 (0, 0)) := (hs.mem b mb hm).1
              have hlen : (dens Γ s.cells).toList = s.cells.map (Lf.den Γ) := by simp [dens]
              have hrun : (execOp a.eval o).run cx.P w = .ok .skip (w.setRow (Γ.blk b) ((dens Γ mb.2).toList.take off ++ (s.cells.map (Lf.den Γ)) ++ (dens Γ mb.2).toList.drop (off + s.cells.length)).toArray) := by
                have hsc := run_storeCells_at (P := cx.P) (Γ.blk b) off mb.1 (s.cells.map (Lf.den Γ)) 0 (dens Γ mb.2) w hm1 (by simp [dens_size]; omega) (fun v hv => by
                  obtain ⟨l, hl, rfl⟩ := List.mem_map.1 hv
                  exact Lf.one_cell (List.all_eq_true.1 hc3 l hl) (hx2 l hl))
                simp only [Nat.add_zero, List.length_map] at hsc
                unfold execOp
                rw [hopeq]
                simp only [Instr.storeAt, hp1, Lf.den, Instr.sureAddr, storeVar, hx1, hcell, Sem.run_bind, Sem.run_pure, Result.andThen_ok, pure_bind, run_sizeOf' hn, dens_size, hc1, ne_eq, not_true_eq_false, if_false, hlen, hsc]
              unfold Oper.wp
              rw [hrun]
              have hst := hs.store (off := off) hm (cs := s.cells) (by rw [hc1]; exact hc2) hx2
              rw [hc1] at hst
              rw [hst1] at hst
              rw [hc1]
              have hlvl : st1.lvl = st.lvl := by rw [← hst1]
              exact hk st' T Γ h (Ext.refl Γ) ((St.put_lvl hput).trans hlvl) hvc _ _ (hst.drop hput undef)
          · cases h
        · cases h
      · cases h
    · rename_i t len ps hopeq
      split at h
      · rename_i te hte
        have hu := sliceOf_eq hte
        split at h
        · rename_i ks z r hkd hz hr
          split at h
          · rename_i rows hrows
            split at h
            · rename_i hcond
              simp only [Bool.and_eq_true] at hcond
              obtain ⟨⟨⟨⟨hwf, hno⟩, hlen⟩, hbig⟩, hzl⟩ := hcond
              have hlen := Nat.eq_of_beq_eq_true hlen
              have hbig := Nat.le_of_ble_eq_true hbig
              have hzl := Nat.eq_of_beq_eq_true hzl
              generalize hst1 : ({ st with nx := st.nx + 1 } : St) = st1 at h
              cases hp : st1.put o.dst (some (.one (.lf (.arr te (.var st.nx))))) with
              | none => simp [hp] at h
              | some st' =>
                cases hk' : k st' with
                | none => simp [hp, hk'] at h
                | some T' =>
                  simp [hp, hk'] at h
                  subst h
                  obtain ⟨hob, hvc'⟩ := VC.obT hvc
                  obtain ⟨hp1, hp2⟩ := parts_ok hv ps.toList r hr (fun p hp => by rw [hopeq]; simp [Op.operands]; exact ⟨p.1, by simpa using hp⟩)
                  obtain ⟨hr1, hr2⟩ := rowsOf_len ks r 0 rows hrows
                  have hcell : ∀ p ∈ r, ∀ l ∈ p.2.cells, (l.den Γ).cells = #[l.den Γ] := fun p hp l hl => one_cells (Lf.one_cell (List.all_eq_true.1 (hp2 p hp).2 l hl) ((hp2 p hp).1 l hl))
                  obtain ⟨it, zv, hit, hzz, hzc⟩ := zeroLf_spec hz Γ
                  have hsz := (kinds_size hkd).1
                  have hflat : rows.flatten.length = len * ks.length := by
                    rw [← hlen]
                    have key : ∀ (rows : List (List Lf)), (∀ r ∈ rows, kindsL r = some ks) → rows.flatten.length = rows.length * ks.length := by
                      intro rows
                      induction rows with
                      | nil => intro _; simp
                      | cons x rows ih => intro hh; rw [List.flatten_cons, List.length_append, ih (fun r hr => hh r (by simp [hr])), kindsL_len (hh x (by simp)), List.length_cons, Nat.add_mul]; omega
                    exact key rows hr1
                  have hrun : (execOp a.eval o).run cx.P w = .ok (.value (.slice (some ⟨w.heap.size, 0, none⟩) len len)) (w.alloc (.cells (dens Γ rows.flatten) te)) := by
                    have hf : ∀ init : Array Value, init.size = len * ks.length → Instr.fill (fun i => some (i * ks.length, ks.length)) init (ps.toList.map fun p => (p.1, a.eval p.2)) = some (dens Γ rows.flatten) := fun init hi => by
                      rw [hp1, fill_rows r 0 rows ks init rfl hrows hcell (by rw [Nat.zero_add, hlen, hi]; exact Nat.le_refl _)]
                      congr 1
                      rw [Nat.zero_mul, List.take_zero, List.nil_append, Nat.zero_add, hlen, List.drop_eq_nil_of_le (by simp [hi]), List.append_nil]
                      rfl
                    unfold execOp
                    rw [hopeq]
                    simp only [Instr.buildSlice, Sem.run_bind, run_underlying hu, Result.andThen_ok, run_sizeOf' hsz]
                    rw [if_neg (by omega)]
                    have hzsize : zv.cells.size = ks.length := by rw [hzc, dens_size]; exact hzl
                    by_cases h0 : len * ks.length = 0
                    · simp only [h0, if_true, Sem.run_bind, Sem.run_pure, Result.andThen_ok]
                      have := hf (Array.map (fun x => (#[] : Array Value)[x % (#[] : Array Value).size]!) (Array.range 0)) (by simp [h0])
                      rw [show (ps.map fun x => match x with | (i, x) => (i, a.eval x)).toList = ps.toList.map fun p => (p.1, a.eval p.2) from by simp, this]
                      simp [newRow]
                    · simp only [if_neg h0, Sem.run_bind, zeroValue, run_typeInfo' hit, hzz, Sem.run_pure, Result.andThen_ok]
                      have := hf (Array.map (fun x => zv.cells[x % zv.cells.size]!) (Array.range (len * ks.length))) (by simp)
                      rw [show (ps.map fun x => match x with | (i, x) => (i, a.eval x)).toList = ps.toList.map fun p => (p.1, a.eval p.2) from by simp, this]
                      simp [newRow]
                  unfold Oper.wp
                  rw [hrun]
                  have hbel := below_alloc w (.cells (dens Γ rows.flatten) te)
                  have hrok : ∀ r ∈ rows, ∀ l ∈ r, l.ok cx.P w (Own Γ st) Γ := fun r hr l hl => by
                    obtain ⟨p, hp, e⟩ := hr2 r hr
                    exact (hp2 p hp).1 l (by rw [← e]; exact hl)
                  generalize hc : C.s (.slice (some ⟨w.heap.size, 0, none⟩) len len) (rows.map (cs_ Γ.ρ)) = c
                  have hsmall : ∀ n, c.small n := fun n => by
                    rw [← hc]
                    cases n with
                    | zero => trivial
                    | succ n =>
                      refine ⟨?_, fun r hr x hx => ?_⟩
                      · rw [List.length_map, hlen]
                        have : ks.length ≠ 0 := (kinds_size hkd).2
                        have : len ≤ len * ks.length := Nat.le_mul_of_pos_right _ (by omega)
                        omega
                      · obtain ⟨r', hr', rfl⟩ := List.mem_map.1 hr
                        have := Ls_rep (P := cx.P) (w := w) hs.num (hr1 r' hr') (hrok r' hr') (rngL_flatten hob r' hr')
                        exact (LReps.ty this).small x hx n
                  have hsm : Smalls (Γ.ρ ++ [c]) := hs.num.len.app fun x hx n => by simp at hx; subst hx; exact hsmall n
                  have hgrow := (hs.below hbel).grow hwf hsm
                  simp only [List.length_cons, List.length_nil, Nat.zero_add] at hgrow
                  rw [hst1] at hgrow
                  have hat : at_ (Γ.ρ ++ [c]) st.nx = c := by rw [← hs.len]; exact at_app (j := 0) (by simp)
                  have hnew : ∀ o, ¬ Own { Γ with ρ := Γ.ρ ++ [c] } st1 w.heap.size o := fun o' ho => by
                    have : Own Γ st w.heap.size o' := by subst hst1; exact ho
                    have := hs.own_lt _ _ this
                    omega
                  have hmade := ArrOK.made (P := cx.P) (w := w.alloc (.cells (dens Γ rows.flatten) te)) (O := Own { Γ with ρ := Γ.ρ ++ [c] } st1) hkd hno hr1 (Γ := Γ) (Blk.new w te _) hnew
                  rw [hlen, hc] at hmade
                  have hput := hgrow.put hp (one_ok (by simp only [Lf.ok, E.ev, hat]; exact hmade))
                  simp only [SV.den, S0.den, Lf.den, E.ev, hat] at hput
                  rw [show c.loc = .slice (some ⟨w.heap.size, 0, none⟩) len len by rw [← hc]; rfl] at hput
                  have hlvl : st1.lvl = st.lvl := by rw [← hst1]
                  have hvc2 := hvc' (.slice (some ⟨w.heap.size, 0, none⟩) len len)
                  rw [hc] at hvc2
                  exact hk st' T' { Γ with ρ := Γ.ρ ++ [c] } hk' ⟨⟨[c], rfl⟩, fun _ _ => rfl, Nat.le_refl _, rfl⟩ ((St.put_lvl hp).trans hlvl) hvc2 _ _ hput
            · cases h
          · cases h
        · cases h
      · cases h
    · rename_i c hopeq
      obtain ⟨callee, cargs, ctypes⟩ := c
      simp only [] at h
      split at h
      · rename_i f args hargs
        obtain ⟨ha1, ha2⟩ := s0s_ok hv cargs.toList args hargs (fun x hx => by rw [hopeq]; simp [Op.operands, Call.operands]; right; simpa using hx)
        have hmap : cargs.map a.eval = (args.map (S0.den Γ)).toArray := by
          apply Array.ext'
          simp [ha1]
        have hrun : ∀ hc : Callable cx.P f, (execOp a.eval o).run cx.P w = .ok (.enter f (args.map (S0.den Γ)).toArray) w := fun hc => by
          unfold execOp
          rw [hopeq]
          simp only [resolve, Deferred.ofValue, Act.eval, hmap, pure_bind, invoke, Array.empty_append, Array.append_empty, Sem.run_bind, Sem.run_pure, Result.andThen_ok]
          exact run_callFunc' hc _ _
        split at h
        · rename_i g hg
          obtain ⟨hc, hi⟩ := hcx.sel f g hg
          split at h
          · rename_i obs b s1 s2 hgs
            split at h
            · rename_i t e ht he
              cases h
              obtain ⟨hob, hvc'⟩ := VC.obT hvc
              obtain ⟨hp1, hp2, hcall⟩ := hi Γ st.bds args obs b s1 s2 hs.num hgs hob
              have plain : ∀ (s : SV) (w' : World), s.plain = true → s.ok cx.P w' (Own Γ st) Γ := fun s w' hp => SV.plain_ok hp
              unfold Oper.wp
              rw [hrun hc]
              refine (hcall w).mono fun e' w' ⟨he', hb⟩ => ?_
              subst he'
              have h0 := (hs.below hb).learn hob
              by_cases hbd : b.den Γ.ρ = true
              · rw [if_pos hbd]
                cases hp : ((st.learnAll obs).know none b true).put o.dst (some s1) with
                | none => simp [hp] at ht
                | some st' =>
                  simp [hp] at ht
                  exact hk st' t Γ ht (Ext.refl Γ) (by rw [St.put_lvl hp]; rfl) (hvc'.1 hbd) _ _ ((h0.knowB hbd).put hp (plain s1 w' hp1))
              · have hbd' : b.den Γ.ρ = false := by simpa using hbd
                rw [if_neg hbd]
                cases hp : ((st.learnAll obs).know none b false).put o.dst (some s2) with
                | none => simp [hp] at he
                | some st' =>
                  simp [hp] at he
                  exact hk st' e Γ he (Ext.refl Γ) (by rw [St.put_lvl hp]; rfl) (hvc'.2 hbd') _ _ ((h0.knowB hbd').put hp (plain s2 w' hp2))
            · cases h
          · cases h
        · split at h
          · rename_i g hg
            obtain ⟨hc, hi⟩ := hcx.inl f g hg
            split at h
            · rename_i obs s hgs
              cases hp : (st.learnAll obs).put o.dst (some (.one s)) with
              | none => simp [hp] at h
              | some st' =>
                cases hk' : k st' with
                | none => simp [hp, hk'] at h
                | some T' =>
                  simp [hp, hk'] at h
                  subst h
                  obtain ⟨hob, hvc'⟩ := VC.obT hvc
                  obtain ⟨hpl, hcall⟩ := hi Γ st.bds args obs s hs.num hgs hob
                  unfold Oper.wp
                  rw [hrun hc]
                  refine (hcall w).mono fun e w' ⟨he, hb⟩ => ?_
                  subst he
                  have hsok : (SV.one s).ok cx.P w' (Own Γ st) Γ := fun l hl => by
                    have := List.all_eq_true.1 hpl l hl
                    cases l <;> (first | trivial | cases this)
                  exact hk st' T' Γ hk' (Ext.refl Γ) (by rw [St.put_lvl hp]; rfl) hvc' _ _ (((hs.below hb).learn hob).put hp hsok)
            · cases h
          · exact callCt_sound hcx h hvc hs hk ha2 hrun
      · rename_i x args hargs
        split at h
        · rename_i f ls hl
          obtain ⟨ha1, ha2⟩ := s0s_ok hv cargs.toList args hargs (fun x hx => by rw [hopeq]; simp [Op.operands, Call.operands]; right; simpa using hx)
          obtain ⟨hf1, hf2⟩ := hs.slots x _ hl
          have hmap : cargs.map a.eval = (args.map (S0.den Γ)).toArray := by
            apply Array.ext'
            simp [ha1]
          refine callCt_sound hcx h hvc hs hk (fun s hs' => (List.mem_cons.1 hs').elim (fun e => by subst e; exact hf2) (ha2 s)) fun hc => ?_
          unfold execOp
          rw [hopeq]
          simp only [resolve, Act.eval, hf1, SV.den, Deferred.ofValue, hmap, pure_bind, invoke, Array.append_empty, Sem.run_bind, Sem.run_pure, Result.andThen_ok]
          have e : #[Value.agg (dens Γ ls)] ++ (args.map (S0.den Γ)).toArray = (((S0.agg ls) :: args).map (S0.den Γ)).toArray := by simp [S0.den]
          rw [e]
          exact run_callFunc' hc _ _
        · cases h
      · cases h
    · cases h

theorem Sat.know {P : Program} {Γ : Env} {st : St} {a : Act} {w : World} (hs : Sat P F w0 Γ st a w) {d : Nat} {b : B} {t : Bool} (hd : st.lf (.tmp d) = some (.bool b)) (hb : b.den Γ.ρ = t) : Sat P F w0 Γ (st.know (some d) b t) a w := by
  have hnum : Num (Go.Proofs.Ytlbgcjpkegpmlaa.learn st.nx st.bds b t) Γ.ρ := ⟨learn_ok hs.num.len (by rw [hs.len]; exact Nat.le_refl _) b st.bds t hs.num.bds hb, hs.num.len⟩
  refine ⟨fun x sv hx => ?_, hs.size, hs.mem, hs.inj, hs.keeps, hs.fold, hs.base, hs.defers, hs.len, hs.nb, hnum⟩
  simp only [St.know] at hx
  split at hx
  · simp only [look] at hx
    split at hx
    · rename_i e
      subst e
      cases hx
      have h1 : look st.sl d = some (.one (.lf (.bool b))) := St.lf_ev hd
      have h2 := (hs.slots d _ h1).1
      refine ⟨?_, one_ok trivial⟩
      rw [h2]
      simp only [SV.den, S0.den, Lf.den, hb, B.den]
    · exact hs.slots x sv hx
  · exact hs.slots x sv hx
theorem yielded_of {ops : Array Oper} {j d : Nat} {tmps : Array Value} {v : Bool} (hd : (ops[j]?).bind (·.dst) = some d) (hv : tmps.getD d undef = .bool v) : yielded ops tmps j = some v := by
  unfold yielded
  rw [hd]
  simp only [Option.bind_some]
  rw [Array.getD_eq_getD_getElem?] at hv
  cases h : tmps[d]? with
  | none => rw [h] at hv; simp [undef] at hv
  | some x => rw [h] at hv; simp at hv; subst hv; rfl

theorem execOps_sound (hcx : CxOK cx) {ops : Array Oper} {k : St → Option Tree} {Q : Exit → Act → World → Prop} : ∀ (l : List Oper) (st : St) (T : Tree), execOps cx ops l st k = some T →
    ∀ (Γ : Env) (Ls : List (List C → Prop)), VC cx R T Γ.ρ Ls → ∀ (a : Act) (w : World), Sat cx.P F w0 Γ st a w → Next cx R F w0 k Γ st.lvl Ls (fun a w => Q .normal a w) → wpList cx.P ops Q l a w
  | [], st, T, h, Γ, Ls, hvc, a, w, hs, hk => hk st T Γ h (Ext.refl Γ) rfl hvc a w hs
  | o :: rest, st, T, h, Γ, Ls, hvc, a, w, hs, hk => by
    have step : ∀ (st1 : St) (T1 : Tree), doOp cx st1 o (fun st => execOps cx ops rest st k) = some T1 → st1.lvl = st.lvl → VC cx R T1 Γ.ρ Ls → Sat cx.P F w0 Γ st1 a w → o.wp cx.P a w (wpList cx.P ops Q rest) Q := fun st1 T1 h1 hl hv1 hs1 =>
      doOp_sound hcx h1 hv1 hs1 fun st' T' Γ' h' he hl' hv' a' w' hs' => execOps_sound hcx rest st' T' h' Γ' Ls hv' a' w' hs' fun st2 T2 Γ2 h2 he2 hl2 => hk st2 T2 Γ2 h2 (he.trans he2) (by rw [hl2, hl', hl])
    have skip : ∀ (st1 st2 : St) (T1 : Tree), st1.put o.dst none = some st2 → execOps cx ops rest st2 k = some T1 → st1.lvl = st.lvl → VC cx R T1 Γ.ρ Ls → Sat cx.P F w0 Γ st1 a w → wpList cx.P ops Q rest (a.put o.dst undef) w := fun st1 st2 T1 hp h1 hl hv1 hs1 =>
      execOps_sound hcx rest st2 T1 h1 Γ Ls hv1 _ w (hs1.drop hp undef) fun st3 T3 Γ3 h3 he3 hl3 => hk st3 T3 Γ3 h3 he3 (by rw [hl3, St.put_lvl hp, hl])
    unfold execOps at h
    unfold wpList
    split at h
    · rename_i hg
      rw [if_pos (by simp [Region.wanted, hg])]
      exact .inl (step st T h rfl hvc hs)
    · rename_i j want hg
      split at h
      · cases h
      · rename_i d hd
        split at h
        · rename_i v hl
          have hy := yielded_of hd (hs.slots d _ (St.lf_ev hl)).1
          have hy' : yielded ops a.tmps j = some v := hy
          split at h
          · rename_i hvw
            rw [if_pos (by simp [Region.wanted, hg, hy', hvw])]
            exact .inl (step st T h rfl hvc hs)
          · rename_i hvw
            rw [if_neg (by simp [Region.wanted, hg, hy', hvw])]
            cases hp : st.put o.dst none with
            | none => simp [hp] at h
            | some st2 => simp [hp] at h; exact skip st st2 T hp h rfl hvc hs
        · rename_i b hlit hl
          have hy := yielded_of hd (hs.slots d _ (St.lf_ev hl)).1
          split at h
          · rename_i t e ht he
            cases hp : (st.know (some d) b !want).put o.dst none with
            | none => simp [hp] at he
            | some st2 =>
              simp [hp] at he
              have hvc' : (b.den Γ.ρ = want → VC cx R t Γ.ρ Ls) ∧ (b.den Γ.ρ = (!want) → VC cx R e Γ.ρ Ls) := by
                cases want <;> simp at h <;> subst h <;> exact ⟨by simpa using (by first | exact hvc.1 | exact hvc.2), by simpa using (by first | exact hvc.2 | exact hvc.1)⟩
              by_cases hb : b.den Γ.ρ = want
              · rw [if_pos (by simp [Region.wanted, hg]; rw [hy]; simp [Lf.den, hb])]
                exact .inl (step (st.know (some d) b want) t ht rfl (hvc'.1 hb) (hs.know hl hb))
              · have hb' : b.den Γ.ρ = !want := by cases hx : b.den Γ.ρ <;> cases want <;> simp_all
                rw [if_neg (by simp [Region.wanted, hg]; rw [hy]; simp [Lf.den, hb'])]
                exact skip (st.know (some d) b !want) st2 e hp he rfl (hvc'.2 hb') (hs.know hl hb')
          · cases h
        · cases h
end
end Go.Proofs.Ytlbgcjpkegpmlaa
