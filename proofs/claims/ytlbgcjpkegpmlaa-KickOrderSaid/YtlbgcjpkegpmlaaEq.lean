/- The engine, part 11c: one operation is right; a row of operations. -/
import Derived.Test.YtlbgcjpkegpmlaaEp
namespace Go.Proofs.Ytlbgcjpkegpmlaa
open Go.RowKit
set_option linter.unusedSimpArgs false
set_option linter.unusedVariables false

theorem adaptL_len (P : Program) (vec : Vecs) : ∀ (ks : List Lk) (ls : List Lf), (adaptL P vec ks ls).length = ls.length
  | [], ls => by cases ls <;> rfl
  | _ :: _, [] => rfl
  | k :: ks, l :: ls => by simp [adaptL, adaptL_len P vec ks ls]
theorem adapt_den0 (P : Program) (Γ : Env) (k : Lk) (l : Lf) : (l.adapt P [] k).den Γ = l.den Γ := by
  unfold Lf.adapt
  split
  · rename_i t te i; simp only [look]
  · split <;> rfl
  · rfl
theorem adaptL_den0 {P : Program} {Γ : Env} : ∀ {ks : List Lk} {ls : List Lf}, (adaptL P [] ks ls).map (Lf.den Γ) = ls.map (Lf.den Γ)
  | [], ls => by cases ls <;> rfl
  | _ :: _, [] => rfl
  | k :: ks, l :: ls => by simp [adaptL, adapt_den0, adaptL_den0]
/-- Cells that are read off a value. -/
def Lf.isOf : Lf → Bool
  | .int (.lit _) | .bool (.lit _) | .cst _ => true
  | _ => false
theorem zero_cst {P : Program} {t : TypeId} {cs : List Lf} (h : zeroLf P t = some cs) : ∀ l ∈ cs, ∃ v, l = Lf.ofValue v := fun l hl => by
  unfold zeroLf at h
  split at h
  · rename_i it hi
    cases hzz : it.zero with
    | none => simp [hzz] at h
    | some zv =>
      simp [hzz] at h
      subst h
      obtain ⟨v, -, rfl⟩ := List.mem_map.1 hl
      exact ⟨v, rfl⟩
  · cases h
theorem adapt_cst {P : Program} {w : World} {O : Nat → Nat → Prop} {Γ : Env} {k : Lk} {v : Value} : ((Lf.ofValue v).adapt P [] k).ok P w O Γ ∧ ((Lf.ofValue v).adapt P [] k).isVec = false := by
  have base : (Lf.ofValue v).ok P w O Γ ∧ (Lf.ofValue v).isVec = false := by unfold Lf.ofValue; split <;> exact ⟨trivial, rfl⟩
  unfold Lf.adapt
  split
  · rename_i te i e; rw [e] at base; cases base.2
  · split
    · rename_i hk
      refine ⟨?_, rfl⟩
      obtain ⟨ks, hks⟩ := Option.isSome_iff_exists.1 hk
      exact ⟨_, [], rfl, 1, fun _ _ => False, fun _ _ h => h.elim, ks, hks, none, 0, rfl, fun h => absurd rfl h⟩
    · exact ⟨trivial, rfl⟩
  · exact base
theorem adaptL_cst {P : Program} {w : World} {O : Nat → Nat → Prop} {Γ : Env} : ∀ {ks : List Lk} {ls : List Lf}, (∀ l ∈ ls, ∃ v, l = Lf.ofValue v) → ∀ l ∈ adaptL P [] ks ls, l.ok P w O Γ ∧ l.isVec = false
  | [], ls, h, l, hl => by
    have : l ∈ ls := by cases ls <;> exact hl
    obtain ⟨v, rfl⟩ := h l this
    have := adapt_cst (P := P) (w := w) (O := O) (Γ := Γ) (k := .int) (v := v)
    unfold Lf.adapt at this
    exact this
  | _ :: _, [], _, l, hl => by cases hl
  | k :: ks, x :: ls, h, l, hl => by
    rcases List.mem_cons.1 hl with rfl | hl
    · obtain ⟨v, rfl⟩ := h x (by simp); exact adapt_cst
    · exact adaptL_cst (fun y hy => h y (by simp [hy])) l hl
theorem S0.adaptOk {P : Program} {w : World} {O : Nat → Nat → Prop} {Γ : Env} {l : Lf} {k : Lk} (h : l.ok P w O Γ) : (l.adapt P [] k).ok P w O Γ := by
  unfold Lf.adapt
  split
  · simp only [look]; exact h
  · split
    · rename_i hk
      obtain ⟨ks, hks⟩ := Option.isSome_iff_exists.1 hk
      exact ⟨_, [], rfl, 1, fun _ _ => False, fun _ _ h => h.elim, ks, hks, none, 0, rfl, fun h => absurd rfl h⟩
    · trivial
  · exact h
theorem adaptL_ok {P : Program} {w : World} {O : Nat → Nat → Prop} {Γ : Env} : ∀ {ks : List Lk} {ls : List Lf}, (∀ l ∈ ls, l.ok P w O Γ) → ∀ l ∈ adaptL P [] ks ls, l.ok P w O Γ
  | [], ls, h, l, hl => h l (by cases ls <;> exact hl)
  | _ :: _, [], _, l, hl => by cases hl
  | k :: ks, x :: ls, h, l, hl => by
    rcases List.mem_cons.1 hl with rfl | hl
    · exact S0.adaptOk (h x (by simp))
    · exact adaptL_ok (fun y hy => h y (by simp [hy])) l hl
theorem Sat.vstore {P : Program} {F : Nat → Prop} {w0 : World} {Γ : Env} {st : St} {a : Act} {w : World} (h : Sat P F w0 Γ st a w) {i : Nat} {ve : TypeId × E} (hve : look st.vec i = some ve) {te t : TypeId} {ks : List Lk} (hks : kinds P te = some ks) {n sz off : Nat} (hn : sizeIs P t = some n) (c1 : ve.1 = te) (c2 : ks.length = sz) {s : S0} (c3 : s.cells.length = n) (c4 : off + n ≤ ks.length)
    (c5 : kindsL (adaptL P [] ((ks.drop off).take n) s.cells) = some ((ks.drop off).take n)) (c6 : st.wf = true) (c7 : ks.all Lk.noVec = true) {x : E} (hp : (Lf.velp te sz i x off).ok P w (Own Γ st) Γ) (hx : s.ok P w (Own Γ st) Γ) {bd : Bds} (hb : bd = st.bds) (hob : Obs Γ.ρ (rngL bd (adaptL P [] ((ks.drop off).take n) s.cells))) :
    ∃ w', (Instr.storeAt t ((Lf.velp te sz i x off).den Γ) (s.den Γ)).run P w = .ok () w' ∧
      Sat P F w0 { Γ with ρ := Γ.ρ ++ [.s (at_ Γ.ρ i).loc (updRow (ve.2.ev Γ.ρ).rows (x.den Γ.ρ).toNat off (cs_ Γ.ρ (adaptL P [] ((ks.drop off).take n) s.cells)))] } { st with nx := st.nx + 1, vec := (i, some (te, .var st.nx)) :: st.vec } a w' := by
  subst c1 c2 hb
  obtain ⟨b, m, cap, hloc, -, h0, h1⟩ := hp
  have hv := (h.vec i ve hve).1
  obtain ⟨ks', us, hk', -, hl, hr, ho⟩ := hv
  obtain rfl : ks = ks' := Option.some.inj (hks.symm.trans hk')
  have hsub : ((ks.drop off).take n).all Lk.noVec = true := List.all_eq_true.2 fun k hk => List.all_eq_true.1 c7 k (List.mem_of_mem_drop (List.mem_of_mem_take hk))
  have hcr := CReps.of_LReps (Ls_rep (P := P) (w := w) (O := Own Γ st) h.num c5 (kindsL_noVec c5 hsub (adaptL_ok hx)) hob) hsub
  rw [adaptL_den0] at hcr
  have hone := hcr.one
  generalize hds : cs_ Γ.ρ (adaptL P [] ((ks.drop off).take n) s.cells) = ds at *
  have hdl : ds.length = n := by rw [← hds]; simp [cs_, adaptL_len, c3]
  rcases ho.2 with ⟨e, -⟩ | ⟨g, cap', cur, hloc', -, hg, hnc, hcm, hcs, htake⟩
  · rw [hloc] at e; cases e
  · rw [hloc] at hloc'
    cases hloc'
    generalize hrows : (ve.2.ev Γ.ρ).rows = rows at *
    have hxl : (x.den Γ.ρ).toNat < rows.length := by omega
    generalize hX : (x.den Γ.ρ).toNat = X at *
    have hpos : X * ks.length + off + n ≤ rows.length * ks.length := by
      have : (X + 1) * ks.length ≤ rows.length * ks.length := Nat.mul_le_mul_right _ hxl
      rw [Nat.add_mul] at this; omega
    have hcap : rows.length * ks.length ≤ cur.size := by rw [hcs]; exact Nat.mul_le_mul_right _ hnc
    have hvl : (s.cells.map (Lf.den Γ)).length = n := by simp [c3]
    have hst := run_storeCells_at (P := P) b (X * ks.length + off) ve.1 (s.cells.map (Lf.den Γ)) 0 cur w hg (by rw [hvl]; omega) hone
    rw [Nat.add_zero, hvl] at hst
    have hcell : (s.den Γ).cells = dens Γ s.cells := S0.den_cells Γ s fun l hl' => one_cells (hone _ (List.mem_map.2 ⟨l, hl', rfl⟩))
    have hadr : (Lf.velp ve.1 ks.length i x off).den Γ = .pointer (some ⟨b, X * ks.length + off, none⟩) := by
      simp only [Lf.den, hloc, elemAt, hX]
      unfold Addr.add; split <;> simp_all
    refine ⟨_, ?_, h.vupd c6 hve (w' := w.setRow b (cur.toList.take (X * ks.length + off) ++ s.cells.map (Lf.den Γ) ++ cur.toList.drop (X * ks.length + off + n)).toArray) ?_ ?_⟩
    · rw [hadr]
      have hlen : (dens Γ s.cells).toList = s.cells.map (Lf.den Γ) := by simp [dens]
      simp only [Instr.storeAt, Instr.sureAddr, storeVar, hcell, Sem.run_bind, Sem.run_pure, Result.andThen_ok, pure_bind, run_sizeOf' hn, dens_size, c3, ne_eq, not_true_eq_false, if_false, hlen, hst]
    · rw [hloc]
      exact ⟨rfl, rfl, rfl, by simp [World.setRow], fun k _ hk => setRow_other w b k _ fun e => hk (by simp [Value.ownBlock, e])⟩
    · have hgb : w.grownBy (w.setRow b (cur.toList.take (X * ks.length + off) ++ s.cells.map (Lf.den Γ) ++ cur.toList.drop (X * ks.length + off + n)).toArray) (some b) := ⟨rfl, rfl, rfl, by simp [World.setRow], fun k _ hk => setRow_other w b k _ fun e => hk (by simp [e])⟩
      have hrow : ∀ b', some b = some b' → ∀ o, Own Γ st b' o := fun b' e o => by cases e; exact (Hold.vec (Γ := Γ) hve (by rw [hloc]; rfl)).own o
      obtain ⟨f1, f2, f3⟩ := flatten_upd hl (i := X) (o := off) (l := ds) hxl (by omega)
      refine ⟨ks, us.take (X * ks.length + off) ++ s.cells.map (Lf.den Γ) ++ us.drop (X * ks.length + off + n), hks, ⟨_, rfl⟩, f2, ?_, ?_⟩
      · simp only [C.rows]
        rw [f3, f1, hdl]
        have hseg : ((rowsK rows.length ks).drop (X * ks.length + off)).take n = (ks.drop off).take n := by
          apply List.ext_getElem?
          intro j
          rw [List.getElem?_take, List.getElem?_take, List.getElem?_drop, List.getElem?_drop]
          split
          · rw [Nat.add_assoc, rowsK_get hxl (by omega)]
          · rfl
        exact CReps.seg (hr.up hgb hrow) (by rw [hseg]; exact hcr.up hgb hrow)
      · simp only [C.rows]
        rw [f3, hloc]
        have hul : us.length = rows.length * ks.length := ho.1
        refine ⟨by simp [c3, hul]; omega, .inr ⟨b, cap, _, rfl, Nat.zero_le _, setRow_heap w b cur _ ve.1 _ hg, hnc, hcm, by simp [c3]; omega, ?_⟩⟩
        rw [← htake]
        simp only [List.toList_toArray]
        rw [List.take_append, List.take_append, List.take_take, List.take_take]
        simp only [List.length_append, List.length_take, List.length_map, Array.length_toList, c3]
        have e1 : min (X * ks.length + off) cur.size = X * ks.length + off := by omega
        rw [e1, Nat.min_eq_right (show X * ks.length + off ≤ rows.length * ks.length by omega), Nat.min_eq_left (show X * ks.length + off ≤ rows.length * ks.length by omega)]
        rw [List.drop_take]
        congr 1
        rw [List.take_of_length_le (i := rows.length * ks.length - (X * ks.length + off)) (l := s.cells.map (Lf.den Γ)) (by rw [List.length_map, c3]; omega)]
section
variable {cx : Cx} {R : List C → Prop} {F : Nat → Prop} {w0 : World}
theorem doOp_sound (hcx : CxOK cx) {st : St} {o : Oper} {k : St → Option Tree} {T : Tree} (h : doOp cx st o k = some T) {Γ : Env} {Ls : List (List C → Prop)} (hl : Ls.length = st.lvl) (hvc : VC cx R T Γ.ρ Ls)
    {a : Act} {w : World} (hs : Sat cx.P F w0 Γ st a w) {K : Act → World → Prop} {Q : Exit → Act → World → Prop} (hk : Next cx R F w0 k Γ Ls K) : o.wp cx.P a w K Q := by
  have hv := hs.view o.op.operands
  unfold doOp at h
  split at h
  · rename_i obs sv hop
    have plain : ((st.learnAll obs).put o.dst (some sv)).bind (fun st => (k st).map (obT obs)) = some T → o.wp cx.P a w K Q := fun h => by
      cases hp : (st.learnAll obs).put o.dst (some sv) with
      | none => simp [hp] at h
      | some st' =>
        cases hk' : k st' with
        | none => simp [hp, hk'] at h
        | some T' =>
          simp [hp, hk'] at h
          subst h
          obtain ⟨hob, hvc'⟩ := VC.obT hvc
          obtain ⟨h1, h2⟩ := opVal_ok hop hv hob
          unfold Oper.wp
          rw [h1]
          exact hk st' T' Γ Ls hk' (Ext.refl Γ) (List.prefix_refl _) (by rw [St.put_lvl hp]; exact hl) hvc' _ _ ((hs.learn hob).put hp h2)
    split at h
    · rename_i s
      split at h
      · rename_i s' st1 n hn
        cases hp : st1.put o.dst (some (.one s')) with
        | none => simp [hp] at h
        | some st' =>
          cases hk' : k st' with
          | none => simp [hp, hk'] at h
          | some T' =>
            simp [hp, hk'] at h
            subst h
            obtain ⟨hob, hvc'⟩ := VC.obT hvc
            have hvc2 := VC.dfnN hvc'
            obtain ⟨h1, h2⟩ := opVal_ok hop hv hob
            obtain ⟨e1, e2, e3, e4, e5, -⟩ := (hs.learn hob).nils hn h2
            unfold Oper.wp
            rw [h1]
            have hput := e2.put hp (sv := .one s') e4
            rw [show (SV.one s').den { Γ with ρ := Γ.ρ ++ List.replicate n nilC } = (SV.one s).den Γ from e3] at hput
            exact hk st' T' _ Ls hk' e1 (List.prefix_refl _) (by rw [St.put_lvl hp, e5]; exact hl) hvc2 _ _ hput
      · exact plain h
    · exact plain h
  · split at h
    · rename_i t hopeq
      split at h
      · rename_i cs hz
        obtain ⟨it, z, hi, hzz, hc⟩ := zeroLf_spec hz Γ
        have zok : ∀ l ∈ cs, l.ok cx.P w (Own Γ st) Γ := fun l hl => by
          unfold zeroLf at hz
          split at hz
          · rename_i it hi
            cases hzz : it.zero with
            | none => simp [hzz] at hz
            | some zv =>
              simp [hzz] at hz
              subst hz
              obtain ⟨v, -, rfl⟩ := List.mem_map.1 hl
              unfold Lf.ofValue
              split <;> trivial
          · cases hz
        have hrun : (execOp a.eval o).run cx.P w = .ok (.value (.pointer (some ⟨w.heap.size, 0, none⟩))) (w.alloc (.cells (dens Γ cs) t)) := by
          unfold execOp
          rw [hopeq]
          simp [Instr.alloc, zeroValue, run_typeInfo' hi, hzz, newVar, newRow, hc]
        split at h
        · rename_i s' st0 n hn
          obtain ⟨e1, e2, -, e4, e5, e6, e7, e8, e9⟩ := hs.nils hn (s := .agg cs) zok
          cases hf : st0.fresh t s'.cells with
          | none => simp [hf] at h
          | some st1 =>
            cases hp : st1.put o.dst (some (.one (.lf (.ptr st.nb 0)))) with
            | none => simp [hf, hp] at h
            | some st' =>
              cases hk' : k st' with
              | none => simp [hf, hp, hk'] at h
              | some T' =>
                simp [hf, hp, hk'] at h
                subst h
                have hvc2 := VC.dfnN hvc
                obtain ⟨Γ', he, hρ, hb, hs', hlvl⟩ := e2.fresh hf e4
                have hd : dens { Γ with ρ := Γ.ρ ++ List.replicate n nilC } s'.cells = dens Γ cs := by unfold dens; rw [e9]; rfl
                rw [hd] at hs'
                unfold Oper.wp
                rw [hrun]
                have hput := hs'.put (sv := .one (.lf (.ptr st.nb 0))) hp (one_ok trivial)
                rw [e6] at hb
                simp only [SV.den, S0.den, Lf.den, hb] at hput
                exact hk st' T' Γ' Ls hk' (e1.trans he) (List.prefix_refl _) (by rw [St.put_lvl hp, hlvl, e5]; exact hl) (by rw [hρ]; exact hvc2) _ _ hput
        · cases hf : st.fresh t cs with
          | none => simp [hf] at h
          | some st1 =>
            cases hp : st1.put o.dst (some (.one (.lf (.ptr st.nb 0)))) with
            | none => simp [hf, hp] at h
            | some st' =>
              simp [hf, hp] at h
              obtain ⟨Γ', he, hρ, hb, hs', hlvl⟩ := hs.fresh hf zok
              unfold Oper.wp
              rw [hrun]
              have hput := hs'.put (sv := .one (.lf (.ptr st.nb 0))) hp (one_ok trivial)
              simp only [SV.den, S0.den, Lf.den, hb] at hput
              exact hk st' T Γ' Ls h he (List.prefix_refl _) (by rw [St.put_lvl hp, hlvl]; exact hl) (by rw [hρ]; exact hvc) _ _ hput
      · cases h
    · rename_i t x hopeq
      split at h
      · rename_i s hx
        obtain ⟨hx1, hx2⟩ := hv.s0 (by rw [hopeq]; simp [Op.operands]) hx
        cases hf : st.fresh t s.cells with
        | none => simp [hf] at h
        | some st1 =>
          cases hp : st1.put o.dst (some (.one (.lf (.ptr st.nb 0)))) with
          | none => simp [hf, hp] at h
          | some st' =>
            simp [hf, hp] at h
            obtain ⟨Γ', he, hρ, hb, hs', hlvl⟩ := hs.fresh hf hx2
            have hfl : s.cells.all Lf.flat = true := by
              unfold St.fresh at hf
              split at hf
              · rename_i hc; simp only [Bool.and_eq_true] at hc; exact hc.2
              · cases hf
            have hcell : (s.den Γ).cells = dens Γ s.cells := S0.den_cells Γ s fun l hl => one_cells (Lf.one_cell (List.all_eq_true.1 hfl l hl) (hx2 l hl))
            have hrun : (execOp a.eval o).run cx.P w = .ok (.value (.pointer (some ⟨w.heap.size, 0, none⟩))) (w.alloc (.cells (dens Γ s.cells) t)) := by
              unfold execOp
              rw [hopeq]
              simp [Instr.box, newVar, newRow, hx1, hcell]
            unfold Oper.wp
            rw [hrun]
            have hput := hs'.put (sv := .one (.lf (.ptr st.nb 0))) hp (one_ok trivial)
            simp only [SV.den, S0.den, Lf.den, hb] at hput
            exact hk st' T Γ' Ls h he (List.prefix_refl _) (by rw [St.put_lvl hp, hlvl]; exact hl) (by rw [hρ]; exact hvc) _ _ hput
      · cases h
    · rename_i t p x hopeq
      split at h
      · rename_i b off s hp hx
        obtain ⟨hx1, hx2⟩ := hv.s0 (by rw [hopeq]; simp [Op.operands]) hx
        obtain ⟨hp1, -⟩ := hv.lf (by rw [hopeq]; simp [Op.operands]) hp
        split at h
        · rename_i mb n hm hn
          split at h
          · rename_i hc
            obtain ⟨hc1, hc2, hc3⟩ := hc
            generalize hst1 : ({ st with mem := (b, some (mb.1, mb.2.take off ++ s.cells ++ mb.2.drop (off + n))) :: st.mem } : St) = st1 at h
            cases hput : st1.put o.dst none with
            | none => simp [hput] at h
            | some st' =>
              simp [hput] at h
              have hcell : (s.den Γ).cells = dens Γ s.cells := S0.den_cells Γ s fun l hl => one_cells (Lf.one_cell (List.all_eq_true.1 hc3 l hl) (hx2 l hl))
              have hm1 : w.heap[Γ.blk b]? = some (.cells (dens Γ mb.2) mb.1 (0, 0)) := (hs.mem b mb hm).1
              have hlen : (dens Γ s.cells).toList = s.cells.map (Lf.den Γ) := by simp [dens]
              have hrun : (execOp a.eval o).run cx.P w = .ok .skip (w.setRow (Γ.blk b) ((dens Γ mb.2).toList.take off ++ (s.cells.map (Lf.den Γ)) ++ (dens Γ mb.2).toList.drop (off + s.cells.length)).toArray) := by
                have hsc := run_storeCells_at (P := cx.P) (Γ.blk b) off mb.1 (s.cells.map (Lf.den Γ)) 0 (dens Γ mb.2) w hm1 (by simp [dens_size]; omega) (fun v hv => by
                  obtain ⟨l, hl, rfl⟩ := List.mem_map.1 hv
                  exact Lf.one_cell (List.all_eq_true.1 hc3 l hl) (hx2 l hl))
                simp only [Nat.add_zero, List.length_map] at hsc
                unfold execOp
                rw [hopeq]
                simp only [Instr.storeAt, hp1, Lf.den, Instr.sureAddr, storeVar, hx1, hcell, Sem.run_bind, Sem.run_pure, Result.andThen_ok, pure_bind, run_sizeOf' hn, dens_size, hc1, ne_eq, not_true_eq_false, if_false, hlen, hsc]
              unfold Oper.wp
              rw [hrun]
              have hst := hs.store (off := off) hm (cs := s.cells) (by rw [hc1]; exact hc2) hx2
              rw [hc1] at hst
              rw [hst1] at hst
              rw [hc1]
              have hlvl : st1.lvl = st.lvl := by rw [← hst1]
              exact hk st' T Γ Ls h (Ext.refl Γ) (List.prefix_refl _) (by rw [St.put_lvl hput, hlvl]; exact hl) hvc _ _ (hst.drop hput undef)
          · cases h
        · cases h
      · rename_i te sz i e off s hp hx
        split at h
        · rename_i ve ks n hve hks hn
          split at h
          · rename_i hc
            obtain ⟨c1, c2, c3, c4, c5, c6, c7⟩ := hc
            generalize hst1 : ({ st with nx := st.nx + 1, vec := (i, some (te, .var st.nx)) :: st.vec } : St) = st1 at h
            cases hput : st1.put o.dst none with
            | none => simp [hput] at h
            | some st' =>
              cases hk' : k st' with
              | none => simp [hput, hk'] at h
              | some T' =>
                simp [hput, hk'] at h
                subst h
                obtain ⟨hob, hvc'⟩ := VC.obT hvc
                obtain ⟨hx1, hx2⟩ := hv.s0 (by rw [hopeq]; simp [Op.operands]) hx
                obtain ⟨hp1, hp2⟩ := hv.lf (by rw [hopeq]; simp [Op.operands]) hp
                obtain ⟨w', g1, g2⟩ := hs.vstore hve hks hn c1 c2 c3 c4 c5 c6 c7 hp2 hx2 rfl hob
                have hrun : (execOp a.eval o).run cx.P w = .ok .skip w' := by
                  unfold execOp
                  rw [hopeq]
                  simp only [hx1, hp1, Sem.run_bind, g1, Result.andThen_ok, Sem.run_pure]
                unfold Oper.wp
                rw [hrun]
                rw [hst1] at g2
                have hlvl : st1.lvl = st.lvl := by rw [← hst1]
                exact hk st' T' { Γ with ρ := Γ.ρ ++ [.s (at_ Γ.ρ i).loc (updRow (ve.2.ev Γ.ρ).rows (e.den Γ.ρ).toNat off (cs_ Γ.ρ (adaptL cx.P [] ((ks.drop off).take n) s.cells)))] } Ls hk' ⟨⟨_, rfl⟩, fun _ _ => rfl, Nat.le_refl _, rfl, rfl⟩ (List.prefix_refl _) (by rw [St.put_lvl hput, hlvl]; exact hl) (hvc' _) _ _ (g2.drop hput undef)
          · cases h
        · cases h
      · cases h
    · rename_i t len ps hopeq
      split at h
      · rename_i te hte
        have hu := sliceOf_eq hte
        split at h
        · rename_i ks z r hkd hz hr
          split at h
          · rename_i rows hrows
            split at h
            · rename_i hcond
              simp only [Bool.and_eq_true] at hcond
              obtain ⟨⟨⟨⟨hwf, hno⟩, hlen⟩, hbig⟩, hzl⟩ := hcond
              have hlen := Nat.eq_of_beq_eq_true hlen
              have hbig := Nat.le_of_ble_eq_true hbig
              have hzl := Nat.eq_of_beq_eq_true hzl
              generalize hst1 : ({ st with nx := st.nx + 1, vec := (st.nx, some (te, .var st.nx)) :: st.vec } : St) = st1 at h
              cases hp : st1.put o.dst (some (.one (.lf (.vec te st.nx)))) with
              | none => simp [hp] at h
              | some st' =>
                cases hk' : k st' with
                | none => simp [hp, hk'] at h
                | some T' =>
                  simp [hp, hk'] at h
                  subst h
                  obtain ⟨hob, hvc'⟩ := VC.obT hvc
                  obtain ⟨hp1, hp2⟩ := parts_ok hv ps.toList r hr (fun p hp => by rw [hopeq]; simp [Op.operands]; exact ⟨p.1, by simpa using hp⟩)
                  obtain ⟨hr1, hr2⟩ := rowsOf_len ks r 0 rows hrows
                  have hcell : ∀ p ∈ r, ∀ l ∈ p.2.cells, (l.den Γ).cells = #[l.den Γ] := fun p hp l hl => one_cells (Lf.one_cell (List.all_eq_true.1 (hp2 p hp).2 l hl) ((hp2 p hp).1 l hl))
                  obtain ⟨it, zv, hit, hzz, hzc⟩ := zeroLf_spec hz Γ
                  have hsz := (kinds_size hkd).1
                  have hflat : rows.flatten.length = len * ks.length := by rw [flatten_len (fun r hr => kindsL_len (hr1 r hr)), hlen]
                  have hrun : (execOp a.eval o).run cx.P w = .ok (.value (.slice (some ⟨w.heap.size, 0, none⟩) len len)) (w.alloc (.cells (dens Γ rows.flatten) te)) := by
                    have hf : ∀ init : Array Value, init.size = len * ks.length → Instr.fill (fun i => some (i * ks.length, ks.length)) init (ps.toList.map fun p => (p.1, a.eval p.2)) = some (dens Γ rows.flatten) := fun init hi => by
                      rw [hp1, fill_rows r 0 rows ks init rfl hrows hcell (by rw [Nat.zero_add, hlen, hi]; exact Nat.le_refl _)]
                      congr 1
                      rw [Nat.zero_mul, List.take_zero, List.nil_append, Nat.zero_add, hlen, List.drop_eq_nil_of_le (by simp [hi]), List.append_nil]
                      rfl
                    unfold execOp
                    rw [hopeq]
                    simp only [Instr.buildSlice, Sem.run_bind, run_underlying hu, Result.andThen_ok, run_sizeOf' hsz]
                    rw [if_neg (by omega)]
                    have hzsize : zv.cells.size = ks.length := by rw [hzc, dens_size]; exact hzl
                    by_cases h0 : len * ks.length = 0
                    · simp only [h0, if_true, Sem.run_bind, Sem.run_pure, Result.andThen_ok]
                      have := hf (Array.map (fun x => (#[] : Array Value)[x % (#[] : Array Value).size]!) (Array.range 0)) (by simp [h0])
                      rw [show (ps.map fun x => match x with | (i, x) => (i, a.eval x)).toList = ps.toList.map fun p => (p.1, a.eval p.2) from by simp, this]
                      simp [newRow]
                    · simp only [if_neg h0, Sem.run_bind, zeroValue, run_typeInfo' hit, hzz, Sem.run_pure, Result.andThen_ok]
                      have := hf (Array.map (fun x => zv.cells[x % zv.cells.size]!) (Array.range (len * ks.length))) (by simp)
                      rw [show (ps.map fun x => match x with | (i, x) => (i, a.eval x)).toList = ps.toList.map fun p => (p.1, a.eval p.2) from by simp, this]
                      simp [newRow]
                  unfold Oper.wp
                  rw [hrun]
                  have hrok : ∀ r ∈ rows, ∀ l ∈ r, l.ok cx.P w (Own Γ st) Γ := fun r hr l hl => by
                    obtain ⟨p, hp, e⟩ := hr2 r hr
                    exact (hp2 p hp).1 l (by rw [← e]; exact hl)
                  have hks0 : ks.length ≠ 0 := (kinds_size hkd).2
                  have hlb : len ≤ len * ks.length := Nat.le_mul_of_pos_right _ (by omega)
                  have hlaid := VecOK.laid (st := st) hkd (rows := rows.map (cs_ Γ.ρ)) (cs := dens Γ rows.flatten) (by
                    rw [List.length_map]
                    exact rows_CReps hs.num hno hr1 hrok hob) (fun r hr => by
                    obtain ⟨r', hr', rfl⟩ := List.mem_map.1 hr
                    simp [cs_, kindsL_len (hr1 r' hr')]) (by rw [List.length_map, hlen]; simp only [maxLen]; omega)
                  rw [List.length_map, hlen] at hlaid
                  have hnew := hs.vnew hwf (c := .s (.slice (some ⟨w.heap.size, 0, none⟩) len len) (rows.map (cs_ Γ.ρ))) (te := te) (w' := w.alloc (.cells (dens Γ rows.flatten) te)) (row := none) (ci := none) rfl (World.grownBy_alloc w _ none) hlaid (fun b hb => by cases hb; exact .inr (Nat.le_refl _))
                  simp only [dropV] at hnew
                  rw [hst1] at hnew
                  have hat : at_ (Γ.ρ ++ [C.s (.slice (some ⟨w.heap.size, 0, none⟩) len len) (rows.map (cs_ Γ.ρ))]) st.nx = C.s (.slice (some ⟨w.heap.size, 0, none⟩) len len) (rows.map (cs_ Γ.ρ)) := by rw [← hs.len]; exact at_app (j := 0) (by simp)
                  have hput := hnew.put hp (one_ok (by simp only [Lf.ok, hat]; exact ⟨_, _, _, rfl⟩))
                  simp only [SV.den, S0.den, Lf.den, hat, C.loc] at hput
                  have hlvl : st1.lvl = st.lvl := by rw [← hst1]
                  exact hk st' T' { Γ with ρ := Γ.ρ ++ [C.s (.slice (some ⟨w.heap.size, 0, none⟩) len len) (rows.map (cs_ Γ.ρ))] } Ls hk' ⟨⟨_, rfl⟩, fun _ _ => rfl, Nat.le_refl _, rfl, rfl⟩ (List.prefix_refl _) (by rw [St.put_lvl hp, hlvl]; exact hl) (hvc' _) _ _ hput
            · cases h
          · cases h
        · cases h
      · cases h
    · rename_i t n m hopeq
      split at h
      · rename_i te e e' hte hn hm
        have hu := sliceOf_eq hte
        split at h
        · rename_i ks z it hkd hz hit
          split at h
          · rename_i hcond
            obtain ⟨rfl, c2, hwf, hno, c8⟩ := hcond
            generalize hst1 : ({ st with nx := st.nx + 1, vec := (st.nx, some (te, .var st.nx)) :: st.vec } : St) = st1 at h
            cases hp : st1.put o.dst (some (.one (.lf (.vec te st.nx)))) with
            | none => simp [hp] at h
            | some st' =>
              cases hk' : k st' with
              | none => simp [hp, hk'] at h
              | some T' =>
                simp [hp, hk'] at h
                subst h
                obtain ⟨hob, hvc'⟩ := VC.obT hvc
                obtain ⟨ob1, ob23⟩ := Obs.app hob
                obtain ⟨ob2, ob3⟩ := Obs.app ob23
                have g1 := need_ok ob1
                have g2 := need_ok ob2
                have g3 := need_ok ob3
                rw [B.den_mkCmp hs.num] at g1 g2 g3
                have g1 : 0 ≤ e.den Γ.ρ := of_decide_eq_true g1
                have g2 : (it.bytes : Int) * e.den Γ.ρ ≤ 281474976710656 := of_decide_eq_true g2
                have g3 : e.den Γ.ρ ≤ 9223372036854775807 := of_decide_eq_true g3
                obtain ⟨hn1, -⟩ := hv.lf (by rw [hopeq]; simp [Op.operands]) hn
                obtain ⟨hm1, -⟩ := hv.lf (by rw [hopeq]; simp [Op.operands]) hm
                obtain ⟨it', zv, hit', hzz, hzc⟩ := zeroLf_spec hz Γ
                obtain rfl : it = it' := Option.some.inj (hit.symm.trans hit')
                have hsz := (kinds_size hkd).1
                have hisz : it.size = ks.length := by simp only [sizeIs, hit, Option.map_some, Option.some.injEq] at hsz; exact hsz
                have hzlen : z.length = ks.length := by have := kindsL_len c2; rw [← this]; exact (adaptL_len cx.P [] ks z).symm
                have hzsize : zv.cells.size = ks.length := by rw [hzc, dens_size]; exact hzlen
                have hrun : (execOp a.eval o).run cx.P w = .ok (.value (.slice (some ⟨w.heap.size, 0, none⟩) (e.den Γ.ρ).toNat (e.den Γ.ρ).toNat)) (w.alloc (.cells (madeCells zv.cells ((e.den Γ.ρ).toNat * it.size)) te)) := by
                  unfold execOp
                  rw [hopeq]
                  simp only [hn1, hm1, Lf.den, Sem.run_bind]
                  rw [run_make w t te it zv hu hit hzz .i64 .i64 _ _ g1 (Int.le_refl _) g2 g3]
                  simp only [Result.andThen_ok, Sem.run_pure]
                unfold Oper.wp
                rw [hrun]
                have hzok : ∀ l ∈ adaptL cx.P [] ks z, l.ok cx.P w (Own Γ st) Γ ∧ l.isVec = false := fun l hl => by
                  have h1 := zero_cst hz
                  exact adaptL_cst h1 l hl
                have hob0 : Obs Γ.ρ (rngL st.bds (adaptL cx.P [] ks z)) := by rw [c8]; exact fun b hb => by cases hb
                have hrep := Ls_rep (P := cx.P) (w := w) (O := Own Γ st) hs.num c2 (kindsL_noVec c2 hno fun l hl => (hzok l hl).1) hob0
                have hcr := CReps.of_LReps hrep hno
                have hden : (adaptL cx.P [] ks z).map (Lf.den Γ) = zv.cells.toList := by
                  rw [adaptL_den0]
                  have : zv.cells = dens Γ z := hzc
                  rw [this]; simp [dens]
                rw [hden] at hcr
                generalize hN : (e.den Γ.ρ).toNat = N at *
                have hNm : N ≤ maxLen := by simp only [maxLen]; omega
                have hlaid := VecOK.laid (st := st) hkd (rows := List.replicate N (cs_ Γ.ρ (adaptL cx.P [] ks z))) (cs := madeCells zv.cells (N * it.size)) (by
                  rw [List.length_replicate, hisz, ← hzsize, madeCells_list]
                  have := CReps.rows (P := cx.P) (w := w) (O := Own Γ st) (ks := ks) (rs := List.replicate N (zv.cells.toList, cs_ Γ.ρ (adaptL cx.P [] ks z))) (fun r hr => by rw [List.eq_of_mem_replicate hr]; exact hcr)
                  rw [List.length_replicate] at this
                  rw [List.flatMap_def, List.flatMap_def, List.map_replicate, List.map_replicate] at this
                  exact this) (fun r hr => by rw [List.eq_of_mem_replicate hr]; simp [cs_, kindsL_len c2]) (by rw [List.length_replicate]; exact hNm)
                rw [List.length_replicate] at hlaid
                have hnew := hs.vnew hwf (c := .s (.slice (some ⟨w.heap.size, 0, none⟩) N N) (List.replicate N (cs_ Γ.ρ (adaptL cx.P [] ks z)))) (te := te) (w' := w.alloc (.cells (madeCells zv.cells (N * it.size)) te)) (row := none) (ci := none) rfl (World.grownBy_alloc w _ none) hlaid (fun b hb => by cases hb; exact .inr (Nat.le_refl _))
                simp only [dropV] at hnew
                rw [hst1] at hnew
                have hat : at_ (Γ.ρ ++ [C.s (.slice (some ⟨w.heap.size, 0, none⟩) N N) (List.replicate N (cs_ Γ.ρ (adaptL cx.P [] ks z)))]) st.nx = C.s (.slice (some ⟨w.heap.size, 0, none⟩) N N) (List.replicate N (cs_ Γ.ρ (adaptL cx.P [] ks z))) := by rw [← hs.len]; exact at_app (j := 0) (by simp)
                have hput := hnew.put hp (one_ok (by simp only [Lf.ok, hat]; exact ⟨_, _, _, rfl⟩))
                simp only [SV.den, S0.den, Lf.den, hat, C.loc] at hput
                have hlvl : st1.lvl = st.lvl := by rw [← hst1]
                have hvc2 := hvc' (.slice (some ⟨w.heap.size, 0, none⟩) N N)
                rw [hN] at hvc2
                exact hk st' T' { Γ with ρ := Γ.ρ ++ [C.s (.slice (some ⟨w.heap.size, 0, none⟩) N N) (List.replicate N (cs_ Γ.ρ (adaptL cx.P [] ks z)))] } Ls hk' ⟨⟨_, rfl⟩, fun _ _ => rfl, Nat.le_refl _, rfl, rfl⟩ (List.prefix_refl _) (by rw [St.put_lvl hp, hlvl]; exact hl) hvc2 _ _ hput
          · cases h
        · cases h
      · cases h
    · rename_i f first captured hopeq
      split at h
      · rename_i fs cs hfs hcs
        split at h
        · rename_i hcond
          simp only [Bool.and_eq_true] at hcond
          obtain ⟨⟨⟨hwf, hw1⟩, hw2⟩, hone⟩ := hcond
          generalize hst1 : ({ st with nx := st.nx + 1, clo := (st.nx, some (f, fs, cs.flatMap S0.cells)) :: st.clo } : St) = st1 at h
          cases hp : st1.put o.dst (some (.one (.lf (.clo st.nx)))) with
          | none => simp [hp] at h
          | some st' =>
            cases hk' : k st' with
            | none => simp [hp, hk'] at h
            | some T' =>
              simp [hp, hk'] at h
              subst h
              obtain ⟨hf1, hf2⟩ := s0s_ok hv first.toList fs hfs (fun x hx => by rw [hopeq]; simp [Op.operands]; exact .inl (by simpa using hx))
              obtain ⟨hc1, hc2⟩ := s0s_ok hv captured.toList cs hcs (fun x hx => by rw [hopeq]; simp [Op.operands]; exact .inr (by simpa using hx))
              have hflat : cs.map (S0.den Γ) = (cs.flatMap S0.cells).map (Lf.den Γ) := by
                clear hcs hc1 hc2 hw2 hst1
                induction cs with
                | nil => rfl
                | cons s cs ih =>
                  simp only [List.all_cons, Bool.and_eq_true] at hone
                  rw [List.flatMap_cons, List.map_append, List.map_cons, ih hone.2]
                  cases s with
                  | lf l => rfl
                  | agg l => exact absurd hone.1.2 (by simp)
              generalize hcv : C.s (.func (.func f) (fs.map (S0.den Γ)).toArray ((cs.flatMap S0.cells).map (Lf.den Γ)).toArray) [] = c
              have hrun : (execOp a.eval o).run cx.P w = .ok (.value (.func (.func f) (fs.map (S0.den Γ)).toArray ((cs.flatMap S0.cells).map (Lf.den Γ)).toArray)) w := by
                unfold execOp
                rw [hopeq]
                have e1 : first.map a.eval = (fs.map (S0.den Γ)).toArray := by apply Array.ext'; simp [hf1]
                have e2 : captured.map a.eval = ((cs.flatMap S0.cells).map (Lf.den Γ)).toArray := by apply Array.ext'; rw [← hflat]; simp [hc1]
                simp only [Instr.makeFunc, e1, e2, Sem.run_bind, Sem.run_pure, Result.andThen_ok]
              unfold Oper.wp
              rw [hrun]
              have hsm : Smalls (Γ.ρ ++ [c]) := hs.num.len.app fun x hx n => by simp at hx; subst hx; rw [← hcv]; cases n <;> simp [C.small]
              have he : Ext Γ { Γ with ρ := Γ.ρ ++ [c] } := ⟨⟨_, rfl⟩, fun _ _ => rfl, Nat.le_refl _, rfl, rfl⟩
              have hgrow := hs.grow hwf hsm
              simp only [List.length_cons, List.length_nil, Nat.zero_add] at hgrow
              have hat : at_ (Γ.ρ ++ [c]) st.nx = c := by rw [← hs.len]; exact at_app (j := 0) (by simp)
              have hfw : ∀ s ∈ fs, s.wf Γ.ρ.length Γ.nb = true := fun s hs' => by rw [hs.len, hs.nb]; exact List.all_eq_true.1 hw1 s hs'
              have hcw : ∀ s ∈ cs, s.wf Γ.ρ.length Γ.nb = true := fun s hs' => by rw [hs.len, hs.nb]; exact List.all_eq_true.1 hw2 s hs'
              have hcl : ∀ l ∈ cs.flatMap S0.cells, l.wf Γ.ρ.length Γ.nb = true ∧ l.ok cx.P w (Own Γ st) Γ := fun l hl => by
                obtain ⟨s, hs', hl⟩ := List.mem_flatMap.1 hl
                refine ⟨?_, hc2 s hs' l hl⟩
                have := hcw s hs'
                cases s with
                | lf x => simp [S0.cells] at hl; subst hl; exact this
                | agg ls => exact List.all_eq_true.1 this l hl
              have hownx : ∀ b o, Own { Γ with ρ := Γ.ρ ++ [c] } { st with nx := st.nx + 1 } b o → Own Γ st b o := fun b o hb => by
                rcases Own.iff.1 hb with hb | ⟨s, j, hh⟩
                · exact .inl hb
                · exact Hold.own (Hold.congr (Γ := Γ) (st := st) (Γ' := { Γ with ρ := Γ.ρ ++ [c] }) (st' := { st with nx := st.nx + 1 }) (fun j mb hj => ⟨⟨mb, hj⟩, rfl⟩) (fun i e hi => ⟨⟨e, hi⟩, hs.vec_at he hi⟩) hh) o
              have hclo := hgrow.addClo (i := st.nx) (e := (f, fs, cs.flatMap S0.cells)) (by
                show (at_ (Γ.ρ ++ [c]) st.nx).loc = .func (.func f) (fs.map (S0.den { Γ with ρ := Γ.ρ ++ [c] })).toArray ((cs.flatMap S0.cells).map (Lf.den { Γ with ρ := Γ.ρ ++ [c] })).toArray
                rw [hat, List.map_congr_left fun s hs' => S0.den_ext he s (hfw s hs'), List.map_congr_left fun l hl => Lf.den_ext he l (hcl l hl).1, ← hcv]
                rfl) (fun s hs' l hl => Lf.ok_anti (S0.ok_ext he (hfw s hs') (hf2 s hs') l hl) hownx) (fun l hl => Lf.ok_anti (Lf.ok_ext he (hcl l hl).1 (hcl l hl).2) hownx)
              rw [hst1] at hclo
              have hput := hclo.put hp (one_ok (by simp only [Lf.ok, hat]; rw [← hcv]; exact ⟨_, _, _, rfl⟩))
              simp only [SV.den, S0.den, Lf.den, hat] at hput
              rw [show c.loc = .func (.func f) (fs.map (S0.den Γ)).toArray ((cs.flatMap S0.cells).map (Lf.den Γ)).toArray by rw [← hcv]; rfl] at hput
              have hlvl : st1.lvl = st.lvl := by rw [← hst1]
              have hvc2 := hvc (.func (.func f) (fs.map (S0.den Γ)).toArray ((cs.flatMap S0.cells).map (Lf.den Γ)).toArray)
              rw [List.map_nil, hcv] at hvc2
              exact hk st' T' { Γ with ρ := Γ.ρ ++ [c] } Ls hk' he (List.prefix_refl _) (by rw [St.put_lvl hp, hlvl]; exact hl) hvc2 _ _ hput
        · cases h
      · cases h
    · rename_i c hopeq
      obtain ⟨callee, cargs, ctypes⟩ := c
      simp only [] at h
      split at h
      · rename_i la lb hargs
        split at h
        · rename_i t t' hct
          split at h
          · rename_i te hte
            have hu := sliceOf_eq hte
            split at h
            · rename_i ks z it hkd hz hit
              split at h
              · rename_i hc
                obtain ⟨rfl, hwf, hby, hzl⟩ := hc
                have hby := Nat.le_of_ble_eq_true hby
                obtain ⟨ha1, ha2⟩ := s0s_ok hv cargs.toList _ hargs (fun x hx => by rw [hopeq]; simp [Op.operands, Call.operands]; simpa using hx)
                obtain ⟨xa, xb, hca⟩ : ∃ xa xb, cargs = #[xa, xb] := by
                  have hlen : cargs.toList.length = 2 := by have := congrArg List.length ha1; simpa using this
                  match hcl : cargs.toList, hlen with
                  | [xa, xb], _ => exact ⟨xa, xb, by rw [← Array.toList_inj, hcl]⟩
                subst hca
                simp [S0.den] at ha1
                obtain ⟨hxa, hxb⟩ := ha1
                have hla : la.ok cx.P w (Own Γ st) Γ := ha2 (.lf la) (by simp) la (by simp [S0.cells])
                have hlb : lb.ok cx.P w (Own Γ st) Γ := ha2 (.lf lb) (by simp) lb (by simp [S0.cells])
                have hcte : ctypes = #[t, t] := by rw [← Array.toList_inj, hct]
                subst hcte
                obtain ⟨it', zv, hit', hzz, hzc⟩ := zeroLf_spec hz Γ
                obtain rfl : it = it' := Option.some.inj (hit.symm.trans hit')
                have hzsize : zv.cells.size = ks.length := by rw [hzc, dens_size]; exact hzl
                have hrun0 : ∀ v' w', (Builtin.append_ #[t, t] o.type #[la.den Γ, lb.den Γ]).run cx.P w = .ok v' w' → (execOp a.eval o).run cx.P w = .ok (.value v') w' := fun v' w' hr => by
                  unfold execOp
                  rw [hopeq]
                  simp only [resolve, invoke, builtin, List.map_toArray, List.map_cons, List.map_nil, hxa, hxb, Sem.run_bind, Sem.run_pure, Result.andThen_ok, hr]
                split at h
                · rename_i i ea tb eb hma hb
                  split at h
                  · rename_i hcc
                    obtain ⟨rfl, hij⟩ := hcc
                    generalize hst1 : ({ st with nx := st.nx + 1, vec := (st.nx, some (tb, .var st.nx)) :: dropV i st.vec } : St) = st1 at h
                    cases hp : st1.put o.dst (some (.one (.lf (.vec tb st.nx)))) with
                    | none => simp [hp] at h
                    | some st' =>
                      cases hk' : k st' with
                      | none => simp [hp, hk'] at h
                      | some T' =>
                        simp [hp, hk'] at h
                        subst h
                        obtain ⟨hob, hvc'⟩ := VC.obT hvc
                        have g := need_ok hob
                        rw [B.den_mkCmp hs.num] at g
                        have g : (((ea.ev Γ.ρ).rows.length : Int) + ((eb.ev Γ.ρ).rows.length : Int)) * (it.bytes : Int) ≤ 140737488355328 := of_decide_eq_true g
                        obtain ⟨hci, hva⟩ := appA_spec hs hkd hma
                        obtain ⟨us, hrb⟩ := appB_spec hs hkd hlb hb
                        obtain ⟨v', w', r1, r2⟩ := hs.append hwf hkd hu hit hzz hzsize hby (ty := o.type) (ci := i) hci hva hrb g
                        unfold Oper.wp
                        rw [hrun0 v' w' r1]
                        rw [hst1] at r2
                        have hat : at_ (Γ.ρ ++ [C.s v' ((ea.ev Γ.ρ).rows ++ (eb.ev Γ.ρ).rows)]) st.nx = C.s v' ((ea.ev Γ.ρ).rows ++ (eb.ev Γ.ρ).rows) := by rw [← hs.len]; exact at_app (j := 0) (by simp)
                        have hve := r2.vec st.nx (tb, .var st.nx) (by rw [← hst1]; simp [look])
                        obtain ⟨sa, scap, hsl⟩ := hve.1.slice
                        have hput := r2.put hp (one_ok (by simp only [Lf.ok]; exact ⟨_, _, _, hsl⟩))
                        simp only [SV.den, S0.den, Lf.den, hat, C.loc] at hput
                        have hlvl : st1.lvl = st.lvl := by rw [← hst1]
                        exact hk st' T' { Γ with ρ := Γ.ρ ++ [C.s v' ((ea.ev Γ.ρ).rows ++ (eb.ev Γ.ρ).rows)] } Ls hk' ⟨⟨_, rfl⟩, fun _ _ => rfl, Nat.le_refl _, rfl, rfl⟩ (List.prefix_refl _) (by rw [St.put_lvl hp, hlvl]; exact hl) (hvc' v') _ _ hput
                  · cases h
                · cases h
              · cases h
            · cases h
          · cases h
        · cases h
      · rename_i f args hargs
        obtain ⟨ha1, ha2⟩ := s0s_ok hv cargs.toList args hargs (fun x hx => by rw [hopeq]; simp [Op.operands, Call.operands]; right; simpa using hx)
        have hmap : cargs.map a.eval = (args.map (S0.den Γ)).toArray := by
          apply Array.ext'
          simp [ha1]
        have hrun : ∀ hc : Callable cx.P f, (execOp a.eval o).run cx.P w = .ok (.enter f (args.map (S0.den Γ)).toArray) w := fun hc => by
          unfold execOp
          rw [hopeq]
          simp only [resolve, Deferred.ofValue, Act.eval, hmap, pure_bind, invoke, Array.empty_append, Array.append_empty, Sem.run_bind, Sem.run_pure, Result.andThen_ok]
          exact run_callFunc' hc _ _
        split at h
        · rename_i g hg
          obtain ⟨hc, hi⟩ := hcx.sel f g hg
          split at h
          · rename_i obs b s1 s2 hgs
            split at h
            · rename_i t e ht he
              cases h
              obtain ⟨hob, hvc'⟩ := VC.obT hvc
              obtain ⟨hp1, hp2, hcall⟩ := hi Γ st.bds args obs b s1 s2 hs.num hgs hob
              have plain : ∀ (s : SV) (w' : World), s.plain = true → s.ok cx.P w' (Own Γ st) Γ := fun s w' hp => SV.plain_ok hp
              unfold Oper.wp
              rw [hrun hc]
              refine (hcall w).mono fun e' w' ⟨he', hb⟩ => ?_
              subst he'
              have h0 := (hs.below hb).learn hob
              by_cases hbd : b.den Γ.ρ = true
              · rw [if_pos hbd]
                cases hp : ((st.learnAll obs).know none b true).put o.dst (some s1) with
                | none => simp [hp] at ht
                | some st' =>
                  simp [hp] at ht
                  exact hk st' t Γ Ls ht (Ext.refl Γ) (List.prefix_refl _) (by rw [St.put_lvl hp]; exact hl) (hvc'.1 hbd) _ _ ((h0.knowB hbd).put hp (plain s1 w' hp1))
              · have hbd' : b.den Γ.ρ = false := by simpa using hbd
                rw [if_neg hbd]
                cases hp : ((st.learnAll obs).know none b false).put o.dst (some s2) with
                | none => simp [hp] at he
                | some st' =>
                  simp [hp] at he
                  exact hk st' e Γ Ls he (Ext.refl Γ) (List.prefix_refl _) (by rw [St.put_lvl hp]; exact hl) (hvc'.2 hbd') _ _ ((h0.knowB hbd').put hp (plain s2 w' hp2))
            · cases h
          · cases h
        · split at h
          · rename_i g hg
            obtain ⟨hc, hi⟩ := hcx.inl f g hg
            split at h
            · rename_i obs s hgs
              cases hp : (st.learnAll obs).put o.dst (some (.one s)) with
              | none => simp [hp] at h
              | some st' =>
                cases hk' : k st' with
                | none => simp [hp, hk'] at h
                | some T' =>
                  simp [hp, hk'] at h
                  subst h
                  obtain ⟨hob, hvc'⟩ := VC.obT hvc
                  obtain ⟨hpl, hcall⟩ := hi Γ st.bds args obs s hs.num hgs hob
                  unfold Oper.wp
                  rw [hrun hc]
                  refine (hcall w).mono fun e w' ⟨he, hb⟩ => ?_
                  subst he
                  have hsok : (SV.one s).ok cx.P w' (Own Γ st) Γ := SV.plain_ok (s := .one s) hpl
                  exact hk st' T' Γ Ls hk' (Ext.refl Γ) (List.prefix_refl _) (by rw [St.put_lvl hp]; exact hl) hvc' _ _ (((hs.below hb).learn hob).put hp hsok)
            · cases h
          · exact callF_sound hcx h hl hvc hs hk ha2 hrun
      · rename_i x args hargs
        obtain ⟨ha1, ha2⟩ := s0s_ok hv cargs.toList args hargs (fun x hx => by rw [hopeq]; simp [Op.operands, Call.operands]; right; simpa using hx)
        have hmap : cargs.map a.eval = (args.map (S0.den Γ)).toArray := by
          apply Array.ext'
          simp [ha1]
        have hxv := hv.slots (.tmp x) (by rw [hopeq]; simp [Op.operands, Call.operands])
        split at h
        · rename_i f ls hl'
          obtain ⟨hf1, hf2⟩ := hxv _ hl'
          refine callF_sound hcx h hl hvc hs hk (fun s hs' => (List.mem_cons.1 hs').elim (fun e => by subst e; exact hf2) (ha2 s)) fun hc => ?_
          unfold execOp
          rw [hopeq]
          simp only [resolve, hf1, SV.den, Deferred.ofValue, hmap, pure_bind, invoke, Array.append_empty, Sem.run_bind, Sem.run_pure, Result.andThen_ok]
          have e : #[Value.agg (dens Γ ls)] ++ (args.map (S0.den Γ)).toArray = (((S0.agg ls) :: args).map (S0.den Γ)).toArray := by simp [S0.den]
          rw [e]
          exact run_callFunc' hc _ _
        · rename_i i hl'
          obtain ⟨hf1, hf2⟩ := hxv _ hl'
          split at h
          · rename_i f fs cs hclo
            obtain ⟨k1, k2, k3⟩ := hs.clo i _ hclo
            refine callF_sound hcx h hl hvc hs hk (fun s hs' => ?_) fun hc => ?_
            · rcases List.mem_append.1 hs' with hs' | hs'
              · rcases List.mem_append.1 hs' with hs' | hs'
                · exact k2 s hs'
                · exact ha2 s hs'
              · obtain ⟨l, hl2, rfl⟩ := List.mem_map.1 hs'
                exact fun y hy => by simp [S0.cells] at hy; subst hy; exact k3 _ hl2
            · unfold execOp
              rw [hopeq]
              simp only [resolve, hf1, SV.den, S0.den, Lf.den, k1, Deferred.ofValue, hmap, pure_bind, invoke, Sem.run_bind, Sem.run_pure, Result.andThen_ok]
              have e : (fs.map (S0.den Γ)).toArray ++ (args.map (S0.den Γ)).toArray ++ (cs.map (Lf.den Γ)).toArray = ((fs ++ args ++ cs.map S0.lf).map (S0.den Γ)).toArray := by simp [S0.den, Function.comp_def]
              rw [e]
              exact run_callFunc' hc _ _
          · cases h
        · rename_i v hl'
          obtain ⟨hf1, hf2⟩ := hxv _ hl'
          split at h
          rotate_left
          · cases h
          rename_i f x1 y1
          split at h
          rotate_left
          · cases h
          rename_i hxy
          simp only [Bool.and_eq_true, Array.isEmpty_iff] at hxy
          obtain ⟨rfl, rfl⟩ := hxy
          refine callF_sound hcx h hl hvc hs hk ha2 fun hc => ?_
          unfold execOp
          rw [hopeq]
          simp only [resolve, hf1, SV.den, S0.den, Lf.den, Deferred.ofValue, hmap, pure_bind, invoke, Array.append_empty, Array.empty_append, Sem.run_bind, Sem.run_pure, Result.andThen_ok]
          exact run_callFunc' hc _ _
        · cases h
      · cases h
    · cases h
theorem Sat.know {P : Program} {Γ : Env} {st : St} {a : Act} {w : World} (hs : Sat P F w0 Γ st a w) {d : Nat} {b : B} {t : Bool} (hd : st.lf (.tmp d) = some (.bool b)) (hb : b.den Γ.ρ = t) : Sat P F w0 Γ (st.know (some d) b t) a w := by
  have hnum : Num (Go.Proofs.Ytlbgcjpkegpmlaa.learn st.nx st.bds b t) Γ.ρ := ⟨learn_ok hs.num.len (by rw [hs.len]; exact Nat.le_refl _) b st.bds t hs.num.bds hb, hs.num.len⟩
  refine hs.slots' (fun x sv hx => ?_) hs.size hs.defers hnum
  replace hx : look (if d < st.nt ∧ d < 1000 then (d, some (SV.one (S0.lf (.bool (.lit t))))) :: st.sl else st.sl) x = some sv := hx
  split at hx
  · simp only [look] at hx
    split at hx
    · rename_i e
      subst e
      cases hx
      have h1 : look st.sl d = some (.one (.lf (.bool b))) := by
        have := St.lf_ev hd
        simp only [St.ev] at this
        split at this
        · exact this
        · cases this
      have h2 := (hs.slots d _ h1).1
      refine ⟨?_, one_ok trivial⟩
      rw [h2]
      simp only [SV.den, S0.den, Lf.den, hb, B.den]
    · exact hs.slots x sv hx
  · exact hs.slots x sv hx
theorem Sat.tmp {P : Program} {Γ : Env} {st : St} {a : Act} {w : World} (hs : Sat P F w0 Γ st a w) {d : Nat} {sv : SV} (h : st.ev (.tmp d) = some sv) : a.tmps.getD d undef = sv.den Γ ∧ sv.ok P w (Own Γ st) Γ := by
  have := (hs.view #[.tmp d]).slots (.tmp d) (by simp) sv h
  exact this
theorem yielded_of {ops : Array Oper} {j d : Nat} {tmps : Array Value} {v : Bool} (hd : (ops[j]?).bind (·.dst) = some d) (hv : tmps.getD d undef = .bool v) : yielded ops tmps j = some v := by
  unfold yielded
  rw [hd]
  simp only [Option.bind_some]
  rw [Array.getD_eq_getD_getElem?] at hv
  cases h : tmps[d]? with
  | none => rw [h] at hv; simp [undef] at hv
  | some x => rw [h] at hv; simp at hv; subst hv; rfl

theorem doOpF_sound (hcx : CxOK cx) {st : St} {o : Oper} {k : St → Option Tree} {T : Tree} (h : doOpF cx st o k = some T) {Γ : Env} {Ls : List (List C → Prop)} (hl : Ls.length = st.lvl) (hvc : VC cx R T Γ.ρ Ls)
    {a : Act} {w : World} (hs : Sat cx.P F w0 Γ st a w) {K : Act → World → Prop} {Q : Exit → Act → World → Prop} (hk : Next cx R F w0 k Γ Ls K) : o.wp cx.P a w K Q := by
  obtain ⟨st', T', Γ', g1, g2, g3, g4, g5⟩ := freezeAll_sound _ st T h Γ Ls hvc hs
  exact doOp_sound hcx g1 (by rw [g3]; exact hl) g4 g5 (hk.mono g2 (List.prefix_refl _))
theorem orF_some {x : Option Tree} {n : Nat} {l : List Nat} {T : Tree} (h : orF x n l = some T) {ρ : List C} {Ls : List (List C → Prop)} (hvc : VC cx R T ρ Ls) : x = some T := by
  unfold orF at h
  split at h
  · exact h
  · cases h; exact hvc.elim
theorem yielded_cst {ops : Array Oper} {j d : Nat} {tmps : Array Value} {v : Value} (hd : (ops[j]?).bind (·.dst) = some d) (hv : tmps.getD d undef = v) (hb : isB v = false) : yielded ops tmps j = none := by
  unfold yielded
  rw [hd]
  simp only [Option.bind_some]
  rw [Array.getD_eq_getD_getElem?] at hv
  cases h : tmps[d]? with
  | none => rfl
  | some x =>
    rw [h] at hv
    simp only [Option.getD_some] at hv
    subst hv
    cases x <;> first | rfl | cases hb
theorem St.skip_put {st st' : St} {ops : Array Oper} {o : Oper} (h : st.skip ops o = some st') : ∃ sv, st.put o.dst sv = some st' ∧ (sv = none ∨ sv = some skV) := by
  unfold St.skip at h
  split at h
  · exact ⟨none, h, .inl rfl⟩
  · split at h
    · exact ⟨some skV, h, .inr rfl⟩
    · exact ⟨none, h, .inl rfl⟩
theorem Sat.skip {P : Program} {F : Nat → Prop} {w0 : World} {Γ : Env} {st st' : St} {a : Act} {w : World} {ops : Array Oper} {o : Oper} (h : Sat P F w0 Γ st a w) (hp : st.skip ops o = some st') : Sat P F w0 Γ st' (a.put o.dst undef) w := by
  obtain ⟨sv, hp, rfl | rfl⟩ := St.skip_put hp
  · exact h.drop hp undef
  · exact h.put hp (fun l hl => by simp only [S0.cells, List.mem_cons, List.not_mem_nil, or_false] at hl; subst hl; trivial)
theorem St.skip_lvl {st st' : St} {ops : Array Oper} {o : Oper} (hp : st.skip ops o = some st') : st'.lvl = st.lvl := by
  obtain ⟨sv, hp, -⟩ := St.skip_put hp
  exact St.put_lvl hp
theorem St.skip_mem {st st' : St} {ops : Array Oper} {o : Oper} (hp : st.skip ops o = some st') : st'.mem = st.mem := by
  obtain ⟨sv, hp, -⟩ := St.skip_put hp
  exact St.put_mem hp
theorem St.skip_nb {st st' : St} {ops : Array Oper} {o : Oper} (hp : st.skip ops o = some st') : st'.nb = st.nb := by
  obtain ⟨sv, hp, -⟩ := St.skip_put hp
  exact St.put_nb hp
theorem execOps_sound (hcx : CxOK cx) {ops : Array Oper} {k : St → Option Tree} {Q : Exit → Act → World → Prop} : ∀ (l : List Oper) (st : St) (T : Tree), execOps cx ops l st k = some T →
    ∀ (Γ : Env) (Ls : List (List C → Prop)), Ls.length = st.lvl → VC cx R T Γ.ρ Ls → ∀ (a : Act) (w : World), Sat cx.P F w0 Γ st a w → Next cx R F w0 k Γ Ls (fun a w => Q .normal a w) → wpList cx.P ops Q l a w
  | [], st, T, h, Γ, Ls, hl, hvc, a, w, hs, hk => hk st T Γ Ls h (Ext.refl Γ) (List.prefix_refl _) hl hvc a w hs
  | o :: rest, st, T, h, Γ, Ls, hl, hvc, a, w, hs, hk => by
    have step : ∀ (st1 : St) (T1 : Tree), doOpF cx st1 o (fun st => execOps cx ops rest st k) = some T1 → st1.lvl = st.lvl → VC cx R T1 Γ.ρ Ls → Sat cx.P F w0 Γ st1 a w → o.wp cx.P a w (wpList cx.P ops Q rest) Q := fun st1 T1 h1 hl1 hv1 hs1 =>
      doOpF_sound hcx h1 (by rw [hl1]; exact hl) hv1 hs1 fun st' T' Γ' Ls' h' he hp' hl' hv' a' w' hs' => execOps_sound hcx rest st' T' h' Γ' Ls' hl' hv' a' w' hs' (hk.mono he hp')
    have skip : ∀ (st1 st2 : St) (T1 : Tree), st1.skip ops o = some st2 → execOps cx ops rest st2 k = some T1 → st1.lvl = st.lvl → VC cx R T1 Γ.ρ Ls → Sat cx.P F w0 Γ st1 a w → wpList cx.P ops Q rest (a.put o.dst undef) w := fun st1 st2 T1 hp h1 hl1 hv1 hs1 =>
      execOps_sound hcx rest st2 T1 h1 Γ Ls (by rw [St.skip_lvl hp, hl1]; exact hl) hv1 _ w (hs1.skip hp) hk
    unfold execOps at h
    unfold wpList
    split at h
    · rename_i hg
      rw [if_pos (by simp [Region.wanted, hg])]
      exact .inl (step st T (orF_some h hvc) rfl hvc hs)
    · rename_i j want hg
      split at h
      · cases h
      · rename_i d hd
        split at h
        · rename_i v hl'
          have hy := yielded_of hd (hs.tmp (St.lf_ev hl')).1
          have hy' : yielded ops a.tmps j = some v := hy
          split at h
          · rename_i hvw
            rw [if_pos (by simp [Region.wanted, hg, hy', hvw])]
            exact .inl (step st T (orF_some h hvc) rfl hvc hs)
          · rename_i hvw
            rw [if_neg (by simp [Region.wanted, hg, hy', hvw])]
            cases hp : st.skip ops o with
            | none => simp [hp] at h
            | some st2 => simp [hp] at h; exact skip st st2 T hp h rfl hvc hs
        · rename_i b hlit hl'
          have hy := yielded_of hd (hs.tmp (St.lf_ev hl')).1
          split at h
          · rename_i t e ht he
            cases hp : (st.know (some d) b !want).skip ops o with
            | none => simp [hp] at he
            | some st2 =>
              simp [hp] at he
              have hvc' : (b.den Γ.ρ = want → VC cx R t Γ.ρ Ls) ∧ (b.den Γ.ρ = (!want) → VC cx R e Γ.ρ Ls) := by
                cases want <;> simp at h <;> subst h <;> exact ⟨by simpa using (by first | exact hvc.1 | exact hvc.2), by simpa using (by first | exact hvc.2 | exact hvc.1)⟩
              by_cases hb : b.den Γ.ρ = want
              · rw [if_pos (by simp [Region.wanted, hg]; rw [hy]; simp [Lf.den, hb])]
                exact .inl (step (st.know (some d) b want) t ht rfl (hvc'.1 hb) (hs.know hl' hb))
              · have hb' : b.den Γ.ρ = !want := by cases hx : b.den Γ.ρ <;> cases want <;> simp_all
                rw [if_neg (by simp [Region.wanted, hg]; rw [hy]; simp [Lf.den, hb'])]
                exact skip (st.know (some d) b !want) st2 e hp he rfl (hvc'.2 hb') (hs.know hl' hb')
          · cases h
        · rename_i v hl'
          split at h
          · cases h
          · rename_i hb
            have hy := yielded_cst (v := v) hd (hs.tmp (St.lf_ev hl')).1 (by simpa using hb)
            rw [if_neg (by simp [Region.wanted, hg, hy])]
            cases hp : st.skip ops o with
            | none => simp [hp] at h
            | some st2 => simp [hp] at h; exact skip st st2 T hp h rfl hvc hs
        · cases h
end
end Go.Proofs.Ytlbgcjpkegpmlaa
