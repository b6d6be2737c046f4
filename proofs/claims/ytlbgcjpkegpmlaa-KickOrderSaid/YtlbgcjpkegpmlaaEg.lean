/- The engine, part 7: one operation that leaves the world alone. -/
import Derived.Test.YtlbgcjpkegpmlaaEf
namespace Go.Proofs.Ytlbgcjpkegpmlaa
open Go.RowKit
set_option linter.unusedSimpArgs false

theorem St.lf_ev {st : St} {x : Operand} {l : Lf} (h : st.lf x = some l) : st.ev x = some (.one (.lf l)) := by
  unfold St.lf at h
  split at h
  · rename_i l' h1; cases h; exact h1
  · cases h
theorem St.s0_ev {st : St} {x : Operand} {s : S0} (h : st.s0 x = some s) : st.ev x = some (.one s) := by
  unfold St.s0 at h
  split at h
  · rename_i l' h1; cases h; exact h1
  · cases h
theorem View.lf {P : Program} {Γ : Env} {st : St} {xs : Array Operand} {ρ : Operand → Value} {w : World} (hv : View P Γ st xs ρ w) {x : Operand} (hx : x ∈ xs) {l : Lf} (h : st.lf x = some l) :
    ρ x = l.den Γ ∧ l.ok P w (Own Γ st) Γ := by
  obtain ⟨h1, h2⟩ := hv.slots x hx _ (St.lf_ev h)
  exact ⟨h1, h2 l (by simp [S0.cells])⟩
theorem View.s0 {P : Program} {Γ : Env} {st : St} {xs : Array Operand} {ρ : Operand → Value} {w : World} (hv : View P Γ st xs ρ w) {x : Operand} (hx : x ∈ xs) {s : S0} (h : st.s0 x = some s) :
    ρ x = s.den Γ ∧ s.ok P w (Own Γ st) Γ := hv.slots x hx _ (St.s0_ev h)

/-- One cell's value. -/
theorem Lf.one_cell {P : Program} {w : World} {O : Nat → Nat → Prop} {Γ : Env} {l : Lf} (hf : l.flat = true) (ho : l.ok P w O Γ) : (l.den Γ).oneCell' = true := by
  cases l with
  | int e => rfl
  | bool b => rfl
  | ptr b o => rfl
  | arr te a =>
    obtain ⟨x, cap, hv⟩ := ArrOK.loc ho
    simp only [Lf.den, hv]; rfl
  | elp te sz a x o =>
    obtain ⟨b, p, he, -⟩ := ho.1.addr ho.2.1 ho.2.2.1
    simp only [Lf.den, he]; rfl
  | cst v => exact hf
  | vec te i => obtain ⟨a, n, cap, hl⟩ := ho; simp only [Lf.den, hl]; rfl
  | clo i => obtain ⟨f, a, c, hl⟩ := ho; simp only [Lf.den, hl]; rfl
  | velp te sz i x o => obtain ⟨b, n, cap, hl, -⟩ := ho; simp only [Lf.den, hl, elemAt]; rfl
  | cnt te r => cases hf
theorem one_cells {v : Value} (h : v.oneCell' = true) : v.cells = #[v] := by
  cases v <;> first | rfl | cases h
def parts? (st : St) : List (Nat × Operand) → Option (List (Nat × S0))
  | [] => some []
  | (i, x) :: l => match st.s0 x, parts? st l with
    | some s, some r => if s.cells.all Lf.flat then some ((i, s) :: r) else none
    | _, _ => none
theorem parts_ok {P : Program} {Γ : Env} {st : St} {xs : Array Operand} {ρ : Operand → Value} {w : World} (hv : View P Γ st xs ρ w) : ∀ (l : List (Nat × Operand)) (r : List (Nat × S0)), parts? st l = some r →
    (∀ p ∈ l, p.2 ∈ xs) → (l.map fun p => (p.1, ρ p.2)) = r.map (fun p => (p.1, p.2.den Γ)) ∧ ∀ p ∈ r, p.2.ok P w (Own Γ st) Γ ∧ p.2.cells.all Lf.flat = true
  | [], r, h, _ => by simp [parts?] at h; subst h; simp
  | (i, x) :: l, r, h, hx => by
    simp only [parts?] at h
    split at h
    · rename_i s r' hs hr
      split at h
      · rename_i hf
        cases h
        obtain ⟨h1, h2⟩ := hv.s0 (hx (i, x) (by simp)) hs
        obtain ⟨h3, h4⟩ := parts_ok hv l r' hr (fun p hp => hx p (by simp [hp]))
        refine ⟨by simp [h1, h3], fun p hp => ?_⟩
        rcases List.mem_cons.1 hp with rfl | hp
        · exact ⟨h2, hf⟩
        · exact h4 p hp
      · cases h
    · cases h

def opVal (P : Program) (st : St) (o : Oper) : Option (List B × SV) :=
  match o.op with
  | .move x | .assign x => (st.ev x).map ([], ·)
  | .pick c a b => match st.lf c with
    | some (.bool (.lit t)) => (st.ev (if t then a else b)).map ([], ·)
    | _ => none
  | .load t x => match st.lf x with
    | some l => (loadLf P st.mem st.vec t l).map fun s => ([], .one s)
    | none => none
  | .binOp op t x y _ => match st.s0 x, st.s0 y with
    | some (.lf (.int a)), some (.lf (.int b)) => match (if st.wr.contains (st.path * 1000 + o.dst.getD 0) then binW op a b else none) with
      | some e => some ([], .one (.lf (.int e)))
      | none => (binLf st.bds op (.int a) (.int b)).map fun r => (r.1, .one (.lf r.2))
    | some (.lf (.bool a)), some (.lf (.bool b)) => match op, P.underlying t with
      | .eql, some .bool => some ([], .one (.lf (.bool (.beq a b))))
      | .neq, some .bool => some ([], .one (.lf (.bool (.not (.beq a b)))))
      | _, _ => none
    | some (.agg xs), some (.agg ys) => match op, P.eqGuardType P.depth t, eqT P st.bds 20 t (.agg xs) (.agg ys) with
      | .eql, false, some r => some ([], .one (.lf (.bool r)))
      | .neq, false, some r => some ([], .one (.lf (.bool (B.mkNot r))))
      | _, _, _ => none
    | _, _ => none
  | .unOp op _ x => match op, st.lf x with
    | .neg, some (.int a) => some (rng st.bds (.sub (.lit 0) a), .one (.lf (.int (E.mkSub (.lit 0) a))))
    | .not, some (.bool b) => some ([], .one (.lf (.bool (B.mkNot b))))
    | _, _ => none
  | .fieldAddr s x f => match fieldOff P s f, st.lf x with
    | some k, some l => (l.shift k).map fun l => ([], .one (.lf l))
    | _, _ => none
  | .field s x f => match P.underlying s, st.s0 x with
    | some (.struct fs), some (.agg cs) => match fs[f]? with
      | some fd => (partS P fd.type cs fd.offset).map fun s => ([], .one s)
      | none => none
    | _, _ => none
  | .indexAddr t x ix => match st.lf x, st.lf ix with
    | some l, some (.int e) => (idxLf P st.vec st.bds t l e).map fun r => (r.1, .one (.lf r.2))
    | _, _ => none
  | .build t ps => match parts? st ps.toList with
    | some r => (buildLf P t r).map fun cs => ([], .one (.agg cs))
    | none => none
  | .extract x i => match st.ev x with
    | some (.tup l) => (l[i]?).map fun s => ([], .one s)
    | _ => none
  | .nilCheck x => match st.lf x with
    | some (.ptr b o) => some ([], .one (.lf (.ptr b o)))
    | some (.elp te sz a i o) => some ([], .one (.lf (.elp te sz a i o)))
    | some (.velp te sz i x o) => some ([], .one (.lf (.velp te sz i x o)))
    | _ => none
  | .call c => match c.callee, c.args.toList, c.argTypes.toList with
    | .builtin .len, [x], [t] => match st.lf x with
      | some (.arr te a) => if sliceOf P t = some te then some ([], .one (.lf (.int (.len a)))) else none
      | some (.vec te i) => match look st.vec i with
        | some e => if e.1 = te ∧ sliceOf P t = some te then some ([], .one (.lf (.int (.len e.2)))) else none
        | none => none
      | _ => none
    | .builtin .max, [x, y], _ => match st.lf x, st.lf y with
      | some (.int a), some (.int b) => some ([], .one (.lf (.int (.max a b))))
      | _, _ => none
    | .builtin .min, [x, y], _ => match st.lf x, st.lf y with
      | some (.int a), some (.int b) => some ([], .one (.lf (.int (.min a b))))
      | _, _ => none
    | _, _, _ => none
  | _ => none

section
variable {P : Program} {Γ : Env} {st : St} {ρ : Operand → Value} {w : World} {o : Oper}
theorem one_ok {l : Lf} {O : Nat → Nat → Prop} (h : l.ok P w O Γ) : (SV.one (.lf l)).ok P w O Γ := fun x hx => by simp [S0.cells] at hx; subst hx; exact h

theorem opVal_ok {obs : List B} {sv : SV} (h : opVal P st o = some (obs, sv)) (hv : View P Γ st o.op.operands ρ w) (hob : Obs Γ.ρ obs) :
    (execOp ρ o).run P w = .ok (.value (sv.den Γ)) w ∧ sv.ok P w (Own Γ st) Γ := by
  obtain ⟨dst, op, type, pos, after, guard⟩ := o
  unfold opVal at h
  cases op <;> simp only [] at h <;> try (cases h; done)
  case move x =>
    cases hx : st.ev x with
    | none => simp [hx] at h
    | some s =>
      simp [hx] at h
      obtain ⟨rfl, rfl⟩ := h
      obtain ⟨h1, h2⟩ := hv.slots x (by simp [Op.operands]) _ hx
      exact ⟨by simp [execOp, h1], h2⟩
  case assign x =>
    cases hx : st.ev x with
    | none => simp [hx] at h
    | some s =>
      simp [hx] at h
      obtain ⟨rfl, rfl⟩ := h
      obtain ⟨h1, h2⟩ := hv.slots x (by simp [Op.operands]) _ hx
      exact ⟨by simp [execOp, h1], h2⟩
  case pick c a b =>
    split at h
    · rename_i t hc
      have h3 := (hv.lf (by simp [Op.operands]) hc).1
      cases hx : st.ev (if t then a else b) with
      | none => simp [hx] at h
      | some s =>
        simp [hx] at h
        obtain ⟨rfl, rfl⟩ := h
        obtain ⟨h1, h2⟩ := hv.slots _ (by cases t <;> simp [Op.operands]) _ hx
        refine ⟨?_, h2⟩
        simp only [execOp, h3, Lf.den, B.den, asBool]
        cases t <;> simp at h1 ⊢ <;> exact h1
    · cases h
  case load t x =>
    split at h
    · rename_i l hl
      obtain ⟨h1, h2⟩ := hv.lf (by simp [Op.operands]) hl
      cases hx : loadLf P st.mem st.vec t l with
      | none => simp [hx] at h
      | some s =>
        simp [hx] at h
        obtain ⟨rfl, rfl⟩ := h
        obtain ⟨h3, h4⟩ := run_loadLf hv hx h2
        exact ⟨by simp [execOp, h1, h3, SV.den], h4⟩
    · cases h
  case binOp op t x y yt =>
    split at h
    · rename_i a b ha hb
      obtain ⟨h1, -⟩ := hv.s0 (by simp [Op.operands]) ha
      obtain ⟨h2, -⟩ := hv.s0 (by simp [Op.operands]) hb
      split at h
      · rename_i e he
        cases h
        have he : binW op a b = some e := by
          split at he
          · exact he
          · cases he
        have := run_binW (P := P) (Γ := Γ) he t x y w
        refine ⟨?_, one_ok trivial⟩
        simp only [execOp, h1, h2, S0.den, Lf.den, Sem.run_bind, this, Result.andThen_ok, Sem.run_pure, SV.den]
      cases hr : binLf st.bds op (.int a) (.int b) with
      | none => simp [hr] at h
      | some r =>
        simp [hr] at h
        obtain ⟨rfl, rfl⟩ := h
        have := run_binLf (P := P) hv.num (Γ := Γ) (x := .int a) (y := .int b) (obs := r.1) (l := r.2) hr hob t x y w
        refine ⟨?_, ?_⟩
        · simp only [execOp, h1, h2, S0.den, Sem.run_bind, this, Result.andThen_ok, Sem.run_pure, SV.den]
        · apply one_ok
          simp only [binLf] at hr
          split at hr <;> cases hr <;> trivial
    · rename_i a b ha hb
      obtain ⟨h1, -⟩ := hv.s0 (by simp [Op.operands]) ha
      obtain ⟨h2, -⟩ := hv.s0 (by simp [Op.operands]) hb
      split at h
      · rename_i hu
        cases h
        refine ⟨?_, one_ok trivial⟩
        simp only [execOp, h1, h2, S0.den, Lf.den, eqGuard_at_bool, pure_bind, binOp, Sem.run_bind, run_equal_bool w t _ _ hu, Result.andThen_ok, Sem.run_pure, SV.den, B.den]
      · rename_i hu
        cases h
        refine ⟨?_, one_ok trivial⟩
        simp only [execOp, h1, h2, S0.den, Lf.den, eqGuard_at_bool, pure_bind, binOp, Sem.run_bind, run_equal_bool w t _ _ hu, Result.andThen_ok, Sem.run_pure, SV.den, B.den]
      · cases h
    · rename_i xs ys ha hb
      obtain ⟨h1, -⟩ := hv.s0 (by simp [Op.operands]) ha
      obtain ⟨h2, -⟩ := hv.s0 (by simp [Op.operands]) hb
      split at h
      · rename_i r hg hr
        cases h
        refine ⟨?_, one_ok trivial⟩
        have := run_eqT (Γ := Γ) hv.num 9980 20 t _ _ r hr w
        simp only [S0.den] at this
        simp only [execOp, h1, h2, S0.den, Sem.run_bind, run_eqGuard_agg w _ t x y _ _ hg, Result.andThen_ok, run_eql_struct, this, Sem.run_pure, SV.den, Lf.den]
      · rename_i r hg hr
        cases h
        refine ⟨?_, one_ok trivial⟩
        have := run_eqT (Γ := Γ) hv.num 9980 20 t _ _ r hr w
        simp only [S0.den] at this
        simp only [execOp, h1, h2, S0.den, Sem.run_bind, run_eqGuard_agg w _ t x y _ _ hg, Result.andThen_ok, run_neq_struct, this, Sem.run_pure, SV.den, Lf.den, B.den_mkNot]
      · cases h
    · cases h
  case unOp op t x =>
    split at h
    · rename_i a ha
      obtain ⟨h1, -⟩ := hv.lf (by simp [Op.operands]) ha
      cases h
      refine ⟨?_, one_ok trivial⟩
      have e := rng_ok hv.num hob
      simp only [E.den_sub, E.den_lit] at e
      simp only [execOp, h1, Lf.den, Op.unary, Op.intArith, Sem.run_bind, Sem.run_pure, Result.andThen_ok, SV.den, S0.den, E.den_mkSub, E.den_lit]
      rw [e]
    · rename_i b hb
      obtain ⟨h1, -⟩ := hv.lf (by simp [Op.operands]) hb
      cases h
      refine ⟨?_, one_ok trivial⟩
      simp only [execOp, h1, Lf.den, Op.unary, Sem.run_bind, Sem.run_pure, Result.andThen_ok, SV.den, S0.den, B.den_mkNot]
    · cases h
  case fieldAddr s x f =>
    split at h
    · rename_i k l hk hl
      obtain ⟨h1, h2⟩ := hv.lf (by simp [Op.operands]) hl
      cases hs : l.shift k with
      | none => simp [hs] at h
      | some l' =>
        simp [hs] at h
        obtain ⟨rfl, rfl⟩ := h
        obtain ⟨h3, h4⟩ := run_shift hk hs h2
        exact ⟨by simp [execOp, h1, h3, SV.den, S0.den], one_ok h4⟩
    · cases h
  case field s x f =>
    split at h
    · rename_i fs cs hu hc
      obtain ⟨h1, h2⟩ := hv.s0 (by simp [Op.operands]) hc
      split at h
      · rename_i fd hf
        cases hp : partS P fd.type cs fd.offset with
        | none => simp [hp] at h
        | some s' =>
          simp [hp] at h
          obtain ⟨rfl, rfl⟩ := h
          refine ⟨?_, fun l hl => h2 l (partS_cells hp l hl)⟩
          simp [execOp, h1, Instr.field, run_underlying hu, hf, S0.den, asAgg, run_partS hp, SV.den]
      · cases h
    · cases h
  case indexAddr t x ix =>
    split at h
    · rename_i l e hl he
      obtain ⟨h1, h2⟩ := hv.lf (by simp [Op.operands]) hl
      obtain ⟨h3, -⟩ := hv.lf (by simp [Op.operands]) he
      cases hr : idxLf P st.vec st.bds t l e with
      | none => simp [hr] at h
      | some r =>
        simp [hr] at h
        obtain ⟨rfl, rfl⟩ := h
        obtain ⟨h5, h6⟩ := run_idxLf (obs := r.1) (l' := r.2) hv.vec hv.num hr h2 hob
        refine ⟨?_, one_ok h6⟩
        simp only [execOp, h1, h3, Sem.run_bind]
        simp only [Lf.den] at h5 ⊢
        rw [h5]
        rfl
    · cases h
  case build t ps =>
    split at h
    · rename_i r hr
      obtain ⟨h1, h2⟩ := parts_ok hv ps.toList r hr (fun p hp => by simp [Op.operands]; exact ⟨p.1, by simpa using hp⟩)
      cases hb : buildLf P t r with
      | none => simp [hb] at h
      | some cs =>
        simp [hb] at h
        obtain ⟨rfl, rfl⟩ := h
        have h3 := built_buildLf hb Γ (fun p hp l hl => one_cells (Lf.one_cell (List.all_eq_true.1 (h2 p hp).2 l hl) ((h2 p hp).1 l hl)))
        refine ⟨?_, ?_⟩
        · simp only [execOp, Sem.run_bind]
          rw [run_build w t _ (dens Γ cs) (by rw [← h3, ← h1]; congr 1; simp)]
          rfl
        · intro l hl
          unfold buildLf at hb
          have zok : ∀ z, zeroLf P t = some z → l ∈ z → l.ok P w (Own Γ st) Γ := fun z hz hl => by
            unfold zeroLf at hz
            split at hz
            · rename_i it hi
              cases hzz : it.zero with
              | none => simp [hzz] at hz
              | some zv =>
                simp [hzz] at hz
                subst hz
                obtain ⟨v, -, rfl⟩ := List.mem_map.1 hl
                unfold Lf.ofValue
                split <;> trivial
            · cases hz
          split at hb
          · rename_i z n e hz hu
            split at hb
            · rcases fillLf_mem _ _ _ _ hb l hl with h4 | ⟨p, hp, h4⟩
              · exact zok _ hz h4
              · exact (h2 p hp).1 l h4
            · cases hb
          · rename_i z fs hz hu
            split at hb
            · rcases fillLf_mem _ _ _ _ hb l hl with h4 | ⟨p, hp, h4⟩
              · exact zok _ hz h4
              · exact (h2 p hp).1 l h4
            · cases hb
          · cases hb
    · cases h
  case extract x i =>
    split at h
    · rename_i l hl
      obtain ⟨h1, h2⟩ := hv.slots x (by simp [Op.operands]) _ hl
      cases hi : l[i]? with
      | none => simp [hi] at h
      | some s =>
        simp [hi] at h
        obtain ⟨rfl, rfl⟩ := h
        refine ⟨?_, h2 s (List.mem_of_getElem? hi)⟩
        simp [execOp, h1, SV.den, Instr.extract, hi]
    · cases h
  case nilCheck x =>
    split at h
    · rename_i b p hl
      obtain ⟨h1, h2⟩ := hv.lf (by simp [Op.operands]) hl
      cases h
      exact ⟨by simp [execOp, h1, Lf.den, SV.den, S0.den], one_ok h2⟩
    · rename_i te sz a i p hl
      obtain ⟨h1, h2⟩ := hv.lf (by simp [Op.operands]) hl
      cases h
      refine ⟨?_, one_ok h2⟩
      obtain ⟨b, q, he, -⟩ := h2.1.addr h2.2.1 h2.2.2.1
      simp [execOp, h1, Lf.den, SV.den, S0.den, he]
    · rename_i te sz i x p hl
      obtain ⟨h1, h2⟩ := hv.lf (by simp [Op.operands]) hl
      cases h
      refine ⟨?_, one_ok h2⟩
      obtain ⟨b, n, cap, hloc, -⟩ := h2
      simp [execOp, h1, Lf.den, SV.den, S0.den, hloc, elemAt]
    · cases h
  case call c =>
    obtain ⟨callee, args, argTypes⟩ := c
    simp only [] at h
    split at h
    · rename_i x t hargs htypes
      have ea : args = #[x] := by rw [← Array.toList_inj, hargs]
      have et : argTypes = #[t] := by rw [← Array.toList_inj, htypes]
      subst ea et
      split at h
      · rename_i te a hl
        obtain ⟨h1, h2⟩ := hv.lf (by simp [Op.operands, Call.operands]) hl
        split at h
        · rename_i hs
          cases h
          have hu := sliceOf_eq hs
          obtain ⟨p, cap, hloc⟩ := ArrOK.loc h2
          refine ⟨?_, one_ok trivial⟩
          simp only [execOp, resolve, invoke, builtin, List.map_toArray, List.map_cons, List.map_nil, h1, Lf.den, hloc, pure_bind, Sem.run_bind]
          rw [run_len_slice w t _ p _ cap (by simp [Program.elem, hu])]
          simp only [Result.andThen_ok, Sem.run_pure, goInt, SV.den, S0.den, Lf.den, E.den_len]
        · cases h
      · rename_i te i hl
        obtain ⟨h1, h2⟩ := hv.lf (by simp [Op.operands, Call.operands]) hl
        split at h
        · rename_i e hi
          split at h
          · rename_i hs
            cases h
            have hu := sliceOf_eq hs.2
            obtain ⟨p, cap, hloc⟩ := (hv.vec i e hi).slice
            refine ⟨?_, one_ok trivial⟩
            simp only [execOp, resolve, invoke, builtin, List.map_toArray, List.map_cons, List.map_nil, h1, Lf.den, hloc, pure_bind, Sem.run_bind]
            rw [run_len_slice w t _ p _ cap (by simp [Program.elem, hu])]
            simp only [Result.andThen_ok, Sem.run_pure, goInt, SV.den, S0.den, Lf.den, E.den_len]
          · cases h
        · cases h
      · cases h
    · rename_i ts x y hargs
      have ea : args = #[x, y] := by rw [← Array.toList_inj, hargs]
      subst ea
      split at h
      · rename_i a b hx hy
        obtain ⟨h1, -⟩ := hv.lf (by simp [Op.operands, Call.operands]) hx
        obtain ⟨h2, -⟩ := hv.lf (by simp [Op.operands, Call.operands]) hy
        cases h
        refine ⟨?_, one_ok trivial⟩
        simp only [execOp, resolve, invoke, builtin, List.map_toArray, List.map_cons, List.map_nil, h1, h2, Lf.den, pure_bind, Sem.run_bind, Builtin.max_, List.foldlM, Builtin.max2]
        simp only [Result.andThen_ok, Sem.run_pure, SV.den, S0.den, Lf.den, E.den_max, Sem.run_bind]
        rw [show (if E.den Γ.ρ b > E.den Γ.ρ a then E.den Γ.ρ b else E.den Γ.ρ a) = Max.max (E.den Γ.ρ a) (E.den Γ.ρ b) from by split <;> omega]
      · cases h
    · rename_i ts x y hargs
      have ea : args = #[x, y] := by rw [← Array.toList_inj, hargs]
      subst ea
      split at h
      · rename_i a b hx hy
        obtain ⟨h1, -⟩ := hv.lf (by simp [Op.operands, Call.operands]) hx
        obtain ⟨h2, -⟩ := hv.lf (by simp [Op.operands, Call.operands]) hy
        cases h
        refine ⟨?_, one_ok trivial⟩
        simp only [execOp, resolve, invoke, builtin, List.map_toArray, List.map_cons, List.map_nil, h1, h2, Lf.den, pure_bind, Sem.run_bind, Builtin.min_, List.foldlM, Builtin.min2]
        simp only [Result.andThen_ok, Sem.run_pure, SV.den, S0.den, Lf.den, E.den_min, Sem.run_bind]
        rw [show (if E.den Γ.ρ b < E.den Γ.ρ a then E.den Γ.ρ b else E.den Γ.ρ a) = Min.min (E.den Γ.ρ a) (E.den Γ.ρ b) from by split <;> omega]
      · cases h
    · cases h
end
end Go.Proofs.Ytlbgcjpkegpmlaa
