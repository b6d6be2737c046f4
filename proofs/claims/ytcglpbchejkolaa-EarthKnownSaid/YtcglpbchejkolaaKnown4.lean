/- Texts laid into one: Et Ew El. -/
import Derived.Test.YtcglpbchejkolaaKnown3
import Derived.StillTail
import Derived.OrdersHeld
/- The engine, part 11b: regions that draw their order: operations that come in any order, then some one by one. -/
namespace Go.Proofs.Ytcglpbchejkolaa
open Go.RowKit
set_option linter.unusedSimpArgs false
set_option linter.unusedVariables false

def Lk.flatNum : Lk → Bool
  | .int | .bool => true
  | _ => false
/-- An operation that may come in any order. -/
def freeOp (cx : Cx) (o : Oper) : Bool :=
  match o.op with
  | .binOp op t _ _ _ => !((eqNeg op).isSome && (sliceOf cx.P t).isSome)
  | .move _ | .assign _ | .pick .. | .load .. | .convert .. | .index .. | .unOp .. | .fieldAddr .. | .field .. | .indexAddr .. | .build .. | .extract .. | .nilCheck _ => true
  | .call c => match c.callee with
    | .value (.func f) => (cx.sel f).isNone && (((cx.inl f).isSome && (cx.ct f).isNone) || (match cx.ct f with
      | some ct => (cx.inl f).isNone && ct.det && (kindsOf ct.res).all Lk.flatNum && ct.args.all (fun s => !s.isBox) && ct.res.all (fun s => !s.isBox)
      | none => false))
    | .builtin .len | .builtin .max | .builtin .min => true
    | _ => false
  | _ => false
def waits (ops : Array Oper) (i j : Nat) : Bool :=
  match ops[i]? with
  | some o => o.after.any fun e => Region.binds .any e && Nat.beq e.on j
  | none => false
def dstOf (ops : Array Oper) (j : Nat) : Option Tmp := (ops[j]?).bind (·.dst)
/-- The first n operations: each slot is written once, and read only behind its writer. -/
def headOk (ops : Array Oper) (n : Nat) : Bool :=
  (List.range n).all fun i => match ops[i]? with
    | some o => (List.range n).all fun j => match dstOf ops j with
      | some t => (Nat.beq i j || decide (o.dst ≠ some t)) && (!(o.looksAt ops).contains t || (Nat.blt j i && waits ops i j))
      | none => true
    | none => false
/-- Those behind them wait for all of them, and come one by one. -/
def tailOk (ops : Array Oper) (n : Nat) : Bool :=
  decide (n ≤ ops.size) &&
  (Nat.beq n ops.size || (Region.sinkB .any ops n && Region.chainB .any ops n)) &&
  Region.seqB .any ops (ops.size - n) n ((List.replicate n true ++ List.replicate (ops.size - n) false).toArray) &&
  (List.range n).all fun i => match ops[i]? with
    | some o => o.after.all fun e => !Region.binds .any e || Nat.blt e.on i
    | none => false
def headLen (cx : Cx) (ops : Array Oper) : Nat := (ops.toList.takeWhile (freeOp cx)).length
/-- An allocation that may come before or among the free ones. -/
def allocOp (P : Program) (o : Oper) : Bool := (match o.op with | .alloc t => (zeroLf P t).isSome | _ => false) && o.guard.isNone && o.dst.isSome && o.after.isEmpty
def drawLen (cx : Cx) (ops : Array Oper) : Nat := headLen cx ops + ((ops.toList.drop (headLen cx ops)).takeWhile (allocOp cx.P)).length
def drawOk (cx : Cx) (ops : Array Oper) : Bool := headOk ops (drawLen cx ops) && tailOk ops (drawLen cx ops)

section
variable {cx : Cx} {R : List C → Prop} {F : Nat → Prop} {w0 : World}

/-- The blocks that have been made, of those that the allocations make. -/
def madeOf (ob : Nat → Option Nat) (b : Nat) : Prop := ∃ j, ob j = some b
theorem madeOf_none (b : Nat) : ¬ madeOf (fun _ => none) b := fun ⟨_, h⟩ => by cases h
/-- An operation's value, whatever the world of the class and wherever the frame is alike at what it reads. -/
def Quiet (P : Program) (ops : Array Oper) (Cl : (Nat → Option Nat) → World → Prop) (o : Oper) (v : Value) (a : Act) : Prop :=
  (Region.wanted o (yielded ops a.tmps) = true ∧ ∀ a', (∀ x ∈ o.op.operands, a'.eval x = a.eval x) → ∀ ob w, Cl ob w → ∀ K Q, (∀ w', Cl ob w' → K (a'.put o.dst v) w') → o.wp P a' w K Q) ∨
  (Region.wanted o (yielded ops a.tmps) = false ∧ v = undef)

/-- All that is known holds in each world of a class that a call does not leave. -/
structure Cls (P : Program) (F : Nat → Prop) (w0 : World) (Cl : (Nat → Option Nat) → World → Prop) (Γ : Env) (st : St) (a : Act) : Prop where
  sat : ∀ ob w, Cl ob w → Sat P F w0 (Γ.addO (madeOf ob)) st a w
  below : ∀ ob w w', Cl ob w → Below w.heap.size w w' → Cl ob w'
theorem View.congr {P : Program} {Γ : Env} {st : St} {xs : Array Operand} {ρ ρ' : Operand → Value} {w : World} (h : View P Γ st xs ρ w) (he : ∀ x ∈ xs, ρ' x = ρ x) : View P Γ st xs ρ' w :=
  ⟨fun x hx sv hs => by rw [he x hx]; exact h.slots x hx sv hs, h.mem, h.vec, h.clo, h.num⟩

theorem boxKinds_none {ss : List Sh0} (h : ss.all (fun s => !s.isBox) = true) : boxKinds ss = [] := by
  induction ss with
  | nil => rfl
  | cons s ss ih =>
    simp only [List.all_cons, Bool.and_eq_true] at h
    have e : boxKinds (s :: ss) = boxKinds ss := by cases s <;> first | rfl | cases h.1
    rw [e]; exact ih h.2
theorem flatNum_flatK {P : Program} {ks : List Lk} (h : ks.all Lk.flatNum = true) : ks.all (flatK P) = true ∧ ks.all Lk.noArr = true ∧ ks.all Lk.noVec = true := by
  induction ks with
  | nil => exact ⟨rfl, rfl, rfl⟩
  | cons k ks ih =>
    simp only [List.all_cons, Bool.and_eq_true] at h ⊢
    obtain ⟨h1, h2, h3⟩ := ih h.2
    cases k <;> first | exact ⟨⟨rfl, h1⟩, ⟨rfl, h2⟩, ⟨rfl, h3⟩⟩ | cases h.1
theorem clearT_slice {o : Oper} {rest : List Oper} {st : St} {k : St → Option Tree} (h : ∀ t x y u v, o.op ≠ .slice t x y u v) : clearT cx st o rest k = none := by
  unfold clearT
  split
  · rename_i hop _ _; exact absurd hop (h _ _ _ _ _)
  · rfl
theorem clearT_free {o : Oper} {rest : List Oper} {st : St} {k : St → Option Tree} (h : freeOp cx o = true) : clearT cx st o rest k = none :=
  clearT_slice fun t x y u v e => by rw [freeOp, e] at h; cases h
theorem freeOp_freeze {o : Oper} (h : freeOp cx o = true) (st : St) : toFreeze cx st o = [] := by
  unfold freeOp at h
  unfold toFreeze
  cases hop : o.op <;> rw [hop] at h <;> simp only [] at h ⊢ <;> try (first | rfl | cases h)
  · rename_i c
    split at h
    · rename_i f hf
      simp only [hf]
      simp only [Bool.and_eq_true, Bool.or_eq_true] at h
      rcases h.2 with h1 | h1
      · cases hct : cx.ct f with
        | none => rfl
        | some ct => rw [hct] at h1; cases h1.2
      · cases hct : cx.ct f with
        | none => rfl
        | some ct =>
          rw [hct] at h1
          simp only [Bool.and_eq_true] at h1
          simp only []
          rw [if_pos]
          rw [List.all_append, Bool.and_eq_true, boxKinds_none h1.1.2]
          exact ⟨(flatNum_flatK h1.1.1.2).1, rfl⟩
    · rename_i hf; simp only [hf]
    · rename_i hf; simp only [hf]
    · rename_i hf; simp only [hf]
    · cases h
theorem doOp_quiet (hcx : CxOK cx) {ops : Array Oper} {Cl : (Nat → Option Nat) → World → Prop} {w1 : World} (hw1 : Cl (fun _ => none) w1) {st : St} {o : Oper} (hfree : freeOp cx o = true) {k : St → Option Tree} {T : Tree} (h : doOp cx st o k = some T)
    {Γ : Env} {Ls : List (List C → Prop)} (hvc : VC cx R T Γ.ρ Ls) {a : Act} (hcl : Cls cx.P F w0 Cl Γ st a) (hwant : Region.wanted o (yielded ops a.tmps) = true) :
    ∃ v st' T' Γ', k st' = some T' ∧ Ext Γ Γ' ∧ st'.lvl = st.lvl ∧ VC cx R T' Γ'.ρ Ls ∧ Cls cx.P F w0 Cl Γ' st' (a.put o.dst v) ∧ Quiet cx.P ops Cl o v a ∧ st'.mem = st.mem ∧ st'.nb = st.nb := by
  have hs : Sat cx.P F w0 Γ st a w1 := by have := hcl.sat (fun _ => none) w1 hw1; rwa [Env.addO_no madeOf_none] at this
  have hv := hs.view o.op.operands
  unfold doOp at h
  split at h
  · rename_i obs sv hop
    have hval : ∀ a', (∀ x ∈ o.op.operands, a'.eval x = a.eval x) → Obs Γ.ρ obs → ∀ ob w, Cl ob w → ∀ K Q, (∀ w', Cl ob w' → K (a'.put o.dst (sv.den Γ)) w') → o.wp cx.P a' w K Q := fun a' ha' hob ob w hw K Q hK => by
      have hsw := hcl.sat ob w hw
      unfold Oper.wp
      rw [(opVal_ok hop ((hsw.view _).congr ha') hob).1, SV.den_addO]
      exact hK w hw
    have plain : ((st.learnAll obs).put o.dst (some sv)).bind (fun st => (k st).map (obT obs)) = some T → ∃ v st' T' Γ', k st' = some T' ∧ Ext Γ Γ' ∧ st'.lvl = st.lvl ∧ VC cx R T' Γ'.ρ Ls ∧ Cls cx.P F w0 Cl Γ' st' (a.put o.dst v) ∧ Quiet cx.P ops Cl o v a ∧ st'.mem = st.mem ∧ st'.nb = st.nb := fun h => by
      cases hp : (st.learnAll obs).put o.dst (some sv) with
      | none => simp [hp] at h
      | some st' =>
        cases hk' : k st' with
        | none => simp [hp, hk'] at h
        | some T' =>
          simp [hp, hk'] at h
          subst h
          obtain ⟨hob, hvc'⟩ := VC.obT hvc
          refine ⟨sv.den Γ, st', T', Γ, hk', Ext.refl _, by rw [St.put_lvl hp]; rfl, hvc', ⟨fun ob w hw => ?_, hcl.below⟩, .inl ⟨hwant, fun a' ha' => hval a' ha' hob⟩, by rw [St.put_mem hp]; rfl, by rw [St.put_nb hp]; rfl⟩
          have hsw := hcl.sat ob w hw
          have := (hsw.learn hob).put hp (opVal_ok hop (hsw.view _) hob).2
          rwa [SV.den_addO] at this
    split at h
    · rename_i s
      split at h
      · rename_i s' st1 n hn
        cases hp : st1.put o.dst (some (.one s')) with
        | none => simp [hp] at h
        | some st' =>
          cases hk' : k st' with
          | none => simp [hp, hk'] at h
          | some T' =>
            simp [hp, hk'] at h
            subst h
            obtain ⟨hob, hvc'⟩ := VC.obT hvc
            have hvc2 := VC.dfnN hvc'
            obtain ⟨e1, -, e3, -, e5, e6, e7, -⟩ := (hs.learn hob).nils hn (opVal_ok hop hv hob).2
            refine ⟨(SV.one s).den Γ, st', T', { Γ with ρ := Γ.ρ ++ List.replicate n nilC }, hk', e1, by rw [St.put_lvl hp, e5]; rfl, hvc2, ⟨fun ob w hw => ?_, hcl.below⟩, .inl ⟨hwant, fun a' ha' => hval a' ha' hob⟩, by rw [St.put_mem hp, e7]; rfl, by rw [St.put_nb hp, e6]; rfl⟩
            have hsw := hcl.sat ob w hw
            obtain ⟨-, f2, f3, f4, -⟩ := (hsw.learn hob).nils hn (opVal_ok hop (hsw.view _) hob).2
            have := f2.put hp (sv := .one s') f4
            rw [show (SV.one s').den _ = (SV.one s).den (Γ.addO (madeOf ob)) from f3, SV.den_addO] at this
            exact this
      · exact plain h
    · exact plain h
  · split at h
    · rename_i op t x y yt hopeq
      split at h
      · rename_i te ta e l neg hte hx hy hneg
        simp [freeOp, hopeq, hte, hneg] at hfree
      · cases h
    · rename_i t hopeq; simp [freeOp, hopeq] at hfree
    · rename_i t x hopeq; simp [freeOp, hopeq] at hfree
    · rename_i t p x hopeq; simp [freeOp, hopeq] at hfree
    · rename_i t len ps hopeq; simp [freeOp, hopeq] at hfree
    · rename_i t n m hopeq; simp [freeOp, hopeq] at hfree
    · rename_i f first cap hopeq; simp [freeOp, hopeq] at hfree
    · rename_i t x y hopeq; simp [freeOp, hopeq] at hfree
    · rename_i c hopeq
      obtain ⟨callee, cargs, ctypes⟩ := c
      simp only [] at h
      split at h
      · rename_i la lb hargs; simp [freeOp, hopeq] at hfree
      · rename_i f args hargs
        have hmap : ∀ (a' : Act) (ob : Nat → Option Nat) (w : World), (∀ x ∈ o.op.operands, a'.eval x = a.eval x) → Cl ob w → (cargs.map a'.eval = (args.map (S0.den Γ)).toArray) ∧ ∀ s ∈ args, s.ok cx.P w (Own (Γ.addO (madeOf ob)) st) (Γ.addO (madeOf ob)) := fun a' ob w ha' hw => by
          obtain ⟨ha1, ha2⟩ := s0s_ok (((hcl.sat ob w hw).view o.op.operands).congr ha') cargs.toList args hargs (fun x hx => by rw [hopeq]; simp [Op.operands, Call.operands]; right; simpa using hx)
          rw [List.map_congr_left fun x _ => S0.den_addO Γ (madeOf ob) x] at ha1
          exact ⟨by apply Array.ext'; simp [ha1], ha2⟩
        have hrun : ∀ (a' : Act) (ob : Nat → Option Nat) (w : World), (∀ x ∈ o.op.operands, a'.eval x = a.eval x) → Cl ob w → ∀ hc : Callable cx.P f, (execOp a'.eval o).run cx.P w = .ok (.enter f (args.map (S0.den Γ)).toArray) w := fun a' ob w ha' hw hc => by
          unfold execOp
          rw [hopeq]
          simp only [resolve, Deferred.ofValue, Act.eval, (hmap a' ob w ha' hw).1, pure_bind, invoke, Array.empty_append, Array.append_empty, Sem.run_bind, Sem.run_pure, Result.andThen_ok]
          exact run_callFunc' hc _ _
        have hsn : cx.sel f = none := by
          simp only [freeOp, hopeq, Bool.and_eq_true, Option.isNone_iff_eq_none] at hfree
          exact hfree.1
        rw [hsn] at h
        simp only [] at h
        split at h
        · rename_i g hg
          obtain ⟨hc, hi⟩ := hcx.inl f g hg
          split at h
          · rename_i obs s hgs
            cases hp : (st.learnAll obs).put o.dst (some (.one s)) with
            | none => simp [hp] at h
            | some st' =>
              cases hk' : k st' with
              | none => simp [hp, hk'] at h
              | some T' =>
                simp [hp, hk'] at h
                subst h
                obtain ⟨hob, hvc'⟩ := VC.obT hvc
                obtain ⟨hpl, hcall⟩ := hi Γ st.bds args obs s hs.num hgs hob
                have hsok : ∀ ob w, (SV.one s).ok cx.P w (Own (Γ.addO (madeOf ob)) st) (Γ.addO (madeOf ob)) := fun ob w l hl => by
                  have := List.all_eq_true.1 hpl l hl
                  cases l <;> first | trivial | cases this
                refine ⟨(SV.one s).den Γ, st', T', Γ, hk', Ext.refl _, by rw [St.put_lvl hp]; rfl, hvc', ⟨fun ob w hw => ?_, hcl.below⟩, .inl ⟨hwant, fun a' ha' ob w hw K Q hK => ?_⟩, by rw [St.put_mem hp]; rfl, by rw [St.put_nb hp]; rfl⟩
                · have := ((hcl.sat ob w hw).learn hob).put hp (hsok ob w)
                  rwa [SV.den_addO] at this
                unfold Oper.wp
                rw [hrun a' ob w ha' hw hc]
                refine (hcall w).mono fun e w' ⟨he, hb⟩ => ?_
                subst he
                exact hK w' (hcl.below ob w w' hw hb)
          · cases h
        · rename_i hinl
          unfold callF at h
          split at h
          rotate_left
          · rename_i hct
            exfalso
            simp only [freeOp, hopeq, hct, hinl] at hfree
            simp at hfree
          unfold callCt at h
          split at h
          · rename_i ct hct
            obtain ⟨hc, hcok, hdet⟩ := hcx.ct f ct hct
            have hfr : ((ct.det = true ∧ (kindsOf ct.res).all Lk.flatNum = true) ∧ ct.args.all (fun s => !s.isBox) = true) ∧ ct.res.all (fun s => !s.isBox) = true := by
              simp only [freeOp, hopeq, hct, Bool.or_eq_true, Bool.and_eq_true] at hfree
              rcases hfree.2 with h1 | h1
              · rw [hinl] at h1; cases h1.1
              · exact ⟨⟨⟨h1.1.1.1.2, h1.1.1.2⟩, h1.1.2⟩, h1.2⟩
            obtain ⟨⟨hfr0, hab⟩, hrb⟩ := hfr
            obtain ⟨hfK, hfA, hfV⟩ := flatNum_flatK (P := cx.P) hfr0.2
            have hfr : ct.det = true ∧ (kindsOf ct.res).all Lk.noArr = true := ⟨hfr0.1, hfA⟩
            have hvb : ∀ rs, vecB (kindsOf ct.res) rs = [] := fun rs => vecB_noVec hfV
            split at h
            · rename_i hcond
              obtain ⟨hsh, hwf, hbx, -⟩ := hcond
              generalize hargs' : adapts cx.P st.vec ct.args args = args' at *
              obtain ⟨n1, n2, n3, n4⟩ := shapes_noBox hsh hab
              have hcall : st.called ct args' = { st with nx := st.nx + (kindsOf ct.res ++ boxKinds ct.args).length } := by unfold St.called boxMem; rw [freshMem_noBox _ _ _ hrb, n1, freshV_noVec hfV]; rfl
              rw [hcall] at h
              generalize hst1 : ({ st with nx := st.nx + (kindsOf ct.res ++ boxKinds ct.args).length } : St) = st1 at h
              cases hp : st1.put o.dst (some (svOf (freshS st.nb ct.res st.nx))) with
              | none => simp [hp] at h
              | some st' =>
                cases hk' : k st' with
                | none => simp [hp, hk'] at h
                | some T' =>
                  simp [hp, hk'] at h
                  subst h
                  obtain ⟨hob, hvc'⟩ := VC.obT hvc
                  simp only [VC, hct] at hvc'
                  obtain ⟨hpre, hall⟩ := hvc'
                  have hcalls : ∀ ob w, Cl ob w → Calls cx.P f (args.map (S0.den Γ)).toArray w fun e w' => ∃ v rs, e = .returned v ∧ Res cx.P w' (Own (Γ.addO (madeOf ob)) st) w.heap.size ct.res v rs ∧ ct.post (cs_ Γ.ρ (cellsOf st.mem args')) rs ∧ Below w.heap.size w w' := fun ob w hw => by
                    have hsw := hcl.sat ob w hw
                    obtain ⟨hden, hok'⟩ := adapts_spec hsw (O' := OwnM (Γ.addO (madeOf ob)) st) (fun _ _ h => h.own) (shs := ct.args) (fun s hs' l hl' hv i e hi b hb o ho => by
                      rcases ho with ho | ⟨j, ho⟩
                      · exact ((hsw.vec i e hi).2.2 b hb).2 o ho
                      · have := (hsw.inj _ _ _ _ _ ho (Hold.vec (Γ := Γ.addO (madeOf ob)) hi hb)).1; cases this) (hmap a ob w (fun _ _ => rfl) hw).2
                    rw [hargs'] at hden hok'
                    have hnv : (kindsOf ct.args).all Lk.noVec = true := by
                      simp only [boxOk, Bool.and_eq_true] at hbx; exact hbx.2
                    have hr := cells_rep (P := cx.P) (w := w) (Γ := Γ.addO (madeOf ob)) (old := none) hs.num hsh (shapes_okR (Γ := Γ.addO (madeOf ob)) hsh hnv hok').1 (fun b mb hb => absurd hb (n4 b)) hob
                    rw [hden, List.map_congr_left fun x _ => S0.den_addO Γ (madeOf ob) x] at hr
                    refine (hcok (OwnM (Γ.addO (madeOf ob)) st) w _ _ (fun b o hb => hsw.own_lt b o hb.own) hr hpre).mono ?_
                    rintro e w' ⟨v, rs, outs, rfl, hres, houts, hpost, hkeep⟩
                    have ho := outs_noBox hab houts
                    subst ho
                    rw [List.append_nil] at hpost
                    exact ⟨v, rs, rfl, hres.flat hfK, hpost, ⟨hkeep.os, hkeep.tape, hkeep.output, hkeep.size, fun i hi => hkeep.block i ⟨hi, n3 _ i⟩⟩⟩
                  obtain ⟨e, w', fr, ⟨v, rs, -, hres, hpost, -⟩, -⟩ := hcalls (fun _ => none) w1 hw1 []
                  have hty0 : CTy cx.P (kindsOf ct.res) rs := by obtain ⟨vs, -, hr, -⟩ := hres; exact hr.ty
                  have hty : CTy cx.P (kindsOf ct.res ++ boxKinds ct.args) rs := by rw [n2, List.append_nil]; exact hty0
                  have hvc2 := allC_elim hall rs hty hpost
                  have hsm : Smalls (Γ.ρ ++ rs) := hs.num.len.app fun c hc' => hty.small c hc'
                  have hlvl : st1.lvl = st.lvl := by rw [← hst1]
                  have hden : ∀ ob w v, Res cx.P w (Own (Γ.addO (madeOf ob)) st) w.heap.size ct.res v rs → (svOf (freshS st.nb ct.res st.nx)).den { Γ with ρ := Γ.ρ ++ rs } = v := fun ob w v hr =>
                    (svOf_rep (Γ := { Γ with ρ := Γ.ρ ++ rs }) (nb := st.nb) hr (fun vs _ _ b hb => absurd hb (isBox_noBox hrb)) (i := st.nx) (fun j c hj => by rw [← hs.len]; exact at_app hj)).1
                  have hden' : ∀ ob w n v, Res cx.P w (Own (Γ.addO (madeOf ob)) st) n ct.res v rs → (svOf (freshS st.nb ct.res st.nx)).den { Γ with ρ := Γ.ρ ++ rs } = v := fun ob w n v hr =>
                    (svOf_rep (Γ := { Γ with ρ := Γ.ρ ++ rs }) (nb := st.nb) hr (fun vs _ _ b hb => absurd hb (isBox_noBox hrb)) (i := st.nx) (fun j c hj => by rw [← hs.len]; exact at_app hj)).1
                  have hnoarr : ∀ (O : Nat → Nat → Prop) (w : World) (Γ' : Env), (svOf (freshS st.nb ct.res st.nx)).ok cx.P w O Γ' := fun O w Γ' => by
                    have hL : ∀ (ks : List Lk) (i : Nat), ks.all Lk.flatNum = true → ∀ l ∈ freshL ks i, l.ok cx.P w O Γ' := by
                      intro ks
                      induction ks with
                      | nil => intro i _ l hl; cases hl
                      | cons k ks ih =>
                        intro i hk l hl
                        simp only [List.all_cons, Bool.and_eq_true] at hk
                        rcases List.mem_cons.1 hl with rfl | hl
                        · cases k with
                          | int => trivial
                          | bool => trivial
                          | _ => cases hk.1
                        · exact ih _ hk.2 l hl
                    have hS : ∀ (ss : List Sh0) (i : Nat), (kindsOf ss).all Lk.flatNum = true → ∀ s ∈ freshS st.nb ss i, s.ok cx.P w O Γ' := by
                      intro ss
                      induction ss with
                      | nil => intro i _ l hl; cases hl
                      | cons s ss ih =>
                        intro i hk x hx
                        have hk' : s.kinds.all Lk.flatNum = true ∧ (kindsOf ss).all Lk.flatNum = true := by
                          simp only [kindsOf, List.flatMap_cons, List.all_append, Bool.and_eq_true] at hk
                          exact hk
                        rcases List.mem_cons.1 hx with rfl | hx
                        · cases s with
                          | lf k =>
                            intro l hl
                            exact hL [k] i hk'.1 l (by simpa [Sh0.fresh, S0.cells, freshL] using hl)
                          | agg ks => exact hL ks i hk'.1
                          | box t ks => intro l hl; simp [Sh0.fresh, S0.cells] at hl; subst hl; trivial
                        · exact ih _ hk'.2 x hx
                    have := hS ct.res st.nx hfr0.2
                    unfold svOf
                    split
                    · rename_i s hs'
                      exact this s (by rw [hs']; simp)
                    · exact this
                  refine ⟨(svOf (freshS st.nb ct.res st.nx)).den { Γ with ρ := Γ.ρ ++ rs }, st', T', { Γ with ρ := Γ.ρ ++ rs }, hk', ⟨⟨rs, rfl⟩, fun _ _ => rfl, Nat.le_refl _, rfl, rfl⟩, (St.put_lvl hp).trans hlvl, hvc2, ⟨fun ob w hw => ?_, hcl.below⟩, .inl ⟨hwant, fun a' ha' ob w hw K Q hK => ?_⟩, by rw [St.put_mem hp, ← hst1], by rw [St.put_nb hp, ← hst1]⟩
                  · have hgrow := (hcl.sat ob w hw).grow hwf hsm
                    rw [hty.len, hst1] at hgrow
                    have := hgrow.put hp (hnoarr _ w _)
                    rwa [show ({ Γ.addO (madeOf ob) with ρ := (Γ.addO (madeOf ob)).ρ ++ rs } : Env) = ({ Γ with ρ := Γ.ρ ++ rs } : Env).addO (madeOf ob) from rfl, SV.den_addO] at this
                  · unfold Oper.wp
                    rw [hrun a' ob w ha' hw hc]
                    refine (hcalls ob w hw).mono ?_
                    rintro e w' ⟨v', rs', rfl, hres', hpost', hb⟩
                    have e := hdet hfr.1 _ _ _ hpost hpost'
                    subst e
                    rw [← hden' ob w' _ v' hres']
                    exact hK w' (hcl.below ob w w' hw hb)
            · cases h
          · cases h
      · simp [freeOp, hopeq] at hfree
      · cases h
    · cases h
theorem Quiet.skip {P : Program} {ops : Array Oper} {Cl : (Nat → Option Nat) → World → Prop} {o : Oper} {a : Act} (h : Region.wanted o (yielded ops a.tmps) = false) : Quiet P ops Cl o undef a := .inr ⟨h, rfl⟩
/-- The frame behind the first operations of a row. -/
def putAll : List Oper → List Value → Act → Act
  | o :: l, v :: vs, a => putAll l vs (a.put o.dst v)
  | _, _, a => a
/-- What each operation of a row yields, one behind the other. -/
def Yield (P : Program) (ops : Array Oper) (Cl : (Nat → Option Nat) → World → Prop) : List Oper → List Value → Act → Prop
  | [], [], _ => True
  | o :: l, v :: vs, a => Quiet P ops Cl o v a ∧ Yield P ops Cl l vs (a.put o.dst v)
  | _, _, _ => False
/-- The free operations, in the text's order: what they yield, and what is known behind them. -/
theorem head_lex (hcx : CxOK cx) {ops : Array Oper} {Cl : (Nat → Option Nat) → World → Prop} {w1 : World} (hw1 : Cl (fun _ => none) w1) {rest : List Oper} {k : St → Option Tree} : ∀ (l : List Oper), (∀ o ∈ l, freeOp cx o = true) → ∀ (st : St) (T : Tree), execOps cx ops (l ++ rest) st k = some T →
    ∀ (Γ : Env) (Ls : List (List C → Prop)), VC cx R T Γ.ρ Ls → ∀ (a : Act), Cls cx.P F w0 Cl Γ st a →
    ∃ vs st' T' Γ', Yield cx.P ops Cl l vs a ∧ execOps cx ops rest st' k = some T' ∧ Ext Γ Γ' ∧ st'.lvl = st.lvl ∧ VC cx R T' Γ'.ρ Ls ∧ Cls cx.P F w0 Cl Γ' st' (putAll l vs a) ∧ st'.mem = st.mem ∧ st'.nb = st.nb
  | [], _, st, T, h, Γ, Ls, hvc, a, hcl => ⟨[], st, T, Γ, trivial, h, Ext.refl _, rfl, hvc, hcl, rfl, rfl⟩
  | o :: l, hf, st, T, h, Γ, Ls, hvc, a, hcl => by
    have hs : Sat cx.P F w0 Γ st a w1 := by have := hcl.sat (fun _ => none) w1 hw1; rwa [Env.addO_no madeOf_none] at this
    have step : ∀ (st1 : St) (T1 : Tree), doOp cx st1 o (fun st => execOps cx ops (l ++ rest) st k) = some T1 → st1.lvl = st.lvl ∧ st1.mem = st.mem ∧ st1.nb = st.nb → VC cx R T1 Γ.ρ Ls → Cls cx.P F w0 Cl Γ st1 a → Region.wanted o (yielded ops a.tmps) = true →
        ∃ vs st' T' Γ', Yield cx.P ops Cl (o :: l) vs a ∧ execOps cx ops rest st' k = some T' ∧ Ext Γ Γ' ∧ st'.lvl = st.lvl ∧ VC cx R T' Γ'.ρ Ls ∧ Cls cx.P F w0 Cl Γ' st' (putAll (o :: l) vs a) ∧ st'.mem = st.mem ∧ st'.nb = st.nb := by
      intro st1 T1 h1 hl hv1 hcl1 hw
      obtain ⟨v, st2, T2, Γ2, g1, g2, g3, g4, g5, g6, g7, g8⟩ := doOp_quiet hcx hw1 (hf o (by simp)) h1 hv1 hcl1 hw
      obtain ⟨vs, st', T', Γ', i1, i2, i3, i4, i5, i6, i7, i8⟩ := head_lex hcx hw1 l (fun x hx => hf x (by simp [hx])) st2 T2 g1 Γ2 Ls g4 _ g5
      exact ⟨v :: vs, st', T', Γ', ⟨g6, i1⟩, i2, g2.trans i3, by rw [i4, g3, hl.1], i5, i6, by rw [i7, g7, hl.2.1], by rw [i8, g8, hl.2.2]⟩
    have skip : ∀ (st1 st2 : St) (T1 : Tree), st1.skip ops o = some st2 → execOps cx ops (l ++ rest) st2 k = some T1 → st1.lvl = st.lvl ∧ st1.mem = st.mem ∧ st1.nb = st.nb → VC cx R T1 Γ.ρ Ls → Cls cx.P F w0 Cl Γ st1 a → Region.wanted o (yielded ops a.tmps) = false →
        ∃ vs st' T' Γ', Yield cx.P ops Cl (o :: l) vs a ∧ execOps cx ops rest st' k = some T' ∧ Ext Γ Γ' ∧ st'.lvl = st.lvl ∧ VC cx R T' Γ'.ρ Ls ∧ Cls cx.P F w0 Cl Γ' st' (putAll (o :: l) vs a) ∧ st'.mem = st.mem ∧ st'.nb = st.nb := by
      intro st1 st2 T1 hp h1 hl hv1 hcl1 hw
      obtain ⟨vs, st', T', Γ', i1, i2, i3, i4, i5, i6, i7, i8⟩ := head_lex hcx hw1 l (fun x hx => hf x (by simp [hx])) st2 T1 h1 Γ Ls hv1 (a.put o.dst undef) ⟨fun ob w hw => (hcl1.sat ob w hw).skip hp, hcl1.below⟩
      exact ⟨undef :: vs, st', T', Γ', ⟨Quiet.skip hw, i1⟩, i2, i3, by rw [i4, St.skip_lvl hp, hl.1], i5, i6, by rw [i7, St.skip_mem hp, hl.2.1], by rw [i8, St.skip_nb hp, hl.2.2]⟩
    have hfz : ∀ st1 k1, doOpF cx st1 o k1 = doOp cx st1 o k1 := fun st1 k1 => by unfold doOpF; rw [freeOp_freeze (hf o (by simp)) st1]; rfl
    rw [List.cons_append] at h
    unfold execOps at h
    rw [clearT_free (hf o (by simp))] at h
    simp only [hfz] at h
    split at h
    · rename_i hg
      exact step st T (orF_some h hvc) ⟨rfl, rfl, rfl⟩ hvc hcl (by simp [Region.wanted, hg])
    · rename_i j want hg
      split at h
      · cases h
      · rename_i d hd
        split at h
        · rename_i v hl
          have hy : yielded ops a.tmps j = some v := yielded_of hd (hs.tmp (St.lf_ev hl)).1
          split at h
          · rename_i hvw
            exact step st T (orF_some h hvc) ⟨rfl, rfl, rfl⟩ hvc hcl (by simp [Region.wanted, hg, hy, hvw])
          · rename_i hvw
            cases hp : st.skip ops o with
            | none => simp [hp] at h
            | some st2 => simp [hp] at h; exact skip st st2 T hp h ⟨rfl, rfl, rfl⟩ hvc hcl (by simp [Region.wanted, hg, hy, hvw])
        · rename_i b hlit hl
          have hy := yielded_of hd (hs.tmp (St.lf_ev hl)).1
          split at h
          · rename_i t e ht he
            cases hp : (st.know (some d) b !want).skip ops o with
            | none => simp [hp] at he
            | some st2 =>
              simp [hp] at he
              have hvc' : (b.den Γ.ρ = want → VC cx R t Γ.ρ Ls) ∧ (b.den Γ.ρ = (!want) → VC cx R e Γ.ρ Ls) := by
                cases want <;> simp at h <;> subst h <;> exact ⟨by simpa using (by first | exact hvc.1 | exact hvc.2), by simpa using (by first | exact hvc.2 | exact hvc.1)⟩
              by_cases hb : b.den Γ.ρ = want
              · exact step (st.know (some d) b want) t ht ⟨rfl, rfl, rfl⟩ (hvc'.1 hb) ⟨fun ob w hw => (hcl.sat ob w hw).know hl hb, hcl.below⟩ (by simp [Region.wanted, hg]; rw [hy]; simp [Lf.den, hb])
              · have hb' : b.den Γ.ρ = !want := by cases hx : b.den Γ.ρ <;> cases want <;> simp_all
                exact skip (st.know (some d) b !want) st2 e hp he ⟨rfl, rfl, rfl⟩ (hvc'.2 hb') ⟨fun ob w hw => (hcl.sat ob w hw).know hl hb', hcl.below⟩ (by simp [Region.wanted, hg]; rw [hy]; simp [Lf.den, hb'])
          · cases h
        · rename_i v hl
          split at h
          · cases h
          · rename_i hb
            have hy := yielded_cst (v := v) hd (hs.tmp (St.lf_ev hl)).1 (by simpa using hb)
            cases hp : st.skip ops o with
            | none => simp [hp] at h
            | some st2 => simp [hp] at h; exact skip st st2 T hp h ⟨rfl, rfl, rfl⟩ hvc hcl (by simp [Region.wanted, hg, hy])
        · cases h
end

/-! In any order -/
section
variable {P : Program} {ops : Array Oper} {Cl : (Nat → Option Nat) → World → Prop}
theorem putAll_defers : ∀ (l : List Oper) (vs : List Value) (a : Act), (putAll l vs a).defers = a.defers
  | [], _, a => by simp [putAll]
  | _ :: _, [], a => by simp [putAll]
  | o :: l, v :: vs, a => by rw [putAll, putAll_defers l vs]; cases o.dst <;> rfl
theorem putAll_size : ∀ (l : List Oper) (vs : List Value) (a : Act), (putAll l vs a).tmps.size = a.tmps.size
  | [], _, a => by simp [putAll]
  | _ :: _, [], a => by simp [putAll]
  | o :: l, v :: vs, a => by rw [putAll, putAll_size l vs]; cases o.dst <;> simp [Act.put]
/-- A slot that no operation of the row writes. -/
theorem putAll_other : ∀ (l : List Oper) (vs : List Value) (a : Act) (t : Nat), (∀ o ∈ l, o.dst ≠ some t) → (putAll l vs a).tmps[t]? = a.tmps[t]?
  | [], _, a, t, _ => by simp [putAll]
  | _ :: _, [], a, t, _ => by simp [putAll]
  | o :: l, v :: vs, a, t, h => by
    rw [putAll, putAll_other l vs _ t (fun x hx => h x (by simp [hx]))]
    have := h o (by simp)
    cases hd : o.dst with
    | none => rfl
    | some d =>
      have hne : d ≠ t := fun e => this (by rw [hd, e])
      simp [Act.put, Array.getElem?_setIfInBounds_ne hne]
/-- What the row's i-th operation wrote. -/
theorem yield_get : ∀ (l : List Oper) (vs : List Value) (a : Act), Yield P ops Cl l vs a → ∀ (i : Nat) (o : Oper), l[i]? = some o → ∃ v, vs[i]? = some v ∧ Quiet P ops Cl o v (putAll (l.take i) (vs.take i) a)
  | o :: l, v :: vs, a, h, 0, o', ho => by cases ho; exact ⟨v, rfl, by simpa [putAll] using h.1⟩
  | o :: l, v :: vs, a, h, i + 1, o', ho => by
    obtain ⟨v', h1, h2⟩ := yield_get l vs _ h.2 i o' (by simpa using ho)
    exact ⟨v', by simpa using h1, by simpa [putAll] using h2⟩
  | [], [], _, _, i, o, ho => by simp at ho
  | [], _ :: _, _, h, _, _, _ => h.elim
  | _ :: _, [], _, h, _, _, _ => h.elim
theorem yield_len : ∀ (l : List Oper) (vs : List Value) (a : Act), Yield P ops Cl l vs a → vs.length = l.length
  | [], [], _, _ => rfl
  | _ :: l, _ :: vs, a, h => by simp [yield_len l vs _ h.2]
  | [], _ :: _, _, h => h.elim
  | _ :: _, [], _, h => h.elim
theorem putAll_split : ∀ (l : List Oper) (vs : List Value) (a : Act) (i : Nat), vs.length = l.length → putAll l vs a = putAll (l.drop i) (vs.drop i) (putAll (l.take i) (vs.take i) a)
  | [], [], a, i, _ => by simp [putAll]
  | o :: l, v :: vs, a, 0, _ => by simp [putAll]
  | o :: l, v :: vs, a, i + 1, h => by simp only [List.drop_succ_cons, List.take_succ_cons, putAll]; exact putAll_split l vs _ i (by simpa using h)
  | [], _ :: _, _, _, h => by simp at h
  | _ :: _, [], _, _, h => by simp at h

theorem countP_set {p q : Nat → Bool} {i : Nat} (hp : p i = true) (hq : q i = false) (hpq : ∀ j, j ≠ i → p j = q j) : ∀ (l : List Nat), l.Nodup → i ∈ l → l.countP p = l.countP q + 1
  | [], _, h => by cases h
  | x :: l, hn, h => by
    simp only [List.nodup_cons] at hn
    by_cases hx : x = i
    · subst hx
      have : l.countP p = l.countP q := List.countP_congr fun j hj => by rw [hpq j fun e => hn.1 (e ▸ hj)]
      simp [List.countP_cons, hp, hq, this]
    · have := countP_set hp hq hpq l hn.2 ((List.mem_cons.1 h).resolve_left fun e => hx e.symm)
      simp [List.countP_cons, hpq x hx, this]
      omega
theorem act_eq {a b : Act} (h1 : a.tmps = b.tmps) (h2 : a.defers = b.defers) : a = b := by cases a; cases b; cases h1; cases h2; rfl
/-- The frame behind all free operations, and those allocations that have come. -/
def endAct (ops : Array Oper) (n : Nat) (vs : List Value) (a0 : Act) (ob : Nat → Option Nat) : Nat → Act
  | 0 => putAll (ops.toList.take n) vs a0
  | k + 1 => match ob (n + k) with
    | none => endAct ops n vs a0 ob k
    | some b => (endAct ops n vs a0 ob k).put (dstOf ops (n + k)) (.pointer (some ⟨b, 0, none⟩))
/-- What holds while the free operations come up: n of them, allocations behind them up to m. -/
structure Head (P : Program) (ops : Array Oper) (Cl : (Nat → Option Nat) → World → Prop) (n m : Nat) (vs : List Value) (a0 : Act) (ob : Nat → Option Nat) (listed : Array Bool) (a : Act) (w : World) : Prop where
  cl : Cl ob w
  inv : HeadInv .any ops m listed
  defers : a.defers = a0.defers
  size : a.tmps.size = a0.tmps.size
  al : ∀ i, n ≤ i → i < m → listed.getD i false = (ob i).isSome
  same : ∀ t, (∀ j, j < m → dstOf ops j = some t → listed.getD j false = true) → a.tmps[t]? = (endAct ops n vs a0 ob (m - n)).tmps[t]?
theorem putD_defers (a : Act) (d : Option Tmp) (v : Value) : (a.put d v).defers = a.defers := by cases d <;> rfl
theorem putD_size (a : Act) (d : Option Tmp) (v : Value) : (a.put d v).tmps.size = a.tmps.size := by cases d <;> simp [Act.put]
theorem putD_other {a : Act} {d : Option Tmp} {v : Value} {t : Nat} (h : d ≠ some t) : (a.put d v).tmps[t]? = a.tmps[t]? := by
  cases d with
  | none => rfl
  | some d =>
    have hne : d ≠ t := fun e => h (by rw [e])
    simp [Act.put, Array.getElem?_setIfInBounds_ne hne]
theorem putD_same {a b : Act} {d : Option Tmp} {v : Value} {t : Nat} (hd : d = some t) (h : a.tmps.size = b.tmps.size) : (a.put d v).tmps[t]? = (b.put d v).tmps[t]? := by
  subst hd
  simp only [Act.put, Array.getElem?_setIfInBounds, if_true, h]
theorem endAct_defers (n : Nat) (vs : List Value) (a0 : Act) (ob : Nat → Option Nat) : ∀ k, (endAct ops n vs a0 ob k).defers = a0.defers
  | 0 => putAll_defers _ _ _
  | k + 1 => by
    rw [endAct]; split
    · exact endAct_defers n vs a0 ob k
    · rw [putD_defers]; exact endAct_defers n vs a0 ob k
theorem endAct_size (n : Nat) (vs : List Value) (a0 : Act) (ob : Nat → Option Nat) : ∀ k, (endAct ops n vs a0 ob k).tmps.size = a0.tmps.size
  | 0 => putAll_size _ _ _
  | k + 1 => by
    rw [endAct]; split
    · exact endAct_size n vs a0 ob k
    · rw [putD_size]; exact endAct_size n vs a0 ob k
theorem endAct_other (n : Nat) (vs : List Value) (a0 : Act) (ob : Nat → Option Nat) {t : Nat} : ∀ k, (∀ j, n ≤ j → j < n + k → dstOf ops j ≠ some t) → (endAct ops n vs a0 ob k).tmps[t]? = (putAll (ops.toList.take n) vs a0).tmps[t]?
  | 0, _ => rfl
  | k + 1, h => by
    rw [endAct]; split
    · exact endAct_other n vs a0 ob k fun j h1 h2 => h j h1 (by omega)
    · rw [putD_other (h (n + k) (by omega) (by omega))]; exact endAct_other n vs a0 ob k fun j h1 h2 => h j h1 (by omega)
def setOb (ob : Nat → Option Nat) (i b : Nat) : Nat → Option Nat := fun j => if j = i then some b else ob j
/-- One allocation more: elsewhere nothing has changed. -/
theorem endAct_set (n : Nat) (vs : List Value) (a0 : Act) (ob : Nat → Option Nat) {i b t : Nat} : ∀ k, dstOf ops i ≠ some t → (endAct ops n vs a0 (setOb ob i b) k).tmps[t]? = (endAct ops n vs a0 ob k).tmps[t]?
  | 0, _ => rfl
  | k + 1, h => by
    by_cases e : n + k = i
    · rw [endAct, show setOb ob i b (n + k) = some b by simp [setOb, e]]
      simp only []
      rw [putD_other (by rw [e]; exact h), endAct_set n vs a0 ob k h, endAct]
      split
      · rfl
      · rw [putD_other (by rw [e]; exact h)]
    · rw [endAct, endAct, show setOb ob i b (n + k) = ob (n + k) by simp [setOb, e]]
      split
      · exact endAct_set n vs a0 ob k h
      · by_cases hd : dstOf ops (n + k) = some t
        · exact putD_same hd (by rw [endAct_size, endAct_size])
        · rw [putD_other hd, putD_other hd]; exact endAct_set n vs a0 ob k h
/-- .. and at its own slot lies the new block. -/
theorem endAct_at (n : Nat) (vs : List Value) (a0 : Act) (ob : Nat → Option Nat) {i b t : Nat} (hd : dstOf ops i = some t) : ∀ k, n ≤ i → i < n + k → (∀ j, n ≤ j → j < n + k → j ≠ i → dstOf ops j ≠ some t) → ∀ a : Act, a.tmps.size = a0.tmps.size →
    (endAct ops n vs a0 (setOb ob i b) k).tmps[t]? = (a.put (some t) (.pointer (some ⟨b, 0, none⟩))).tmps[t]?
  | 0, h1, h2, _, _, _ => by omega
  | k + 1, h1, h2, hu, a, ha => by
    by_cases e : n + k = i
    · rw [endAct, show setOb ob i b (n + k) = some b by simp [setOb, e]]
      simp only []
      rw [show dstOf ops (n + k) = some t by rw [e]; exact hd]
      exact putD_same rfl (by rw [endAct_size, ha])
    · have ih := endAct_at (b := b) n vs a0 ob hd k h1 (by omega) (fun j g1 g2 => hu j g1 (by omega)) a ha
      rw [endAct]; split
      · exact ih
      · rw [putD_other (hu (n + k) (by omega) (by omega) e)]; exact ih

theorem any_order {Q : Exit → Act → World → Prop} {n m : Nat} {a0 : Act} {vs : List Value} (hy : Yield P ops Cl (ops.toList.take n) vs a0) (hh : headOk ops m = true) (ht : tailOk ops m = true) (hnm : n ≤ m)
    (hal : ∀ i, n ≤ i → i < m → ∃ o, ops[i]? = some o ∧ o.guard = none ∧ (∀ a ob w, Cl ob w → ob i = none → ∀ K Q, (∀ w', Cl (setOb ob i w.heap.size) w' → K (a.put o.dst (.pointer (some ⟨w.heap.size, 0, none⟩))) w') → o.wp P a w K Q))
    (hq : ∀ ob w, Cl ob w → (∀ i, n ≤ i → i < m → (ob i).isSome = true) → wpList P ops Q (ops.toList.drop m) (endAct ops n vs a0 ob (m - n)) w) : ∀ (fuel : Nat) (listed : Array Bool) (a : Act) (w : World) (ob : Nat → Option Nat), Head P ops Cl n m vs a0 ob listed a w →
    fuel = (List.range m).countP (fun j => !listed.getD j false) + (ops.size - m) → wpAny P .any ops Q fuel listed a w := by
  simp only [tailOk, Bool.and_eq_true, Bool.or_eq_true, decide_eq_true_eq] at ht
  obtain ⟨⟨⟨hle, hsc⟩, hseq⟩, hback⟩ := ht
  simp only [headOk, List.all_eq_true, List.mem_range] at hh
  simp only [List.all_eq_true, List.mem_range] at hback
  have hvl : vs.length = (ops.toList.take n).length := yield_len _ _ _ hy
  have done : ∀ (listed : Array Bool) (a : Act) (w : World) (ob : Nat → Option Nat), Head P ops Cl n m vs a0 ob listed a w → (List.range m).countP (fun j => !listed.getD j false) = 0 →
      (∀ j, j < m → listed.getD j false = true) ∧ a = endAct ops n vs a0 ob (m - n) ∧ (∀ i, n ≤ i → i < m → (ob i).isSome = true) := by
    intro listed a w ob hH hc
    have hall : ∀ j, j < m → listed.getD j false = true := fun j hj => by
      have := List.countP_eq_zero.1 hc j (List.mem_range.2 hj)
      simpa using this
    have e1 : a.tmps = (endAct ops n vs a0 ob (m - n)).tmps := Array.ext_getElem? fun t => hH.same t fun j hj _ => hall j hj
    have e2 : a.defers = (endAct ops n vs a0 ob (m - n)).defers := by rw [endAct_defers]; exact hH.defers
    exact ⟨hall, act_eq e1 e2, fun i h1 h2 => by rw [← hH.al i h1 h2]; exact hall i h2⟩
  intro fuel
  induction fuel with
  | zero =>
    intro listed a w ob hH hf
    have hn : m = ops.size := by omega
    obtain ⟨hall, haf, hsome⟩ := done listed a w ob hH (by omega)
    subst haf
    refine ⟨?_, ?_⟩
    · cases hr : Region.ready .any ops listed with
      | nil => rfl
      | cons i l =>
        exfalso
        obtain ⟨h1, o, h2, -⟩ := mem_ready.1 (show i ∈ Region.ready .any ops listed by rw [hr]; simp)
        have hi : i < m := by rw [hn]; exact (Array.getElem?_eq_some_iff.1 h2).1
        have := hall i hi
        rw [getD_both h1] at this
        cases this
    · have := hq ob w hH.cl hsome
      rw [List.drop_eq_nil_of_le (by simp [hn])] at this
      exact this
  | succ fuel ih =>
    intro listed a w ob hH hf
    by_cases hc : (List.range m).countP (fun j => !listed.getD j false) = 0
    · obtain ⟨hall, haf, hsome⟩ := done listed a w ob hH hc
      subst haf
      have hl : listed = (List.replicate m true ++ List.replicate (ops.size - m) false).toArray := by
        apply Array.ext
        · simp [hH.inv.size]; omega
        · intro j h1 h2
          have h1' : j < ops.size := by rw [← hH.inv.size]; exact h1
          by_cases hj : j < m
          · have := hall j hj
            simp [h1] at this
            simp [List.getElem_append, hj, this]
          · have := hH.inv.tail j (by omega) h1'
            simp [h1] at this
            simp [List.getElem_append, hj, this]
      subst hl
      have hlen : (ops.toList.drop m).length = ops.size - m := by simp
      have := wpAny_of_seq (P := P) (md := .any) (ops := ops) (Q' := Q) (ops.toList.drop m) m _ _ w (fun j => by simp [List.getElem?_drop]) (by rw [hlen]; exact hseq) (hq ob w hH.cl hsome)
      rw [hlen] at this
      rwa [show fuel + 1 = ops.size - m by omega]
    · have hex : ∃ j, j < m ∧ listed.getD j false = false := by
        obtain ⟨j, hj, hp⟩ := List.countP_pos_iff.1 (Nat.pos_of_ne_zero hc)
        exact ⟨j, List.mem_range.1 hj, by simpa using hp⟩
      obtain ⟨i0, ⟨hi0, hu0⟩, hmin⟩ := exists_least hex
      have hready0 : i0 ∈ Region.ready .any ops listed := by
        have hb := hback i0 hi0
        split at hb
        · rename_i o ho
          refine mem_ready.2 ⟨getD_in (by rw [hH.inv.size]; omega) hu0, o, ho, fun e he hbind => ?_⟩
          have := Array.all_eq_true'.1 hb e he
          simp only [Bool.or_eq_true, hbind, Bool.not_true, Bool.false_eq_true, false_or, Nat.blt_eq] at this
          cases hx : listed.getD e.on false with
          | true => rfl
          | false => have := hmin e.on ⟨by omega, hx⟩; omega
        · cases hb
      refine ⟨fun h0 => (by rw [h0] at hready0; cases hready0), fun i hi => ?_⟩
      have him : i < m := by
        rcases Nat.lt_or_ge i m with h | h
        · exact h
        · exfalso
          rcases hsc with hsc | hsc
          · have := Nat.eq_of_beq_eq_true hsc
            obtain ⟨-, o, ho, -⟩ := mem_ready.1 hi
            have := (Array.getElem?_eq_some_iff.1 ho).1
            omega
          · have hlt : m < ops.size := by
              obtain ⟨-, o, ho, -⟩ := mem_ready.1 hi
              have := (Array.getElem?_eq_some_iff.1 ho).1
              omega
            exact tail_waits hsc.1 hsc.2 hlt hH.inv _ i0 rfl hi0 (getD_in (by rw [hH.inv.size]; omega) hu0) i h hi
      obtain ⟨hun, o, ho, hedges⟩ := mem_ready.1 hi
      have hrow := hh i him
      rw [ho] at hrow
      simp only [List.all_eq_true, List.mem_range] at hrow
      have hdi : dstOf ops i = o.dst := by unfold dstOf; rw [ho]; rfl
      have hcount : fuel = (List.range m).countP (fun j => !(listed.setIfInBounds i true).getD j false) + (ops.size - m) := by
        have := countP_set (p := fun j => !listed.getD j false) (q := fun j => !(listed.setIfInBounds i true).getD j false) (i := i) (by simp [getD_both hun]) (by
          have hi' : i < listed.size := by rw [hH.inv.size]; omega
          simp [hi']) (fun j hj => by rw [getD_set_ne false (Ne.symm hj)]) (List.range m) List.nodup_range (List.mem_range.2 him)
        omega
      have hputd : ∀ v : Value, (a.put o.dst v).defers = a0.defers := fun v => by rw [← hH.defers]; cases o.dst <;> rfl
      have hputs : ∀ v : Value, (a.put o.dst v).tmps.size = a0.tmps.size := fun v => by rw [← hH.size]; cases o.dst <;> simp [Act.put]
      have hother : ∀ (v : Value) (t : Nat), o.dst ≠ some t → (a.put o.dst v).tmps[t]? = a.tmps[t]? := fun v t hdt => by
        cases hod : o.dst with
        | none => rfl
        | some d =>
          have hne : d ≠ t := fun e => hdt (by rw [hod, e])
          simp [Act.put, Array.getElem?_setIfInBounds_ne hne]
      have hback' : ∀ t, o.dst ≠ some t → (∀ j, j < m → dstOf ops j = some t → (listed.setIfInBounds i true).getD j false = true) → ∀ j, j < m → dstOf ops j = some t → listed.getD j false = true := fun t hdt hall j hj hd => by
        have hji : i ≠ j := fun e => hdt (by rw [← hdi, e]; exact hd)
        have := hall j hj hd
        rwa [getD_set_ne false hji] at this
      unfold wpOp
      rw [ho]
      simp only []
      rcases Nat.lt_or_ge i n with hin | hin
      · have hget : (ops.toList.take n)[i]? = some o := by simp [hin, ho]
        obtain ⟨v, hv1, hqv⟩ := yield_get _ _ _ hy i o hget
        have hsplit := putAll_split (ops.toList.take n) vs a0 i hvl
        have hdropdst : ∀ x ∈ (ops.toList.take n).drop i, ∃ j, i ≤ j ∧ j < n ∧ dstOf ops j = x.dst := fun x hx => by
          obtain ⟨q, hm⟩ := List.getElem?_of_mem hx
          rw [List.getElem?_drop, List.getElem?_take] at hm
          split at hm
          · refine ⟨i + q, by omega, by assumption, ?_⟩
            unfold dstOf
            simp at hm
            rw [hm]; rfl
          · cases hm
        have hlook : ∀ t ∈ o.looksAt ops, a.tmps[t]? = (putAll ((ops.toList.take n).take i) (vs.take i) a0).tmps[t]? := fun t htl => by
          have hno : ∀ j, n ≤ j → j < n + (m - n) → dstOf ops j ≠ some t := fun j hj1 hj2 hd => by
            have := hrow j (by omega)
            rw [hd] at this
            simp only [Bool.and_eq_true, Bool.or_eq_true, Bool.not_eq_true', Nat.blt_eq] at this
            rcases this.2 with h4 | h4
            · rw [List.contains_iff_mem.2 htl] at h4; cases h4
            · omega
          rw [hH.same t fun j hj hd => ?_, endAct_other n vs a0 ob _ hno, hsplit, putAll_other _ _ _ _ fun x hx hxd => ?_]
          · obtain ⟨j, h1, h2, h3⟩ := hdropdst x hx
            have := hrow j (by omega)
            rw [h3, hxd] at this
            simp only [Bool.and_eq_true, Bool.or_eq_true, Bool.not_eq_true', Nat.blt_eq] at this
            rcases this.2 with h4 | h4
            · rw [List.contains_iff_mem.2 htl] at h4; cases h4
            · omega
          · have := hrow j hj
            rw [hd] at this
            simp only [Bool.and_eq_true, Bool.or_eq_true, Bool.not_eq_true', Nat.blt_eq] at this
            rcases this.2 with h4 | h4
            · rw [List.contains_iff_mem.2 htl] at h4; cases h4
            · have hw := h4.2
              unfold waits at hw
              rw [ho] at hw
              obtain ⟨e, he, hb⟩ := Array.any_eq_true'.1 hw
              simp only [Bool.and_eq_true] at hb
              have := hedges e he hb.1
              rwa [Nat.eq_of_beq_eq_true hb.2] at this
        have hput : ∀ w', Cl ob w' → wpAny P .any ops Q fuel (listed.setIfInBounds i true) (a.put o.dst v) w' := fun w' hw' => by
          refine ih _ _ w' ob ⟨hw', hH.inv.set hi him, hputd v, hputs v, fun i' h1 h2 => ?_, fun t hall => ?_⟩ hcount
          · rw [getD_set_ne false (by omega)]; exact hH.al i' h1 h2
          · by_cases hdt : o.dst = some t
            · have hno : ∀ j, n ≤ j → j < n + (m - n) → dstOf ops j ≠ some t := fun j hj1 hj2 hd => by
                have := hrow j (by omega)
                rw [hd] at this
                simp only [Bool.and_eq_true, Bool.or_eq_true, decide_eq_true_eq] at this
                rcases this.1 with h6 | h6
                · have := Nat.eq_of_beq_eq_true h6; omega
                · exact h6 hdt
              have h5 : (putAll (ops.toList.take n) vs a0).tmps[t]? = ((putAll ((ops.toList.take n).take i) (vs.take i) a0).put o.dst v).tmps[t]? := by
                have e1 : (ops.toList.take n).drop i = o :: (ops.toList.take n).drop (i + 1) := by
                  rw [List.drop_eq_getElem_cons (by simp; omega)]
                  congr 1
                  have := hget
                  rw [List.getElem?_eq_getElem (by simp; omega)] at this
                  exact Option.some.inj this
                have e2 : vs.drop i = v :: vs.drop (i + 1) := by
                  have hiv : i < vs.length := by rw [hvl]; simp; omega
                  rw [List.drop_eq_getElem_cons hiv]
                  congr 1
                  rw [List.getElem?_eq_getElem hiv] at hv1
                  exact Option.some.inj hv1
                rw [hsplit, e1, e2, putAll]
                refine putAll_other _ _ _ _ fun x hx hxd => ?_
                obtain ⟨q, hm⟩ := List.getElem?_of_mem hx
                rw [List.getElem?_drop, List.getElem?_take] at hm
                split at hm
                · rename_i hlt
                  have := hrow (i + 1 + q) (by omega)
                  have hdj : dstOf ops (i + 1 + q) = some t := by unfold dstOf; simp at hm; rw [hm]; exact hxd
                  rw [hdj] at this
                  simp only [Bool.and_eq_true, Bool.or_eq_true, decide_eq_true_eq] at this
                  rcases this.1 with h6 | h6
                  · have := Nat.eq_of_beq_eq_true h6; omega
                  · exact h6 hdt
                · cases hm
              rw [endAct_other n vs a0 ob _ hno, h5, hdt]
              have hsz : (putAll ((ops.toList.take n).take i) (vs.take i) a0).tmps.size = a.tmps.size := by rw [putAll_size, hH.size]
              simp only [Act.put, Array.getElem?_setIfInBounds, if_true, hsz]
            · rw [hother v t hdt]
              exact hH.same t (hback' t hdt hall)
        have hwant : Region.wanted o (yielded ops a.tmps) = Region.wanted o (yielded ops (putAll ((ops.toList.take n).take i) (vs.take i) a0).tmps) := by
          unfold Region.wanted
          split
          · rfl
          · rename_i j want hg
            have : yielded ops a.tmps j = yielded ops (putAll ((ops.toList.take n).take i) (vs.take i) a0).tmps j := by
              unfold yielded
              cases hd : (ops[j]?).bind (·.dst) with
              | none => rfl
              | some d =>
                simp only [Option.bind_some]
                rw [hlook d (by unfold Oper.looksAt; rw [hg]; simp [hd])]
            rw [this]
        rcases hqv with ⟨h1, h2⟩ | ⟨h1, h2⟩
        · rw [if_pos (by rw [hwant, h1])]
          refine .inl (h2 a (fun x hx => ?_) ob w hH.cl _ Q hput)
          cases x with
          | tmp t =>
            have := hlook t (List.mem_append_left _ (List.mem_filterMap.2 ⟨.tmp t, by simpa using hx, rfl⟩))
            simp only [Act.eval, Array.getD_eq_getD_getElem?, this]
          | _ => rfl
        · rw [if_neg (by rw [hwant, h1]; simp), ← h2]
          exact hput w hH.cl
      · obtain ⟨o', ho', hg, hwp⟩ := hal i hin him
        obtain rfl : o' = o := Option.some.inj (ho'.symm.trans ho)
        have hnone : ob i = none := by
          have := hH.al i hin him
          rw [getD_both hun] at this
          cases hob : ob i with
          | none => rfl
          | some b => rw [hob] at this; cases this
        rw [if_pos (by simp [Region.wanted, hg])]
        refine .inl (hwp a ob w hH.cl hnone _ Q fun w' hw' => ih _ _ w' (setOb ob i w.heap.size) ⟨hw', hH.inv.set hi him, hputd _, hputs _, fun i' h1 h2 => ?_, fun t hall => ?_⟩ hcount)
        · by_cases e : i' = i
          · subst e
            have hi' : i' < listed.size := by rw [hH.inv.size]; omega
            simp [hi', setOb]
          · rw [getD_set_ne false (Ne.symm e), show setOb ob i w.heap.size i' = ob i' by simp [setOb, e]]; exact hH.al i' h1 h2
        · by_cases hdt : o'.dst = some t
          · rw [hdt]
            refine (endAct_at n vs a0 ob (by rw [hdi]; exact hdt) (m - n) hin (by omega) (fun j hj1 hj2 hji hd => ?_) a hH.size).symm
            have := hrow j (by omega)
            rw [hd] at this
            simp only [Bool.and_eq_true, Bool.or_eq_true, decide_eq_true_eq] at this
            rcases this.1 with h6 | h6
            · exact hji (Nat.eq_of_beq_eq_true h6).symm
            · exact h6 hdt
          · rw [hother _ t hdt, hH.same t (hback' t hdt hall), endAct_set n vs a0 ob _ (by rw [hdi]; exact hdt)]
end
end Go.Proofs.Ytcglpbchejkolaa
/- The engine, part 11b: regions whose order is drawn, with calls and stores that turn the memory: the operations that only read come first, the others in the one order that there is. -/
namespace Go.Proofs.Ytcglpbchejkolaa
open Go.RowKit
set_option linter.unusedSimpArgs false
set_option linter.unusedVariables false

def sameV : Value → Value → Bool
  | .slice none a b, .slice none c d => Nat.beq a c && Nat.beq b d
  | .pointer a, .pointer b => decide (a = b)
  | .nilFunc, .nilFunc => true
  | .nilIface, .nilIface => true
  | .tuple a, .tuple b => a.isEmpty && b.isEmpty
  | .func (.func f) x y, .func (.func g) z u => Nat.beq f g && x.isEmpty && y.isEmpty && z.isEmpty && u.isEmpty
  | _, _ => false
def sameL : Lf → Lf → Bool
  | .int a, .int b => decide (a = b)
  | .bool a, .bool b => decide (a = b)
  | .ptr a o, .ptr b p => Nat.beq a b && Nat.beq o p
  | .arr t a, .arr u b => Nat.beq t u && decide (a = b)
  | .elp t s a x o, .elp u r b y p => Nat.beq t u && Nat.beq s r && decide (a = b) && decide (x = y) && Nat.beq o p
  | .cst u, .cst v => sameV u v
  | .vec t i, .vec u j => Nat.beq t u && Nat.beq i j
  | .velp t s i x o, .velp u r j y p => Nat.beq t u && Nat.beq s r && Nat.beq i j && decide (x = y) && Nat.beq o p
  | .clo i, .clo j => Nat.beq i j
  | .cnt t a, .cnt u b => Nat.beq t u && decide (a = b)
  | .u64 a, .u64 b => decide (a = b)
  | _, _ => false
def sameLs : List Lf → List Lf → Bool
  | [], [] => true
  | a :: l, b :: m => sameL a b && sameLs l m
  | _, _ => false
def same0 : S0 → S0 → Bool
  | .lf a, .lf b => sameL a b
  | .agg a, .agg b => sameLs a b
  | _, _ => false
def same0s : List S0 → List S0 → Bool
  | [], [] => true
  | a :: l, b :: m => same0 a b && same0s l m
  | _, _ => false
def sameS : SV → SV → Bool
  | .one a, .one b => same0 a b
  | .tup a, .tup b => same0s a b
  | .fn f a, .fn g b => Nat.beq f g && sameLs a b
  | _, _ => false
theorem sameV_eq {a b : Value} (h : sameV a b = true) : a = b := by
  unfold sameV at h
  split at h
  · simp only [Bool.and_eq_true] at h; rw [Nat.eq_of_beq_eq_true h.1, Nat.eq_of_beq_eq_true h.2]
  · rw [of_decide_eq_true h]
  · rfl
  · rfl
  · simp only [Bool.and_eq_true, Array.isEmpty_iff] at h
    rw [h.1, h.2]
  · simp only [Bool.and_eq_true, Array.isEmpty_iff] at h
    obtain ⟨⟨⟨⟨h1, h2⟩, h3⟩, h4⟩, h5⟩ := h
    rw [Nat.eq_of_beq_eq_true h1, h2, h3, h4, h5]
  · cases h
theorem sameL_eq {a b : Lf} (h : sameL a b = true) : a = b := by
  unfold sameL at h
  split at h
  · rw [of_decide_eq_true h]
  · rw [of_decide_eq_true h]
  · simp only [Bool.and_eq_true] at h; rw [Nat.eq_of_beq_eq_true h.1, Nat.eq_of_beq_eq_true h.2]
  · simp only [Bool.and_eq_true, decide_eq_true_eq] at h; rw [Nat.eq_of_beq_eq_true h.1, h.2]
  · simp only [Bool.and_eq_true, decide_eq_true_eq] at h
    obtain ⟨⟨⟨⟨h1, h2⟩, h3⟩, h4⟩, h5⟩ := h
    rw [Nat.eq_of_beq_eq_true h1, Nat.eq_of_beq_eq_true h2, h3, h4, Nat.eq_of_beq_eq_true h5]
  · rw [sameV_eq h]
  · simp only [Bool.and_eq_true] at h; rw [Nat.eq_of_beq_eq_true h.1, Nat.eq_of_beq_eq_true h.2]
  · simp only [Bool.and_eq_true, decide_eq_true_eq] at h
    obtain ⟨⟨⟨⟨h1, h2⟩, h3⟩, h4⟩, h5⟩ := h
    rw [Nat.eq_of_beq_eq_true h1, Nat.eq_of_beq_eq_true h2, Nat.eq_of_beq_eq_true h3, h4, Nat.eq_of_beq_eq_true h5]
  · rw [Nat.eq_of_beq_eq_true h]
  · simp only [Bool.and_eq_true, decide_eq_true_eq] at h; rw [Nat.eq_of_beq_eq_true h.1, h.2]
  · rw [of_decide_eq_true h]
  · cases h
theorem sameLs_eq : ∀ {a b : List Lf}, sameLs a b = true → a = b
  | [], [], _ => rfl
  | x :: a, y :: b, h => by
    simp only [sameLs, Bool.and_eq_true] at h
    rw [sameL_eq h.1, sameLs_eq h.2]
  | [], _ :: _, h => by cases h
  | _ :: _, [], h => by cases h
theorem same0_eq {a b : S0} (h : same0 a b = true) : a = b := by
  cases a <;> cases b <;> simp only [same0] at h
  · rw [sameL_eq h]
  · cases h
  · cases h
  · rw [sameLs_eq h]
theorem same0s_eq : ∀ {a b : List S0}, same0s a b = true → a = b
  | [], [], _ => rfl
  | x :: a, y :: b, h => by
    simp only [same0s, Bool.and_eq_true] at h
    rw [same0_eq h.1, same0s_eq h.2]
  | [], _ :: _, h => by cases h
  | _ :: _, [], h => by cases h
theorem sameS_eq {a b : SV} (h : sameS a b = true) : a = b := by
  cases a <;> cases b <;> simp only [sameS] at h
  · rw [same0_eq h]
  · cases h
  · cases h
  · cases h
  · rw [same0s_eq h]
  · cases h
  · cases h
  · cases h
  · simp only [Bool.and_eq_true] at h
    rw [Nat.eq_of_beq_eq_true h.1, sameLs_eq h.2]
theorem Lf.ok_unext {P : Program} {w : World} {Own : Nat → Nat → Prop} {Γ Γ' : Env} (he : Ext Γ Γ') {l : Lf} (hw : l.wf Γ.ρ.length Γ.nb = true) (h : l.ok P w Own Γ') : l.ok P w Own Γ := by
  obtain ⟨m, e⟩ := he.ρ
  cases l with
  | arr te a => simp only [Lf.wf] at hw; simp only [Lf.ok, e, E.ev_ext _ hw] at h ⊢; exact h
  | elp te sz a x o =>
    simp only [Lf.wf, Bool.and_eq_true] at hw
    simp only [Lf.ok, e, E.ev_ext _ hw.1, E.den_ext _ hw.2] at h ⊢; exact h
  | vec te i => simp only [Lf.wf, Nat.blt_eq] at hw; simp only [Lf.ok, e, at_ext hw] at h ⊢; exact h
  | clo i => simp only [Lf.wf, Nat.blt_eq] at hw; simp only [Lf.ok, e, at_ext hw] at h ⊢; exact h
  | velp te sz i x o => simp only [Lf.wf, Bool.and_eq_true, Nat.blt_eq] at hw; simp only [Lf.ok, e, at_ext hw.1, E.den_ext _ hw.2] at h ⊢; exact h
  | cnt te r => simp only [Lf.wf] at hw; simp only [Lf.ok, e, E.ev_ext _ hw] at h ⊢; exact h
  | _ => trivial
theorem S0.wf_cells {n nb : Nat} {s : S0} (h : s.wf n nb = true) : ∀ l ∈ s.cells, l.wf n nb = true := by
  cases s with
  | lf x => intro l hl; simp [S0.cells] at hl; subst hl; exact h
  | agg ls => exact fun l hl => List.all_eq_true.1 h l hl
theorem SV.ok_unext {P : Program} {w : World} {Own : Nat → Nat → Prop} {Γ Γ' : Env} (he : Ext Γ Γ') {s : SV} (hw : s.wf Γ.ρ.length Γ.nb = true) (h : s.ok P w Own Γ') : s.ok P w Own Γ := by
  cases s with
  | one s => exact fun l hl => Lf.ok_unext he (S0.wf_cells hw l hl) (h l hl)
  | tup ss => exact fun s hs l hl => Lf.ok_unext he (S0.wf_cells (List.all_eq_true.1 hw s hs) l hl) (h s hs l hl)
  | fn f ls => exact fun l hl => Lf.ok_unext he (List.all_eq_true.1 hw l hl) (h l hl)
theorem SV.ok_anti {P : Program} {w : World} {O O' : Nat → Nat → Prop} {Γ : Env} {l : SV} (h : l.ok P w O Γ) (hh : ∀ b o, O' b o → O b o) : l.ok P w O' Γ := by
  cases l with
  | one s => exact fun l hl => Lf.ok_anti (h l hl) hh
  | tup ss => exact fun s hs' l hl => Lf.ok_anti (h s hs' l hl) hh
  | fn f ls => exact fun l hl => Lf.ok_anti (h l hl) hh


/-! What is known in every world that the region may come to -/
theorem SV.ok_iff {P : Program} {w : World} {O : Nat → Nat → Prop} {Γ : Env} {s : SV} : s.ok P w O Γ ↔ ∀ l ∈ s.cells, l.ok P w O Γ := by
  cases s with
  | one s => exact Iff.rfl
  | tup ss =>
    constructor
    · intro h l hl
      obtain ⟨s, hs, hl⟩ := List.mem_flatMap.1 hl
      exact h s hs l hl
    · intro h s hs l hl
      exact h l (List.mem_flatMap.2 ⟨s, hs, hl⟩)
  | fn f ls => exact Iff.rfl
theorem SV.wf_cells {n nb : Nat} {s : SV} (h : s.wf n nb = true) : ∀ l ∈ s.cells, l.wf n nb = true := by
  cases s with
  | one s => exact S0.wf_cells h
  | tup ss =>
    intro l hl
    obtain ⟨s, hs, hl⟩ := List.mem_flatMap.1 hl
    exact S0.wf_cells (List.all_eq_true.1 h s hs) l hl
  | fn f ls => exact fun l hl => List.all_eq_true.1 h l hl
def St.slLeaves (st : St) : List Lf := st.sl.flatMap fun p => match look st.sl p.1 with | some sv => sv.cells | none => []
def St.leaves (st : St) : List Lf := st.slLeaves ++ st.mem.flatMap fun p => match look st.mem p.1 with | some mb => mb.2 | none => []
def knows (L : List Lf) (l : Lf) : Bool :=
  match l with
  | .arr te a => L.any (sameL (.arr te a))
  | .elp te _ a _ _ => L.any (sameL (.arr te a))
  | _ => true
theorem knows_ok {P : Program} {w w' : World} {O O' : Nat → Nat → Prop} {Γ : Env} {L : List Lf} (hL : ∀ l ∈ L, l.ok P w O Γ) {l : Lf} (hk : knows L l = true) (h : l.ok P w' O' Γ) : l.ok P w O Γ := by
  cases l with
  | arr te a =>
    obtain ⟨m, hm, e⟩ := List.any_eq_true.1 hk
    rw [sameL_eq e]; exact hL m hm
  | elp te sz a x o =>
    obtain ⟨m, hm, e⟩ := List.any_eq_true.1 hk
    have := hL m hm
    rw [← sameL_eq e] at this
    exact ⟨this, h.2⟩
  | _ => exact h
theorem look_mem' {α : Type} : ∀ {l : List (Nat × Option α)} {t : Nat} {v : α}, look l t = some v → ∃ p ∈ l, p.1 = t
  | [], _, _, h => by cases h
  | (k, u) :: l, t, v, h => by
    simp only [look] at h
    split at h
    · rename_i e; exact ⟨(k, u), by simp, e⟩
    · obtain ⟨p, hp, e⟩ := look_mem' h; exact ⟨p, by simp [hp], e⟩
theorem St.slLeaves_mem {st : St} {t : Nat} {sv : SV} (h : look st.sl t = some sv) : ∀ l ∈ sv.cells, l ∈ st.slLeaves := fun l hl => by
  obtain ⟨p, hp, rfl⟩ := look_mem' h
  exact List.mem_flatMap.2 ⟨p, hp, by rw [h]; exact hl⟩
theorem Sat.slLeaves_ok {P : Program} {F : Nat → Prop} {w0 : World} {Γ : Env} {st : St} {a : Act} {w : World} (h : Sat P F w0 Γ st a w) : ∀ l ∈ st.slLeaves, l.ok P w (Own Γ st) Γ := fun l hl => by
  obtain ⟨p, hp, hl⟩ := List.mem_flatMap.1 hl
  split at hl
  · rename_i sv hsv; exact SV.ok_iff.1 (h.slots _ _ hsv).2 l hl
  · cases hl
theorem Sat.leaves_ok {P : Program} {F : Nat → Prop} {w0 : World} {Γ : Env} {st : St} {a : Act} {w : World} (h : Sat P F w0 Γ st a w) : ∀ l ∈ st.leaves, l.ok P w (Own Γ st) Γ := fun l hl => by
  rcases List.mem_append.1 hl with hl | hl
  · exact h.slLeaves_ok l hl
  · obtain ⟨p, hp, hl⟩ := List.mem_flatMap.1 hl
    split at hl
    · rename_i mb hmb; exact (h.mem _ _ hmb).2.1 l hl
    · cases hl
theorem Sat.leaves_wf {P : Program} {F : Nat → Prop} {w0 : World} {Γ : Env} {st : St} {a : Act} {w : World} (h : Sat P F w0 Γ st a w) (hw : st.wf = true) : ∀ l ∈ st.leaves, l.wf Γ.ρ.length Γ.nb = true := fun l hl => by
  rcases List.mem_append.1 hl with hl | hl
  · obtain ⟨p, hp, hl⟩ := List.mem_flatMap.1 hl
    split at hl
    · rename_i sv hsv; exact SV.wf_cells (h.wf_slot hw hsv) l hl
    · cases hl
  · obtain ⟨p, hp, hl⟩ := List.mem_flatMap.1 hl
    split at hl
    · rename_i mb hmb; exact List.all_eq_true.1 (h.wf_mem hw hmb) l hl
    · cases hl

/-- Without these blocks and slices. -/
def St.hide (st : St) (M : List Pl) : St :=
  { st with mem := M.foldl (fun m p => match p with | .blk b => (b, none) :: m | _ => m) st.mem, vec := M.foldl (fun m p => match p with | .vec b => (b, none) :: m | _ => m) st.vec }
theorem look_hideF {α : Type} {f : Pl → Option Nat} : ∀ (l : List Pl) (sl : List (Nat × Option α)) (t : Nat) (v : α), look (l.foldl (fun m p => match f p with | some b => (b, none) :: m | none => m) sl) t = some v → look sl t = some v
  | [], _, _, _, h => h
  | p :: l, sl, t, v, h => by
    have := look_hideF l _ t v h
    simp only [] at this
    split at this
    · simp only [look] at this
      split at this
      · cases this
      · exact this
    · exact this
theorem look_hideM {α : Type} (l : List Pl) (sl : List (Nat × Option α)) (t : Nat) (v : α) (h : look (l.foldl (fun m p => match p with | .blk b => (b, none) :: m | _ => m) sl) t = some v) : look sl t = some v := by
  refine look_hideF (f := fun p => match p with | .blk b => some b | _ => none) l sl t v ?_
  rw [← h]
  congr 1
  congr 1
  funext m p
  cases p <;> rfl
theorem look_hideV {α : Type} (l : List Pl) (sl : List (Nat × Option α)) (t : Nat) (v : α) (h : look (l.foldl (fun m p => match p with | .vec b => (b, none) :: m | _ => m) sl) t = some v) : look sl t = some v := by
  refine look_hideF (f := fun p => match p with | .vec b => some b | _ => none) l sl t v ?_
  rw [← h]
  congr 1
  congr 1
  funext m p
  cases p <;> rfl
/-- What of a state is known in each of the region's worlds. -/
def clsOf (h st : St) : St :=
  { st with sl := st.sl.map fun p => (p.1, match p.2 with | some sv => if sv.cells.all (knows h.leaves) then some sv else none | none => none), mem := h.mem, vec := h.vec, clo := h.clo }
theorem look_cls {L : List Lf} : ∀ {l : List (Nat × Option SV)} {t : Nat} {sv : SV}, look (l.map fun p => (p.1, match p.2 with | some sv => if sv.cells.all (knows L) then some sv else none | none => none)) t = some sv → look l t = some sv ∧ sv.cells.all (knows L) = true
  | [], _, _, h => by cases h
  | (k, u) :: l, t, sv, h => by
    simp only [List.map_cons, look] at h ⊢
    split at h
    · rename_i e
      rw [if_pos e]
      cases u with
      | none => cases h
      | some x =>
        simp only [] at h
        split at h
        · rename_i hx; cases h; exact ⟨rfl, hx⟩
        · cases h
    · rename_i e
      rw [if_neg e]
      exact look_cls h
/-- All slices of one's own, all function values are still known, alike. -/
def coversV (h st : St) : Bool :=
  (h.vec.all fun p => match look h.vec p.1 with
    | none => true
    | some e => match look st.vec p.1 with
      | some e' => Nat.beq e.1 e'.1 && decide (e.2 = e'.2)
      | none => false) &&
  (h.clo.all fun p => match look h.clo p.1 with
    | none => true
    | some e => match look st.clo p.1 with
      | some e' => Nat.beq e.1 e'.1 && same0s e.2.1 e'.2.1 && sameLs e.2.2 e'.2.2
      | none => false)
theorem coversV_vec {h st : St} (hc : coversV h st = true) {i : Nat} {e : TypeId × E} (hi : look h.vec i = some e) : look st.vec i = some e := by
  simp only [coversV, Bool.and_eq_true] at hc
  obtain ⟨p, hp, rfl⟩ := look_mem' hi
  have := List.all_eq_true.1 hc.1 p hp
  rw [hi] at this
  simp only [] at this
  split at this
  · rename_i e' he'
    simp only [Bool.and_eq_true, decide_eq_true_eq] at this
    rw [he']
    exact congrArg some (Prod.ext (Nat.eq_of_beq_eq_true this.1).symm this.2.symm)
  · cases this
theorem coversV_clo {h st : St} (hc : coversV h st = true) {i : Nat} {e : Nat × List S0 × List Lf} (hi : look h.clo i = some e) : look st.clo i = some e := by
  simp only [coversV, Bool.and_eq_true] at hc
  obtain ⟨p, hp, rfl⟩ := look_mem' hi
  have := List.all_eq_true.1 hc.2 p hp
  rw [hi] at this
  simp only [] at this
  split at this
  · rename_i e' he'
    simp only [Bool.and_eq_true] at this
    rw [he']
    exact congrArg some (Prod.ext (Nat.eq_of_beq_eq_true this.1.1).symm (Prod.ext (same0s_eq this.1.2).symm (sameLs_eq this.2).symm))
  · cases this
def covers (h st : St) : Bool :=
  (h.mem.all fun p => match look h.mem p.1 with
    | none => true
    | some mb => match look st.mem p.1 with
      | some mb' => Nat.beq mb.1 mb'.1 && sameLs mb.2 mb'.2
      | none => false) &&
  coversV h st && h.slLeaves.all (knows st.leaves)
/-- The class of worlds. -/
def Kept (P : Program) (F : Nat → Prop) (w0 : World) (Γ0 : Env) (h : St) (a0 : Act) (w : World) : Prop := Sat P F w0 Γ0 h a0 w
theorem Kept.start {P : Program} {F : Nat → Prop} {w0 : World} {Γ : Env} {st : St} {a : Act} {w : World} (h : Sat P F w0 Γ st a w) {M : List Pl} : Kept P F w0 Γ (st.hide M) a w := by
  have hhold : ∀ s j b, Hold Γ (st.hide M) s j b → Hold Γ st s j b := fun s j b hh =>
    Hold.congr (Γ := Γ) (st := st) (Γ' := Γ) (st' := st.hide M) (fun j mb hj => ⟨⟨mb, look_hideM M _ _ _ hj⟩, rfl⟩) (fun i e hi => ⟨⟨e, look_hideV M _ _ _ hi⟩, rfl⟩) hh
  have hown : ∀ x o, Own Γ (st.hide M) x o → Own Γ st x o := fun x o hx => by
    rcases Own.iff.1 hx with hx | ⟨s, j, hh⟩
    · exact .inl hx
    · exact (hhold s j x hh).own o
  have ht : Turn w w (Own Γ st) (Own Γ (st.hide M)) := ⟨Nat.le_refl _, fun b o _ hno => ⟨rfl, fun ho => hno (hown b o ho)⟩⟩
  refine ⟨h.slots_keep ht, h.size, fun b mb hb => ?_, fun i e hi => ?_, h.clo_keep ht, fun s j s' j' b h1 h2 => h.inj _ _ _ _ _ (hhold _ _ _ h1) (hhold _ _ _ h2), h.keeps, h.fold, h.base, h.defers, h.len, h.nb, h.num⟩
  · obtain ⟨h1, h2, h3, h4⟩ := h.mem b mb (look_hideM M _ _ _ hb)
    exact ⟨h1, fun l hl => Lf.ok_anti (h2 l hl) hown, h3, h4⟩
  · obtain ⟨h1, h2, h3⟩ := h.vec i e (look_hideV M _ _ _ hi)
    exact ⟨h1.anti hown, h2, h3⟩
section
variable {P : Program} {F : Nat → Prop} {w0 : World} {Γ0 Γ : Env} {h st : St} {a0 a : Act} {w w' : World}
theorem Kept.down (hS : Kept P F w0 Γ0 h a0 w') (hs : Sat P F w0 Γ st a w) (he : Ext Γ0 Γ) (hw : h.wf = true) (hc : covers h st = true) : Kept P F w0 Γ0 h a0 w := by
  simp only [covers, Bool.and_eq_true] at hc
  obtain ⟨⟨c1, c2⟩, c3⟩ := hc
  have hnb0 : Γ0.nb = h.nb := hS.nb
  have mem' : ∀ b mb, look h.mem b = some mb → look st.mem b = some mb := by
    intro b mb hb
    obtain ⟨p, hp, rfl⟩ := look_mem' hb
    have := List.all_eq_true.1 c1 p hp
    rw [hb] at this
    simp only [] at this
    split at this
    · rename_i mb' hmb'
      simp only [Bool.and_eq_true] at this
      rw [hmb']
      exact congrArg some (Prod.ext (Nat.eq_of_beq_eq_true this.1).symm (sameLs_eq this.2).symm)
    · cases this
  have hat : ∀ i e, look h.vec i = some e → at_ Γ.ρ i = at_ Γ0.ρ i := fun i e hi => hS.vec_at he hi
  have hown : ∀ x o, Own Γ0 h x o → Own Γ st x o := by
    intro x o hx
    rcases Own.iff.1 hx with hx | ⟨s, j, hh⟩
    · exact .inl (by rw [he.base]; exact hx)
    · rcases hh.inv with ⟨rfl, mb, hj, rfl⟩ | ⟨rfl, e, hj, hb⟩
      · have := (hS.mem j mb hj).2.2.2
        have e1 : Γ.blk j = Γ0.blk j := he.blk j (by omega)
        rw [← e1]
        exact (Hold.mem (Γ := Γ) (mem' j mb hj)).own o
      · exact (Hold.vec (Γ := Γ) (coversV_vec c2 hj) (by rw [hat j e hj]; exact hb)).own o
  have leaf : ∀ l : Lf, l.wf Γ0.ρ.length Γ0.nb = true → l.ok P w (Own Γ st) Γ → l.ok P w (Own Γ0 h) Γ0 := fun l hl ho => Lf.ok_anti (Lf.ok_unext he hl ho) hown
  refine ⟨fun t sv hsv => ?_, hS.size, fun b mb hb => ?_, fun i e hi => ?_, fun i e hi => ?_, hS.inj, hs.keeps, hS.fold, fun x o hx => hs.base x o (by rw [he.base]; exact hx), hS.defers, hS.len, hS.nb, hS.num⟩
  · obtain ⟨h1, h2⟩ := hS.slots t sv hsv
    have hwf := SV.wf_cells (hS.wf_slot hw hsv)
    refine ⟨h1, SV.ok_iff.2 fun l hl => leaf l (hwf l hl) ?_⟩
    refine knows_ok hs.leaves_ok (List.all_eq_true.1 c3 l (St.slLeaves_mem hsv l hl)) (w' := w') ?_ (O' := Own Γ0 h)
    exact Lf.ok_ext he (hwf l hl) (SV.ok_iff.1 h2 l hl)
  · obtain ⟨h1, h2, h3, h4⟩ := hS.mem b mb hb
    obtain ⟨k1, k2, k3, k4⟩ := hs.mem b mb (mem' b mb hb)
    have hwf := hS.wf_mem hw hb
    have hblk : Γ.blk b = Γ0.blk b := he.blk b (by omega)
    refine ⟨?_, fun l hl => leaf l (List.all_eq_true.1 hwf l hl) (k2 l hl), h3, h4⟩
    rw [← dens_ext he mb.2 hwf]
    rw [hblk] at k1
    exact k1
  · obtain ⟨h1, h2, h3⟩ := hS.vec i e hi
    obtain ⟨k1, k2, k3⟩ := hs.vec i e (coversV_vec c2 hi)
    refine ⟨?_, h2, h3⟩
    obtain ⟨m, hm⟩ := he.ρ
    rw [hat i e hi, hm, E.ev_ext _ (hS.wf_vec hw hi)] at k1
    exact k1.anti hown
  · obtain ⟨h1, h2, h3⟩ := hS.clo i e hi
    obtain ⟨k1, k2, k3⟩ := hs.clo i e (coversV_clo c2 hi)
    obtain ⟨f1, f2, f3⟩ := hS.wf_clo hw hi
    exact ⟨h1, fun s hs' l hl => leaf l (S0.wf_cells (List.all_eq_true.1 f2 s hs') l hl) (k2 s hs' l hl), fun l hl => leaf l (List.all_eq_true.1 f3 l hl) (k3 l hl)⟩
theorem Kept.up (hS : Kept P F w0 Γ0 h a0 w') (hs : Sat P F w0 Γ st a w) (he : Ext Γ0 Γ) (hw : h.wf = true) : Sat P F w0 Γ (clsOf h st) a w' := by
  have hnb0 : Γ0.nb = h.nb := hS.nb
  have hblk : ∀ b mb, look h.mem b = some mb → Γ.blk b = Γ0.blk b := fun b mb hb => he.blk b (by have := (hS.mem b mb hb).2.2.2; omega)
  have hat : ∀ i e, look h.vec i = some e → at_ Γ.ρ i = at_ Γ0.ρ i := fun i e hi => hS.vec_at he hi
  have hhold : ∀ s j b, Hold Γ (clsOf h st) s j b → Hold Γ0 h s j b := fun s j b hh =>
    Hold.congr (Γ := Γ0) (st := h) (Γ' := Γ) (st' := clsOf h st) (fun j mb hj => ⟨⟨mb, hj⟩, hblk j mb hj⟩) (fun i e hi => ⟨⟨e, hi⟩, hat i e hi⟩) hh
  have hown : ∀ x o, Own Γ (clsOf h st) x o → Own Γ0 h x o := fun x o hx => by
    rcases Own.iff.1 hx with hx | ⟨s, j, hh⟩
    · exact .inl (by rw [← he.base]; exact hx)
    · exact (hhold s j x hh).own o
  have hL : ∀ l ∈ h.leaves, l.ok P w' (Own Γ (clsOf h st)) Γ := fun l hl => Lf.ok_anti (Lf.ok_ext he (hS.leaves_wf hw l hl) (hS.leaves_ok l hl)) hown
  have hle : h.nx ≤ st.nx := by rw [← hs.len, ← hS.len]; exact he.len
  refine ⟨fun t sv hsv => ?_, hs.size, fun b mb hb => ?_, fun i e hi => ?_, fun i e hi => ?_, fun s j s' j' b h1 h2 => hS.inj _ _ _ _ _ (hhold _ _ _ h1) (hhold _ _ _ h2), hS.keeps, hS.fold, fun x o hx => hS.base x o (by rw [← he.base]; exact hx), hs.defers, hs.len, hs.nb, hs.num⟩
  · obtain ⟨h1, h2⟩ := look_cls hsv
    obtain ⟨h3, h4⟩ := hs.slots t sv h1
    exact ⟨h3, SV.ok_iff.2 fun l hl => knows_ok hL (List.all_eq_true.1 h2 l hl) (SV.ok_iff.1 h4 l hl)⟩
  · have hb' : look h.mem b = some mb := hb
    obtain ⟨h1, h2, h3, h4⟩ := hS.mem b mb hb'
    have hwf := hS.wf_mem hw hb'
    have e1 : Γ.blk b = Γ0.blk b := hblk b mb hb'
    refine ⟨?_, fun l hl => Lf.ok_anti (Lf.ok_ext he (List.all_eq_true.1 hwf l hl) (h2 l hl)) hown, ?_, ?_⟩
    · rw [e1, dens_ext he mb.2 hwf]; exact h1
    · rw [e1]; exact h3
    · have := he.nb
      have := hs.nb
      show b < st.nb
      omega
  · have hi' : look h.vec i = some e := hi
    obtain ⟨h1, h2, h3⟩ := hS.vec i e hi'
    obtain ⟨m, hm⟩ := he.ρ
    refine ⟨?_, Nat.lt_of_lt_of_le h2 hle, fun b hb => ?_⟩
    · rw [hat i e hi', hm, E.ev_ext _ (hS.wf_vec hw hi')]
      exact h1.anti hown
    · rw [hat i e hi'] at hb
      exact ⟨(h3 b hb).1, fun o ho => (h3 b hb).2 o (by rw [← he.base]; exact ho)⟩
  · have hi' : look h.clo i = some e := hi
    obtain ⟨h1, h2, h3⟩ := hS.clo i e hi'
    obtain ⟨f1, f2, f3⟩ := hS.wf_clo hw hi'
    obtain ⟨m, hm⟩ := he.ρ
    refine ⟨?_, fun s hs' l hl => Lf.ok_anti (S0.ok_ext he (List.all_eq_true.1 f2 s hs') (h2 s hs') l hl) hown, fun l hl => Lf.ok_anti (Lf.ok_ext he (List.all_eq_true.1 f3 l hl) (h3 l hl)) hown⟩
    rw [hm, at_ext f1, h1, List.map_congr_left fun s hs' => S0.den_ext he s (List.all_eq_true.1 f2 s hs'), List.map_congr_left fun l hl => Lf.den_ext he l (List.all_eq_true.1 f3 l hl)]
end

/-! The executor -/
inductive Gd where
  | go
  | no
  | ask (d : Nat) (b : B)
  | bad
def gd (ops : Array Oper) (st : St) (o : Oper) : Gd :=
  match o.guard with
  | none => .go
  | some (j, want) => match (ops[j]?).bind (·.dst) with
    | none => .bad
    | some d => match st.lf (.tmp d) with
      | some (.bool (.lit v)) => if v = want then .go else .no
      | some (.bool b) => .ask d b
      | some (.cst v) => if isB v then .bad else .no
      | _ => .bad
def readsOnly (o : Oper) : Bool :=
  match o.op with
  | .move _ | .assign _ | .pick .. | .load .. | .binOp .. | .unOp .. | .fieldAddr .. | .field .. | .indexAddr .. | .build .. | .extract .. | .nilCheck _ | .lookup .. | .slice .. => true
  | .call c => match c.callee with
    | .builtin _ => true
    | _ => false
  | _ => false
/-! In whatever order: a condition on the world may end with the last operation, where that one waits for all others -/
def edgeTo (ops : Array Oper) (m a : Nat) : Bool :=
  match ops[m]? with
  | some o => o.after.any fun e => Region.binds .any e && Nat.beq e.on a
  | none => false
def waitsAll (ops : Array Oper) : List Nat → List Nat → Bool
  | _, [] => true
  | seen, a :: l => seen.any (fun m => edgeTo ops m a) && waitsAll ops (a :: seen) l
def waitedBy (ops : Array Oper) : List Nat → List Nat → Bool
  | _, [] => true
  | seen, j :: l => seen.any (fun m => edgeTo ops j m) && waitedBy ops (j :: seen) l
/-- All before it come before it, all behind it come behind it. -/
def cutAt (ops : Array Oper) (n : Nat) : Bool :=
  (match ops[n]? with
    | some o => !readsOnly o
    | none => false) && waitsAll ops [n] (List.range n).reverse && waitedBy ops [n] ((List.range ops.size).drop (n + 1))
/-- The first such one: with it a condition on the world may end. -/
def cutN (ops : Array Oper) : Nat := ((List.range ops.size).find? (cutAt ops)).getD ops.size
def Closed (ops : Array Oper) (L : Array Bool) : Prop := ∀ j o, ops[j]? = some o → L.getD j false = true → ∀ e ∈ o.after, Region.binds .any e = true → L.getD e.on false = true
section
variable {P : Program} {ops : Array Oper} {Q : Exit → Act → World → Prop} {S : Array Bool → World → Prop} {S0 : World → Prop}
theorem Closed.set {L : Array Bool} (h : Closed ops L) {j : Nat} (hj : j ∈ Region.ready .any ops L) : Closed ops (L.setIfInBounds j true) := by
  intro k o ho hk e he hb
  obtain ⟨-, oj, hoj, hw⟩ := mem_ready.1 hj
  by_cases hkj : j = k
  · subst hkj
    rw [hoj] at ho
    cases ho
    exact getD_set_true (hw e he hb)
  · rw [getD_set_ne false hkj] at hk
    exact getD_set_true (h k o ho hk e he hb)
theorem waitsAll_listed {L : Array Bool} (hc : Closed ops L) : ∀ (l seen : List Nat), (∀ m ∈ seen, L.getD m false = true) → waitsAll ops seen l = true → ∀ a ∈ l, L.getD a false = true
  | [], _, _, _, _, h => by cases h
  | b :: l, seen, hs, hw, a, ha => by
    simp only [waitsAll, Bool.and_eq_true] at hw
    have hb : L.getD b false = true := by
      obtain ⟨m, hm, he⟩ := List.any_eq_true.1 hw.1
      unfold edgeTo at he
      split at he
      · rename_i o ho
        obtain ⟨e, he1, he2⟩ := Array.any_eq_true'.1 he
        simp only [Bool.and_eq_true] at he2
        have := hc m o ho (hs m hm) e he1 he2.1
        rwa [Nat.eq_of_beq_eq_true he2.2] at this
      · cases he
    rcases List.mem_cons.1 ha with rfl | ha
    · exact hb
    · exact waitsAll_listed hc l (b :: seen) (fun m hm => (List.mem_cons.1 hm).elim (fun e => e ▸ hb) (hs m)) hw.2 a ha
theorem waitedBy_listed {L : Array Bool} (hc : Closed ops L) {n : Nat} : ∀ (l seen : List Nat), (∀ m ∈ seen, L.getD m false = true → L.getD n false = true) → waitedBy ops seen l = true → ∀ j ∈ l, L.getD j false = true → L.getD n false = true
  | [], _, _, _, _, h, _ => by cases h
  | b :: l, seen, hs, hw, j, hj, hL => by
    simp only [waitedBy, Bool.and_eq_true] at hw
    have hb : L.getD b false = true → L.getD n false = true := fun hLb => by
      obtain ⟨m, hm, he⟩ := List.any_eq_true.1 hw.1
      unfold edgeTo at he
      split at he
      · rename_i o ho
        obtain ⟨e, he1, he2⟩ := Array.any_eq_true'.1 he
        simp only [Bool.and_eq_true] at he2
        have := hc b o ho hLb e he1 he2.1
        rw [Nat.eq_of_beq_eq_true he2.2] at this
        exact hs m hm this
      · cases he
    rcases List.mem_cons.1 hj with rfl | hj
    · exact hb hL
    · exact waitedBy_listed hc l (b :: seen) (fun m hm => (List.mem_cons.1 hm).elim (fun e => e ▸ hb) (hs m)) hw.2 j hj hL
theorem cutN_spec (ops : Array Oper) : cutN ops = ops.size ∨ (cutAt ops (cutN ops) = true ∧ cutN ops < ops.size) := by
  unfold cutN
  cases h : (List.range ops.size).find? (cutAt ops) with
  | none => exact .inl rfl
  | some n => exact .inr ⟨List.find?_some h, by have := List.mem_of_find?_eq_some h; simpa using this⟩
def CutOK (ops : Array Oper) (c : Nat) : Prop := c = ops.size ∨ (cutAt ops c = true ∧ c < ops.size)
/-- A cut may be named ahead: by a block 4000000 + its number among what is hidden. -/
def cutH (ops : Array Oper) (h : St) : Nat :=
  match h.mem.findSome? fun p => if Nat.ble 4000000 p.1 then some (p.1 - 4000000) else none with
  | some c => if cutAt ops c && Nat.blt c ops.size then c else cutN ops
  | none => cutN ops
theorem cutH_ok (ops : Array Oper) (h : St) : CutOK ops (cutH ops h) := by
  unfold cutH
  split
  · split
    · rename_i hc
      simp only [Bool.and_eq_true] at hc
      exact .inr ⟨hc.1, Nat.le_of_ble_eq_true hc.2⟩
    · exact cutN_spec ops
  · exact cutN_spec ops
theorem getD_out {L : Array Bool} {i : Nat} (h : i < L.size → False) : L.getD i false = false := by
  simp [Array.getD_eq_getD_getElem?, Array.getElem?_eq_none (Nat.le_of_not_lt h)]
/-- One before it is not listed: it isn't, either. -/
theorem cut_not {L : Array Bool} {c i : Nat} (hk : CutOK ops c) (hc : Closed ops L) (hsz : L.size = ops.size) (hi : i < c) (hL : L.getD i false = false) : L.getD (c) false = false := by
  rcases hk with h | ⟨h, hlt⟩
  · rw [h]; exact getD_out (by omega)
  · cases hx : L.getD (c) false with
    | false => rfl
    | true =>
      unfold cutAt at h
      simp only [Bool.and_eq_true] at h
      have := waitsAll_listed hc _ _ (fun m hm => by simp at hm; rw [hm]; exact hx) h.1.2 i (by simp; omega)
      rw [hL] at this; cases this
/-- One behind it is listed: it is, too. -/
theorem cut_yes {L : Array Bool} {c i : Nat} (hk : CutOK ops c) (hc : Closed ops L) (hi : c ≤ i) (his : i < ops.size) (hL : L.getD i false = true) : L.getD (c) false = true := by
  rcases hk with h | ⟨h, hlt⟩
  · omega
  · by_cases e : i = c
    · rw [← e]; exact hL
    · unfold cutAt at h
      simp only [Bool.and_eq_true] at h
      refine waitedBy_listed hc _ [c] (fun m hm => by simp at hm; rw [hm]; exact id) h.2 i ?_ hL
      obtain ⟨k, hk⟩ : ∃ k, i = c + 1 + k := ⟨i - (c + 1), by omega⟩
      refine List.mem_of_getElem? (i := k) ?_
      rw [List.getElem?_drop, hk]
      exact List.getElem?_range (by omega)
/-- What is asked of the world until it has come. -/
def Until (c : Nat) (S0 : World → Prop) (L : Array Bool) (w : World) : Prop := L.getD (c) false = false → S0 w
/-- Whatever is picked, what is asked of the world holds. -/
def Picks (P : Program) (ops : Array Oper) (Q : Exit → Act → World → Prop) (S : Array Bool → World → Prop) : Nat → Array Bool → Act → World → Prop
  | 0, L, a, w => Region.ready .any ops L = [] ∧ Q .normal a w
  | n + 1, L, a, w => (Region.ready .any ops L = [] → Q .normal a w) ∧ ∀ i ∈ Region.ready .any ops L, wpOp P ops Q i (fun a' w' => S (L.setIfInBounds i true) w' ∧ Picks P ops Q S n (L.setIfInBounds i true) a' w') a w
theorem Picks.any : ∀ {n : Nat} {L : Array Bool} {a : Act} {w : World}, Picks P ops Q S n L a w → wpAny P .any ops Q n L a w
  | 0, _, _, _, h => h
  | _ + 1, _, _, _, h => ⟨h.1, fun i hi => wpOp_mono (fun _ _ h' => Picks.any h'.2) (h.2 i hi)⟩
theorem Picks.over {L : Array Bool} {a : Act} {w : World} (hr : Region.ready .any ops L = []) (h : Q .normal a w) : ∀ n, Picks P ops Q S n L a w
  | 0 => ⟨hr, h⟩
  | _ + 1 => ⟨fun _ => h, by rw [hr]; intro i hi; cases hi⟩
/-- One that yields its value in every such world may be taken ahead of all that are apart from it. -/
theorem Picks.first {c i : Nat} (hk : CutOK ops c) {o : Oper} {v : Value} (ho : ops[i]? = some o) (hro : readsOnly o = true) (hsel : Region.noSelect ops = true) (hQ : ∀ p a w, ¬ Q (.panic p) a w) (hcut : i < c) :
    ∀ (n : Nat) (L : Array Bool) (a : Act) (w : World), L.size = ops.size → Closed ops L → S0 w → YieldsIf P ops S0 o v a → i ∈ Region.ready .any ops L →
    (∀ j oj, ops[j]? = some oj → j ≠ i → L.getD j true = false → (∀ e ∈ oj.after, Region.binds .any e = true → e.on ≠ i) → o.apart ops oj = true) →
    Picks P ops Q (Until c S0) n (L.setIfInBounds i true) (a.put o.dst v) w → Picks P ops Q (Until c S0) (n + 1) L a w := by
  have ns := Region.noSelect_spec hsel
  have hisz : i < ops.size := (Array.getElem?_eq_some_iff.1 ho).1
  intro n
  induction n with
  | zero =>
    intro L a w hsz hc hS hy hr hap h
    refine ⟨fun e => absurd hr (by rw [e]; simp), fun j hj => ?_⟩
    rcases Decidable.em (j = i) with rfl | hne
    · exact hy.wpOp ho hS ⟨fun _ => hS, h⟩
    · have := ready_mono hj hne
      rw [h.1] at this
      cases this
  | succ n ih =>
    intro L a w hsz hc hS hy hr hap h
    refine ⟨fun e => absurd hr (by rw [e]; simp), fun j hj => ?_⟩
    rcases Decidable.em (j = i) with rfl | hne
    · exact hy.wpOp ho hS ⟨fun _ => hS, h⟩
    · obtain ⟨hjL, oj, hoj, hjw⟩ := mem_ready.1 hj
      obtain ⟨hiL, -⟩ := mem_ready.1 hr
      have hni : L.getD i false = false := getD_both hiL
      have hjap := hap j oj hoj hne hjL fun e he hb heq => by
        have := hjw e he hb
        rw [heq, hni] at this
        cases this
      have hc' := hc.set hj
      have hni' : (L.setIfInBounds j true).getD i false = false := by rw [getD_set_ne false hne]; exact hni
      refine wpOp_mono (fun a' w' hx => ?_) (wpOp_putIf hoj hjap (fun cs b => ns i o cs b ho) (fun cs b => ns j oj cs b hoj) (fun c a w hq => absurd hq (hQ c _ w)) hy (h.2 j (ready_mono hj hne)))
      obtain ⟨hy', hSx, hrest⟩ := hx
      rw [Array.setIfInBounds_comm _ _ (Ne.symm hne)] at hSx hrest
      have hsz' : (L.setIfInBounds j true).size = ops.size := by rw [Array.size_setIfInBounds]; exact hsz
      have hS' : S0 w' := hSx (by
        rw [getD_set_ne false (by omega)]
        exact cut_not hk hc' hsz' hcut hni')
      refine ⟨fun _ => hS', ih _ a' w' hsz' hc' hS' hy' (ready_mono hr (Ne.symm hne)) (fun k ok hk hki hun hno => hap k ok hk hki ?_ hno) hrest⟩
      by_cases hjk : j = k
      · rw [← hjk]; exact hjL
      · rw [getD_set_ne true hjk] at hun; exact hun
end

/-- Where an element lies that is one of a slice of one's own: whatever the world holds. -/
def pureAt (st : St) (o : Oper) : Bool :=
  match o.op with
  | .indexAddr _ x _ => match st.lf x with
    | some (.vec _ _) => true
    | _ => false
  | _ => false
theorem pureAt_ok {P : Program} {Γ : Env} {st : St} {ρ : Operand → Value} {w : World} {o : Oper} {obs : List B} {sv : SV} (hp : pureAt st o = true) (h : opVal P st o = some (obs, sv)) (hv : View P Γ st o.op.operands ρ w) (hob : Obs Γ.ρ obs) (w' : World) :
    (execOp ρ o).run P w' = .ok (.value (sv.den Γ)) w' := by
  have h0 := (opVal_ok h hv hob).1
  obtain ⟨dst, op, type, pos, after, guard⟩ := o
  cases op <;> simp only [pureAt] at hp <;> try (cases hp; done)
  rename_i t x ix
  split at hp
  rotate_left
  · cases hp
  rename_i te i hl
  have h1 := (hv.lf (by simp [Op.operands]) hl).1
  unfold opVal at h
  simp only [hl] at h
  split at h
  · rename_i l e hle he
    cases hle
    obtain ⟨h3, -⟩ := hv.lf (by simp [Op.operands]) he
    cases hr : idxLf P st.vec st.bds t (.vec te i) e with
    | none => simp [hr] at h
    | some r =>
      simp only [hr, Option.map, Option.some.injEq, Prod.mk.injEq] at h
      obtain ⟨h, rfl⟩ := h
      subst h
      simp only [idxLf] at hr
      split at hr
      · rename_i ve hve
        split at hr
        · rename_i hcc
          obtain ⟨-, hu'⟩ := hcc
          have hu := sliceOf_eq hu'
          have hel : P.elem t = te := by simp [Program.elem, hu]
          split at hr
          · rename_i sz hs
            cases hr
            obtain ⟨o1, o2⟩ := Obs.app hob
            have g1 := need_ok o1
            have g2 := need_ok o2
            rw [B.den_mkCmp hv.num] at g1 g2
            have g1' : 0 ≤ e.den Γ.ρ := of_decide_eq_true g1
            have g2' : e.den Γ.ρ < ((ve.2.ev Γ.ρ).rows.length : Int) := of_decide_eq_true g2
            obtain ⟨ks, us, -, -, -, -, ho⟩ := hv.vec _ _ hve
            rcases ho.2 with ⟨-, hn⟩ | ⟨g, cap, cur, hloc, -⟩
            · omega
            · have key : ∀ u : World, (execOp ρ ⟨dst, .indexAddr t x ix, type, pos, after, guard⟩).run P u = ((Instr.indexAt t (at_ Γ.ρ i).loc (.int .i64 (e.den Γ.ρ))).run P u).andThen fun v u => .ok (.value v) u := fun u => by
                simp only [execOp, h1, h3, Lf.den, Sem.run_bind]
                rfl
              rw [key, hloc, run_indexAt_slice w t _ _ _ _ _ (by rw [hel]; exact hu), if_pos ⟨g1', g2'⟩, hel, run_sizeOf' hs] at h0
              rw [key, hloc, run_indexAt_slice w' t _ _ _ _ _ (by rw [hel]; exact hu), if_pos ⟨g1', g2'⟩, hel, run_sizeOf' hs]
              simp only [Result.andThen_ok, Result.ok.injEq, and_true] at h0 ⊢
              exact h0
          · cases hr
        · cases hr
      · cases hr
  · cases h
def freeAt (cx : Cx) (ops : Array Oper) (h st : St) (listed : Array Bool) (i : Nat) : Bool :=
  match ops[i]? with
  | some o => readsOnly o && Region.free .any ops listed i && match gd ops st o with
    | .no => true
    | .go => (opVal cx.P (clsOf h st) o).isSome || (pureAt st o && (opVal cx.P st o).isSome)
    | _ => false
  | none => false
def askAt (ops : Array Oper) (st : St) (i : Nat) : Option (Nat × B) :=
  match ops[i]? with
  | some o => match gd ops st o with
    | .ask d b => some (d, b)
    | _ => none
  | none => none
def bothObs (a b : List B) : List B := if a = b then a else a ++ b
theorem bothObs_ok {ρ : List C} {a b : List B} (h : Obs ρ (bothObs a b)) : Obs ρ a ∧ Obs ρ b := by
  unfold bothObs at h
  split at h
  · rename_i e; subst e; exact ⟨h, h⟩
  · exact ⟨fun x hx => h x (by simp [hx]), fun x hx => h x (by simp [hx])⟩
def sameRs : List (List Lf) → List (List Lf) → Bool
  | [], [] => true
  | a :: l, b :: m => sameLs a b && sameRs l m
  | _, _ => false
theorem sameRs_eq : ∀ {a b : List (List Lf)}, sameRs a b = true → a = b
  | [], [], _ => rfl
  | [], _ :: _, h => by cases h
  | _ :: _, [], h => by cases h
  | a :: l, b :: m, h => by
    simp only [sameRs, Bool.and_eq_true] at h
    rw [sameLs_eq h.1, sameRs_eq h.2]
def sameT : Tree → Tree → Bool
  | .ret l, .ret m => sameLs l m
  | .split b t e, .split c u f => decide (b = c) && (sameT t u && sameT e f)
  | .ob b t, .ob c u => decide (b = c) && sameT t u
  | .call f l t, .call g m u => Nat.beq f g && (sameLs l m && sameT t u)
  | .loop ks l t, .loop js m u => decide (ks = js) && (sameLs l m && sameT t u)
  | .back n l, .back k m => Nat.beq n k && sameLs l m
  | .arr l t, .arr m u => sameRs l m && sameT t u
  | .dfn e t, .dfn f u => decide (e = f) && sameT t u
  | .mk e l t, .mk f m u => decide (e = f) && (sameLs l m && sameT t u)
  | .cat a b t, .cat c d u => decide (a = c) && (decide (b = d) && sameT t u)
  | .upd a x o l t, .upd b y p m u => decide (a = b) && (decide (x = y) && (Nat.beq o p && (sameLs l m && sameT t u)))
  | .fail n l, .fail k m => Nat.beq n k && decide (l = m)
  | .both a b, .both c d => sameT a c && sameT b d
  | .join ks a b, .join js c d => decide (ks = js) && (sameT a c && sameT b d)
  | _, _ => false
theorem sameT_eq : ∀ {a b : Tree}, sameT a b = true → a = b := by
  intro a
  induction a with
  | ret l => intro b h; cases b <;> first | (simp only [sameT] at h; rw [sameLs_eq h]) | cases h
  | split b t e iht ihe =>
    intro b h
    cases b <;> first | (simp only [sameT, Bool.and_eq_true, decide_eq_true_eq] at h; obtain ⟨h1, h2, h3⟩ := h; rw [h1, iht h2, ihe h3]) | cases h
  | ob b t ih => intro b h; cases b <;> first | (simp only [sameT, Bool.and_eq_true, decide_eq_true_eq] at h; obtain ⟨h1, h2⟩ := h; rw [h1, ih h2]) | cases h
  | call f l t ih => intro b h; cases b <;> first | (simp only [sameT, Bool.and_eq_true] at h; obtain ⟨h1, h2, h3⟩ := h; rw [Nat.eq_of_beq_eq_true h1, sameLs_eq h2, ih h3]) | cases h
  | loop ks l t ih => intro b h; cases b <;> first | (simp only [sameT, Bool.and_eq_true, decide_eq_true_eq] at h; obtain ⟨h1, h2, h3⟩ := h; rw [h1, sameLs_eq h2, ih h3]) | cases h
  | back n l => intro b h; cases b <;> first | (simp only [sameT, Bool.and_eq_true] at h; obtain ⟨h1, h2⟩ := h; rw [Nat.eq_of_beq_eq_true h1, sameLs_eq h2]) | cases h
  | arr l t ih => intro b h; cases b <;> first | (simp only [sameT, Bool.and_eq_true] at h; obtain ⟨h1, h2⟩ := h; rw [sameRs_eq h1, ih h2]) | cases h
  | dfn e t ih => intro b h; cases b <;> first | (simp only [sameT, Bool.and_eq_true, decide_eq_true_eq] at h; obtain ⟨h1, h2⟩ := h; rw [h1, ih h2]) | cases h
  | mk e l t ih => intro b h; cases b <;> first | (simp only [sameT, Bool.and_eq_true, decide_eq_true_eq] at h; obtain ⟨h1, h2, h3⟩ := h; rw [h1, sameLs_eq h2, ih h3]) | cases h
  | cat x y t ih => intro b h; cases b <;> first | (simp only [sameT, Bool.and_eq_true, decide_eq_true_eq] at h; obtain ⟨h1, h2, h3⟩ := h; rw [h1, h2, ih h3]) | cases h
  | upd x y o l t ih => intro b h; cases b <;> first | (simp only [sameT, Bool.and_eq_true, decide_eq_true_eq] at h; obtain ⟨h1, h2, h3, h4, h5⟩ := h; rw [h1, h2, Nat.eq_of_beq_eq_true h3, sameLs_eq h4, ih h5]) | cases h
  | fail n l => intro b h; cases b <;> first | (simp only [sameT, Bool.and_eq_true, decide_eq_true_eq] at h; obtain ⟨h1, h2⟩ := h; rw [Nat.eq_of_beq_eq_true h1, h2]) | cases h
  | both x y ihx ihy => intro b h; cases b <;> first | (simp only [sameT, Bool.and_eq_true] at h; rw [ihx h.1, ihy h.2]) | cases h
  | join ks x y ihx ihy => intro b h; cases b <;> first | (simp only [sameT, Bool.and_eq_true, decide_eq_true_eq] at h; obtain ⟨h1, h2, h3⟩ := h; rw [h1, ihx h2, ihy h3]) | cases h
def hasWay (a : Tree) : Tree → Bool
  | .both c d => hasWay a c || hasWay a d
  | c => sameT a c
def addWay : Tree → Tree → Tree
  | .both c d, b => addWay c (addWay d b)
  | a, b => if hasWay a b then b else .both a b
theorem hasWay_vc {cx : Cx} {R : List C → Prop} {ρ : List C} {Ls : List (List C → Prop)} {a : Tree} : ∀ {b : Tree}, hasWay a b = true → VC cx R b ρ Ls → VC cx R a ρ Ls := by
  intro b
  induction b with
  | both c d ihc ihd =>
    intro h hv
    simp only [hasWay, Bool.or_eq_true] at h
    rcases h with h | h
    · exact ihc h hv.1
    · exact ihd h hv.2
  | _ => intro h hv; simp only [hasWay] at h; rw [sameT_eq h]; exact hv
theorem addWay_vc {cx : Cx} {R : List C → Prop} {ρ : List C} {Ls : List (List C → Prop)} : ∀ {a b : Tree}, VC cx R (addWay a b) ρ Ls → VC cx R a ρ Ls ∧ VC cx R b ρ Ls := by
  intro a
  induction a with
  | both c d ihc ihd =>
    intro b h
    simp only [addWay] at h
    obtain ⟨h1, h2⟩ := ihc h
    obtain ⟨h3, h4⟩ := ihd h2
    exact ⟨⟨h1, h3⟩, h4⟩
  | _ =>
    intro b h
    simp only [addWay] at h
    split at h
    · rename_i hw; exact ⟨hasWay_vc hw h, h⟩
    · exact h
/-- What several ways come to: one and the same, or (mg) each by itself. -/
def merge (mg : Bool) : List (Option Tree) → Option Tree
  | [] => none
  | [x] => x
  | x :: y :: l => match x, merge mg (y :: l) with
    | some a, some b => if sameT a b then some b else if mg then some (addWay a b) else none
    | _, _ => none
theorem merge_mem {mg : Bool} : ∀ {l : List (Option Tree)} {T : Tree}, merge mg l = some T → ∀ x ∈ l, ∃ T', x = some T' ∧ ∀ {cx : Cx} {R : List C → Prop} {ρ : List C} {Ls : List (List C → Prop)}, VC cx R T ρ Ls → VC cx R T' ρ Ls
  | [], _, h, _, _ => by cases h
  | [x], T, h, y, hy => by
    simp only [List.mem_cons, List.not_mem_nil, or_false] at hy
    rw [hy]; exact ⟨T, h, fun h => h⟩
  | x :: y :: l, T, h, z, hz => by
    simp only [merge] at h
    split at h
    · rename_i a b hb
      split at h
      · rename_i hs
        cases h
        rcases List.mem_cons.1 hz with rfl | hz
        · exact ⟨a, rfl, fun hv => by rw [sameT_eq hs]; exact hv⟩
        · exact merge_mem hb z hz
      · split at h
        · cases h
          rcases List.mem_cons.1 hz with rfl | hz
          · exact ⟨a, rfl, fun hv => (addWay_vc hv).1⟩
          · obtain ⟨T', h1, h2⟩ := merge_mem hb z hz
            exact ⟨T', h1, fun hv => h2 (addWay_vc hv).2⟩
        · cases h
    · cases h
def execAny (cx : Cx) (ops : Array Oper) (mg : Bool) (h : St) (k : St → Option Tree) : Nat → Nat → Array Bool → St → Option Tree
  | 0, _, _, _ => none
  | f + 1, n, listed, st =>
    match Region.ready .any ops listed with
    | [] => k st
    | r :: rs => match (r :: rs).find? (fun i => Nat.blt i (cutH ops h) && freeAt cx ops h st listed i) with
      | some i => match ops[i]?, n with
        | some o, n + 1 => if Region.free .any ops listed i then match gd ops st o with
          | .no => (st.skip ops o).bind fun st' => execAny cx ops mg h k f n (listed.setIfInBounds i true) st'
          | .go => match opVal cx.P st o, opVal cx.P (clsOf h st) o with
            | some (obs, sv), some (obs', sv') => if sameS sv sv' then
                ((st.learnAll (bothObs obs obs')).put o.dst (some sv)).bind fun st' => (execAny cx ops mg h k f n (listed.setIfInBounds i true) st').map (obT (bothObs obs obs'))
              else none
            | some (obs, sv), none => if pureAt st o then ((st.learnAll obs).put o.dst (some sv)).bind fun st' => (execAny cx ops mg h k f n (listed.setIfInBounds i true) st').map (obT obs) else none
            | _, _ => none
          | _ => none
          else none
        | _, _ => none
      | none => match (r :: rs).findSome? (askAt ops st) with
        | some (d, b) => match st.lf (.tmp d) with
          | some (.bool b') => match execAny cx ops mg h k f n listed (st.know (some d) b' true), execAny cx ops mg h k f n listed (st.know (some d) b' false) with
            | some t, some e => some (.split b' t e)
            | _, _ => none
          | _ => none
        | none => match n with
          | n + 1 => merge mg ((r :: rs).map fun r => match ops[r]? with
            | some o => match gd ops st o with
              | .no => (st.skip ops o).bind fun st' => execAny cx ops mg h k f n (listed.setIfInBounds r true) st'
              | .go => doOpF cx st o fun st' => if Nat.ble (cutH ops h) r || covers h st' then execAny cx ops mg h k f n (listed.setIfInBounds r true) st' else none
              | _ => none
            | none => none)
          | _ => none
section
variable {cx : Cx} {R : List C → Prop} {F : Nat → Prop} {w0 : World}
theorem gd_go {ops : Array Oper} {st : St} {o : Oper} {Γ : Env} {a : Act} {w : World} (hs : Sat cx.P F w0 Γ st a w) (h : gd ops st o = .go) : Region.wanted o (yielded ops a.tmps) = true := by
  unfold gd at h
  split at h
  · rename_i hg; simp [Region.wanted, hg]
  · rename_i j want hg
    split at h
    · cases h
    · rename_i d hd
      split at h
      · rename_i v hl
        have hy : yielded ops a.tmps j = some v := yielded_of hd (hs.tmp (St.lf_ev hl)).1
        split at h
        · rename_i hvw; simp [Region.wanted, hg, hy, hvw]
        · cases h
      · cases h
      · split at h <;> cases h
      · cases h
theorem gd_no {ops : Array Oper} {st : St} {o : Oper} {Γ : Env} {a : Act} {w : World} (hs : Sat cx.P F w0 Γ st a w) (h : gd ops st o = .no) : Region.wanted o (yielded ops a.tmps) = false := by
  unfold gd at h
  split at h
  · cases h
  · rename_i j want hg
    split at h
    · cases h
    · rename_i d hd
      split at h
      · rename_i v hl
        have hy : yielded ops a.tmps j = some v := yielded_of hd (hs.tmp (St.lf_ev hl)).1
        split at h
        · cases h
        · rename_i hvw; simp [Region.wanted, hg, hy, hvw]
      · cases h
      · rename_i v hl
        split at h
        · cases h
        · rename_i hb
          have hy := yielded_cst (v := v) hd (hs.tmp (St.lf_ev hl)).1 (by simpa using hb)
          simp [Region.wanted, hg, hy]
      · cases h
theorem execAny_sound (hcx : CxOK cx) {ops : Array Oper} {mg : Bool} (hsel : Region.noSelect ops = true) {h : St} (hwf : h.wf = true) {k : St → Option Tree} {Γ0 : Env} {a0 : Act} {Ls0 : List (List C → Prop)} {Q : Act → World → Prop}
    (hk : Next cx R F w0 k Γ0 Ls0 Q) : ∀ (f n : Nat) (listed : Array Bool) (st : St) (T : Tree), execAny cx ops mg h k f n listed st = some T → ∀ (Γ : Env) (Ls : List (List C → Prop)) (a : Act) (w : World), Ext Γ0 Γ → Ls0 <+: Ls → Sat cx.P F w0 Γ st a w → listed.size = ops.size → Closed ops listed → Until (cutH ops h) (Kept cx.P F w0 Γ0 h a0) listed w → Ls.length = st.lvl → VC cx R T Γ.ρ Ls →
    Picks cx.P ops (fun e a w => e = .normal ∧ Q a w) (Until (cutH ops h) (Kept cx.P F w0 Γ0 h a0)) n listed a w := by
  intro f
  induction f with
  | zero => intro n listed st T hT; cases hT
  | succ f ih =>
    intro n listed st T hT Γ Ls a w he hpre hs hsz hcl hU hl hv
    simp only [execAny] at hT
    split at hT
    · rename_i hr
      exact Picks.over hr ⟨rfl, hk st T Γ Ls hT he hpre hl hv a w hs⟩ n
    · rename_i r rs hr
      split at hT
      · rename_i i hfind
        have hi : i ∈ Region.ready .any ops listed := by rw [hr]; exact List.mem_of_find?_eq_some hfind
        have hro : ∀ o, ops[i]? = some o → readsOnly o = true := fun o ho => by
          have := List.find?_some hfind
          simp only [Bool.and_eq_true] at this
          have := this.2
          unfold freeAt at this
          rw [ho] at this
          simp only [Bool.and_eq_true] at this
          exact this.1.1
        have hcut : i < cutH ops h := by
          have := List.find?_some hfind
          simp only [Bool.and_eq_true] at this
          exact Nat.le_of_ble_eq_true this.1
        have hS : Kept cx.P F w0 Γ0 h a0 w := by
          obtain ⟨hiL, o, ho, -⟩ := mem_ready.1 hi
          exact hU (cut_not (cutH_ok ops h) hcl hsz hcut (getD_both hiL))
        have hsz' : (listed.setIfInBounds i true).size = ops.size := by rw [Array.size_setIfInBounds]; exact hsz
        have hcl' := hcl.set hi
        split at hT
        · rename_i o n' ho
          split at hT
          · rename_i hfr
            split at hT
            · rename_i hg
              cases hp : st.skip ops o with
              | none => simp [hp] at hT
              | some st' =>
                simp [hp] at hT
                exact Picks.first (cutH_ok ops h) ho (hro o ho) hsel (fun c a w h => by cases h.1) hcut _ _ _ _ hsz hcl hS (.inr ⟨gd_no hs hg, rfl⟩) hi (Region.free_spec ho hfr)
                  (ih n' _ st' T hT Γ Ls _ w he hpre (hs.skip hp) hsz' hcl' (fun _ => hS) (by rw [St.skip_lvl hp]; exact hl) hv)
            · rename_i hg
              split at hT
              · rename_i obs sv obs' sv' h1 h2
                split at hT
                · rename_i hsame
                  have e := sameS_eq hsame
                  subst e
                  cases hp : (st.learnAll (bothObs obs obs')).put o.dst (some sv) with
                  | none => simp [hp] at hT
                  | some st' =>
                    cases hT' : execAny cx ops mg h k f n' (listed.setIfInBounds i true) st' with
                    | none => simp [hp, hT'] at hT
                    | some T' =>
                      simp [hp, hT'] at hT
                      subst hT
                      obtain ⟨hob, hv'⟩ := VC.obT hv
                      obtain ⟨o1, o2⟩ := bothObs_ok hob
                      have hok := (opVal_ok h1 (hs.view o.op.operands) o1).2
                      refine Picks.first (cutH_ok ops h) ho (hro o ho) hsel (fun c a w h => by cases h.1) hcut (v := sv.den Γ) _ _ _ _ hsz hcl hS (.inl ⟨gd_go hs hg, fun w' hw' => ?_⟩) hi (Region.free_spec ho hfr)
                        (ih n' _ st' T' hT' Γ Ls _ w he hpre ((hs.learn hob).put hp hok) hsz' hcl' (fun _ => hS) (by rw [St.put_lvl hp]; exact hl) hv')
                      have hup := Kept.up hw' hs he hwf
                      exact (opVal_ok h2 (hup.view o.op.operands) o2).1
                · cases hT
              · rename_i obs sv h1 h2
                split at hT
                · rename_i hpure
                  cases hp : (st.learnAll obs).put o.dst (some sv) with
                  | none => simp [hp] at hT
                  | some st' =>
                    cases hT' : execAny cx ops mg h k f n' (listed.setIfInBounds i true) st' with
                    | none => simp [hp, hT'] at hT
                    | some T' =>
                      simp [hp, hT'] at hT
                      subst hT
                      obtain ⟨hob, hv'⟩ := VC.obT hv
                      have hok := (opVal_ok h1 (hs.view o.op.operands) hob).2
                      exact Picks.first (cutH_ok ops h) ho (hro o ho) hsel (fun c a w h => by cases h.1) hcut (v := sv.den Γ) _ _ _ _ hsz hcl hS (.inl ⟨gd_go hs hg, fun w' hw' => pureAt_ok hpure h1 (hs.view o.op.operands) hob w'⟩) hi (Region.free_spec ho hfr)
                        (ih n' _ st' T' hT' Γ Ls _ w he hpre ((hs.learn hob).put hp hok) hsz' hcl' (fun _ => hS) (by rw [St.put_lvl hp]; exact hl) hv')
                · cases hT
              · cases hT
            · cases hT
          · cases hT
        · cases hT
      · split at hT
        · rename_i d b hask
          split at hT
          · rename_i b' hlf
            split at hT
            · rename_i t e ht he'
              cases hT
              by_cases hb : b'.den Γ.ρ = true
              · exact ih n listed _ t ht Γ Ls a w he hpre (hs.know hlf hb) hsz hcl hU hl (hv.1 hb)
              · have hb' : b'.den Γ.ρ = false := by simpa using hb
                exact ih n listed _ e he' Γ Ls a w he hpre (hs.know hlf hb') hsz hcl hU hl (hv.2 hb')
            · cases hT
          · cases hT
        · split at hT
          · rename_i n'
            refine ⟨fun e => (by rw [hr] at e; cases e), fun i hi => ?_⟩
            obtain ⟨T1, hT, hvT⟩ := merge_mem hT _ (List.mem_map_of_mem (by rw [← hr]; exact hi))
            replace hv := hvT hv
            clear hvT
            split at hT
            · rename_i o ho
              have hcl' := hcl.set hi
              have hlt : i < ops.size := by obtain ⟨-, o, ho, -⟩ := mem_ready.1 hi; exact (Array.getElem?_eq_some_iff.1 ho).1
              have hsz' : (listed.setIfInBounds i true).size = ops.size := by rw [Array.size_setIfInBounds]; exact hsz
              have hset : (listed.setIfInBounds i true).getD i false = true := by simp [Array.getD_eq_getD_getElem?, hsz, hlt]
              have hS : (listed.setIfInBounds i true).getD (cutH ops h) false = false → Kept cx.P F w0 Γ0 h a0 w ∧ i < cutH ops h := fun hnot => by
                rcases Nat.lt_or_ge i (cutH ops h) with hx | hx
                · exact ⟨hU (cut_not (cutH_ok ops h) hcl hsz hx (getD_both (mem_ready.1 hi).1)), hx⟩
                · have := cut_yes (cutH_ok ops h) hcl' hx hlt hset
                  rw [hnot] at this; cases this
              unfold wpOp
              rw [ho]
              simp only []
              split at hT
              · rename_i hg
                rw [if_neg (by rw [gd_no hs hg]; simp)]
                cases hp : st.skip ops o with
                | none => simp [hp] at hT
                | some st' =>
                  simp [hp] at hT
                  exact ⟨fun hn => (hS hn).1, ih n' _ st' _ hT Γ Ls _ w he hpre (hs.skip hp) hsz' hcl' (fun hn => (hS hn).1) (by rw [St.skip_lvl hp]; exact hl) hv⟩
              · rename_i hg
                rw [if_pos (gd_go hs hg)]
                refine .inl (doOpF_sound hcx hT hl hv hs fun st' T' Γ' Ls' hk' he' hpre' hl' hv' a' w' hs' => ?_)
                simp only [] at hk'
                split at hk'
                · rename_i hcov
                  have hS' : Until (cutH ops h) (Kept cx.P F w0 Γ0 h a0) (listed.setIfInBounds i true) w' := fun hnot => by
                    obtain ⟨hS, hx⟩ := hS hnot
                    simp only [Bool.or_eq_true] at hcov
                    rcases hcov with hc1 | hcov
                    · have := Nat.le_of_ble_eq_true hc1; omega
                    · exact Kept.down hS hs' (he.trans he') hwf hcov
                  exact ⟨hS', ih n' _ st' T' hk' Γ' Ls' a' w' (he.trans he') (hpre.trans hpre') hs' hsz' hcl' hS' hl' hv'⟩
                · cases hk'
              · cases hT
            · cases hT
          · cases hT
theorem any_sound (hcx : CxOK cx) {ops : Array Oper} {mg : Bool} {M : List Pl} {st : St} (hc : (Region.noSelect ops && (st.hide M).wf) = true) {k : St → Option Tree} {T : Tree} {f : Nat}
    (hT : execAny cx ops mg (st.hide M) k f ops.size (Array.replicate ops.size false) st = some T) {Γ : Env} {Ls : List (List C → Prop)} (hl : Ls.length = st.lvl) (hv : VC cx R T Γ.ρ Ls) {a : Act} {w : World} (hs : Sat cx.P F w0 Γ st a w)
    {Q : Exit → Act → World → Prop} (hk : Next cx R F w0 k Γ Ls (fun a w => Q .normal a w)) : wpAny cx.P .any ops (fun e a w => e = .normal ∧ Q .normal a w) ops.size (Array.replicate ops.size false) a { w with drawn := w.drawn + 1 } := by
  simp only [Bool.and_eq_true] at hc
  obtain ⟨c1, c2⟩ := hc
  have hw1 : Sat cx.P F w0 Γ st a { w with drawn := w.drawn + 1 } := hs.below ⟨rfl, rfl, rfl, Nat.le_refl _, fun _ _ => rfl⟩
  refine Picks.any (execAny_sound hcx c1 c2 hk f _ _ st T hT Γ Ls a _ (Ext.refl Γ) (List.prefix_refl _) hw1 (by simp) (fun j o ho hj => ?_) (fun _ => Kept.start hw1) hl hv)
  rw [getD_replicate_false] at hj; cases hj
end
end Go.Proofs.Ytcglpbchejkolaa
/- The engine, part 12: loops; the executor of a code; its soundness. -/
namespace Go.Proofs.Ytcglpbchejkolaa
open Go.RowKit
set_option linter.unusedSimpArgs false
set_option linter.unusedVariables false

/-! Loops -/
/-- The slots that a code writes. -/
def asg : Code → List Nat
  | .region _ ops _ => ops.toList.filterMap (·.dst)
  | .seq a b => asg a ++ asg b
  | .cond _ a b => asg a ++ asg b
  | .block _ c | .loop c | .scope c => asg c
  | _ => []
/-- The cells of a place; is it one cell by itself. -/
def St.cellsAt (st : St) : Pl → Option (Bool × List Lf)
  | .slot d => match look st.sl d with
    | some (.one (.lf l)) => some (true, [l])
    | some (.one (.agg l)) => some (false, l)
    | _ => none
  | .blk b => (look st.mem b).map fun mb => (false, mb.2)
  | .vec i => (look st.vec i).map fun e => (false, [.cnt e.1 e.2])
def St.setAt (st : St) (p : Pl) (one : Bool) (l : List Lf) : St :=
  match p with
  | .slot d => { st with sl := (d, if one then l.head?.map fun x => .one (.lf x) else some (.one (.agg l))) :: st.sl }
  | .blk b => match look st.mem b with
    | some mb => { st with mem := (b, some (mb.1, l)) :: st.mem }
    | none => st
  | .vec i => match l with
    | [.cnt te r] => { st with vec := (i, some (te, r)) :: st.vec }
    | _ => st
/-- Cells made unknown. -/
def hvL : List Lf → Nat → List Lf
  | [], _ => []
  | .cnt te _ :: ls, i => .cnt te (.var i) :: hvL ls (i + 1)
  | l :: ls, i => match l.kind with
    | some k => Lf.ofKind k i :: hvL ls (i + 1)
    | none => l :: hvL ls i
/-- The slices of one's own among them get new variables. -/
def hvV : List Lf → Nat → Vecs
  | [], _ => []
  | .vec te j :: ls, i => (i, some (te, .var i)) :: (j, none) :: hvV ls (i + 1)
  | l :: ls, i => match l.kind with
    | some _ => hvV ls (i + 1)
    | none => hvV ls i
def St.havoc (st : St) : List Pl → St
  | [] => st
  | p :: ps => match st.cellsAt p with
    | some cs => St.havoc { st.setAt p cs.1 (hvL cs.2 st.nx) with nx := st.nx + (cs.2.filter fun l => l.kind.isSome).length, vec := hvV cs.2 st.nx ++ (st.setAt p cs.1 (hvL cs.2 st.nx)).vec } ps
    | none => St.havoc st ps
/-- Slots that are written in a round and of which nothing is known at its head. -/
def St.forget (st : St) (l : List Nat) : St := { st with sl := l.foldl (fun sl d => (d, none) :: sl) st.sl }
/-- Of several places that hold one slice of one's own the first one. -/
def pickPs (st : St) : List Nat → List Nat → List Nat
  | _, [] => []
  | seen, d :: ds => match st.cellsAt (.slot d) with
    | some cs => if (vecsOf cs.2).all fun i => !seen.contains i && (look st.vec i).isSome then d :: pickPs st (vecsOf cs.2 ++ seen) ds else pickPs st seen ds
    | none => pickPs st seen ds
/-- The named slots that a code writes and of which something is known that can be made unknown. -/
def St.places (st : St) (w : List Nat) (seen : List Nat) : List Nat := pickPs st seen ((List.range st.nt).filter fun d => w.contains d && match look st.sl d with
  | some (.one s) => s.cells.all fun l => l.kind.isSome
  | _ => false)
/-- What the cells hold, where they were made unknown (from variable i on); all others are as they were. -/
def backL (vec : Vecs) : Nat → List Lf → List Lf → Option (List Lf)
  | _, [], [] => some []
  | i, l :: ls, m :: ms => match l with
    | .cnt te r => match m with
      | .cnt te' r' => if te = te' ∧ r = .var i then (backL vec (i + 1) ls ms).map (.cnt te r' :: ·) else none
      | _ => none
    | .vec te i' => if i' = i then match m with
      | .vec te' j => match look vec j with
        | some e => if te' = te ∧ e.1 = te then (backL vec (i + 1) ls ms).map (.cnt te (mkJoin j e.2) :: ·) else none
        | none => none
      | _ => none
      else none
    | l => match l.kind with
      | some k => if sameL l (Lf.ofKind k i) && decide (m.kind = some k) && k.noVec then (backL vec (i + 1) ls ms).map (m :: ·) else none
      | none => if sameL l m then backL vec i ls ms else none
  | _, _, _ => none
def backPs (st st' : St) : Nat → List Pl → Option (List Lf)
  | _, [] => some []
  | i, p :: ps => match st.cellsAt p, st'.cellsAt p with
    | some cs, some ds => if cs.1 = ds.1 then match backL st'.vec i cs.2 ds.2 with
        | some a => (backPs st st' (i + a.length) ps).map (a ++ ·)
        | none => none
      else none
    | _, _ => none
/-- Which slice stands at the end for which one at the head. -/
def vmapL : List Lf → List Lf → List (Nat × Nat)
  | .vec _ i :: cs, .vec _ j :: ds => (i, j) :: vmapL cs ds
  | _ :: cs, _ :: ds => vmapL cs ds
  | _, _ => []
def vmapPs (st st' : St) (ps : List Pl) : List (Nat × Nat) := ps.flatMap fun p => match st.cellsAt p, st'.cellsAt p with
  | some cs, some ds => vmapL cs.2 ds.2
  | _, _ => []
def keyOf : List (Nat × Nat) → Nat → Option Nat
  | [], _ => none
  | (k, j) :: l, i => if k = i then some j else keyOf l i
def curOf (vm : List (Nat × Nat)) (i : Nat) : Nat := (keyOf vm i).getD i
/-- All slices of one's own that are known at the head are known at the end, each one by itself. -/
def sameVec (st st' : St) (n : Nat) (ps : List Pl) (vm : List (Nat × Nat)) : Bool :=
  (st.vec.all fun p => match look st.vec p.1 with
    | none => true
    | some e => match look st'.vec (curOf vm p.1) with
      | some e' => Nat.beq e.1 e'.1 && (match keyOf vm p.1 with
        | some _ => Nat.ble n p.1 && decide (e.2 = .var p.1)
        | none => Nat.blt p.1 n && (ps.contains (.vec p.1) || (decide (e.2 = e'.2) && e.2.wf n)))
      | none => false) &&
  (st.vec.all fun p => st.vec.all fun q => Nat.beq p.1 q.1 || !Nat.beq (curOf vm p.1) (curOf vm q.1) || (look st.vec p.1).isNone || (look st.vec q.1).isNone)
def sameClo (st st' : St) (n : Nat) : Bool :=
  st.clo.all fun p => match look st.clo p.1 with
    | none => true
    | some e => match look st'.clo p.1 with
      | some e' => Nat.beq e.1 e'.1 && same0s e.2.1 e'.2.1 && sameLs e.2.2 e'.2.2 && wfC n st.nb p.1 (some e)
      | none => false
/-- All that is known at the head and is not among the places is known, alike, at the end. -/
def sameRest (st st' : St) (n : Nat) (ps : List Pl) : Bool :=
  (st.sl.all fun p => match look st.sl p.1 with
    | none => true
    | some sv => ps.contains (.slot p.1) || match look st'.sl p.1 with
      | some sv' => sameS sv sv'
      | none => false) &&
  (st.mem.all fun p => match look st.mem p.1 with
    | none => true
    | some mb => match look st'.mem p.1 with
      | some mb' => Nat.beq mb.1 mb'.1 && (ps.contains (.blk p.1) || sameLs mb.2 mb'.2)
      | none => false) &&
  sameVec st st' n ps (vmapPs st st' ps) && sameClo st st' n
/-- Of what was not made unknown nothing names the new variables. -/
def headWf (st : St) (n : Nat) (ps : List Pl) : Bool :=
  (st.sl.all fun p => ps.contains (.slot p.1) || match look st.sl p.1 with
    | none => true
    | some sv => sv.wf n st.nb) &&
  (st.mem.all fun p => Nat.blt p.1 st.nb && (ps.contains (.blk p.1) || match look st.mem p.1 with
    | none => true
    | some mb => mb.2.all (Lf.wf n st.nb))) &&
  (ps.all fun p => match st.cellsAt p with
    | some cs => cs.2.all fun l => l.kind.isSome || l.wf n st.nb
    | none => true) &&
  (st.bds.all fun p => Nat.blt p.1 n)
/-- What is not known any more at the end: its places. (For the reader of a tree.) -/
def diffs (st st' : St) (n : Nat) (ps : List Pl) : List Nat :=
  (st.sl.filterMap fun p => match look st.sl p.1 with
    | none => none
    | some sv => if ps.contains (.slot p.1) || (match look st'.sl p.1 with
      | some sv' => sameS sv sv'
      | none => false) then none else some (1000000 + p.1)) ++
  (st.mem.filterMap fun p => match look st.mem p.1 with
    | none => none
    | some mb => if (match look st'.mem p.1 with
      | some mb' => Nat.beq mb.1 mb'.1 && (ps.contains (.blk p.1) || sameLs mb.2 mb'.2)
      | none => false) then none else some (2000000 + p.1)) ++
  (st.vec.filterMap fun p => match look st.vec p.1 with
    | none => none
    | some e => match look st'.vec (curOf (vmapPs st st' ps) p.1) with
      | some e' => if Nat.beq e.1 e'.1 && (match keyOf (vmapPs st st' ps) p.1 with
        | some _ => Nat.ble n p.1 && decide (e.2 = .var p.1)
        | none => Nat.blt p.1 n && (ps.contains (.vec p.1) || (decide (e.2 = e'.2) && e.2.wf n))) then none else some (3000000 + p.1)
      | none => some (3000000 + p.1)) ++
  (if sameVec st st' n ps (vmapPs st st' ps) then [] else [4000000]) ++ (if sameClo st st' n then [] else [5000000]) ++
  (ps.zipIdx.filterMap fun q => match st.cellsAt q.1, st'.cellsAt q.1 with
    | some cs, some ds => if cs.1 = ds.1 && Nat.beq cs.2.length ds.2.length then none else some (6000000 + q.2)
    | _, _ => some (7000000 + q.2))
/-- The places of a loop; what is known before it; what is known at its head. -/
def loopPs (cx : Cx) (c : Code) (st : St) : List Pl :=
  (st.places (asg c) ((cx.hv (st.path * 100000 + (firstReg c).getD 0)).flatMap fun p => match st.cellsAt p with | some cs => vecsOf cs.2 | none => [])).map Pl.slot ++ cx.hv (st.path * 100000 + (firstReg c).getD 0)
def loopSt0 (cx : Cx) (c : Code) (st : St) : St := st.forget ((asg c).filter fun d => !(loopPs cx c st).contains (.slot d))
def loopSt1 (cx : Cx) (c : Code) (st : St) : St := { St.havoc (loopSt0 cx c st) (loopPs cx c st) with lvl := st.lvl + 1 }
/-! Ways that are led into one state -/
def St.newSl : List (Nat × Bool × List Lk) → St → St
  | [], st => st
  | (d, one, ks) :: l, st => St.newSl l { st with sl := (d, if one then (freshL ks st.nx).head?.map fun x => .one (.lf x) else some (.one (.agg (freshL ks st.nx)))) :: st.sl, nx := st.nx + ks.length, vec := freshV ks st.nx ++ st.vec }
/-- What is known where the ways have met. -/
def joinSt1 (j : List (Nat × Bool × List Lk) × List Pl) (ds : List Nat) (st : St) : St := { St.havoc (St.newSl j.1 (st.forget ds)) j.2 with lvl := st.lvl + 1 }
def joinPs (j : List (Nat × Bool × List Lk) × List Pl) : List Pl := j.1.map (fun x => .slot x.1) ++ j.2
def joinKs (j : List (Nat × Bool × List Lk) × List Pl) (st : St) : List Lk := j.1.flatMap (·.2.2) ++ j.2.flatMap fun p => match st.cellsAt p with
  | some cs => cs.2.filterMap Lf.kind
  | none => []
/-- The end of a way. -/
def joinEnd (st st1 : St) (ps : List Pl) (ks : List Lk) (id : Nat) (st' : St) : Option Tree :=
  if sameRest st1 st' st.nx ps && Nat.ble st1.nb st'.nb && Nat.beq st1.nt st'.nt then match backPs st1 st' st.nx ps with
    | some vals => if kindsL vals = some ks then some (obT (rngL st'.bds vals) (.back st.lvl vals)) else some (.fail 61004 [st.path, id])
    | none => some (.fail 61005 [st.path, id])
  else some (.fail 61003 ([st.path, id] ++ diffs st1 st' st.nx ps))
def joinOk (st st1 : St) (ps : List Pl) (ks : List Lk) : Bool :=
  headWf st1 st.nx ps && Nat.beq st1.nx (st.nx + ks.length) && Nat.ble st.nb st1.nb && Nat.beq st1.nt st.nt && decide (st1.bds = st.bds) && Nat.beq st1.lvl (st.lvl + 1)
def dstsOf (ops : Array Oper) : List Nat := ops.toList.filterMap (·.dst)
def joinT (cx : Cx) (id : Nat) (ops : Array Oper) (j : List (Nat × Bool × List Lk) × List Pl) (st : St) (k : St → Option Tree) : Option Tree :=
  if joinOk st (joinSt1 j (dstsOf ops) (st.hide ((cx.hv (st.path * 100000 + 50000 + id)).filter fun p => !j.2.contains p))) (joinPs j) (joinKs j st) && (Region.noSelect ops && (({ st with lvl := st.lvl + 1 } : St).hide (cx.hv (st.path * 100000 + 50000 + id))).wf) then
    match execAny cx ops true (({ st with lvl := st.lvl + 1 } : St).hide (cx.hv (st.path * 100000 + 50000 + id))) (joinEnd st (joinSt1 j (dstsOf ops) (st.hide ((cx.hv (st.path * 100000 + 50000 + id)).filter fun p => !j.2.contains p))) (joinPs j) (joinKs j st) id) (3 * ops.size + 8) ops.size (Array.replicate ops.size false) { st with lvl := st.lvl + 1 }, k (joinSt1 j (dstsOf ops) (st.hide ((cx.hv (st.path * 100000 + 50000 + id)).filter fun p => !j.2.contains p))) with
    | some ws, some t => some (.join (joinKs j st) ws t)
    | _, _ => none
  else some (.fail 61001 [st.path, id])
/-! A drawn region whose calls make new slices: its allocations are put off until all before the cut has come -/
/-- What an operation waits for. -/
def reach (ops : Array Oper) : List Nat → List Nat → List Nat
  | seen, [] => seen
  | seen, a :: l => if seen.any (fun m => edgeTo ops m a) then reach ops (a :: seen) l else reach ops seen l
def lcAt (ops : Array Oper) (n : Nat) : Bool :=
  (match ops[n]? with
    | some o => (match o.op with | .store .. => true | _ => false)
    | none => false) && waitedBy ops [n] ((List.range ops.size).drop (n + 1))
/-- The first store behind which all others come. -/
def lcN (ops : Array Oper) : Nat := ((List.range ops.size).find? (lcAt ops)).getD ops.size
def lcReach (ops : Array Oper) (i : Nat) : Bool := (reach ops [lcN ops] (List.range (lcN ops)).reverse).contains i || Nat.beq (lcN ops) ops.size
def lateAt (P : Program) (ops : Array Oper) (i : Nat) : Bool := Nat.blt i (lcN ops) && (match ops[i]? with | some o => allocOp P o | none => false)
def lateOps (P : Program) (ops : Array Oper) : List Oper := ((List.range (lcN ops)).filter (lateAt P ops)).filterMap fun i => ops[i]?
def lateDst (P : Program) (ops : Array Oper) : List Nat := (lateOps P ops).filterMap (·.dst)
def lateNone (P : Program) (ops : Array Oper) (st : St) : Bool := (lateDst P ops).all fun d => (look st.sl d).isNone && Nat.blt d st.nt && Nat.blt d 1000
/-- The others before the cut wait for no allocation, write no slot of one's, and stand under no guard. -/
def lateOk (P : Program) (ops : Array Oper) : Bool :=
  decide (lateDst P ops).Nodup && (Nat.ble (lcN ops) (cutN ops) && (List.range (lcN ops)).all fun i => !lateAt P ops i || lcReach ops i) && (List.range (lcN ops)).all fun i => lateAt P ops i || (match ops[i]? with
    | some o => o.guard.isNone && !((lateDst P ops).any fun d => decide (o.dst = some d)) && o.after.all fun e => !Region.binds .any e || !lateAt P ops e.on
    | none => false)
def earlyAt (P : Program) (ops : Array Oper) (i : Nat) : Bool := Nat.blt i (lcN ops) && !lateAt P ops i
/-- A field of a value: whatever the world holds. -/
def pureF (o : Oper) : Bool := match o.op with
  | .field .. => true
  | _ => false
def freeLate (cx : Cx) (ops : Array Oper) (h st : St) (L : Array Bool) (i : Nat) : Bool :=
  freeAt cx ops h st L i || (match ops[i]? with
    | some o => pureF o && Region.free .any ops L i && (opVal cx.P st o).isSome
    | none => false)
def execLate (cx : Cx) (ops : Array Oper) (h : St) (k : St → Option Tree) : Nat → Array Bool → St → Option Tree
  | 0, _, _ => none
  | f + 1, L, st =>
    match (Region.ready .any ops L).filter (earlyAt cx.P ops) with
    | [] => if (List.range (lcN ops)).all fun i => L.getD i false || lateAt cx.P ops i then k st else none
    | r :: rs => match (r :: rs).find? (fun i => freeLate cx ops h st L i) with
      | some i => match ops[i]? with
        | some o => if Region.free .any ops L i then match opVal cx.P st o, opVal cx.P (clsOf h st) o with
          | some (obs, sv), some (obs', sv') => if sameS sv sv' then
              ((st.learnAll (bothObs obs obs')).put o.dst (some sv)).bind fun st' => if lateNone cx.P ops st' then (execLate cx ops h k f (L.setIfInBounds i true) st').map (obT (bothObs obs obs')) else none
            else none
          | some (obs, sv), none => if pureF o then ((st.learnAll obs).put o.dst (some sv)).bind fun st' => if lateNone cx.P ops st' then (execLate cx ops h k f (L.setIfInBounds i true) st').map (obT obs) else none else none
          | _, _ => none
          else none
        | none => none
      | none => if !(r :: rs).all (lcReach ops) then none else merge true ((r :: rs).map fun r => match ops[r]? with
        | some o => doOpF cx st o fun st' => if covers h st' && lateNone cx.P ops st' then execLate cx ops h k f (L.setIfInBounds r true) st' else none
        | none => none)
def cutL (ops : Array Oper) : Array Bool := ((List.range ops.size).map fun i => Nat.blt i (lcN ops)).toArray
def isLate : Pl → Bool
  | .blk 3000000 => true
  | _ => false
/-- A slot (4000000 more) whose slice of one's own is given away first. -/
def frzSlot : Pl → Option Nat
  | .slot d => if 4000000 ≤ d then some (d - 4000000) else none
  | _ => none
def frzOf (j : List (Nat × Bool × List Lk) × List Pl) (st : St) : List Nat := (j.2.filterMap frzSlot).flatMap fun d => vecsOf (s0Cells st (.tmp d))
/-- The ways of the calls meet before the allocations. -/
def lateJ (j : List (Nat × Bool × List Lk) × List Pl) : List (Nat × Bool × List Lk) × List Pl := (j.1, j.2.filter fun p => !isLate p && (frzSlot p).isNone)
def lateT (cx : Cx) (id : Nat) (ops : Array Oper) (j : List (Nat × Bool × List Lk) × List Pl) (st : St) (k : St → Option Tree) : Option Tree :=
  if joinOk st (joinSt1 j (dstsOf ops) (st.hide ((cx.hv (st.path * 100000 + 50000 + id)).filter fun p => !j.2.contains p))) (joinPs j) (joinKs j st) && (Region.noSelect ops && (({ st with lvl := st.lvl + 1 } : St).hide (cx.hv (st.path * 100000 + 50000 + id))).wf) && (lateOk cx.P ops && (lateNone cx.P ops (({ st with lvl := st.lvl + 1 } : St).forget (lateDst cx.P ops)) && Nat.beq (cutH ops (({ st with lvl := st.lvl + 1 } : St).hide (cx.hv (st.path * 100000 + 50000 + id)))) (cutN ops))) then
    match execLate cx ops (({ st with lvl := st.lvl + 1 } : St).hide (cx.hv (st.path * 100000 + 50000 + id))) (joinEnd st (joinSt1 j (dstsOf ops) (st.hide ((cx.hv (st.path * 100000 + 50000 + id)).filter fun p => !j.2.contains p))) (joinPs j) (joinKs j st) id) (3 * ops.size + 8) (Array.replicate ops.size false) (({ st with lvl := st.lvl + 1 } : St).forget (lateDst cx.P ops)),
      execOps cx ops (lateOps cx.P ops) (joinSt1 j (dstsOf ops) (st.hide ((cx.hv (st.path * 100000 + 50000 + id)).filter fun p => !j.2.contains p))) (fun st2 => execAny cx ops false (({ st with lvl := st.lvl + 1 } : St).hide (cx.hv (st.path * 100000 + 50000 + id))) k (3 * ops.size + 8) (ops.size - lcN ops) (cutL ops) st2) with
    | some ws, some t => some (.join (joinKs j st) ws t)
    | _, _ => none
  else some (.fail 61001 [st.path, id])
/-- The number of an if: its first region's. -/
def condKey (st : St) (a b : Code) : Nat := st.path * 100000 + 90000 + ((firstReg a).getD ((firstReg b).getD 0))
def joinK (st st1 : St) (ps : List Pl) (ks : List Lk) (k : Ex → St → Option Tree) (x : Ex) (st' : St) : Option Tree :=
  match x with
  | .nrm => joinEnd st st1 ps ks 90000 st'
  | x => k x st'
/-- No deferred call. -/
def Oper.noDefer (o : Oper) : Bool := match o.op with
  | .defer _ => false
  | _ => true
/-- A loop carried out round by round, so many at most. -/
def unroll (e : St → (Ex → St → Option Tree) → Option Tree) (k : Ex → St → Option Tree) : Nat → St → Option Tree
  | 0, st => some (.fail 60009 [st.path])
  | n + 1, st => e st fun x st' => match x with
    | .nrm => unroll e k n st'
    | x => k x st'
def unN : List Pl → Nat
  | .blk b :: _ => b - 2000000
  | _ => 0
def exec (cx : Cx) : Code → St → (Ex → St → Option Tree) → Option Tree
  | .skip, st, k => k .nrm st
  | .label _, st, k => k .nrm st
  | .seq a b, st, k => exec cx a st fun x st => match x with
    | .nrm => exec cx b st k
    | x => k x st
  | .cond c a b, st, k => match st.lf c with
    | some (.bool (.lit t)) => if t then exec cx a st k else exec cx b st k
    | some (.bool e) => match cx.jn (condKey st a b) with
      | none => match exec cx a { st with bds := learn st.nx st.bds e true } k, exec cx b { st with bds := learn st.nx st.bds e false } k with
        | some t, some f => some (.split e t f)
        | _, _ => none
      | some j => if joinOk st (joinSt1 j (asg a ++ asg b) (st.hide (cx.hv (condKey st a b)))) (joinPs j) (joinKs j st) then
          match exec cx a { st with lvl := st.lvl + 1, bds := learn st.nx st.bds e true } (joinK st (joinSt1 j (asg a ++ asg b) (st.hide (cx.hv (condKey st a b)))) (joinPs j) (joinKs j st) k), exec cx b { st with lvl := st.lvl + 1, bds := learn st.nx st.bds e false } (joinK st (joinSt1 j (asg a ++ asg b) (st.hide (cx.hv (condKey st a b)))) (joinPs j) (joinKs j st) k), k .nrm (joinSt1 j (asg a ++ asg b) (st.hide (cx.hv (condKey st a b)))) with
          | some t, some f, some r => some (.join (joinKs j st) (.split e t f) r)
          | _, _, _ => none
        else some (.fail 61001 [st.path, condKey st a b])
    | _ => none
  | .block id c, st, k => exec cx c st fun x st => match x with
    | .ext i => if i = id then k .nrm st else k (.ext i) st
    | x => k x st
  | .scope c, st, k => exec cx c st k
  | .exit id, st, k => k (.ext id) st
  | .ret, st, k => k .ret st
  | .region id ops draw, st, k => if ops.toList.all Oper.noDefer then if !draw || drawOk cx ops then match cx.jn (st.path * 100000 + 50000 + id) with
      | none => execOps cx ops ops.toList st (k .nrm)
      | some j => if joinOk st (joinSt1 j (dstsOf ops) st) (joinPs j) (joinKs j st) then
          match execOps cx ops ops.toList { st with lvl := st.lvl + 1 } (joinEnd st (joinSt1 j (dstsOf ops) st) (joinPs j) (joinKs j st) id), k .nrm (joinSt1 j (dstsOf ops) st) with
          | some ws, some t => some (.join (joinKs j st) ws t)
          | _, _ => none
        else some (.fail 61001 [st.path, id])
    else match cx.jn (st.path * 100000 + 50000 + id) with
    | some j => orF (freezeAll (frzOf j st) st fun st => if j.2.any isLate then lateT cx id ops (lateJ j) st (k .nrm) else joinT cx id ops (lateJ j) st (k .nrm)) (51000 + id) [st.path]
    | none => orF (if Region.noSelect ops && (st.hide (cx.hv (st.path * 100000 + 50000 + id))).wf then
      execAny cx ops false (st.hide (cx.hv (st.path * 100000 + 50000 + id))) (k .nrm) (3 * ops.size + 8) ops.size (Array.replicate ops.size false) st
    else none) (50000 + id) [st.path]
    else none
  | .loop c, st, k =>
    if unN (cx.hv (st.path * 100000 + (firstReg c).getD 0)) ≠ 0 then unroll (fun st k => exec cx c st k) k (unN (cx.hv (st.path * 100000 + (firstReg c).getD 0))) st else
    match backPs (loopSt1 cx c st) (loopSt0 cx c st) st.nx (loopPs cx c st) with
    | none => some (.fail 60001 [st.path, (firstReg c).getD 0])
    | some init => match kindsL init with
      | none => some (.fail 60002 [st.path, (firstReg c).getD 0])
      | some ks =>
        if st.wf && headWf (loopSt1 cx c st) st.nx (loopPs cx c st) && sameRest (loopSt1 cx c st) (loopSt0 cx c st) st.nx (loopPs cx c st) && Nat.beq (loopSt1 cx c st).nx (st.nx + ks.length) && Nat.beq (loopSt1 cx c st).nb st.nb && Nat.beq (loopSt1 cx c st).nt st.nt && decide ((loopSt1 cx c st).bds = st.bds) then
          (exec cx c (loopSt1 cx c st) fun x st' => match x with
            | .nrm => if sameRest (loopSt1 cx c st) st' st.nx (loopPs cx c st) && Nat.ble (loopSt1 cx c st).nb st'.nb && Nat.beq (loopSt1 cx c st).nt st'.nt then match backPs (loopSt1 cx c st) st' st.nx (loopPs cx c st) with
                | some vals => if kindsL vals = some ks then some (obT (rngL st'.bds vals) (.back st.lvl vals)) else some (.fail 60004 [st.path, (firstReg c).getD 0])
                | none => some (.fail 60005 [st.path, (firstReg c).getD 0])
              else some (.fail 60003 ([st.path, (firstReg c).getD 0] ++ diffs (loopSt1 cx c st) st' st.nx (loopPs cx c st)))
            | x => k x st').map fun t => obT (rngL st.bds init) (.loop ks init t)
        else some (.fail 60006 ([st.path, (firstReg c).getD 0] ++ diffs (loopSt1 cx c st) (loopSt0 cx c st) st.nx (loopPs cx c st)))
  | _, _, _ => none

end Go.Proofs.Ytcglpbchejkolaa
