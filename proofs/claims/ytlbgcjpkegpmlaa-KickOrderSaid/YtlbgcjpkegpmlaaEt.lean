/- The engine, part 11b: regions that draw their order: operations that come in any order, then some one by one. -/
import Derived.Test.YtlbgcjpkegpmlaaEq
import Derived.StillTail
namespace Go.Proofs.Ytlbgcjpkegpmlaa
open Go.RowKit
set_option linter.unusedSimpArgs false
set_option linter.unusedVariables false

def Lk.flatNum : Lk → Bool
  | .int | .bool => true
  | _ => false
/-- An operation that may come in any order. -/
def freeOp (cx : Cx) (o : Oper) : Bool :=
  match o.op with
  | .move _ | .assign _ | .pick .. | .load .. | .binOp .. | .unOp .. | .fieldAddr .. | .field .. | .indexAddr .. | .build .. | .extract .. | .nilCheck _ => true
  | .call c => match c.callee with
    | .value (.func f) => (cx.sel f).isNone && (((cx.inl f).isSome && (cx.ct f).isNone) || (match cx.ct f with
      | some ct => (cx.inl f).isNone && ct.det && (kindsOf ct.res).all Lk.flatNum && ct.args.all (fun s => !s.isBox) && ct.res.all (fun s => !s.isBox)
      | none => false))
    | .builtin .len | .builtin .max | .builtin .min => true
    | _ => false
  | _ => false
def waits (ops : Array Oper) (i j : Nat) : Bool :=
  match ops[i]? with
  | some o => o.after.any fun e => Region.binds .any e && Nat.beq e.on j
  | none => false
def dstOf (ops : Array Oper) (j : Nat) : Option Tmp := (ops[j]?).bind (·.dst)
/-- The first n operations: each slot is written once, and read only behind its writer. -/
def headOk (ops : Array Oper) (n : Nat) : Bool :=
  (List.range n).all fun i => match ops[i]? with
    | some o => (List.range n).all fun j => match dstOf ops j with
      | some t => (Nat.beq i j || decide (o.dst ≠ some t)) && (!(o.looksAt ops).contains t || (Nat.blt j i && waits ops i j))
      | none => true
    | none => false
/-- Those behind them wait for all of them, and come one by one. -/
def tailOk (ops : Array Oper) (n : Nat) : Bool :=
  decide (n ≤ ops.size) &&
  (Nat.beq n ops.size || (Region.sinkB .any ops n && Region.chainB .any ops n)) &&
  Region.seqB .any ops (ops.size - n) n ((List.replicate n true ++ List.replicate (ops.size - n) false).toArray) &&
  (List.range n).all fun i => match ops[i]? with
    | some o => o.after.all fun e => !Region.binds .any e || Nat.blt e.on i
    | none => false
def headLen (cx : Cx) (ops : Array Oper) : Nat := (ops.toList.takeWhile (freeOp cx)).length
/-- Is the next one an allocation, that may come before or among the free ones? -/
def allocAt (ops : Array Oper) (n : Nat) : Bool :=
  match ops[n]? with
  | some o => (match o.op with | .alloc _ => true | _ => false) && o.guard.isNone && o.dst.isSome && o.after.isEmpty
  | none => false
def drawLen (cx : Cx) (ops : Array Oper) : Nat := if allocAt ops (headLen cx ops) then headLen cx ops + 1 else headLen cx ops
def drawOk (cx : Cx) (ops : Array Oper) : Bool := headOk ops (drawLen cx ops) && tailOk ops (drawLen cx ops)

section
variable {cx : Cx} {R : List C → Prop} {F : Nat → Prop} {w0 : World}

/-- An operation's value, whatever the world of the class and wherever the frame is alike at what it reads. -/
def Quiet (P : Program) (ops : Array Oper) (Cl : Option Nat → World → Prop) (o : Oper) (v : Value) (a : Act) : Prop :=
  (Region.wanted o (yielded ops a.tmps) = true ∧ ∀ a', (∀ x ∈ o.op.operands, a'.eval x = a.eval x) → ∀ ob w, Cl ob w → ∀ K Q, (∀ w', Cl ob w' → K (a'.put o.dst v) w') → o.wp P a' w K Q) ∨
  (Region.wanted o (yielded ops a.tmps) = false ∧ v = undef)

/-- All that is known holds in each world of a class that a call does not leave. -/
structure Cls (P : Program) (F : Nat → Prop) (w0 : World) (Cl : Option Nat → World → Prop) (Γ : Env) (st : St) (a : Act) : Prop where
  sat : ∀ ob w, Cl ob w → Sat P F w0 (Γ.addO ob) st a w
  below : ∀ ob w w', Cl ob w → Below w.heap.size w w' → Cl ob w'
theorem View.congr {P : Program} {Γ : Env} {st : St} {xs : Array Operand} {ρ ρ' : Operand → Value} {w : World} (h : View P Γ st xs ρ w) (he : ∀ x ∈ xs, ρ' x = ρ x) : View P Γ st xs ρ' w :=
  ⟨fun x hx sv hs => by rw [he x hx]; exact h.slots x hx sv hs, h.mem, h.vec, h.clo, h.num⟩

theorem boxKinds_none {ss : List Sh0} (h : ss.all (fun s => !s.isBox) = true) : boxKinds ss = [] := by
  induction ss with
  | nil => rfl
  | cons s ss ih =>
    simp only [List.all_cons, Bool.and_eq_true] at h
    have e : boxKinds (s :: ss) = boxKinds ss := by cases s <;> first | rfl | cases h.1
    rw [e]; exact ih h.2
theorem flatNum_flatK {P : Program} {ks : List Lk} (h : ks.all Lk.flatNum = true) : ks.all (flatK P) = true ∧ ks.all Lk.noArr = true ∧ ks.all Lk.noVec = true := by
  induction ks with
  | nil => exact ⟨rfl, rfl, rfl⟩
  | cons k ks ih =>
    simp only [List.all_cons, Bool.and_eq_true] at h ⊢
    obtain ⟨h1, h2, h3⟩ := ih h.2
    cases k <;> first | exact ⟨⟨rfl, h1⟩, ⟨rfl, h2⟩, ⟨rfl, h3⟩⟩ | cases h.1
theorem freeOp_freeze {o : Oper} (h : freeOp cx o = true) (st : St) : toFreeze cx st o = [] := by
  unfold freeOp at h
  unfold toFreeze
  cases hop : o.op <;> rw [hop] at h <;> simp only [] at h ⊢ <;> try (first | rfl | cases h)
  · rename_i c
    split at h
    · rename_i f hf
      simp only [hf]
      simp only [Bool.and_eq_true, Bool.or_eq_true] at h
      rcases h.2 with h1 | h1
      · cases hct : cx.ct f with
        | none => rfl
        | some ct => rw [hct] at h1; cases h1.2
      · cases hct : cx.ct f with
        | none => rfl
        | some ct =>
          rw [hct] at h1
          simp only [Bool.and_eq_true] at h1
          simp only []
          rw [if_pos]
          rw [List.all_append, Bool.and_eq_true, boxKinds_none h1.1.2]
          exact ⟨(flatNum_flatK h1.1.1.2).1, rfl⟩
    · rename_i hf; simp only [hf]
    · rename_i hf; simp only [hf]
    · rename_i hf; simp only [hf]
    · cases h
theorem doOp_quiet (hcx : CxOK cx) {ops : Array Oper} {Cl : Option Nat → World → Prop} {w1 : World} (hw1 : Cl none w1) {st : St} {o : Oper} (hfree : freeOp cx o = true) {k : St → Option Tree} {T : Tree} (h : doOp cx st o k = some T)
    {Γ : Env} {Ls : List (List C → Prop)} (hvc : VC cx R T Γ.ρ Ls) {a : Act} (hcl : Cls cx.P F w0 Cl Γ st a) (hwant : Region.wanted o (yielded ops a.tmps) = true) :
    ∃ v st' T' Γ', k st' = some T' ∧ Ext Γ Γ' ∧ st'.lvl = st.lvl ∧ VC cx R T' Γ'.ρ Ls ∧ Cls cx.P F w0 Cl Γ' st' (a.put o.dst v) ∧ Quiet cx.P ops Cl o v a ∧ st'.mem = st.mem ∧ st'.nb = st.nb := by
  have hs : Sat cx.P F w0 Γ st a w1 := by have := hcl.sat none w1 hw1; rwa [Env.addO_none] at this
  have hv := hs.view o.op.operands
  unfold doOp at h
  split at h
  · rename_i obs sv hop
    have hval : ∀ a', (∀ x ∈ o.op.operands, a'.eval x = a.eval x) → Obs Γ.ρ obs → ∀ ob w, Cl ob w → ∀ K Q, (∀ w', Cl ob w' → K (a'.put o.dst (sv.den Γ)) w') → o.wp cx.P a' w K Q := fun a' ha' hob ob w hw K Q hK => by
      have hsw := hcl.sat ob w hw
      unfold Oper.wp
      rw [(opVal_ok hop ((hsw.view _).congr ha') hob).1, SV.den_addO]
      exact hK w hw
    have plain : ((st.learnAll obs).put o.dst (some sv)).bind (fun st => (k st).map (obT obs)) = some T → ∃ v st' T' Γ', k st' = some T' ∧ Ext Γ Γ' ∧ st'.lvl = st.lvl ∧ VC cx R T' Γ'.ρ Ls ∧ Cls cx.P F w0 Cl Γ' st' (a.put o.dst v) ∧ Quiet cx.P ops Cl o v a ∧ st'.mem = st.mem ∧ st'.nb = st.nb := fun h => by
      cases hp : (st.learnAll obs).put o.dst (some sv) with
      | none => simp [hp] at h
      | some st' =>
        cases hk' : k st' with
        | none => simp [hp, hk'] at h
        | some T' =>
          simp [hp, hk'] at h
          subst h
          obtain ⟨hob, hvc'⟩ := VC.obT hvc
          refine ⟨sv.den Γ, st', T', Γ, hk', Ext.refl _, by rw [St.put_lvl hp]; rfl, hvc', ⟨fun ob w hw => ?_, hcl.below⟩, .inl ⟨hwant, fun a' ha' => hval a' ha' hob⟩, by rw [St.put_mem hp]; rfl, by rw [St.put_nb hp]; rfl⟩
          have hsw := hcl.sat ob w hw
          have := (hsw.learn hob).put hp (opVal_ok hop (hsw.view _) hob).2
          rwa [SV.den_addO] at this
    split at h
    · rename_i s
      split at h
      · rename_i s' st1 n hn
        cases hp : st1.put o.dst (some (.one s')) with
        | none => simp [hp] at h
        | some st' =>
          cases hk' : k st' with
          | none => simp [hp, hk'] at h
          | some T' =>
            simp [hp, hk'] at h
            subst h
            obtain ⟨hob, hvc'⟩ := VC.obT hvc
            have hvc2 := VC.dfnN hvc'
            obtain ⟨e1, -, e3, -, e5, e6, e7, -⟩ := (hs.learn hob).nils hn (opVal_ok hop hv hob).2
            refine ⟨(SV.one s).den Γ, st', T', { Γ with ρ := Γ.ρ ++ List.replicate n nilC }, hk', e1, by rw [St.put_lvl hp, e5]; rfl, hvc2, ⟨fun ob w hw => ?_, hcl.below⟩, .inl ⟨hwant, fun a' ha' => hval a' ha' hob⟩, by rw [St.put_mem hp, e7]; rfl, by rw [St.put_nb hp, e6]; rfl⟩
            have hsw := hcl.sat ob w hw
            obtain ⟨-, f2, f3, f4, -⟩ := (hsw.learn hob).nils hn (opVal_ok hop (hsw.view _) hob).2
            have := f2.put hp (sv := .one s') f4
            rw [show (SV.one s').den _ = (SV.one s).den (Γ.addO ob) from f3, SV.den_addO] at this
            exact this
      · exact plain h
    · exact plain h
  · split at h
    · rename_i t hopeq; simp [freeOp, hopeq] at hfree
    · rename_i t x hopeq; simp [freeOp, hopeq] at hfree
    · rename_i t p x hopeq; simp [freeOp, hopeq] at hfree
    · rename_i t len ps hopeq; simp [freeOp, hopeq] at hfree
    · rename_i t n m hopeq; simp [freeOp, hopeq] at hfree
    · rename_i f first cap hopeq; simp [freeOp, hopeq] at hfree
    · rename_i c hopeq
      obtain ⟨callee, cargs, ctypes⟩ := c
      simp only [] at h
      split at h
      · rename_i la lb hargs; simp [freeOp, hopeq] at hfree
      · rename_i f args hargs
        have hmap : ∀ (a' : Act) (ob : Option Nat) (w : World), (∀ x ∈ o.op.operands, a'.eval x = a.eval x) → Cl ob w → (cargs.map a'.eval = (args.map (S0.den Γ)).toArray) ∧ ∀ s ∈ args, s.ok cx.P w (Own (Γ.addO ob) st) (Γ.addO ob) := fun a' ob w ha' hw => by
          obtain ⟨ha1, ha2⟩ := s0s_ok (((hcl.sat ob w hw).view o.op.operands).congr ha') cargs.toList args hargs (fun x hx => by rw [hopeq]; simp [Op.operands, Call.operands]; right; simpa using hx)
          rw [List.map_congr_left fun x _ => S0.den_addO Γ ob x] at ha1
          exact ⟨by apply Array.ext'; simp [ha1], ha2⟩
        have hrun : ∀ (a' : Act) (ob : Option Nat) (w : World), (∀ x ∈ o.op.operands, a'.eval x = a.eval x) → Cl ob w → ∀ hc : Callable cx.P f, (execOp a'.eval o).run cx.P w = .ok (.enter f (args.map (S0.den Γ)).toArray) w := fun a' ob w ha' hw hc => by
          unfold execOp
          rw [hopeq]
          simp only [resolve, Deferred.ofValue, Act.eval, (hmap a' ob w ha' hw).1, pure_bind, invoke, Array.empty_append, Array.append_empty, Sem.run_bind, Sem.run_pure, Result.andThen_ok]
          exact run_callFunc' hc _ _
        have hsn : cx.sel f = none := by
          simp only [freeOp, hopeq, Bool.and_eq_true, Option.isNone_iff_eq_none] at hfree
          exact hfree.1
        rw [hsn] at h
        simp only [] at h
        split at h
        · rename_i g hg
          obtain ⟨hc, hi⟩ := hcx.inl f g hg
          split at h
          · rename_i obs s hgs
            cases hp : (st.learnAll obs).put o.dst (some (.one s)) with
            | none => simp [hp] at h
            | some st' =>
              cases hk' : k st' with
              | none => simp [hp, hk'] at h
              | some T' =>
                simp [hp, hk'] at h
                subst h
                obtain ⟨hob, hvc'⟩ := VC.obT hvc
                obtain ⟨hpl, hcall⟩ := hi Γ st.bds args obs s hs.num hgs hob
                have hsok : ∀ ob w, (SV.one s).ok cx.P w (Own (Γ.addO ob) st) (Γ.addO ob) := fun ob w l hl => by
                  have := List.all_eq_true.1 hpl l hl
                  cases l <;> first | trivial | cases this
                refine ⟨(SV.one s).den Γ, st', T', Γ, hk', Ext.refl _, by rw [St.put_lvl hp]; rfl, hvc', ⟨fun ob w hw => ?_, hcl.below⟩, .inl ⟨hwant, fun a' ha' ob w hw K Q hK => ?_⟩, by rw [St.put_mem hp]; rfl, by rw [St.put_nb hp]; rfl⟩
                · have := ((hcl.sat ob w hw).learn hob).put hp (hsok ob w)
                  rwa [SV.den_addO] at this
                unfold Oper.wp
                rw [hrun a' ob w ha' hw hc]
                refine (hcall w).mono fun e w' ⟨he, hb⟩ => ?_
                subst he
                exact hK w' (hcl.below ob w w' hw hb)
          · cases h
        · rename_i hinl
          unfold callF at h
          split at h
          rotate_left
          · rename_i hct
            exfalso
            simp only [freeOp, hopeq, hct, hinl] at hfree
            simp at hfree
          unfold callCt at h
          split at h
          · rename_i ct hct
            obtain ⟨hc, hcok, hdet⟩ := hcx.ct f ct hct
            have hfr : ((ct.det = true ∧ (kindsOf ct.res).all Lk.flatNum = true) ∧ ct.args.all (fun s => !s.isBox) = true) ∧ ct.res.all (fun s => !s.isBox) = true := by
              simp only [freeOp, hopeq, hct, Bool.or_eq_true, Bool.and_eq_true] at hfree
              rcases hfree.2 with h1 | h1
              · rw [hinl] at h1; cases h1.1
              · exact ⟨⟨⟨h1.1.1.1.2, h1.1.1.2⟩, h1.1.2⟩, h1.2⟩
            obtain ⟨⟨hfr0, hab⟩, hrb⟩ := hfr
            obtain ⟨hfK, hfA, hfV⟩ := flatNum_flatK (P := cx.P) hfr0.2
            have hfr : ct.det = true ∧ (kindsOf ct.res).all Lk.noArr = true := ⟨hfr0.1, hfA⟩
            have hvb : ∀ rs, vecB (kindsOf ct.res) rs = [] := fun rs => vecB_noVec hfV
            split at h
            · rename_i hcond
              obtain ⟨hsh, hwf, hbx, -⟩ := hcond
              generalize hargs' : adapts cx.P st.vec ct.args args = args' at *
              obtain ⟨n1, n2, n3, n4⟩ := shapes_noBox hsh hab
              have hcall : st.called ct args' = { st with nx := st.nx + (kindsOf ct.res ++ boxKinds ct.args).length } := by unfold St.called boxMem; rw [freshMem_noBox _ _ _ hrb, n1, freshV_noVec hfV]; rfl
              rw [hcall] at h
              generalize hst1 : ({ st with nx := st.nx + (kindsOf ct.res ++ boxKinds ct.args).length } : St) = st1 at h
              cases hp : st1.put o.dst (some (svOf (freshS st.nb ct.res st.nx))) with
              | none => simp [hp] at h
              | some st' =>
                cases hk' : k st' with
                | none => simp [hp, hk'] at h
                | some T' =>
                  simp [hp, hk'] at h
                  subst h
                  obtain ⟨hob, hvc'⟩ := VC.obT hvc
                  simp only [VC, hct] at hvc'
                  obtain ⟨hpre, hall⟩ := hvc'
                  have hcalls : ∀ ob w, Cl ob w → Calls cx.P f (args.map (S0.den Γ)).toArray w fun e w' => ∃ v rs, e = .returned v ∧ Res cx.P w' (Own (Γ.addO ob) st) w.heap.size ct.res v rs ∧ ct.post (cs_ Γ.ρ (cellsOf st.mem args')) rs ∧ Below w.heap.size w w' := fun ob w hw => by
                    have hsw := hcl.sat ob w hw
                    obtain ⟨hden, hok'⟩ := adapts_spec hsw (O' := OwnM (Γ.addO ob) st) (fun _ _ h => h.own) (shs := ct.args) (fun s hs' l hl' hv i e hi b hb o ho => by
                      rcases ho with ho | ⟨j, ho⟩
                      · exact ((hsw.vec i e hi).2.2 b hb).2 o ho
                      · have := (hsw.inj _ _ _ _ _ ho (Hold.vec (Γ := Γ.addO ob) hi hb)).1; cases this) (hmap a ob w (fun _ _ => rfl) hw).2
                    rw [hargs'] at hden hok'
                    have hnv : (kindsOf ct.args).all Lk.noVec = true := by
                      simp only [boxOk, Bool.and_eq_true] at hbx; exact hbx.2
                    have hr := cells_rep (P := cx.P) (w := w) (Γ := Γ.addO ob) (old := none) hs.num hsh (shapes_okR (Γ := Γ.addO ob) hsh hnv hok').1 (fun b mb hb => absurd hb (n4 b)) hob
                    rw [hden, List.map_congr_left fun x _ => S0.den_addO Γ ob x] at hr
                    refine (hcok (OwnM (Γ.addO ob) st) w _ _ (fun b o hb => hsw.own_lt b o hb.own) hr hpre).mono ?_
                    rintro e w' ⟨v, rs, outs, rfl, hres, houts, hpost, hkeep⟩
                    have ho := outs_noBox hab houts
                    subst ho
                    rw [List.append_nil] at hpost
                    exact ⟨v, rs, rfl, hres.flat hfK, hpost, ⟨hkeep.os, hkeep.tape, hkeep.output, hkeep.size, fun i hi => hkeep.block i ⟨hi, n3 _ i⟩⟩⟩
                  obtain ⟨e, w', fr, ⟨v, rs, -, hres, hpost, -⟩, -⟩ := hcalls none w1 hw1 []
                  have hty0 : CTy cx.P (kindsOf ct.res) rs := by obtain ⟨vs, -, hr, -⟩ := hres; exact hr.ty
                  have hty : CTy cx.P (kindsOf ct.res ++ boxKinds ct.args) rs := by rw [n2, List.append_nil]; exact hty0
                  have hvc2 := allC_elim hall rs hty hpost
                  have hsm : Smalls (Γ.ρ ++ rs) := hs.num.len.app fun c hc' => hty.small c hc'
                  have hlvl : st1.lvl = st.lvl := by rw [← hst1]
                  have hden : ∀ ob w v, Res cx.P w (Own (Γ.addO ob) st) w.heap.size ct.res v rs → (svOf (freshS st.nb ct.res st.nx)).den { Γ with ρ := Γ.ρ ++ rs } = v := fun ob w v hr =>
                    (svOf_rep (Γ := { Γ with ρ := Γ.ρ ++ rs }) (nb := st.nb) hr (fun vs _ _ b hb => absurd hb (isBox_noBox hrb)) (i := st.nx) (fun j c hj => by rw [← hs.len]; exact at_app hj)).1
                  have hden' : ∀ ob w n v, Res cx.P w (Own (Γ.addO ob) st) n ct.res v rs → (svOf (freshS st.nb ct.res st.nx)).den { Γ with ρ := Γ.ρ ++ rs } = v := fun ob w n v hr =>
                    (svOf_rep (Γ := { Γ with ρ := Γ.ρ ++ rs }) (nb := st.nb) hr (fun vs _ _ b hb => absurd hb (isBox_noBox hrb)) (i := st.nx) (fun j c hj => by rw [← hs.len]; exact at_app hj)).1
                  have hnoarr : ∀ (O : Nat → Nat → Prop) (w : World) (Γ' : Env), (svOf (freshS st.nb ct.res st.nx)).ok cx.P w O Γ' := fun O w Γ' => by
                    have hL : ∀ (ks : List Lk) (i : Nat), ks.all Lk.flatNum = true → ∀ l ∈ freshL ks i, l.ok cx.P w O Γ' := by
                      intro ks
                      induction ks with
                      | nil => intro i _ l hl; cases hl
                      | cons k ks ih =>
                        intro i hk l hl
                        simp only [List.all_cons, Bool.and_eq_true] at hk
                        rcases List.mem_cons.1 hl with rfl | hl
                        · cases k with
                          | int => trivial
                          | bool => trivial
                          | _ => cases hk.1
                        · exact ih _ hk.2 l hl
                    have hS : ∀ (ss : List Sh0) (i : Nat), (kindsOf ss).all Lk.flatNum = true → ∀ s ∈ freshS st.nb ss i, s.ok cx.P w O Γ' := by
                      intro ss
                      induction ss with
                      | nil => intro i _ l hl; cases hl
                      | cons s ss ih =>
                        intro i hk x hx
                        have hk' : s.kinds.all Lk.flatNum = true ∧ (kindsOf ss).all Lk.flatNum = true := by
                          simp only [kindsOf, List.flatMap_cons, List.all_append, Bool.and_eq_true] at hk
                          exact hk
                        rcases List.mem_cons.1 hx with rfl | hx
                        · cases s with
                          | lf k =>
                            intro l hl
                            exact hL [k] i hk'.1 l (by simpa [Sh0.fresh, S0.cells, freshL] using hl)
                          | agg ks => exact hL ks i hk'.1
                          | box t ks => intro l hl; simp [Sh0.fresh, S0.cells] at hl; subst hl; trivial
                        · exact ih _ hk'.2 x hx
                    have := hS ct.res st.nx hfr0.2
                    unfold svOf
                    split
                    · rename_i s hs'
                      exact this s (by rw [hs']; simp)
                    · exact this
                  refine ⟨(svOf (freshS st.nb ct.res st.nx)).den { Γ with ρ := Γ.ρ ++ rs }, st', T', { Γ with ρ := Γ.ρ ++ rs }, hk', ⟨⟨rs, rfl⟩, fun _ _ => rfl, Nat.le_refl _, rfl, rfl⟩, (St.put_lvl hp).trans hlvl, hvc2, ⟨fun ob w hw => ?_, hcl.below⟩, .inl ⟨hwant, fun a' ha' ob w hw K Q hK => ?_⟩, by rw [St.put_mem hp, ← hst1], by rw [St.put_nb hp, ← hst1]⟩
                  · have hgrow := (hcl.sat ob w hw).grow hwf hsm
                    rw [hty.len, hst1] at hgrow
                    have := hgrow.put hp (hnoarr _ w _)
                    rwa [show ({ Γ.addO ob with ρ := (Γ.addO ob).ρ ++ rs } : Env) = ({ Γ with ρ := Γ.ρ ++ rs } : Env).addO ob from rfl, SV.den_addO] at this
                  · unfold Oper.wp
                    rw [hrun a' ob w ha' hw hc]
                    refine (hcalls ob w hw).mono ?_
                    rintro e w' ⟨v', rs', rfl, hres', hpost', hb⟩
                    have e := hdet hfr.1 _ _ _ hpost hpost'
                    subst e
                    rw [← hden' ob w' _ v' hres']
                    exact hK w' (hcl.below ob w w' hw hb)
            · cases h
          · cases h
      · simp [freeOp, hopeq] at hfree
      · cases h
    · cases h
theorem Quiet.skip {P : Program} {ops : Array Oper} {Cl : Option Nat → World → Prop} {o : Oper} {a : Act} (h : Region.wanted o (yielded ops a.tmps) = false) : Quiet P ops Cl o undef a := .inr ⟨h, rfl⟩
/-- The frame behind the first operations of a row. -/
def putAll : List Oper → List Value → Act → Act
  | o :: l, v :: vs, a => putAll l vs (a.put o.dst v)
  | _, _, a => a
/-- What each operation of a row yields, one behind the other. -/
def Yield (P : Program) (ops : Array Oper) (Cl : Option Nat → World → Prop) : List Oper → List Value → Act → Prop
  | [], [], _ => True
  | o :: l, v :: vs, a => Quiet P ops Cl o v a ∧ Yield P ops Cl l vs (a.put o.dst v)
  | _, _, _ => False
/-- The free operations, in the text's order: what they yield, and what is known behind them. -/
theorem head_lex (hcx : CxOK cx) {ops : Array Oper} {Cl : Option Nat → World → Prop} {w1 : World} (hw1 : Cl none w1) {rest : List Oper} {k : St → Option Tree} : ∀ (l : List Oper), (∀ o ∈ l, freeOp cx o = true) → ∀ (st : St) (T : Tree), execOps cx ops (l ++ rest) st k = some T →
    ∀ (Γ : Env) (Ls : List (List C → Prop)), VC cx R T Γ.ρ Ls → ∀ (a : Act), Cls cx.P F w0 Cl Γ st a →
    ∃ vs st' T' Γ', Yield cx.P ops Cl l vs a ∧ execOps cx ops rest st' k = some T' ∧ Ext Γ Γ' ∧ st'.lvl = st.lvl ∧ VC cx R T' Γ'.ρ Ls ∧ Cls cx.P F w0 Cl Γ' st' (putAll l vs a) ∧ st'.mem = st.mem ∧ st'.nb = st.nb
  | [], _, st, T, h, Γ, Ls, hvc, a, hcl => ⟨[], st, T, Γ, trivial, h, Ext.refl _, rfl, hvc, hcl, rfl, rfl⟩
  | o :: l, hf, st, T, h, Γ, Ls, hvc, a, hcl => by
    have hs : Sat cx.P F w0 Γ st a w1 := by have := hcl.sat none w1 hw1; rwa [Env.addO_none] at this
    have step : ∀ (st1 : St) (T1 : Tree), doOp cx st1 o (fun st => execOps cx ops (l ++ rest) st k) = some T1 → st1.lvl = st.lvl ∧ st1.mem = st.mem ∧ st1.nb = st.nb → VC cx R T1 Γ.ρ Ls → Cls cx.P F w0 Cl Γ st1 a → Region.wanted o (yielded ops a.tmps) = true →
        ∃ vs st' T' Γ', Yield cx.P ops Cl (o :: l) vs a ∧ execOps cx ops rest st' k = some T' ∧ Ext Γ Γ' ∧ st'.lvl = st.lvl ∧ VC cx R T' Γ'.ρ Ls ∧ Cls cx.P F w0 Cl Γ' st' (putAll (o :: l) vs a) ∧ st'.mem = st.mem ∧ st'.nb = st.nb := by
      intro st1 T1 h1 hl hv1 hcl1 hw
      obtain ⟨v, st2, T2, Γ2, g1, g2, g3, g4, g5, g6, g7, g8⟩ := doOp_quiet hcx hw1 (hf o (by simp)) h1 hv1 hcl1 hw
      obtain ⟨vs, st', T', Γ', i1, i2, i3, i4, i5, i6, i7, i8⟩ := head_lex hcx hw1 l (fun x hx => hf x (by simp [hx])) st2 T2 g1 Γ2 Ls g4 _ g5
      exact ⟨v :: vs, st', T', Γ', ⟨g6, i1⟩, i2, g2.trans i3, by rw [i4, g3, hl.1], i5, i6, by rw [i7, g7, hl.2.1], by rw [i8, g8, hl.2.2]⟩
    have skip : ∀ (st1 st2 : St) (T1 : Tree), st1.skip ops o = some st2 → execOps cx ops (l ++ rest) st2 k = some T1 → st1.lvl = st.lvl ∧ st1.mem = st.mem ∧ st1.nb = st.nb → VC cx R T1 Γ.ρ Ls → Cls cx.P F w0 Cl Γ st1 a → Region.wanted o (yielded ops a.tmps) = false →
        ∃ vs st' T' Γ', Yield cx.P ops Cl (o :: l) vs a ∧ execOps cx ops rest st' k = some T' ∧ Ext Γ Γ' ∧ st'.lvl = st.lvl ∧ VC cx R T' Γ'.ρ Ls ∧ Cls cx.P F w0 Cl Γ' st' (putAll (o :: l) vs a) ∧ st'.mem = st.mem ∧ st'.nb = st.nb := by
      intro st1 st2 T1 hp h1 hl hv1 hcl1 hw
      obtain ⟨vs, st', T', Γ', i1, i2, i3, i4, i5, i6, i7, i8⟩ := head_lex hcx hw1 l (fun x hx => hf x (by simp [hx])) st2 T1 h1 Γ Ls hv1 (a.put o.dst undef) ⟨fun ob w hw => (hcl1.sat ob w hw).skip hp, hcl1.below⟩
      exact ⟨undef :: vs, st', T', Γ', ⟨Quiet.skip hw, i1⟩, i2, i3, by rw [i4, St.skip_lvl hp, hl.1], i5, i6, by rw [i7, St.skip_mem hp, hl.2.1], by rw [i8, St.skip_nb hp, hl.2.2]⟩
    have hfz : ∀ st1 k1, doOpF cx st1 o k1 = doOp cx st1 o k1 := fun st1 k1 => by unfold doOpF; rw [freeOp_freeze (hf o (by simp)) st1]; rfl
    rw [List.cons_append] at h
    unfold execOps at h
    simp only [hfz] at h
    split at h
    · rename_i hg
      exact step st T (orF_some h hvc) ⟨rfl, rfl, rfl⟩ hvc hcl (by simp [Region.wanted, hg])
    · rename_i j want hg
      split at h
      · cases h
      · rename_i d hd
        split at h
        · rename_i v hl
          have hy : yielded ops a.tmps j = some v := yielded_of hd (hs.tmp (St.lf_ev hl)).1
          split at h
          · rename_i hvw
            exact step st T (orF_some h hvc) ⟨rfl, rfl, rfl⟩ hvc hcl (by simp [Region.wanted, hg, hy, hvw])
          · rename_i hvw
            cases hp : st.skip ops o with
            | none => simp [hp] at h
            | some st2 => simp [hp] at h; exact skip st st2 T hp h ⟨rfl, rfl, rfl⟩ hvc hcl (by simp [Region.wanted, hg, hy, hvw])
        · rename_i b hlit hl
          have hy := yielded_of hd (hs.tmp (St.lf_ev hl)).1
          split at h
          · rename_i t e ht he
            cases hp : (st.know (some d) b !want).skip ops o with
            | none => simp [hp] at he
            | some st2 =>
              simp [hp] at he
              have hvc' : (b.den Γ.ρ = want → VC cx R t Γ.ρ Ls) ∧ (b.den Γ.ρ = (!want) → VC cx R e Γ.ρ Ls) := by
                cases want <;> simp at h <;> subst h <;> exact ⟨by simpa using (by first | exact hvc.1 | exact hvc.2), by simpa using (by first | exact hvc.2 | exact hvc.1)⟩
              by_cases hb : b.den Γ.ρ = want
              · exact step (st.know (some d) b want) t ht ⟨rfl, rfl, rfl⟩ (hvc'.1 hb) ⟨fun ob w hw => (hcl.sat ob w hw).know hl hb, hcl.below⟩ (by simp [Region.wanted, hg]; rw [hy]; simp [Lf.den, hb])
              · have hb' : b.den Γ.ρ = !want := by cases hx : b.den Γ.ρ <;> cases want <;> simp_all
                exact skip (st.know (some d) b !want) st2 e hp he ⟨rfl, rfl, rfl⟩ (hvc'.2 hb') ⟨fun ob w hw => (hcl.sat ob w hw).know hl hb', hcl.below⟩ (by simp [Region.wanted, hg]; rw [hy]; simp [Lf.den, hb'])
          · cases h
        · rename_i v hl
          split at h
          · cases h
          · rename_i hb
            have hy := yielded_cst (v := v) hd (hs.tmp (St.lf_ev hl)).1 (by simpa using hb)
            cases hp : st.skip ops o with
            | none => simp [hp] at h
            | some st2 => simp [hp] at h; exact skip st st2 T hp h ⟨rfl, rfl, rfl⟩ hvc hcl (by simp [Region.wanted, hg, hy])
        · cases h
end

/-! In any order -/
section
variable {P : Program} {ops : Array Oper} {Cl : Option Nat → World → Prop}
theorem putAll_defers : ∀ (l : List Oper) (vs : List Value) (a : Act), (putAll l vs a).defers = a.defers
  | [], _, a => by simp [putAll]
  | _ :: _, [], a => by simp [putAll]
  | o :: l, v :: vs, a => by rw [putAll, putAll_defers l vs]; cases o.dst <;> rfl
theorem putAll_size : ∀ (l : List Oper) (vs : List Value) (a : Act), (putAll l vs a).tmps.size = a.tmps.size
  | [], _, a => by simp [putAll]
  | _ :: _, [], a => by simp [putAll]
  | o :: l, v :: vs, a => by rw [putAll, putAll_size l vs]; cases o.dst <;> simp [Act.put]
/-- A slot that no operation of the row writes. -/
theorem putAll_other : ∀ (l : List Oper) (vs : List Value) (a : Act) (t : Nat), (∀ o ∈ l, o.dst ≠ some t) → (putAll l vs a).tmps[t]? = a.tmps[t]?
  | [], _, a, t, _ => by simp [putAll]
  | _ :: _, [], a, t, _ => by simp [putAll]
  | o :: l, v :: vs, a, t, h => by
    rw [putAll, putAll_other l vs _ t (fun x hx => h x (by simp [hx]))]
    have := h o (by simp)
    cases hd : o.dst with
    | none => rfl
    | some d =>
      have hne : d ≠ t := fun e => this (by rw [hd, e])
      simp [Act.put, Array.getElem?_setIfInBounds_ne hne]
/-- What the row's i-th operation wrote. -/
theorem yield_get : ∀ (l : List Oper) (vs : List Value) (a : Act), Yield P ops Cl l vs a → ∀ (i : Nat) (o : Oper), l[i]? = some o → ∃ v, vs[i]? = some v ∧ Quiet P ops Cl o v (putAll (l.take i) (vs.take i) a)
  | o :: l, v :: vs, a, h, 0, o', ho => by cases ho; exact ⟨v, rfl, by simpa [putAll] using h.1⟩
  | o :: l, v :: vs, a, h, i + 1, o', ho => by
    obtain ⟨v', h1, h2⟩ := yield_get l vs _ h.2 i o' (by simpa using ho)
    exact ⟨v', by simpa using h1, by simpa [putAll] using h2⟩
  | [], [], _, _, i, o, ho => by simp at ho
  | [], _ :: _, _, h, _, _, _ => h.elim
  | _ :: _, [], _, h, _, _, _ => h.elim
theorem yield_len : ∀ (l : List Oper) (vs : List Value) (a : Act), Yield P ops Cl l vs a → vs.length = l.length
  | [], [], _, _ => rfl
  | _ :: l, _ :: vs, a, h => by simp [yield_len l vs _ h.2]
  | [], _ :: _, _, h => h.elim
  | _ :: _, [], _, h => h.elim
theorem putAll_split : ∀ (l : List Oper) (vs : List Value) (a : Act) (i : Nat), vs.length = l.length → putAll l vs a = putAll (l.drop i) (vs.drop i) (putAll (l.take i) (vs.take i) a)
  | [], [], a, i, _ => by simp [putAll]
  | o :: l, v :: vs, a, 0, _ => by simp [putAll]
  | o :: l, v :: vs, a, i + 1, h => by simp only [List.drop_succ_cons, List.take_succ_cons, putAll]; exact putAll_split l vs _ i (by simpa using h)
  | [], _ :: _, _, _, h => by simp at h
  | _ :: _, [], _, _, h => by simp at h

theorem countP_set {p q : Nat → Bool} {i : Nat} (hp : p i = true) (hq : q i = false) (hpq : ∀ j, j ≠ i → p j = q j) : ∀ (l : List Nat), l.Nodup → i ∈ l → l.countP p = l.countP q + 1
  | [], _, h => by cases h
  | x :: l, hn, h => by
    simp only [List.nodup_cons] at hn
    by_cases hx : x = i
    · subst hx
      have : l.countP p = l.countP q := List.countP_congr fun j hj => by rw [hpq j fun e => hn.1 (e ▸ hj)]
      simp [List.countP_cons, hp, hq, this]
    · have := countP_set hp hq hpq l hn.2 ((List.mem_cons.1 h).resolve_left fun e => hx e.symm)
      simp [List.countP_cons, hpq x hx, this]
      omega
theorem act_eq {a b : Act} (h1 : a.tmps = b.tmps) (h2 : a.defers = b.defers) : a = b := by cases a; cases b; cases h1; cases h2; rfl
/-- The frame behind all free operations, and the allocation, if it has come. -/
def endAct (ops : Array Oper) (n : Nat) (vs : List Value) (a0 : Act) (ob : Option Nat) : Act :=
  match ob with
  | none => putAll (ops.toList.take n) vs a0
  | some b => (putAll (ops.toList.take n) vs a0).put (dstOf ops n) (.pointer (some ⟨b, 0, none⟩))
/-- What holds while the free operations come up: n of them, an allocation behind them (if al). -/
structure Head (P : Program) (ops : Array Oper) (Cl : Option Nat → World → Prop) (n m : Nat) (vs : List Value) (a0 : Act) (ob : Option Nat) (listed : Array Bool) (a : Act) (w : World) : Prop where
  cl : Cl ob w
  inv : HeadInv .any ops m listed
  defers : a.defers = a0.defers
  size : a.tmps.size = a0.tmps.size
  al : n < m → listed.getD n false = ob.isSome
  noal : n = m → ob = none
  same : ∀ t, (∀ j, j < m → dstOf ops j = some t → listed.getD j false = true) → a.tmps[t]? = (endAct ops n vs a0 ob).tmps[t]?
theorem endAct_defers (n : Nat) (vs : List Value) (a0 : Act) (ob : Option Nat) : (endAct ops n vs a0 ob).defers = a0.defers := by
  cases ob with
  | none => exact putAll_defers _ _ _
  | some b => unfold endAct; cases dstOf ops n <;> exact putAll_defers _ _ _
theorem endAct_size (n : Nat) (vs : List Value) (a0 : Act) (ob : Option Nat) : (endAct ops n vs a0 ob).tmps.size = a0.tmps.size := by
  cases ob with
  | none => exact putAll_size _ _ _
  | some b => unfold endAct; cases dstOf ops n <;> simp [Act.put, putAll_size]
theorem endAct_other (n : Nat) (vs : List Value) (a0 : Act) (ob : Option Nat) {t : Nat} (h : dstOf ops n ≠ some t ∨ ob = none) : (endAct ops n vs a0 ob).tmps[t]? = (putAll (ops.toList.take n) vs a0).tmps[t]? := by
  cases ob with
  | none => rfl
  | some b =>
    unfold endAct
    cases hd : dstOf ops n with
    | none => rfl
    | some d =>
      have hne : d ≠ t := fun e => h.elim (fun h => h (by rw [hd, e])) (fun h => by cases h)
      simp [Act.put, Array.getElem?_setIfInBounds_ne hne]

theorem any_order {Q : Exit → Act → World → Prop} {n m : Nat} {a0 : Act} {vs : List Value} (hy : Yield P ops Cl (ops.toList.take n) vs a0) (hh : headOk ops m = true) (ht : tailOk ops m = true) (hnm : n ≤ m) (hmn : m ≤ n + 1)
    (hal : n < m → ∃ o, ops[n]? = some o ∧ o.guard = none ∧ (∀ a w, Cl none w → ∀ K Q, (∀ w', Cl (some w.heap.size) w' → K (a.put o.dst (.pointer (some ⟨w.heap.size, 0, none⟩))) w') → o.wp P a w K Q))
    (hq : ∀ ob w, Cl ob w → (n < m → ob.isSome = true) → (n = m → ob = none) → wpList P ops Q (ops.toList.drop m) (endAct ops n vs a0 ob) w) : ∀ (fuel : Nat) (listed : Array Bool) (a : Act) (w : World) (ob : Option Nat), Head P ops Cl n m vs a0 ob listed a w →
    fuel = (List.range m).countP (fun j => !listed.getD j false) + (ops.size - m) → wpAny P .any ops Q fuel listed a w := by
  simp only [tailOk, Bool.and_eq_true, Bool.or_eq_true, decide_eq_true_eq] at ht
  obtain ⟨⟨⟨hle, hsc⟩, hseq⟩, hback⟩ := ht
  simp only [headOk, List.all_eq_true, List.mem_range] at hh
  simp only [List.all_eq_true, List.mem_range] at hback
  have hvl : vs.length = (ops.toList.take n).length := yield_len _ _ _ hy
  have done : ∀ (listed : Array Bool) (a : Act) (w : World) (ob : Option Nat), Head P ops Cl n m vs a0 ob listed a w → (List.range m).countP (fun j => !listed.getD j false) = 0 →
      (∀ j, j < m → listed.getD j false = true) ∧ a = endAct ops n vs a0 ob ∧ (n < m → ob.isSome = true) := by
    intro listed a w ob hH hc
    have hall : ∀ j, j < m → listed.getD j false = true := fun j hj => by
      have := List.countP_eq_zero.1 hc j (List.mem_range.2 hj)
      simpa using this
    have e1 : a.tmps = (endAct ops n vs a0 ob).tmps := Array.ext_getElem? fun t => hH.same t fun j hj _ => hall j hj
    have e2 : a.defers = (endAct ops n vs a0 ob).defers := by rw [endAct_defers]; exact hH.defers
    exact ⟨hall, act_eq e1 e2, fun h => by rw [← hH.al h]; exact hall n h⟩
  intro fuel
  induction fuel with
  | zero =>
    intro listed a w ob hH hf
    have hn : m = ops.size := by omega
    obtain ⟨hall, haf, hsome⟩ := done listed a w ob hH (by omega)
    subst haf
    refine ⟨?_, ?_⟩
    · cases hr : Region.ready .any ops listed with
      | nil => rfl
      | cons i l =>
        exfalso
        obtain ⟨h1, o, h2, -⟩ := mem_ready.1 (show i ∈ Region.ready .any ops listed by rw [hr]; simp)
        have hi : i < m := by rw [hn]; exact (Array.getElem?_eq_some_iff.1 h2).1
        have := hall i hi
        rw [getD_both h1] at this
        cases this
    · have := hq ob w hH.cl hsome hH.noal
      rw [List.drop_eq_nil_of_le (by simp [hn])] at this
      exact this
  | succ fuel ih =>
    intro listed a w ob hH hf
    by_cases hc : (List.range m).countP (fun j => !listed.getD j false) = 0
    · obtain ⟨hall, haf, hsome⟩ := done listed a w ob hH hc
      subst haf
      have hl : listed = (List.replicate m true ++ List.replicate (ops.size - m) false).toArray := by
        apply Array.ext
        · simp [hH.inv.size]; omega
        · intro j h1 h2
          have h1' : j < ops.size := by rw [← hH.inv.size]; exact h1
          by_cases hj : j < m
          · have := hall j hj
            simp [h1] at this
            simp [List.getElem_append, hj, this]
          · have := hH.inv.tail j (by omega) h1'
            simp [h1] at this
            simp [List.getElem_append, hj, this]
      subst hl
      have hlen : (ops.toList.drop m).length = ops.size - m := by simp
      have := wpAny_of_seq (P := P) (md := .any) (ops := ops) (Q' := Q) (ops.toList.drop m) m _ _ w (fun j => by simp [List.getElem?_drop]) (by rw [hlen]; exact hseq) (hq ob w hH.cl hsome hH.noal)
      rw [hlen] at this
      rwa [show fuel + 1 = ops.size - m by omega]
    · have hex : ∃ j, j < m ∧ listed.getD j false = false := by
        obtain ⟨j, hj, hp⟩ := List.countP_pos_iff.1 (Nat.pos_of_ne_zero hc)
        exact ⟨j, List.mem_range.1 hj, by simpa using hp⟩
      obtain ⟨i0, ⟨hi0, hu0⟩, hmin⟩ := exists_least hex
      have hready0 : i0 ∈ Region.ready .any ops listed := by
        have hb := hback i0 hi0
        split at hb
        · rename_i o ho
          refine mem_ready.2 ⟨getD_in (by rw [hH.inv.size]; omega) hu0, o, ho, fun e he hbind => ?_⟩
          have := Array.all_eq_true'.1 hb e he
          simp only [Bool.or_eq_true, hbind, Bool.not_true, Bool.false_eq_true, false_or, Nat.blt_eq] at this
          cases hx : listed.getD e.on false with
          | true => rfl
          | false => have := hmin e.on ⟨by omega, hx⟩; omega
        · cases hb
      refine ⟨fun h0 => (by rw [h0] at hready0; cases hready0), fun i hi => ?_⟩
      have him : i < m := by
        rcases Nat.lt_or_ge i m with h | h
        · exact h
        · exfalso
          rcases hsc with hsc | hsc
          · have := Nat.eq_of_beq_eq_true hsc
            obtain ⟨-, o, ho, -⟩ := mem_ready.1 hi
            have := (Array.getElem?_eq_some_iff.1 ho).1
            omega
          · have hlt : m < ops.size := by
              obtain ⟨-, o, ho, -⟩ := mem_ready.1 hi
              have := (Array.getElem?_eq_some_iff.1 ho).1
              omega
            exact tail_waits hsc.1 hsc.2 hlt hH.inv _ i0 rfl hi0 (getD_in (by rw [hH.inv.size]; omega) hu0) i h hi
      obtain ⟨hun, o, ho, hedges⟩ := mem_ready.1 hi
      have hrow := hh i him
      rw [ho] at hrow
      simp only [List.all_eq_true, List.mem_range] at hrow
      have hdi : dstOf ops i = o.dst := by unfold dstOf; rw [ho]; rfl
      have hcount : fuel = (List.range m).countP (fun j => !(listed.setIfInBounds i true).getD j false) + (ops.size - m) := by
        have := countP_set (p := fun j => !listed.getD j false) (q := fun j => !(listed.setIfInBounds i true).getD j false) (i := i) (by simp [getD_both hun]) (by
          have hi' : i < listed.size := by rw [hH.inv.size]; omega
          simp [hi']) (fun j hj => by rw [getD_set_ne false (Ne.symm hj)]) (List.range m) List.nodup_range (List.mem_range.2 him)
        omega
      have hputd : ∀ v : Value, (a.put o.dst v).defers = a0.defers := fun v => by rw [← hH.defers]; cases o.dst <;> rfl
      have hputs : ∀ v : Value, (a.put o.dst v).tmps.size = a0.tmps.size := fun v => by rw [← hH.size]; cases o.dst <;> simp [Act.put]
      have hother : ∀ (v : Value) (t : Nat), o.dst ≠ some t → (a.put o.dst v).tmps[t]? = a.tmps[t]? := fun v t hdt => by
        cases hod : o.dst with
        | none => rfl
        | some d =>
          have hne : d ≠ t := fun e => hdt (by rw [hod, e])
          simp [Act.put, Array.getElem?_setIfInBounds_ne hne]
      have hback' : ∀ t, o.dst ≠ some t → (∀ j, j < m → dstOf ops j = some t → (listed.setIfInBounds i true).getD j false = true) → ∀ j, j < m → dstOf ops j = some t → listed.getD j false = true := fun t hdt hall j hj hd => by
        have hji : i ≠ j := fun e => hdt (by rw [← hdi, e]; exact hd)
        have := hall j hj hd
        rwa [getD_set_ne false hji] at this
      unfold wpOp
      rw [ho]
      simp only []
      rcases Nat.lt_or_ge i n with hin | hin
      · have hget : (ops.toList.take n)[i]? = some o := by simp [hin, ho]
        obtain ⟨v, hv1, hqv⟩ := yield_get _ _ _ hy i o hget
        have hsplit := putAll_split (ops.toList.take n) vs a0 i hvl
        have hdropdst : ∀ x ∈ (ops.toList.take n).drop i, ∃ j, i ≤ j ∧ j < n ∧ dstOf ops j = x.dst := fun x hx => by
          obtain ⟨q, hm⟩ := List.getElem?_of_mem hx
          rw [List.getElem?_drop, List.getElem?_take] at hm
          split at hm
          · refine ⟨i + q, by omega, by assumption, ?_⟩
            unfold dstOf
            simp at hm
            rw [hm]; rfl
          · cases hm
        have hlook : ∀ t ∈ o.looksAt ops, a.tmps[t]? = (putAll ((ops.toList.take n).take i) (vs.take i) a0).tmps[t]? := fun t htl => by
          have hno : dstOf ops n ≠ some t ∨ ob = none := by
            rcases Nat.lt_or_ge n m with h | h
            · left
              intro hd
              have := hrow n h
              rw [hd] at this
              simp only [Bool.and_eq_true, Bool.or_eq_true, Bool.not_eq_true', Nat.blt_eq] at this
              rcases this.2 with h4 | h4
              · rw [List.contains_iff_mem.2 htl] at h4; cases h4
              · omega
            · exact .inr (hH.noal (by omega))
          rw [hH.same t fun j hj hd => ?_, endAct_other n vs a0 ob hno, hsplit, putAll_other _ _ _ _ fun x hx hxd => ?_]
          · obtain ⟨j, h1, h2, h3⟩ := hdropdst x hx
            have := hrow j (by omega)
            rw [h3, hxd] at this
            simp only [Bool.and_eq_true, Bool.or_eq_true, Bool.not_eq_true', Nat.blt_eq] at this
            rcases this.2 with h4 | h4
            · rw [List.contains_iff_mem.2 htl] at h4; cases h4
            · omega
          · have := hrow j hj
            rw [hd] at this
            simp only [Bool.and_eq_true, Bool.or_eq_true, Bool.not_eq_true', Nat.blt_eq] at this
            rcases this.2 with h4 | h4
            · rw [List.contains_iff_mem.2 htl] at h4; cases h4
            · have hw := h4.2
              unfold waits at hw
              rw [ho] at hw
              obtain ⟨e, he, hb⟩ := Array.any_eq_true'.1 hw
              simp only [Bool.and_eq_true] at hb
              have := hedges e he hb.1
              rwa [Nat.eq_of_beq_eq_true hb.2] at this
        have hput : ∀ w', Cl ob w' → wpAny P .any ops Q fuel (listed.setIfInBounds i true) (a.put o.dst v) w' := fun w' hw' => by
          refine ih _ _ w' ob ⟨hw', hH.inv.set hi him, hputd v, hputs v, fun h => ?_, hH.noal, fun t hall => ?_⟩ hcount
          · rw [getD_set_ne false (by omega)]; exact hH.al h
          · by_cases hdt : o.dst = some t
            · have hno : dstOf ops n ≠ some t ∨ ob = none := by
                rcases Nat.lt_or_ge n m with h | h
                · left
                  intro hd
                  have := hrow n h
                  rw [hd] at this
                  simp only [Bool.and_eq_true, Bool.or_eq_true, decide_eq_true_eq] at this
                  rcases this.1 with h6 | h6
                  · have := Nat.eq_of_beq_eq_true h6; omega
                  · exact h6 hdt
                · exact .inr (hH.noal (by omega))
              have h5 : (putAll (ops.toList.take n) vs a0).tmps[t]? = ((putAll ((ops.toList.take n).take i) (vs.take i) a0).put o.dst v).tmps[t]? := by
                have e1 : (ops.toList.take n).drop i = o :: (ops.toList.take n).drop (i + 1) := by
                  rw [List.drop_eq_getElem_cons (by simp; omega)]
                  congr 1
                  have := hget
                  rw [List.getElem?_eq_getElem (by simp; omega)] at this
                  exact Option.some.inj this
                have e2 : vs.drop i = v :: vs.drop (i + 1) := by
                  have hiv : i < vs.length := by rw [hvl]; simp; omega
                  rw [List.drop_eq_getElem_cons hiv]
                  congr 1
                  rw [List.getElem?_eq_getElem hiv] at hv1
                  exact Option.some.inj hv1
                rw [hsplit, e1, e2, putAll]
                refine putAll_other _ _ _ _ fun x hx hxd => ?_
                obtain ⟨q, hm⟩ := List.getElem?_of_mem hx
                rw [List.getElem?_drop, List.getElem?_take] at hm
                split at hm
                · rename_i hlt
                  have := hrow (i + 1 + q) (by omega)
                  have hdj : dstOf ops (i + 1 + q) = some t := by unfold dstOf; simp at hm; rw [hm]; exact hxd
                  rw [hdj] at this
                  simp only [Bool.and_eq_true, Bool.or_eq_true, decide_eq_true_eq] at this
                  rcases this.1 with h6 | h6
                  · have := Nat.eq_of_beq_eq_true h6; omega
                  · exact h6 hdt
                · cases hm
              rw [endAct_other n vs a0 ob hno, h5, hdt]
              have hsz : (putAll ((ops.toList.take n).take i) (vs.take i) a0).tmps.size = a.tmps.size := by rw [putAll_size, hH.size]
              simp only [Act.put, Array.getElem?_setIfInBounds, if_true, hsz]
            · rw [hother v t hdt]
              exact hH.same t (hback' t hdt hall)
        have hwant : Region.wanted o (yielded ops a.tmps) = Region.wanted o (yielded ops (putAll ((ops.toList.take n).take i) (vs.take i) a0).tmps) := by
          unfold Region.wanted
          split
          · rfl
          · rename_i j want hg
            have : yielded ops a.tmps j = yielded ops (putAll ((ops.toList.take n).take i) (vs.take i) a0).tmps j := by
              unfold yielded
              cases hd : (ops[j]?).bind (·.dst) with
              | none => rfl
              | some d =>
                simp only [Option.bind_some]
                rw [hlook d (by unfold Oper.looksAt; rw [hg]; simp [hd])]
            rw [this]
        rcases hqv with ⟨h1, h2⟩ | ⟨h1, h2⟩
        · rw [if_pos (by rw [hwant, h1])]
          refine .inl (h2 a (fun x hx => ?_) ob w hH.cl _ Q hput)
          cases x with
          | tmp t =>
            have := hlook t (List.mem_append_left _ (List.mem_filterMap.2 ⟨.tmp t, by simpa using hx, rfl⟩))
            simp only [Act.eval, Array.getD_eq_getD_getElem?, this]
          | _ => rfl
        · rw [if_neg (by rw [hwant, h1]; simp), ← h2]
          exact hput w hH.cl
      · obtain rfl : i = n := by omega
        obtain ⟨o', ho', hg, hwp⟩ := hal him
        obtain rfl : o' = o := Option.some.inj (ho'.symm.trans ho)
        have hnone : ob = none := by
          have := hH.al him
          rw [getD_both hun] at this
          cases ob with
          | none => rfl
          | some b => cases this
        subst hnone
        rw [if_pos (by simp [Region.wanted, hg])]
        refine .inl (hwp a w hH.cl _ Q fun w' hw' => ih _ _ w' (some w.heap.size) ⟨hw', hH.inv.set hi him, hputd _, hputs _, fun _ => ?_, fun h => by omega, fun t hall => ?_⟩ hcount)
        · have hi' : i < listed.size := by rw [hH.inv.size]; omega
          simp [hi']
        · by_cases hdt : o'.dst = some t
          · simp only [endAct, hdi, hdt]
            have hsz : (putAll (ops.toList.take i) vs a0).tmps.size = a.tmps.size := by rw [putAll_size, hH.size]
            simp only [Act.put, Array.getElem?_setIfInBounds, if_true, hsz]
          · rw [hother _ t hdt, hH.same t (hback' t hdt hall), endAct_other i vs a0 none (.inr rfl), endAct_other i vs a0 (some w.heap.size) (.inl (by rw [hdi]; exact hdt))]
end
end Go.Proofs.Ytlbgcjpkegpmlaa
