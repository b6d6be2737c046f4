/- The engine, part 8: what tests teach; contracts; the tree of what is to be shown; the executor. -/
import Derived.Test.YtlbgcjpkegpmlaaEg
namespace Go.Proofs.Ytlbgcjpkegpmlaa
open Go.RowKit
set_option linter.unusedSimpArgs false

/-! What a test teaches of the variables -/
def upHi (n : Nat) (bd : Bds) (a : E) (h : Option (Int × Int)) (d : Int) : Bds :=
  match a, h with
  | .var i, some q => if i < n then match (E.var i).iv bd with
      | some p => (i, p.1, Min.min p.2 (q.2 - d)) :: bd
      | none => bd
    else bd
  | _, _ => bd
def upLo (n : Nat) (bd : Bds) (a : E) (h : Option (Int × Int)) (d : Int) : Bds :=
  match a, h with
  | .var i, some q => if i < n then match (E.var i).iv bd with
      | some p => (i, Max.max p.1 (q.1 + d), p.2) :: bd
      | none => bd
    else bd
  | _, _ => bd
def learnLe (n : Nat) (bd : Bds) (a b : E) (d : Int) : Bds := upHi n (upLo n bd b (a.iv bd) d) a (b.iv bd) d
def learn (n : Nat) (bd : Bds) : B → Bool → Bds
  | .cmp .le a b, true => learnLe n bd a b 0
  | .cmp .lt a b, true => learnLe n bd a b 1
  | .cmp .le a b, false => learnLe n bd b a 1
  | .cmp .lt a b, false => learnLe n bd b a 0
  | .cmp .eq a b, true => learnLe n (learnLe n bd a b 0) b a 0
  | .cmp .ne a b, false => learnLe n (learnLe n bd a b 0) b a 0
  | .not b, t => learn n bd b !t
  | .and a b, true => learn n (learn n bd a true) b true
  | .or a b, false => learn n (learn n bd a false) b false
  | _, _ => bd
section
variable {n : Nat} {bd : Bds} {ρ : List C}
theorem upHi_ok (hb : bd.ok ρ) (hs : Smalls ρ) (hn : n ≤ ρ.length) {a : E} {h : Option (Int × Int)} {d : Int} (hh : ∀ q, h = some q → a.den ρ ≤ q.2 - d) : (upHi n bd a h d).ok ρ := by
  unfold upHi
  split
  · rename_i i q
    split
    · rename_i hi
      split
      · rename_i p hp
        intro x lo h' hm
        rcases List.mem_cons.1 hm with e | hm
        · cases e
          have h1 := E.iv_ok hb hs (.var i) _ hp
          have h2 := hh q rfl
          rw [E.den_var] at h1 h2
          exact ⟨by omega, h1.1, by omega⟩
        · exact hb x lo h' hm
      · exact hb
    · exact hb
  · exact hb
theorem upLo_ok (hb : bd.ok ρ) (hs : Smalls ρ) (hn : n ≤ ρ.length) {a : E} {h : Option (Int × Int)} {d : Int} (hh : ∀ q, h = some q → q.1 + d ≤ a.den ρ) : (upLo n bd a h d).ok ρ := by
  unfold upLo
  split
  · rename_i i q
    split
    · rename_i hi
      split
      · rename_i p hp
        intro x lo h' hm
        rcases List.mem_cons.1 hm with e | hm
        · cases e
          have h1 := E.iv_ok hb hs (.var i) _ hp
          have h2 := hh q rfl
          rw [E.den_var] at h1 h2
          exact ⟨by omega, by omega, h1.2⟩
        · exact hb x lo h' hm
      · exact hb
    · exact hb
  · exact hb
theorem learnLe_ok (hb : bd.ok ρ) (hs : Smalls ρ) (hn : n ≤ ρ.length) {a b : E} {d : Int} (h : a.den ρ + d ≤ b.den ρ) : (learnLe n bd a b d).ok ρ := by
  unfold learnLe
  refine upHi_ok (upLo_ok hb hs hn fun q hq => ?_) hs hn fun q hq => ?_
  · have := E.iv_ok hb hs a _ hq; omega
  · have := E.iv_ok hb hs b _ hq; omega
theorem learn_ok (hs : Smalls ρ) (hn : n ≤ ρ.length) (b : B) : ∀ (bd : Bds) (t : Bool), bd.ok ρ → b.den ρ = t → (learn n bd b t).ok ρ := by
  induction b with
  | cmp c x y =>
    intro bd t hb h
    cases c <;> cases t <;> simp only [learn] <;> simp only [B.den, Cmp.den, decide_eq_true_eq, decide_eq_false_iff_not, beq_iff_eq, bne_iff_ne, bne_eq_false_iff_eq] at h <;>
      first
        | exact hb
        | exact learnLe_ok hb hs hn (by omega)
        | exact learnLe_ok (learnLe_ok hb hs hn (by omega)) hs hn (by omega)
  | not b ih => intro bd t hb h; simp only [learn]; exact ih bd _ hb (by simp only [B.den] at h; rw [← h]; simp)
  | and a b iha ihb =>
    intro bd t hb h
    cases t
    · exact hb
    · simp only [B.den, Bool.and_eq_true] at h
      exact ihb _ _ (iha _ _ hb h.1) h.2
  | or a b iha ihb =>
    intro bd t hb h
    cases t
    · simp only [B.den, Bool.or_eq_false_iff] at h
      exact ihb _ _ (iha _ _ hb h.1) h.2
    · exact hb
  | _ => intro bd t hb h; cases t <;> exact hb
end

/-! Shapes of arguments and results -/
inductive Sh0 where
  | lf (k : Lk)
  | agg (l : List Lk)
  | box (t : TypeId) (l : List Lk)
  deriving DecidableEq, Repr, Inhabited
def Sh0.kinds : Sh0 → List Lk
  | .lf k => [k]
  | .agg l => l
  | .box _ l => l
def Sh0.isBox : Sh0 → Bool
  | .box _ _ => true
  | _ => false
/-- The kinds of what the pointers among the arguments point to. -/
def boxKinds (ss : List Sh0) : List Lk := ss.flatMap fun | .box _ l => l | _ => []
def LRep (P : Program) (w : World) (Base : Nat → Nat → Prop) (k : Lk) (u : Value) (c : C) : Prop :=
  (∀ n, c.small n) ∧ match k with
  | .int => ∃ n, u = .int .i64 n ∧ c = .i n
  | .bool => ∃ t, u = .bool t ∧ c = .b t
  | .arr t => u = c.loc ∧ ArrOK P w Base t c
def LReps (P : Program) (w : World) (Base : Nat → Nat → Prop) : List Lk → List Value → List C → Prop
  | [], [], [] => True
  | k :: ks, u :: us, c :: cs => LRep P w Base k u c ∧ LReps P w Base ks us cs
  | _, _, _ => False
/-- A value by its shape. A pointer: to a block of its own; as an argument to one of the caller's (old = none), as a result to a new one (old = some n: the heap had n blocks). -/
def Rep0 (P : Program) (w : World) (Base : Nat → Nat → Prop) (old : Option Nat) : Sh0 → Value → List C → Prop
  | .lf k, v, cs => ∃ c, cs = [c] ∧ LRep P w Base k v c
  | .agg ks, v, cs => ∃ us : List Value, v = .agg us.toArray ∧ LReps P w Base ks us cs
  | .box t ks, v, cs => ∃ (b : Nat) (us : List Value), v = .pointer (some ⟨b, 0, none⟩) ∧ Blk w b t us.toArray ∧ (match old with | none => ∀ o, Base b o | some n => n ≤ b) ∧ LReps P w (fun x o => Base x o ∨ some b = some x) ks us cs
def Reps (P : Program) (w : World) (Base : Nat → Nat → Prop) (old : Option Nat) : List Sh0 → List Value → List C → Prop
  | [], [], cs => cs = []
  | s :: ss, v :: vs, cs => ∃ c1 c2, cs = c1 ++ c2 ∧ Rep0 P w Base old s v c1 ∧ Reps P w Base old ss vs c2
  | _, _, _ => False
/-- One result stands for itself, several as a tuple. -/
def Res (P : Program) (w : World) (Base : Nat → Nat → Prop) (n : Nat) (ss : List Sh0) (v : Value) (cs : List C) : Prop :=
  ∃ vs, v = (match vs with | [x] => x | _ => .tuple vs.toArray) ∧ Reps P w Base (some n) ss vs cs
/-- The blocks that the arguments point to. -/
def IsBox : List Sh0 → List Value → Nat → Prop
  | .box _ _ :: ss, v :: vs, i => v = .pointer (some ⟨i, 0, none⟩) ∨ IsBox ss vs i
  | _ :: ss, _ :: vs, i => IsBox ss vs i
  | _, _, _ => False
/-- What lies in these blocks afterwards. -/
def Outs (P : Program) (w : World) (Base : Nat → Nat → Prop) : List Sh0 → List Value → List C → Prop
  | .box t ks :: ss, v :: vs, cs => ∃ (c1 c2 : List C) (b : Nat) (us : List Value), cs = c1 ++ c2 ∧ v = .pointer (some ⟨b, 0, none⟩) ∧ Blk w b t us.toArray ∧ LReps P w Base ks us c1 ∧ Outs P w Base ss vs c2
  | _ :: ss, _ :: vs, cs => Outs P w Base ss vs cs
  | _, _, cs => cs = []
/-- Of the blocks F nothing has turned. -/
structure Keeps (F : Nat → Prop) (w w' : World) : Prop where
  os : w'.os = w.os
  tape : w'.tape = w.tape
  output : w'.output = w.output
  size : w.heap.size ≤ w'.heap.size
  block : ∀ i, F i → w'.heap[i]? = w.heap[i]?

structure Ct where
  args : List Sh0
  res : List Sh0
  pre : List C → Prop
  post : List C → List C → Prop
  /-- There is but one result. -/
  det : Bool := false
def CtOK (P : Program) (f : FuncId) (ct : Ct) : Prop :=
  ∀ (Base : Nat → Nat → Prop) (w : World) (vs : List Value) (cs : List C), (∀ b o, Base b o → b < w.heap.size) → Reps P w Base none ct.args vs cs → ct.pre cs →
    Calls P f vs.toArray w fun e w' => ∃ v rs outs, e = .returned v ∧ Res P w' Base w.heap.size ct.res v rs ∧ Outs P w' Base ct.args vs outs ∧ ct.post cs (rs ++ outs) ∧ Keeps (fun i => i < w.heap.size ∧ ¬ IsBox ct.args vs i) w w'
def Callable (P : Program) (f : FuncId) : Prop := ∃ fn, P.funcs[f]? = some fn ∧ (fn.name == "runtime.NumGoroutine") = false ∧ fn.body.isSome = true
/-- A function that is written out in place: a result for symbolic arguments. -/
abbrev Inl := Bds → List S0 → Option (List B × S0)
def Lf.plain : Lf → Bool
  | .int _ | .bool _ => true
  | _ => false
def S0.plain (s : S0) : Bool := s.cells.all Lf.plain
def InlOK (P : Program) (f : FuncId) (g : Inl) : Prop :=
  ∀ (Γ : Env) (bd : Bds) (args : List S0) (obs : List B) (s : S0), Num bd Γ.ρ → g bd args = some (obs, s) → Obs Γ.ρ obs → s.plain = true ∧
    ∀ w, Calls P f (args.map (S0.den Γ)).toArray w fun e w' => e = .returned (s.den Γ) ∧ Below w.heap.size w w'

/-- A function written out in place that hands back one of two values, by a test. -/
abbrev Sel := Bds → List S0 → Option (List B × B × SV × SV)
def SV.plain : SV → Bool
  | .one s => s.plain
  | .tup _ => false
  | .fn _ l => l.all Lf.plain
def SelOK (P : Program) (f : FuncId) (g : Sel) : Prop :=
  ∀ (Γ : Env) (bd : Bds) (args : List S0) (obs : List B) (b : B) (s1 s2 : SV), Num bd Γ.ρ → g bd args = some (obs, b, s1, s2) → Obs Γ.ρ obs → s1.plain = true ∧ s2.plain = true ∧
    ∀ w, Calls P f (args.map (S0.den Γ)).toArray w fun e w' => e = .returned ((if b.den Γ.ρ = true then s1 else s2).den Γ) ∧ Below w.heap.size w w'
structure Cx where
  P : Program
  ct : Nat → Option Ct
  inl : Nat → Option Inl
  sel : Nat → Option Sel
  hv : Nat → List Nat
  named : Nat
structure CxOK (cx : Cx) : Prop where
  ct : ∀ f ct, cx.ct f = some ct → Callable cx.P f ∧ CtOK cx.P f ct ∧ (ct.det = true → ∀ cs rs rs', ct.post cs rs → ct.post cs rs' → rs = rs')
  mixed : cx.P.follows .mixedOrders = true
  inl : ∀ f g, cx.inl f = some g → Callable cx.P f ∧ InlOK cx.P f g
  sel : ∀ f g, cx.sel f = some g → Callable cx.P f ∧ SelOK cx.P f g

/-! The tree -/
inductive Tree where
  | ret (l : List Lf)
  | split (b : B) (t e : Tree)
  | ob (b : B) (t : Tree)
  | call (f : Nat) (args : List Lf) (t : Tree)
  | loop (ks : List Lk) (init : List Lf) (t : Tree)
  | back (lvl : Nat) (vals : List Lf)
  | arr (rows : List (List Lf)) (t : Tree)
  deriving Inhabited
def Lf.c (ρ : List C) : Lf → C
  | .int e => .i (e.den ρ)
  | .bool b => .b (b.den ρ)
  | .arr _ a => a.ev ρ
  | _ => .i 0
def cs_ (ρ : List C) (l : List Lf) : List C := l.map (Lf.c ρ)
def TyN (P : Program) : Nat → TypeId → List (List C) → Prop
  | 0, _, _ => False
  | d + 1, te, rows => ∃ ks : List Lk, kinds P te = some ks ∧ ∀ r ∈ rows, r.length = ks.length ∧ ∀ (j : Nat) (k : Lk), ks[j]? = some k → ∃ c : C, r[j]? = some c ∧
      match k with
      | .int => ∃ n, c = .i n
      | .bool => ∃ t, c = .b t
      | .arr t => ∃ v rows', c = .s v rows' ∧ TyN P d t rows'
def allC (P : Program) : List Lk → (List C → Prop) → Prop
  | [], p => p []
  | .int :: l, p => ∀ n : Int, -9223372036854775808 ≤ n → n ≤ 9223372036854775807 → allC P l fun cs => p (.i n :: cs)
  | .bool :: l, p => ∀ t : Bool, allC P l fun cs => p (.b t :: cs)
  | .arr t :: l, p => ∀ (v : Value) (rows : List (List C)) (d : Nat), TyN P d t rows → (∀ n, (C.s v rows).small n) → allC P l fun cs => p (.s v rows :: cs)
def kindsOf (ss : List Sh0) : List Lk := ss.flatMap Sh0.kinds
def VC (cx : Cx) (R : List C → Prop) : Tree → List C → List (List C → Prop) → Prop
  | .ret l, ρ, _ => R (cs_ ρ l)
  | .split b t e, ρ, Ls => (b.den ρ = true → VC cx R t ρ Ls) ∧ (b.den ρ = false → VC cx R e ρ Ls)
  | .ob b t, ρ, Ls => b.den ρ = true ∧ VC cx R t ρ Ls
  | .call f args t, ρ, Ls => match cx.ct f with
    | some ct => ct.pre (cs_ ρ args) ∧ allC cx.P (kindsOf ct.res ++ boxKinds ct.args) fun rs => ct.post (cs_ ρ args) rs → VC cx R t (ρ ++ rs) Ls
    | none => False
  | .loop ks init t, ρ, Ls => ∃ (I : List C → Prop) (μ : List C → Nat), I (cs_ ρ init) ∧ allC cx.P ks fun xs => I xs → VC cx R t (ρ ++ xs) (Ls ++ [fun ys => I ys ∧ μ ys < μ xs])
  | .arr rows t, ρ, Ls => ∀ v : Value, VC cx R t (ρ ++ [.s v (rows.map (cs_ ρ))]) Ls
  | .back lvl vals, ρ, Ls => match Ls[lvl]? with
    | some p => p (cs_ ρ vals)
    | none => False

/-! The executor -/
def obT (l : List B) (t : Tree) : Tree := l.foldr Tree.ob t
def St.learnAll (st : St) (l : List B) : St := { st with bds := l.foldl (fun bd b => learn st.nx bd b true) st.bds }
def St.put (st : St) (dst : Option Tmp) (sv : Option SV) : Option St :=
  match dst with
  | none => some st
  | some d => if d < st.nt then some { st with sl := (d, sv) :: st.sl } else none
def wfS (n nb : Nat) : Option SV → Bool
  | some sv => sv.wf n nb
  | none => true
def wfM (n nb : Nat) : Option (TypeId × List Lf) → Bool
  | some mb => mb.2.all (Lf.wf n nb)
  | none => true
def St.wf (st : St) : Bool := st.sl.all (fun p => wfS st.nx st.nb p.2) && st.mem.all (fun p => wfM st.nx st.nb p.2)
/-- A new block. -/
def St.fresh (st : St) (t : TypeId) (cs : List Lf) : Option St :=
  if st.wf && cs.all (Lf.wf st.nx st.nb) && cs.all Lf.flat then some { st with mem := (st.nb, some (t, cs)) :: st.mem, nb := st.nb + 1 } else none
def Lf.kind : Lf → Option Lk
  | .int _ => some .int
  | .bool _ => some .bool
  | .arr t _ => some (.arr t)
  | _ => none
def Lf.ofKind (k : Lk) (i : Nat) : Lf :=
  match k with
  | .int => .int (.var i)
  | .bool => .bool (.of (.var i))
  | .arr t => .arr t (.var i)
def freshL : List Lk → Nat → List Lf
  | [], _ => []
  | k :: ks, i => Lf.ofKind k i :: freshL ks (i + 1)
def kindsL : List Lf → Option (List Lk)
  | [] => some []
  | l :: ls => match l.kind, kindsL ls with
    | some k, some ks => some (k :: ks)
    | _, _ => none
abbrev Mem := List (Nat × Option (TypeId × List Lf))
def S0.shape (s : S0) : Option Sh0 :=
  match s with
  | .lf l => l.kind.map .lf
  | .agg l => (kindsL l).map .agg
/-- A value's shape: a pointer to a block that is known stands for it. -/
def S0.shapeM (mem : Mem) (s : S0) : Option Sh0 :=
  match s with
  | .lf (.ptr b 0) => match look mem b with
    | some mb => (kindsL mb.2).map (.box mb.1)
    | none => none
  | s => s.shape
def S0.cellsM (mem : Mem) (s : S0) : List Lf :=
  match s with
  | .lf (.ptr b 0) => match look mem b with
    | some mb => mb.2
    | none => []
  | s => s.cells
def shapes (mem : Mem) : List S0 → Option (List Sh0)
  | [] => some []
  | s :: ss => match s.shapeM mem, shapes mem ss with
    | some h, some hs => some (h :: hs)
    | _, _ => none
def Sh0.fresh (nb : Nat) (s : Sh0) (i : Nat) : S0 :=
  match s with
  | .lf k => .lf (Lf.ofKind k i)
  | .agg l => .agg (freshL l i)
  | .box _ _ => .lf (.ptr nb 0)
def freshS (nb : Nat) : List Sh0 → Nat → List S0
  | [], _ => []
  | s :: ss, i => s.fresh nb i :: freshS nb ss (i + s.kinds.length)
def freshMem (nb : Nat) : List Sh0 → Nat → Mem
  | [], _ => []
  | .box t l :: ss, i => (nb, some (t, freshL l i)) :: freshMem nb ss (i + l.length)
  | s :: ss, i => freshMem nb ss (i + s.kinds.length)
def boxOf : List S0 → Option Nat
  | [] => none
  | .lf (.ptr b 0) :: _ => some b
  | _ :: l => boxOf l
/-- At most one pointer among the arguments; a result that is a pointer stands alone, and then there is none among the arguments. -/
def boxOk (ct : Ct) : Bool := Nat.ble (ct.args.filter Sh0.isBox).length 1 && (ct.res.all (fun s => !s.isBox) || (Nat.beq ct.res.length 1 && ct.args.all fun s => !s.isBox))
def St.s0s (st : St) : List Operand → Option (List S0)
  | [] => some []
  | x :: xs => match st.s0 x, st.s0s xs with
    | some s, some r => some (s :: r)
    | _, _ => none
/-- What is to be shown of numbers that are handed on: that they are in range. -/
def rngL (bd : Bds) : List Lf → List B
  | [] => []
  | .int e :: l => rng bd e ++ rngL bd l
  | _ :: l => rngL bd l
def cellsOf (mem : Mem) (l : List S0) : List Lf := l.flatMap (S0.cellsM mem)
def boxMem (mem : Mem) (args : List S0) (ks : List Lk) (i : Nat) : Mem :=
  match boxOf args with
  | some b => match look mem b with
    | some mb => [(b, some (mb.1, freshL ks i))]
    | none => []
  | none => []
/-- What is known behind a call. -/
def St.called (st : St) (ct : Ct) (args : List S0) : St :=
  { st with nx := st.nx + (kindsOf ct.res ++ boxKinds ct.args).length, nb := st.nb + (freshMem st.nb ct.res st.nx).length, mem := freshMem st.nb ct.res st.nx ++ boxMem st.mem args (boxKinds ct.args) (st.nx + (kindsOf ct.res).length) ++ st.mem }
def svOf (l : List S0) : SV :=
  match l with
  | [s] => .one s
  | l => .tup l
def Lk.noArr : Lk → Bool
  | .arr _ => false
  | _ => true
def rowsOf (ks : List Lk) : Nat → List (Nat × S0) → Option (List (List Lf))
  | _, [] => some []
  | i, (j, s) :: l => if Nat.beq i j && decide (kindsL s.cells = some ks) then (rowsOf ks (i + 1) l).map (s.cells :: ·) else none
def St.know (st : St) (d : Option Tmp) (b : B) (t : Bool) : St :=
  { st with bds := learn st.nx st.bds b t, sl := match d with
    | some d => if d < st.nt then (d, some (.one (.lf (.bool (.lit t))))) :: st.sl else st.sl
    | none => st.sl }
def callCt (cx : Cx) (st : St) (o : Oper) (f : Nat) (args : List S0) (k : St → Option Tree) : Option Tree :=
  match cx.ct f with
  | some ct => if shapes st.mem args = some ct.args ∧ st.wf = true ∧ boxOk ct = true then
      ((st.called ct args).put o.dst (some (svOf (freshS st.nb ct.res st.nx)))).bind fun st' =>
        (k st').map fun t => obT (rngL st.bds (cellsOf st.mem args)) (.call f (cellsOf st.mem args) t)
    else none
  | none => none
def doOp (cx : Cx) (st : St) (o : Oper) (k : St → Option Tree) : Option Tree :=
  match opVal cx.P st o with
  | some (obs, sv) => ((st.learnAll obs).put o.dst (some sv)).bind fun st => (k st).map (obT obs)
  | none => match o.op with
    | .alloc t => match zeroLf cx.P t with
      | some cs => (st.fresh t cs).bind fun st' => (st'.put o.dst (some (.one (.lf (.ptr st.nb 0))))).bind k
      | none => none
    | .box t x => match st.s0 x with
      | some s => (st.fresh t s.cells).bind fun st' => (st'.put o.dst (some (.one (.lf (.ptr st.nb 0))))).bind k
      | none => none
    | .store t a x => match st.lf a, st.s0 x with
      | some (.ptr b off), some s => match look st.mem b, sizeIs cx.P t with
        | some mb, some n => if s.cells.length = n ∧ off + n ≤ mb.2.length ∧ s.cells.all Lf.flat = true then
            (({ st with mem := (b, some (mb.1, mb.2.take off ++ s.cells ++ mb.2.drop (off + n))) :: st.mem } : St).put o.dst none).bind k else none
        | _, _ => none
      | _, _ => none
    | .buildSlice t len ps => match sliceOf cx.P t with
      | some te => match kinds cx.P te, zeroLf cx.P te, parts? st ps.toList with
        | some ks, some z, some r => match rowsOf ks 0 r with
          | some rows => if st.wf && ks.all Lk.noArr && Nat.beq rows.length len && Nat.ble (len * ks.length) 16777216 && Nat.beq z.length ks.length then
              (({ st with nx := st.nx + 1 } : St).put o.dst (some (.one (.lf (.arr te (.var st.nx)))))).bind fun st' =>
                (k st').map fun t => obT (rngL st.bds rows.flatten) (.arr rows t)
            else none
          | none => none
        | _, _, _ => none
      | none => none
    | .call c => match c.callee, st.s0s c.args.toList with
      | .value (.func f), some args => match cx.sel f with
        | some g => match g st.bds args with
          | some (obs, b, s1, s2) => match (((st.learnAll obs).know none b true).put o.dst (some s1)).bind k, (((st.learnAll obs).know none b false).put o.dst (some s2)).bind k with
            | some t, some e => some (obT obs (.split b t e))
            | _, _ => none
          | none => none
        | none => match cx.inl f with
          | some g => match g st.bds args with
            | some (obs, s) => ((st.learnAll obs).put o.dst (some (.one s))).bind fun st => (k st).map (obT obs)
            | none => none
          | none => callCt cx st o f args k
      | .value (.tmp x), some args => match look st.sl x with
        | some (.fn f ls) => callCt cx st o f (.agg ls :: args) k
        | _ => none
      | _, _ => none
    | _ => none
def execOps (cx : Cx) (ops : Array Oper) : List Oper → St → (St → Option Tree) → Option Tree
  | [], st, k => k st
  | o :: rest, st, k => match o.guard with
    | none => doOp cx st o fun st => execOps cx ops rest st k
    | some (j, want) => match (ops[j]?).bind (·.dst) with
      | none => none
      | some d => match st.lf (.tmp d) with
        | some (.bool (.lit v)) => if v = want then doOp cx st o fun st => execOps cx ops rest st k else (st.put o.dst none).bind fun st => execOps cx ops rest st k
        | some (.bool b) => match doOp cx (st.know (some d) b want) o fun st => execOps cx ops rest st k, ((st.know (some d) b !want).put o.dst none).bind fun st => execOps cx ops rest st k with
          | some t, some e => some (if want then .split b t e else .split b e t)
          | _, _ => none
        | _ => none
inductive Ex where
  | nrm
  | ext (id : Nat)
  | ret
/-- The number of the first region, by which a loop is known. -/
def firstReg : Code → Option Nat
  | .region id _ _ => some id
  | .seq a b => match firstReg a with
    | some i => some i
    | none => firstReg b
  | .cond _ a b => match firstReg a with
    | some i => some i
    | none => firstReg b
  | .block _ c | .loop c | .scope c => firstReg c
  | _ => none
end Go.Proofs.Ytlbgcjpkegpmlaa
