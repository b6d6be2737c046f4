/- The engine, part 8: what tests teach; contracts; the tree of what is to be shown; the executor. -/
import Derived.Test.YtlbgcjpkegpmlaaEg
namespace Go.Proofs.Ytlbgcjpkegpmlaa
open Go.RowKit
set_option linter.unusedSimpArgs false

/-! What a test teaches of the variables -/
def upHi (n : Nat) (bd : Bds) (a : E) (h : Option (Int × Int)) (d : Int) : Bds :=
  match a, h with
  | .var i, some q => if i < n then match (E.var i).iv bd with
      | some p => (i, p.1, Min.min p.2 (q.2 - d)) :: bd
      | none => bd
    else bd
  | _, _ => bd
def upLo (n : Nat) (bd : Bds) (a : E) (h : Option (Int × Int)) (d : Int) : Bds :=
  match a, h with
  | .var i, some q => if i < n then match (E.var i).iv bd with
      | some p => (i, Max.max p.1 (q.1 + d), p.2) :: bd
      | none => bd
    else bd
  | _, _ => bd
def learnLe (n : Nat) (bd : Bds) (a b : E) (d : Int) : Bds := upHi n (upLo n bd b (a.iv bd) d) a (b.iv bd) d
def learn (n : Nat) (bd : Bds) : B → Bool → Bds
  | .cmp .le a b, true => learnLe n bd a b 0
  | .cmp .lt a b, true => learnLe n bd a b 1
  | .cmp .le a b, false => learnLe n bd b a 1
  | .cmp .lt a b, false => learnLe n bd b a 0
  | .cmp .eq a b, true => learnLe n (learnLe n bd a b 0) b a 0
  | .cmp .ne a b, false => learnLe n (learnLe n bd a b 0) b a 0
  | .not b, t => learn n bd b !t
  | .and a b, true => learn n (learn n bd a true) b true
  | .or a b, false => learn n (learn n bd a false) b false
  | _, _ => bd
section
variable {n : Nat} {bd : Bds} {ρ : List C}
theorem upHi_ok (hb : bd.ok ρ) (hs : Smalls ρ) (hn : n ≤ ρ.length) {a : E} {h : Option (Int × Int)} {d : Int} (hh : ∀ q, h = some q → a.den ρ ≤ q.2 - d) : (upHi n bd a h d).ok ρ := by
  unfold upHi
  split
  · rename_i i q
    split
    · rename_i hi
      split
      · rename_i p hp
        intro x lo h' hm
        rcases List.mem_cons.1 hm with e | hm
        · cases e
          have h1 := E.iv_ok hb hs (.var i) _ hp
          have h2 := hh q rfl
          rw [E.den_var] at h1 h2
          exact ⟨by omega, h1.1, by omega⟩
        · exact hb x lo h' hm
      · exact hb
    · exact hb
  · exact hb
theorem upLo_ok (hb : bd.ok ρ) (hs : Smalls ρ) (hn : n ≤ ρ.length) {a : E} {h : Option (Int × Int)} {d : Int} (hh : ∀ q, h = some q → q.1 + d ≤ a.den ρ) : (upLo n bd a h d).ok ρ := by
  unfold upLo
  split
  · rename_i i q
    split
    · rename_i hi
      split
      · rename_i p hp
        intro x lo h' hm
        rcases List.mem_cons.1 hm with e | hm
        · cases e
          have h1 := E.iv_ok hb hs (.var i) _ hp
          have h2 := hh q rfl
          rw [E.den_var] at h1 h2
          exact ⟨by omega, by omega, h1.2⟩
        · exact hb x lo h' hm
      · exact hb
    · exact hb
  · exact hb
theorem learnLe_ok (hb : bd.ok ρ) (hs : Smalls ρ) (hn : n ≤ ρ.length) {a b : E} {d : Int} (h : a.den ρ + d ≤ b.den ρ) : (learnLe n bd a b d).ok ρ := by
  unfold learnLe
  refine upHi_ok (upLo_ok hb hs hn fun q hq => ?_) hs hn fun q hq => ?_
  · have := E.iv_ok hb hs a _ hq; omega
  · have := E.iv_ok hb hs b _ hq; omega
theorem learn_ok (hs : Smalls ρ) (hn : n ≤ ρ.length) (b : B) : ∀ (bd : Bds) (t : Bool), bd.ok ρ → b.den ρ = t → (learn n bd b t).ok ρ := by
  induction b with
  | cmp c x y =>
    intro bd t hb h
    cases c <;> cases t <;> simp only [learn] <;> simp only [B.den, Cmp.den, decide_eq_true_eq, decide_eq_false_iff_not, beq_iff_eq, bne_iff_ne, bne_eq_false_iff_eq] at h <;>
      first
        | exact hb
        | exact learnLe_ok hb hs hn (by omega)
        | exact learnLe_ok (learnLe_ok hb hs hn (by omega)) hs hn (by omega)
  | not b ih => intro bd t hb h; simp only [learn]; exact ih bd _ hb (by simp only [B.den] at h; rw [← h]; simp)
  | and a b iha ihb =>
    intro bd t hb h
    cases t
    · exact hb
    · simp only [B.den, Bool.and_eq_true] at h
      exact ihb _ _ (iha _ _ hb h.1) h.2
  | or a b iha ihb =>
    intro bd t hb h
    cases t
    · simp only [B.den, Bool.or_eq_false_iff] at h
      exact ihb _ _ (iha _ _ hb h.1) h.2
    · exact hb
  | _ => intro bd t hb h; cases t <;> exact hb
end

/-! Shapes of arguments and results -/
inductive Sh0 where
  | lf (k : Lk)
  | agg (l : List Lk)
  | box (t : TypeId) (l : List Lk)
  deriving DecidableEq, Repr, Inhabited
def Sh0.kinds : Sh0 → List Lk
  | .lf k => [k]
  | .agg l => l
  | .box _ l => l
def Sh0.isBox : Sh0 → Bool
  | .box _ _ => true
  | _ => false
/-- The kinds of what the pointers among the arguments point to. -/
def boxKinds (ss : List Sh0) : List Lk := ss.flatMap fun | .box _ l => l | _ => []
def kindsOf (ss : List Sh0) : List Lk := ss.flatMap Sh0.kinds
def LRep (P : Program) (w : World) (Base : Nat → Nat → Prop) (k : Lk) (u : Value) (c : C) : Prop :=
  (∀ n, c.small n) ∧ match k with
  | .int => ∃ n, u = .int .i64 n ∧ c = .i n
  | .bool => ∃ t, u = .bool t ∧ c = .b t
  | .arr t => u = c.loc ∧ ArrOK P w Base t c
  | .vec t => u = c.loc ∧ VecOK P w Base t u c
def LReps (P : Program) (w : World) (Base : Nat → Nat → Prop) : List Lk → List Value → List C → Prop
  | [], [], [] => True
  | k :: ks, u :: us, c :: cs => LRep P w Base k u c ∧ LReps P w Base ks us cs
  | _, _, _ => False
/-- A value by its shape. A pointer: to a block of its own; as an argument to one of the caller's (old = none), as a result to a new one (old = some n: the heap had n blocks). -/
def Rep0 (P : Program) (w : World) (Base : Nat → Nat → Prop) (old : Option Nat) : Sh0 → Value → List C → Prop
  | .lf k, v, cs => ∃ c, cs = [c] ∧ LRep P w Base k v c
  | .agg ks, v, cs => ∃ us : List Value, v = .agg us.toArray ∧ LReps P w Base ks us cs
  | .box t ks, v, cs => ∃ (b : Nat) (us : List Value), v = .pointer (some ⟨b, 0, none⟩) ∧ Blk w b t us.toArray ∧ (match old with | none => ∀ o, Base b o | some n => n ≤ b) ∧ LReps P w (fun x o => Base x o ∨ some b = some x) ks us cs
def Reps (P : Program) (w : World) (Base : Nat → Nat → Prop) (old : Option Nat) : List Sh0 → List Value → List C → Prop
  | [], [], cs => cs = []
  | s :: ss, v :: vs, cs => ∃ c1 c2, cs = c1 ++ c2 ∧ Rep0 P w Base old s v c1 ∧ Reps P w Base old ss vs c2
  | _, _, _ => False
/-- The blocks of the slices of one's own among them. -/
def vecB : List Lk → List C → List Nat
  | .vec _ :: ks, c :: cs => (match c.loc.ownBlock with | some b => [b] | none => []) ++ vecB ks cs
  | _ :: ks, _ :: cs => vecB ks cs
  | _, _ => []
/-- One result stands for itself, several as a tuple; slices of one's own lie in new blocks, each in its own. -/
def Res (P : Program) (w : World) (Base : Nat → Nat → Prop) (n : Nat) (ss : List Sh0) (v : Value) (cs : List C) : Prop :=
  ∃ vs, v = (match vs with | [x] => x | _ => .tuple vs.toArray) ∧ Reps P w (fun b o => Base b o ∨ b ∈ vecB (kindsOf ss) cs) (some n) ss vs cs ∧ (vecB (kindsOf ss) cs).Nodup ∧ (∀ b ∈ vecB (kindsOf ss) cs, n ≤ b)
/-- The blocks that the arguments point to. -/
def IsBox : List Sh0 → List Value → Nat → Prop
  | .box _ _ :: ss, v :: vs, i => v = .pointer (some ⟨i, 0, none⟩) ∨ IsBox ss vs i
  | _ :: ss, _ :: vs, i => IsBox ss vs i
  | _, _, _ => False
/-- What lies in these blocks afterwards. -/
def Outs (P : Program) (w : World) (Base : Nat → Nat → Prop) : List Sh0 → List Value → List C → Prop
  | .box t ks :: ss, v :: vs, cs => ∃ (c1 c2 : List C) (b : Nat) (us : List Value), cs = c1 ++ c2 ∧ v = .pointer (some ⟨b, 0, none⟩) ∧ Blk w b t us.toArray ∧ LReps P w Base ks us c1 ∧ Outs P w Base ss vs c2
  | _ :: ss, _ :: vs, cs => Outs P w Base ss vs cs
  | _, _, cs => cs = []
/-- Of the blocks F nothing has turned. -/
structure Keeps (F : Nat → Prop) (w w' : World) : Prop where
  os : w'.os = w.os
  tape : w'.tape = w.tape
  output : w'.output = w.output
  size : w.heap.size ≤ w'.heap.size
  block : ∀ i, F i → w'.heap[i]? = w.heap[i]?

structure Ct where
  args : List Sh0
  res : List Sh0
  pre : List C → Prop
  post : List C → List C → Prop
  /-- There is but one result. -/
  det : Bool := false
def CtOK (P : Program) (f : FuncId) (ct : Ct) : Prop :=
  ∀ (Base : Nat → Nat → Prop) (w : World) (vs : List Value) (cs : List C), (∀ b o, Base b o → b < w.heap.size) → Reps P w Base none ct.args vs cs → ct.pre cs →
    Calls P f vs.toArray w fun e w' => ∃ v rs outs, e = .returned v ∧ Res P w' Base w.heap.size ct.res v rs ∧ Outs P w' (fun b o => Base b o ∨ b ∈ vecB (kindsOf ct.res) rs) ct.args vs outs ∧ ct.post cs (rs ++ outs) ∧ Keeps (fun i => i < w.heap.size ∧ ¬ IsBox ct.args vs i) w w'
def Callable (P : Program) (f : FuncId) : Prop := ∃ fn, P.funcs[f]? = some fn ∧ (fn.name == "runtime.NumGoroutine") = false ∧ fn.body.isSome = true
/-- A function that is written out in place: a result for symbolic arguments. -/
abbrev Inl := Bds → List S0 → Option (List B × S0)
def Lf.plain : Lf → Bool
  | .int _ | .bool _ => true
  | _ => false
def S0.plain (s : S0) : Bool := s.cells.all Lf.plain
def InlOK (P : Program) (f : FuncId) (g : Inl) : Prop :=
  ∀ (Γ : Env) (bd : Bds) (args : List S0) (obs : List B) (s : S0), Num bd Γ.ρ → g bd args = some (obs, s) → Obs Γ.ρ obs → s.plain = true ∧
    ∀ w, Calls P f (args.map (S0.den Γ)).toArray w fun e w' => e = .returned (s.den Γ) ∧ Below w.heap.size w w'

/-- A function written out in place that hands back one of two values, by a test. -/
abbrev Sel := Bds → List S0 → Option (List B × B × SV × SV)
def SV.plain : SV → Bool
  | .one s => s.plain
  | .tup _ => false
  | .fn _ l => l.all Lf.plain
def SelOK (P : Program) (f : FuncId) (g : Sel) : Prop :=
  ∀ (Γ : Env) (bd : Bds) (args : List S0) (obs : List B) (b : B) (s1 s2 : SV), Num bd Γ.ρ → g bd args = some (obs, b, s1, s2) → Obs Γ.ρ obs → s1.plain = true ∧ s2.plain = true ∧
    ∀ w, Calls P f (args.map (S0.den Γ)).toArray w fun e w' => e = .returned ((if b.den Γ.ρ = true then s1 else s2).den Γ) ∧ Below w.heap.size w w'
/-! The tree -/
inductive Tree where
  | ret (l : List Lf)
  | split (b : B) (t e : Tree)
  | ob (b : B) (t : Tree)
  | call (f : Nat) (args : List Lf) (t : Tree)
  | loop (ks : List Lk) (init : List Lf) (t : Tree)
  | back (lvl : Nat) (vals : List Lf)
  | arr (rows : List (List Lf)) (t : Tree)
  /-- A new variable. -/
  | dfn (e : E) (t : Tree)
  /-- A new slice: so many rows alike; two behind one another; one with some cells of a row written. -/
  | mk (n : E) (row : List Lf) (t : Tree)
  | cat (a b : E) (t : Tree)
  | upd (a x : E) (o : Nat) (l : List Lf) (t : Tree)
  /-- Here the executor did not know what to do. -/
  | fail (n : Nat) (l : List Nat)
  deriving Inhabited
/-- A place that a round may write: a slot, a block, what a slice of one's own holds. -/
inductive Pl where
  | slot (d : Nat)
  | blk (b : Nat)
  | vec (i : Nat)
  deriving DecidableEq, Repr, Inhabited
/-- What is done with a function that has no contract. -/
abbrev Hd := Nat → List S0 → St → (List S0 → St → Option Tree) → Option Tree
structure Cx where
  P : Program
  ct : Nat → Option Ct
  inl : Nat → Option Inl
  sel : Nat → Option Sel
  hv : Nat → List Pl
  H : Hd
  wr : List Nat := []
def Lf.c (ρ : List C) : Lf → C
  | .int e => .i (e.den ρ)
  | .bool b => .b (b.den ρ)
  | .arr _ a => a.ev ρ
  | .cnt _ a => a.ev ρ
  | .vec _ i => at_ ρ i
  | _ => .i 0
def cs_ (ρ : List C) (l : List Lf) : List C := l.map (Lf.c ρ)
def allC (P : Program) : List Lk → (List C → Prop) → Prop
  | [], p => p []
  | .int :: l, p => ∀ n : Int, -9223372036854775808 ≤ n → n ≤ 9223372036854775807 → allC P l fun cs => p (.i n :: cs)
  | .bool :: l, p => ∀ t : Bool, allC P l fun cs => p (.b t :: cs)
  | .arr t :: l, p => ∀ (v : Value) (rows : List (List C)) (d : Nat), TyN P d t rows → (∀ n, (C.s v rows).small n) → allC P l fun cs => p (.s v rows :: cs)
  | .vec t :: l, p => ∀ (v : Value) (rows : List (List C)) (d : Nat), TyN P d t rows → (∀ n, (C.s v rows).small n) → allC P l fun cs => p (.s v rows :: cs)
/-- Some cells of a row written. -/
def updRow (rows : List (List C)) (i o : Nat) (l : List C) : List (List C) := rows.set i ((rows.getD i []).take o ++ l ++ (rows.getD i []).drop (o + l.length))
def VC (cx : Cx) (R : List C → Prop) : Tree → List C → List (List C → Prop) → Prop
  | .ret l, ρ, _ => R (cs_ ρ l)
  | .split b t e, ρ, Ls => (b.den ρ = true → VC cx R t ρ Ls) ∧ (b.den ρ = false → VC cx R e ρ Ls)
  | .ob b t, ρ, Ls => b.den ρ = true ∧ VC cx R t ρ Ls
  | .call f args t, ρ, Ls => match cx.ct f with
    | some ct => ct.pre (cs_ ρ args) ∧ allC cx.P (kindsOf ct.res ++ boxKinds ct.args) fun rs => ct.post (cs_ ρ args) rs → VC cx R t (ρ ++ rs) Ls
    | none => False
  | .loop ks init t, ρ, Ls => ∃ (I : List C → Prop) (μ : List C → Nat), I (cs_ ρ init) ∧ allC cx.P ks fun xs => I xs → VC cx R t (ρ ++ xs) (Ls ++ [fun ys => I ys ∧ μ ys < μ xs])
  | .arr rows t, ρ, Ls => ∀ v : Value, VC cx R t (ρ ++ [.s v (rows.map (cs_ ρ))]) Ls
  | .dfn e t, ρ, Ls => VC cx R t (ρ ++ [e.ev ρ]) Ls
  | .mk n row t, ρ, Ls => ∀ v : Value, VC cx R t (ρ ++ [.s v (List.replicate (n.den ρ).toNat (cs_ ρ row))]) Ls
  | .cat a b t, ρ, Ls => ∀ v : Value, VC cx R t (ρ ++ [.s v ((a.ev ρ).rows ++ (b.ev ρ).rows)]) Ls
  | .upd a x o l t, ρ, Ls => ∀ v : Value, VC cx R t (ρ ++ [.s v (updRow (a.ev ρ).rows (x.den ρ).toNat o (cs_ ρ l))]) Ls
  | .fail _ _, _, _ => False
  | .back lvl vals, ρ, Ls => match Ls[lvl]? with
    | some p => p (cs_ ρ vals)
    | none => False

/-! The executor -/
def obT (l : List B) (t : Tree) : Tree := l.foldr Tree.ob t
def St.learnAll (st : St) (l : List B) : St := { st with bds := l.foldl (fun bd b => learn st.nx bd b true) st.bds }
def St.put (st : St) (dst : Option Tmp) (sv : Option SV) : Option St :=
  match dst with
  | none => some st
  | some d => if d < st.nt ∧ d < 1000 then some { st with sl := (d, sv) :: st.sl } else none
def wfS (n nb : Nat) : Option SV → Bool
  | some sv => sv.wf n nb
  | none => true
def wfM (n nb : Nat) : Option (TypeId × List Lf) → Bool
  | some mb => mb.2.all (Lf.wf n nb)
  | none => true
def wfV (n i : Nat) : Option (TypeId × E) → Bool
  | some e => Nat.blt i n && e.2.wf n
  | none => true
def wfC (n nb i : Nat) : Option (Nat × List S0 × List Lf) → Bool
  | some e => Nat.blt i n && e.2.1.all (S0.wf n nb) && e.2.2.all (Lf.wf n nb)
  | none => true
def St.wf (st : St) : Bool := st.sl.all (fun p => wfS st.nx st.nb p.2) && st.mem.all (fun p => wfM st.nx st.nb p.2) && st.vec.all (fun p => wfV st.nx p.1 p.2) && st.clo.all (fun p => wfC st.nx st.nb p.1 p.2)
/-- A new block. -/
def St.fresh (st : St) (t : TypeId) (cs : List Lf) : Option St :=
  if st.wf && cs.all (Lf.wf st.nx st.nb) && cs.all Lf.flat then some { st with mem := (st.nb, some (t, cs)) :: st.mem, nb := st.nb + 1 } else none
def Lf.kind : Lf → Option Lk
  | .int _ => some .int
  | .bool _ => some .bool
  | .arr t _ => some (.arr t)
  | .vec t _ => some (.vec t)
  | .cnt t _ => some (.vec t)
  | _ => none
def Lf.ofKind (k : Lk) (i : Nat) : Lf :=
  match k with
  | .int => .int (.var i)
  | .bool => .bool (.of (.var i))
  | .arr t => .arr t (.var i)
  | .vec t => .vec t i
/-- The new variables' slices of one's own. -/
def freshV : List Lk → Nat → Vecs
  | [], _ => []
  | .vec t :: ks, i => (i, some (t, .var i)) :: freshV ks (i + 1)
  | _ :: ks, i => freshV ks (i + 1)
def freshL : List Lk → Nat → List Lf
  | [], _ => []
  | k :: ks, i => Lf.ofKind k i :: freshL ks (i + 1)
def kindsL : List Lf → Option (List Lk)
  | [] => some []
  | l :: ls => match l.kind, kindsL ls with
    | some k, some ks => some (k :: ks)
    | _, _ => none
abbrev Mem := List (Nat × Option (TypeId × List Lf))
def S0.shape (s : S0) : Option Sh0 :=
  match s with
  | .lf l => l.kind.map .lf
  | .agg l => (kindsL l).map .agg
/-- A value's shape: a pointer to a block that is known stands for it. -/
def S0.shapeM (mem : Mem) (s : S0) : Option Sh0 :=
  match s with
  | .lf (.ptr b 0) => match look mem b with
    | some mb => (kindsL mb.2).map (.box mb.1)
    | none => none
  | s => s.shape
def S0.cellsM (mem : Mem) (s : S0) : List Lf :=
  match s with
  | .lf (.ptr b 0) => match look mem b with
    | some mb => mb.2
    | none => []
  | s => s.cells
def shapes (mem : Mem) : List S0 → Option (List Sh0)
  | [] => some []
  | s :: ss => match s.shapeM mem, shapes mem ss with
    | some h, some hs => some (h :: hs)
    | _, _ => none
def Sh0.fresh (nb : Nat) (s : Sh0) (i : Nat) : S0 :=
  match s with
  | .lf k => .lf (Lf.ofKind k i)
  | .agg l => .agg (freshL l i)
  | .box _ _ => .lf (.ptr nb 0)
def freshS (nb : Nat) : List Sh0 → Nat → List S0
  | [], _ => []
  | s :: ss, i => s.fresh nb i :: freshS nb ss (i + s.kinds.length)
def freshMem (nb : Nat) : List Sh0 → Nat → Mem
  | [], _ => []
  | .box t l :: ss, i => (nb, some (t, freshL l i)) :: freshMem nb ss (i + l.length)
  | s :: ss, i => freshMem nb ss (i + s.kinds.length)
def boxOf : List S0 → Option Nat
  | [] => none
  | .lf (.ptr b 0) :: _ => some b
  | _ :: l => boxOf l
/-- At most one pointer among the arguments; a result that is a pointer stands alone, and then there is none among the arguments. -/
def Lk.noVec : Lk → Bool
  | .vec _ => false
  | _ => true
def boxOk (ct : Ct) : Bool := Nat.ble (ct.args.filter Sh0.isBox).length 1 && (ct.res.all (fun s => !s.isBox) || (Nat.beq ct.res.length 1 && (ct.args.all fun s => !s.isBox) && (kindsOf ct.res).all Lk.noVec)) && (kindsOf ct.args).all Lk.noVec
def St.s0s (st : St) : List Operand → Option (List S0)
  | [] => some []
  | x :: xs => match st.s0 x, st.s0s xs with
    | some s, some r => some (s :: r)
    | _, _ => none
/-- What is to be shown of numbers that are handed on: that they are in range. -/
def rngL (bd : Bds) : List Lf → List B
  | [] => []
  | .int e :: l => rng bd e ++ rngL bd l
  | _ :: l => rngL bd l
def cellsOf (mem : Mem) (l : List S0) : List Lf := l.flatMap (S0.cellsM mem)
def boxMem (mem : Mem) (args : List S0) (ks : List Lk) (i : Nat) : Mem :=
  match boxOf args with
  | some b => match look mem b with
    | some mb => [(b, some (mb.1, freshL ks i))]
    | none => []
  | none => []
/-- What is known behind a call. -/
def St.called (st : St) (ct : Ct) (args : List S0) : St :=
  { st with nx := st.nx + (kindsOf ct.res ++ boxKinds ct.args).length, nb := st.nb + (freshMem st.nb ct.res st.nx).length, mem := freshMem st.nb ct.res st.nx ++ boxMem st.mem args (boxKinds ct.args) (st.nx + (kindsOf ct.res).length) ++ st.mem, vec := freshV (kindsOf ct.res) st.nx ++ st.vec }
def svOf (l : List S0) : SV :=
  match l with
  | [s] => .one s
  | l => .tup l
def Lk.noArr : Lk → Bool
  | .arr _ => false
  | _ => true
def rowsOf (ks : List Lk) : Nat → List (Nat × S0) → Option (List (List Lf))
  | _, [] => some []
  | i, (j, s) :: l => if Nat.beq i j && decide (kindsL s.cells = some ks) then (rowsOf ks (i + 1) l).map (s.cells :: ·) else none
def St.know (st : St) (d : Option Tmp) (b : B) (t : Bool) : St :=
  { st with bds := learn st.nx st.bds b t, sl := match d with
    | some d => if d < st.nt ∧ d < 1000 then (d, some (.one (.lf (.bool (.lit t))))) :: st.sl else st.sl
    | none => st.sl }
/-! Slices of one's own -/
def Lf.isVec : Lf → Bool
  | .vec _ _ => true
  | _ => false
def Lf.isNil : Lf → Bool
  | .cst (.slice none 0 0) => true
  | _ => false
/-- Where the slice lies, and what it holds. -/
def mkJoin (i : Nat) (r : E) : E :=
  match r with
  | .var j => if j = i then .var i else .join (.var i) r
  | r => .join (.var i) r
/-- A cell as it is asked for: a slice of one's own is lent, the nil slice is one. -/
def Lf.adapt (P : Program) (vec : Vecs) (k : Lk) (l : Lf) : Lf :=
  match k, l with
  | .arr _, .vec te i => match look vec i with
    | some e => if e.1 = te then .arr te (mkJoin i e.2) else .vec te i
    | none => .vec te i
  | .arr te, .cst (.slice none 0 0) => if (kinds P te).isSome then .arr te .nil else .cst (.slice none 0 0)
  | _, l => l
def adaptL (P : Program) (vec : Vecs) : List Lk → List Lf → List Lf
  | k :: ks, l :: ls => l.adapt P vec k :: adaptL P vec ks ls
  | _, ls => ls
def S0.adapt (P : Program) (vec : Vecs) (sh : Sh0) (s : S0) : S0 :=
  match sh, s with
  | .lf k, .lf l => .lf (l.adapt P vec k)
  | .agg ks, .agg ls => .agg (adaptL P vec ks ls)
  | _, s => s
def adapts (P : Program) (vec : Vecs) : List Sh0 → List S0 → List S0
  | sh :: shs, s :: ss => s.adapt P vec sh :: adapts P vec shs ss
  | _, ss => ss
/-- A slice of one's own handed on for good: with what it holds. -/
def Lf.give (P : Program) (vec : Vecs) (k : Lk) (l : Lf) : Lf :=
  match k, l with
  | .vec _, .vec te i => match look vec i with
    | some e => if e.1 = te then .cnt te (mkJoin i e.2) else .vec te i
    | none => .vec te i
  | k, l => l.adapt P vec k
/-- Results that hold no slice of somebody else. -/
def flatK (P : Program) : Lk → Bool
  | .arr _ => false
  | .vec t => match kinds P t with
    | some ks => ks.all Lk.noArr
    | none => false
  | _ => true
def callCt (cx : Cx) (st : St) (o : Oper) (f : Nat) (args0 : List S0) (k : St → Option Tree) : Option Tree :=
  match cx.ct f with
  | some ct => if shapes st.mem (adapts cx.P st.vec ct.args args0) = some ct.args ∧ st.wf = true ∧ boxOk ct = true ∧ (args0.all (fun s => s.cells.all fun l => !l.isVec) = true ∨ (kindsOf ct.res ++ boxKinds ct.args).all (flatK cx.P) = true) then
      ((st.called ct (adapts cx.P st.vec ct.args args0)).put o.dst (some (svOf (freshS st.nb ct.res st.nx)))).bind fun st' =>
        (k st').map fun t => obT (rngL st.bds (cellsOf st.mem (adapts cx.P st.vec ct.args args0))) (.call f (cellsOf st.mem (adapts cx.P st.vec ct.args args0)) t)
    else none
  | none => none
/-- Nil slices become slices of one's own. -/
def ownL : List Lk → List Lf → Nat → List Lf × List TypeId
  | .arr t :: ks, l :: ls, i => if l.isNil then (.vec t i :: (ownL ks ls (i + 1)).1, t :: (ownL ks ls (i + 1)).2) else (l :: (ownL ks ls i).1, (ownL ks ls i).2)
  | _ :: ks, l :: ls, i => (l :: (ownL ks ls i).1, (ownL ks ls i).2)
  | _, ls, _ => (ls, [])
def nilV : List TypeId → Nat → Vecs
  | [], _ => []
  | t :: ts, i => (i, some (t, .var i)) :: nilV ts (i + 1)
def S0.with (s : S0) (l : List Lf) : S0 :=
  match s, l with
  | .lf _, [x] => .lf x
  | _, l => .agg l
def dfnN : Nat → Tree → Tree
  | 0, t => t
  | n + 1, t => .dfn .nil (dfnN n t)
def St.nils (P : Program) (t : TypeId) (s : S0) (st : St) : Option (S0 × St × Nat) :=
  match kinds P t with
  | some ks => if s.cells.any Lf.isNil && Nat.beq ks.length s.cells.length && st.wf && s.wf st.nx st.nb && ks.all Lk.noVec && ((ownL ks s.cells st.nx).2.all fun t => (kinds P t).isSome) then
      some (s.with (ownL ks s.cells st.nx).1, { st with nx := st.nx + (ownL ks s.cells st.nx).2.length, vec := nilV (ownL ks s.cells st.nx).2 st.nx ++ st.vec }, (ownL ks s.cells st.nx).2.length)
    else none
  | none => none
/-- A slice of one's own becomes one that nobody writes any more. -/
def Lf.frz (i n : Nat) (l : Lf) : Lf :=
  match l with
  | .vec te j => if j = i then .arr te (.var n) else .vec te j
  | .velp te sz j x o => if j = i then .elp te sz (.var n) x o else .velp te sz j x o
  | l => l
def S0.frz (i n : Nat) : S0 → S0
  | .lf l => .lf (l.frz i n)
  | .agg l => .agg (l.map (Lf.frz i n))
def SV.frz (i n : Nat) : SV → SV
  | .one s => .one (s.frz i n)
  | .tup l => .tup (l.map (S0.frz i n))
  | .fn f l => .fn f l
/-- Only places of this kind of elements. -/
def frzOk (te : TypeId) (i : Nat) (l : Lf) : Bool :=
  match l with
  | .vec t j => !Nat.beq j i || Nat.beq t te
  | .velp t _ j _ _ => !Nat.beq j i || Nat.beq t te
  | _ => true
def SV.cells : SV → List Lf
  | .one s => s.cells
  | .tup ss => ss.flatMap S0.cells
  | .fn _ l => l
def St.freeze (st : St) (i : Nat) : Option (E × St) :=
  match look st.vec i with
  | some e => if st.wf && (st.sl.all fun p => match p.2 with | some sv => sv.cells.all (frzOk e.1 i) | none => true) && (st.mem.all fun p => match p.2 with | some mb => mb.2.all (frzOk e.1 i) | none => true) then
      some (mkJoin i e.2, { st with nx := st.nx + 1, vec := (i, none) :: st.vec, sl := st.sl.map fun p => (p.1, p.2.map (SV.frz i st.nx)), mem := st.mem.map fun p => (p.1, p.2.map fun mb => (mb.1, mb.2.map (Lf.frz i st.nx))) })
    else none
  | none => none
def freezeAll : List Nat → St → (St → Option Tree) → Option Tree
  | [], st, k => k st
  | i :: l, st, k => match st.freeze i with
    | some (e, st') => (freezeAll l st' k).map (.dfn e)
    | none => freezeAll l st k
def vecsOf (l : List Lf) : List Nat := l.filterMap fun | .vec _ i => some i | _ => none
def s0Cells (st : St) (x : Operand) : List Lf := match st.s0 x with | some s => s.cells | none => []
/-- The slices of one's own that are given away by an operation. -/
def toFreeze (cx : Cx) (st : St) (o : Oper) : List Nat :=
  match o.op with
  | .buildSlice _ _ ps => vecsOf (ps.toList.flatMap fun p => s0Cells st p.2)
  | .store _ a x => match st.lf a with
    | some (.velp ..) => vecsOf (s0Cells st x)
    | _ => []
  | .slice _ x _ _ _ => vecsOf (s0Cells st x)
  | .call c => match c.callee with
    | .value (.func f) => match cx.ct f with
      | some ct => if (kindsOf ct.res ++ boxKinds ct.args).all (flatK cx.P) then [] else vecsOf (c.args.toList.flatMap (s0Cells st))
      | none => []
    | _ => []
  | _ => []
/-- A call by its function. -/
def callF (cx : Cx) (st : St) (o : Oper) (f : Nat) (args : List S0) (k : St → Option Tree) : Option Tree :=
  match cx.ct f with
  | some _ => callCt cx st o f args k
  | none => if st.wf && args.all (S0.wf st.nx st.nb) then cx.H f args { st with path := st.path * 1000 + o.dst.getD 0 + 1 } fun l st' => (({ st' with path := st.path } : St).put o.dst (some (svOf l))).bind k else none
/-- The rows of a slice, of one's own or not. -/
def rowsLf (vec : Vecs) : Lf → Option (TypeId × E)
  | .arr te a => some (te, a)
  | .vec te i => match look vec i with
    | some e => if e.1 = te then some e else none
    | none => none
  | _ => none
/-- What is appended to: its variable (none: the nil slice), what it holds. -/
def appA (te : TypeId) (vec : Vecs) : Lf → Option (Option Nat × E)
  | .vec ta i => match look vec i with
    | some e => if ta = te ∧ e.1 = te then some (some i, e.2) else none
    | none => none
  | l => if l.isNil then some (none, .nil) else none
def appB (te : TypeId) (vec : Vecs) (b : Lf) : Option (TypeId × E) := if b.isNil then some (te, .nil) else rowsLf vec b
def appNe (b : Lf) (i : Option Nat) : Bool :=
  match b, i with
  | .vec _ j, some i => !Nat.beq i j
  | _, _ => true
/-- Without this one. -/
def dropV (ci : Option Nat) (v : Vecs) : Vecs := match ci with | some i => (i, none) :: v | none => v
def doOp (cx : Cx) (st : St) (o : Oper) (k : St → Option Tree) : Option Tree :=
  match opVal cx.P st o with
  | some (obs, sv) => match sv with
    | .one s => match (st.learnAll obs).nils cx.P o.type s with
      | some (s', st', n) => (st'.put o.dst (some (.one s'))).bind fun st => (k st).map fun t => obT obs (dfnN n t)
      | none => ((st.learnAll obs).put o.dst (some sv)).bind fun st => (k st).map (obT obs)
    | _ => ((st.learnAll obs).put o.dst (some sv)).bind fun st => (k st).map (obT obs)
  | none => match o.op with
    | .alloc t => match zeroLf cx.P t with
      | some cs => match st.nils cx.P t (.agg cs) with
        | some (s', st1, n) => (st1.fresh t s'.cells).bind fun st' => (st'.put o.dst (some (.one (.lf (.ptr st.nb 0))))).bind fun st => (k st).map (dfnN n)
        | none => (st.fresh t cs).bind fun st' => (st'.put o.dst (some (.one (.lf (.ptr st.nb 0))))).bind k
      | none => none
    | .box t x => match st.s0 x with
      | some s => (st.fresh t s.cells).bind fun st' => (st'.put o.dst (some (.one (.lf (.ptr st.nb 0))))).bind k
      | none => none
    | .store t a x => match st.lf a, st.s0 x with
      | some (.ptr b off), some s => match look st.mem b, sizeIs cx.P t with
        | some mb, some n => if s.cells.length = n ∧ off + n ≤ mb.2.length ∧ s.cells.all Lf.flat = true then
            (({ st with mem := (b, some (mb.1, mb.2.take off ++ s.cells ++ mb.2.drop (off + n))) :: st.mem } : St).put o.dst none).bind k else none
        | _, _ => none
      | some (.velp te sz i e off), some s => match look st.vec i, kinds cx.P te, sizeIs cx.P t with
        | some ve, some ks, some n => if ve.1 = te ∧ ks.length = sz ∧ s.cells.length = n ∧ off + n ≤ ks.length ∧ kindsL (adaptL cx.P [] ((ks.drop off).take n) s.cells) = some ((ks.drop off).take n) ∧ st.wf = true ∧ ks.all Lk.noVec = true then
            (({ st with nx := st.nx + 1, vec := (i, some (te, .var st.nx)) :: st.vec } : St).put o.dst none).bind fun st' =>
              (k st').map fun t => obT (rngL st.bds (adaptL cx.P [] ((ks.drop off).take n) s.cells)) (.upd ve.2 e off (adaptL cx.P [] ((ks.drop off).take n) s.cells) t)
          else none
        | _, _, _ => none
      | _, _ => none
    | .buildSlice t len ps => match sliceOf cx.P t with
      | some te => match kinds cx.P te, zeroLf cx.P te, parts? st ps.toList with
        | some ks, some z, some r => match rowsOf ks 0 r with
          | some rows => if st.wf && ks.all Lk.noVec && Nat.beq rows.length len && Nat.ble (len * ks.length) 16777216 && Nat.beq z.length ks.length then
              (({ st with nx := st.nx + 1, vec := (st.nx, some (te, .var st.nx)) :: st.vec } : St).put o.dst (some (.one (.lf (.vec te st.nx))))).bind fun st' =>
                (k st').map fun t => obT (rngL st.bds rows.flatten) (.arr rows t)
            else none
          | none => none
        | _, _, _ => none
      | none => none
    | .makeSlice t n m => match sliceOf cx.P t, st.lf n, st.lf m with
      | some te, some (.int e), some (.int e') => match kinds cx.P te, zeroLf cx.P te, cx.P.info? te with
        | some ks, some z, some it => if e = e' ∧ kindsL (adaptL cx.P [] ks z) = some ks ∧ st.wf = true ∧ ks.all Lk.noVec = true ∧ rngL st.bds (adaptL cx.P [] ks z) = [] then
            (({ st with nx := st.nx + 1, vec := (st.nx, some (te, .var st.nx)) :: st.vec } : St).put o.dst (some (.one (.lf (.vec te st.nx))))).bind fun st' =>
              (k st').map fun t => obT (need (B.mkCmp st.bds .le (.lit 0) e) ++ need (B.mkCmp st.bds .le (.mul (.lit it.bytes) e) (.lit 281474976710656)) ++ need (B.mkCmp st.bds .le e (.lit 9223372036854775807))) (.mk e (adaptL cx.P [] ks z) t)
          else none
        | _, _, _ => none
      | _, _, _ => none
    | .makeFunc (.func f) first captured => match st.s0s first.toList, st.s0s captured.toList with
      | some fs, some cs => if st.wf && fs.all (S0.wf st.nx st.nb) && cs.all (S0.wf st.nx st.nb) && cs.all (fun s => Nat.beq s.cells.length 1 && match s with | .lf _ => true | _ => false) then
          (({ st with nx := st.nx + 1, clo := (st.nx, some (f, fs, cs.flatMap S0.cells)) :: st.clo } : St).put o.dst (some (.one (.lf (.clo st.nx))))).bind fun st' => (k st').map (.arr [])
        else none
      | _, _ => none
    | .call c => match c.callee, st.s0s c.args.toList with
      | .builtin .append, some [.lf a, .lf b] => match c.argTypes.toList with
        | [t, t'] => match sliceOf cx.P t with
          | some te => match kinds cx.P te, zeroLf cx.P te, cx.P.info? te with
            | some ks, some z, some it => if t = t' ∧ st.wf = true ∧ Nat.ble 1 it.bytes = true ∧ z.length = ks.length then
                match appA te st.vec a, appB te st.vec b with
                | some (i, ea), some (tb, eb) => if tb = te ∧ appNe b i = true then
                    (({ st with nx := st.nx + 1, vec := (st.nx, some (te, .var st.nx)) :: dropV i st.vec } : St).put o.dst (some (.one (.lf (.vec te st.nx))))).bind fun st' =>
                      (k st').map fun t => obT (need (B.mkCmp st.bds .le (.mul (.add (.len ea) (.len eb)) (.lit it.bytes)) (.lit 140737488355328))) (.cat ea eb t)
                  else none
                | _, _ => none
              else none
            | _, _, _ => none
          | none => none
        | _ => none
      | .value (.func f), some args => match cx.sel f with
        | some g => match g st.bds args with
          | some (obs, b, s1, s2) => match (((st.learnAll obs).know none b true).put o.dst (some s1)).bind k, (((st.learnAll obs).know none b false).put o.dst (some s2)).bind k with
            | some t, some e => some (obT obs (.split b t e))
            | _, _ => none
          | none => none
        | none => match cx.inl f with
          | some g => match g st.bds args with
            | some (obs, s) => ((st.learnAll obs).put o.dst (some (.one s))).bind fun st => (k st).map (obT obs)
            | none => none
          | none => callF cx st o f args k
      | .value (.tmp x), some args => match st.ev (.tmp x) with
        | some (.fn f ls) => callF cx st o f (.agg ls :: args) k
        | some (.one (.lf (.clo i))) => match look st.clo i with
          | some (f, fs, cs) => callF cx st o f (fs ++ args ++ cs.map .lf) k
          | none => none
        | some (.one (.lf (.cst v))) => match v with
          | .func (.func f) x y => if x.isEmpty && y.isEmpty then callF cx st o f args k else none
          | _ => none
        | _ => none
      | _, _ => none
    | _ => none
/-- Where nothing is known to do the tree says so. -/
def orF (x : Option Tree) (n : Nat) (l : List Nat) : Option Tree := match x with | some t => some t | none => some (.fail n l)
def doOpF (cx : Cx) (st : St) (o : Oper) (k : St → Option Tree) : Option Tree := freezeAll (toFreeze cx st o) st fun st => doOp cx st o k
/-- An operation that is not carried out: its slot holds nothing; said where a guard reads it. -/
def skV : SV := .one (.lf (.cst undef))
def guards (ops : Array Oper) (d : Tmp) : Bool := ops.toList.any fun p => match p.guard with
  | some (j, _) => match (ops[j]?).bind (·.dst) with
    | some e => Nat.beq e d
    | none => false
  | none => false
def St.skip (st : St) (ops : Array Oper) (o : Oper) : Option St :=
  match o.dst with
  | none => st.put o.dst none
  | some d => if guards ops d then st.put o.dst (some skV) else st.put o.dst none
def isB : Value → Bool
  | .bool _ => true
  | _ => false
def execOps (cx : Cx) (ops : Array Oper) : List Oper → St → (St → Option Tree) → Option Tree
  | [], st, k => k st
  | o :: rest, st, k => match o.guard with
    | none => orF (doOpF cx st o fun st => execOps cx ops rest st k) (o.dst.getD 0) [st.path]
    | some (j, want) => match (ops[j]?).bind (·.dst) with
      | none => none
      | some d => match st.lf (.tmp d) with
        | some (.bool (.lit v)) => if v = want then orF (doOpF cx st o fun st => execOps cx ops rest st k) (o.dst.getD 0) [st.path] else (st.skip ops o).bind fun st => execOps cx ops rest st k
        | some (.bool b) => match doOpF cx (st.know (some d) b want) o fun st => execOps cx ops rest st k, ((st.know (some d) b !want).skip ops o).bind fun st => execOps cx ops rest st k with
          | some t, some e => some (if want then .split b t e else .split b e t)
          | _, _ => none
        | some (.cst v) => if isB v then none else (st.skip ops o).bind fun st => execOps cx ops rest st k
        | _ => none
inductive Ex where
  | nrm
  | ext (id : Nat)
  | ret
/-- The number of the first region, by which a loop is known. -/
def firstReg : Code → Option Nat
  | .region id _ _ => some id
  | .seq a b => match firstReg a with
    | some i => some i
    | none => firstReg b
  | .cond _ a b => match firstReg a with
    | some i => some i
    | none => firstReg b
  | .block _ c | .loop c | .scope c => firstReg c
  | _ => none
end Go.Proofs.Ytlbgcjpkegpmlaa
