/- Texts laid into one: Eh Ei Ej. -/
import Derived.Test.YtbgofenplhdllaaKnown1
import Derived.Deep.LoopGhost
/- The engine, part 8: what tests teach; contracts; the tree of what is to be shown; the executor. -/
namespace Go.Proofs.Ytbgofenplhdllaa
open Go.RowKit
set_option linter.unusedSimpArgs false

/-! What a test teaches of the variables -/
def upHi (n : Nat) (bd : Bds) (a : E) (h : Option (Int × Int)) (d : Int) : Bds :=
  match a, h with
  | .var i, some q => if i < n then match (E.var i).iv bd with
      | some p => (i, p.1, Min.min p.2 (q.2 - d)) :: bd
      | none => bd
    else bd
  | _, _ => bd
def upLo (n : Nat) (bd : Bds) (a : E) (h : Option (Int × Int)) (d : Int) : Bds :=
  match a, h with
  | .var i, some q => if i < n then match (E.var i).iv bd with
      | some p => (i, Max.max p.1 (q.1 + d), p.2) :: bd
      | none => bd
    else bd
  | _, _ => bd
def learnLe (n : Nat) (bd : Bds) (a b : E) (d : Int) : Bds := upHi n (upLo n bd b (a.iv bd) d) a (b.iv bd) d
def learn (n : Nat) (bd : Bds) : B → Bool → Bds
  | .cmp .le a b, true => learnLe n bd a b 0
  | .cmp .lt a b, true => learnLe n bd a b 1
  | .cmp .le a b, false => learnLe n bd b a 1
  | .cmp .lt a b, false => learnLe n bd b a 0
  | .cmp .eq a b, true => learnLe n (learnLe n bd a b 0) b a 0
  | .cmp .ne a b, false => learnLe n (learnLe n bd a b 0) b a 0
  | .not b, t => learn n bd b !t
  | .and a b, true => learn n (learn n bd a true) b true
  | .or a b, false => learn n (learn n bd a false) b false
  | _, _ => bd
section
variable {n : Nat} {bd : Bds} {ρ : List C}
theorem upHi_ok (hb : bd.ok ρ) (hs : Smalls ρ) (hn : n ≤ ρ.length) {a : E} {h : Option (Int × Int)} {d : Int} (hh : ∀ q, h = some q → a.den ρ ≤ q.2 - d) : (upHi n bd a h d).ok ρ := by
  unfold upHi
  split
  · rename_i i q
    split
    · rename_i hi
      split
      · rename_i p hp
        intro x lo h' hm
        rcases List.mem_cons.1 hm with e | hm
        · cases e
          have h1 := E.iv_ok hb hs (.var i) _ hp
          have h2 := hh q rfl
          rw [E.den_var] at h1 h2
          exact ⟨by omega, h1.1, by omega⟩
        · exact hb x lo h' hm
      · exact hb
    · exact hb
  · exact hb
theorem upLo_ok (hb : bd.ok ρ) (hs : Smalls ρ) (hn : n ≤ ρ.length) {a : E} {h : Option (Int × Int)} {d : Int} (hh : ∀ q, h = some q → q.1 + d ≤ a.den ρ) : (upLo n bd a h d).ok ρ := by
  unfold upLo
  split
  · rename_i i q
    split
    · rename_i hi
      split
      · rename_i p hp
        intro x lo h' hm
        rcases List.mem_cons.1 hm with e | hm
        · cases e
          have h1 := E.iv_ok hb hs (.var i) _ hp
          have h2 := hh q rfl
          rw [E.den_var] at h1 h2
          exact ⟨by omega, by omega, h1.2⟩
        · exact hb x lo h' hm
      · exact hb
    · exact hb
  · exact hb
theorem learnLe_ok (hb : bd.ok ρ) (hs : Smalls ρ) (hn : n ≤ ρ.length) {a b : E} {d : Int} (h : a.den ρ + d ≤ b.den ρ) : (learnLe n bd a b d).ok ρ := by
  unfold learnLe
  refine upHi_ok (upLo_ok hb hs hn fun q hq => ?_) hs hn fun q hq => ?_
  · have := E.iv_ok hb hs a _ hq; omega
  · have := E.iv_ok hb hs b _ hq; omega
theorem learn_ok (hs : Smalls ρ) (hn : n ≤ ρ.length) (b : B) : ∀ (bd : Bds) (t : Bool), bd.ok ρ → b.den ρ = t → (learn n bd b t).ok ρ := by
  induction b with
  | cmp c x y =>
    intro bd t hb h
    cases c <;> cases t <;> simp only [learn] <;> simp only [B.den, Cmp.den, decide_eq_true_eq, decide_eq_false_iff_not, beq_iff_eq, bne_iff_ne, bne_eq_false_iff_eq] at h <;>
      first
        | exact hb
        | exact learnLe_ok hb hs hn (by omega)
        | exact learnLe_ok (learnLe_ok hb hs hn (by omega)) hs hn (by omega)
  | not b ih => intro bd t hb h; simp only [learn]; exact ih bd _ hb (by simp only [B.den] at h; rw [← h]; simp)
  | and a b iha ihb =>
    intro bd t hb h
    cases t
    · exact hb
    · simp only [B.den, Bool.and_eq_true] at h
      exact ihb _ _ (iha _ _ hb h.1) h.2
  | or a b iha ihb =>
    intro bd t hb h
    cases t
    · simp only [B.den, Bool.or_eq_false_iff] at h
      exact ihb _ _ (iha _ _ hb h.1) h.2
    · exact hb
  | _ => intro bd t hb h; cases t <;> exact hb
end

/-! Shapes of arguments and results -/
inductive Sh0 where
  | lf (k : Lk)
  | agg (l : List Lk)
  | box (t : TypeId) (l : List Lk)
  deriving DecidableEq, Repr, Inhabited
def Sh0.kinds : Sh0 → List Lk
  | .lf k => [k]
  | .agg l => l
  | .box _ l => l
def Sh0.isBox : Sh0 → Bool
  | .box _ _ => true
  | _ => false
/-- The kinds of what the pointers among the arguments point to. -/
def boxKinds (ss : List Sh0) : List Lk := ss.flatMap fun | .box _ l => l | _ => []
def kindsOf (ss : List Sh0) : List Lk := ss.flatMap Sh0.kinds
def LRep (P : Program) (w : World) (Base : Nat → Nat → Prop) (k : Lk) (u : Value) (c : C) : Prop :=
  (∀ n, c.small n) ∧ match k with
  | .int => ∃ n, u = .int .i64 n ∧ c = .i n
  | .bool => ∃ t, u = .bool t ∧ c = .b t
  | .arr t => u = c.loc ∧ ArrOK P w Base t c
  | .vec t => u = c.loc ∧ VecOK P w Base t u c
  | .opq => c = .s u [] ∧ u.oneCell' = true
def LReps (P : Program) (w : World) (Base : Nat → Nat → Prop) : List Lk → List Value → List C → Prop
  | [], [], [] => True
  | k :: ks, u :: us, c :: cs => LRep P w Base k u c ∧ LReps P w Base ks us cs
  | _, _, _ => False
/-- A value by its shape. A pointer: to a block of its own; as an argument to one of the caller's (old = none), as a result to a new one (old = some n: the heap had n blocks). -/
def Rep0 (P : Program) (w : World) (Base : Nat → Nat → Prop) (old : Option Nat) : Sh0 → Value → List C → Prop
  | .lf k, v, cs => ∃ c, cs = [c] ∧ LRep P w Base k v c
  | .agg ks, v, cs => ∃ us : List Value, v = .agg us.toArray ∧ LReps P w Base ks us cs
  | .box t ks, v, cs => ∃ (b : Nat) (us : List Value), v = .pointer (some ⟨b, 0, none⟩) ∧ Blk w b t us.toArray ∧ (match old with | none => ∀ o, Base b o | some n => n ≤ b) ∧ LReps P w (fun x o => Base x o ∨ some b = some x) ks us cs
def Reps (P : Program) (w : World) (Base : Nat → Nat → Prop) (old : Option Nat) : List Sh0 → List Value → List C → Prop
  | [], [], cs => cs = []
  | s :: ss, v :: vs, cs => ∃ c1 c2, cs = c1 ++ c2 ∧ Rep0 P w Base old s v c1 ∧ Reps P w Base old ss vs c2
  | _, _, _ => False
/-- The blocks of the slices of one's own among them. -/
def vecB : List Lk → List C → List Nat
  | .vec _ :: ks, c :: cs => (match c.loc.ownBlock with | some b => [b] | none => []) ++ vecB ks cs
  | _ :: ks, _ :: cs => vecB ks cs
  | _, _ => []
/-- One result stands for itself, several as a tuple; slices of one's own lie in new blocks, each in its own. -/
def Res (P : Program) (w : World) (Base : Nat → Nat → Prop) (n : Nat) (ss : List Sh0) (v : Value) (cs : List C) : Prop :=
  ∃ vs, v = (match vs with | [x] => x | _ => .tuple vs.toArray) ∧ Reps P w (fun b o => Base b o ∨ b ∈ vecB (kindsOf ss) cs) (some n) ss vs cs ∧ (vecB (kindsOf ss) cs).Nodup ∧ (∀ b ∈ vecB (kindsOf ss) cs, n ≤ b)
/-- The blocks that the arguments point to. -/
def IsBox : List Sh0 → List Value → Nat → Prop
  | .box _ _ :: ss, v :: vs, i => v = .pointer (some ⟨i, 0, none⟩) ∨ IsBox ss vs i
  | _ :: ss, _ :: vs, i => IsBox ss vs i
  | _, _, _ => False
/-- What lies in these blocks afterwards. -/
def Outs (P : Program) (w : World) (Base : Nat → Nat → Prop) : List Sh0 → List Value → List C → Prop
  | .box t ks :: ss, v :: vs, cs => ∃ (c1 c2 : List C) (b : Nat) (us : List Value), cs = c1 ++ c2 ∧ v = .pointer (some ⟨b, 0, none⟩) ∧ Blk w b t us.toArray ∧ LReps P w Base ks us c1 ∧ Outs P w Base ss vs c2
  | _ :: ss, _ :: vs, cs => Outs P w Base ss vs cs
  | _, _, cs => cs = []
/-- Of the blocks F nothing has turned. -/
structure Keeps (F : Nat → Prop) (w w' : World) : Prop where
  os : w'.os = w.os
  tape : w'.tape = w.tape
  output : w'.output = w.output
  size : w.heap.size ≤ w'.heap.size
  block : ∀ i, F i → w'.heap[i]? = w.heap[i]?

structure Ct where
  args : List Sh0
  res : List Sh0
  pre : List C → Prop
  post : List C → List C → Prop
  /-- There is but one result. -/
  det : Bool := false
def CtOK (P : Program) (f : FuncId) (ct : Ct) : Prop :=
  ∀ (Base : Nat → Nat → Prop) (w : World) (vs : List Value) (cs : List C), (∀ b o, Base b o → b < w.heap.size) → Reps P w Base none ct.args vs cs → ct.pre cs →
    Calls P f vs.toArray w fun e w' => ∃ v rs outs, e = .returned v ∧ Res P w' Base w.heap.size ct.res v rs ∧ Outs P w' (fun b o => Base b o ∨ b ∈ vecB (kindsOf ct.res) rs) ct.args vs outs ∧ ct.post cs (rs ++ outs) ∧ Keeps (fun i => i < w.heap.size ∧ ¬ IsBox ct.args vs i) w w'
def Callable (P : Program) (f : FuncId) : Prop := ∃ fn, P.funcs[f]? = some fn ∧ (fn.name == "runtime.NumGoroutine") = false ∧ fn.body.isSome = true
/-- A function that is written out in place: a result for symbolic arguments. -/
abbrev Inl := Bds → List S0 → Option (List B × S0)
def Lf.plain : Lf → Bool
  | .int _ | .bool _ => true
  | _ => false
def S0.plain (s : S0) : Bool := s.cells.all Lf.plain
def InlOK (P : Program) (f : FuncId) (g : Inl) : Prop :=
  ∀ (Γ : Env) (bd : Bds) (args : List S0) (obs : List B) (s : S0), Num bd Γ.ρ → g bd args = some (obs, s) → Obs Γ.ρ obs → s.plain = true ∧
    ∀ w, Calls P f (args.map (S0.den Γ)).toArray w fun e w' => e = .returned (s.den Γ) ∧ Below w.heap.size w w'

/-- A function written out in place that hands back one of two values, by a test. -/
abbrev Sel := Bds → List S0 → Option (List B × B × SV × SV)
def SV.plain : SV → Bool
  | .one s => s.plain
  | .tup _ => false
  | .fn _ l => l.all Lf.plain
def SelOK (P : Program) (f : FuncId) (g : Sel) : Prop :=
  ∀ (Γ : Env) (bd : Bds) (args : List S0) (obs : List B) (b : B) (s1 s2 : SV), Num bd Γ.ρ → g bd args = some (obs, b, s1, s2) → Obs Γ.ρ obs → s1.plain = true ∧ s2.plain = true ∧
    ∀ w, Calls P f (args.map (S0.den Γ)).toArray w fun e w' => e = .returned ((if b.den Γ.ρ = true then s1 else s2).den Γ) ∧ Below w.heap.size w w'
/-! The tree -/
inductive Tree where
  | ret (l : List Lf)
  | split (b : B) (t e : Tree)
  | ob (b : B) (t : Tree)
  | call (f : Nat) (args : List Lf) (t : Tree)
  | loop (ks : List Lk) (init : List Lf) (t : Tree)
  | back (lvl : Nat) (vals : List Lf)
  | arr (rows : List (List Lf)) (t : Tree)
  /-- A new variable. -/
  | dfn (e : E) (t : Tree)
  /-- A new slice: so many rows alike; two behind one another; one with some cells of a row written. -/
  | mk (n : E) (row : List Lf) (t : Tree)
  | cat (a b : E) (t : Tree)
  | upd (a x : E) (o : Nat) (l : List Lf) (t : Tree)
  /-- Several ways, each to be shown. -/
  | both (a b : Tree)
  /-- Ways that end in one state; what follows from there. -/
  | join (ks : List Lk) (ws t : Tree)
  /-- Here the executor did not know what to do. -/
  | fail (n : Nat) (l : List Nat)
  deriving Inhabited
/-- A place that a round may write: a slot, a block, what a slice of one's own holds. -/
inductive Pl where
  | slot (d : Nat)
  | blk (b : Nat)
  | vec (i : Nat)
  deriving DecidableEq, Repr, Inhabited
/-- What is done with a function that has no contract. -/
abbrev Hd := Nat → List S0 → St → (List S0 → St → Option Tree) → Option Tree
structure Cx where
  P : Program
  ct : Nat → Option Ct
  inl : Nat → Option Inl
  sel : Nat → Option Sel
  hv : Nat → List Pl
  H : Hd
  wr : List Nat := []
  /-- Drawn regions whose ways are led into one state: the slots that hold what they made, by their kinds; the places that they turn. -/
  jn : Nat → Option (List (Nat × Bool × List Lk) × List Pl) := fun _ => none
def Lf.c (ρ : List C) : Lf → C
  | .int e => .i (e.den ρ)
  | .bool b => .b (b.den ρ)
  | .arr _ a => a.ev ρ
  | .cnt _ a => a.ev ρ
  | .vec _ i | .clo i => at_ ρ i
  | _ => .i 0
def cs_ (ρ : List C) (l : List Lf) : List C := l.map (Lf.c ρ)
def allC (P : Program) : List Lk → (List C → Prop) → Prop
  | [], p => p []
  | .int :: l, p => ∀ n : Int, -9223372036854775808 ≤ n → n ≤ 9223372036854775807 → allC P l fun cs => p (.i n :: cs)
  | .bool :: l, p => ∀ t : Bool, allC P l fun cs => p (.b t :: cs)
  | .arr t :: l, p => ∀ (v : Value) (rows : List (List C)) (d : Nat), TyN P d t rows → (∀ n, (C.s v rows).small n) → allC P l fun cs => p (.s v rows :: cs)
  | .vec t :: l, p => ∀ (v : Value) (rows : List (List C)) (d : Nat), TyN P d t rows → (∀ n, (C.s v rows).small n) → allC P l fun cs => p (.s v rows :: cs)
  | .opq :: l, p => ∀ v : Value, allC P l fun cs => p (.s v [] :: cs)
/-- Some cells of a row written. -/
def updRow (rows : List (List C)) (i o : Nat) (l : List C) : List (List C) := rows.set i ((rows.getD i []).take o ++ l ++ (rows.getD i []).drop (o + l.length))
def VC (cx : Cx) (R : List C → Prop) : Tree → List C → List (List C → Prop) → Prop
  | .ret l, ρ, _ => R (cs_ ρ l)
  | .split b t e, ρ, Ls => (b.den ρ = true → VC cx R t ρ Ls) ∧ (b.den ρ = false → VC cx R e ρ Ls)
  | .ob b t, ρ, Ls => b.den ρ = true ∧ VC cx R t ρ Ls
  | .call f args t, ρ, Ls => match cx.ct f with
    | some ct => ct.pre (cs_ ρ args) ∧ allC cx.P (kindsOf ct.res ++ boxKinds ct.args) fun rs => ct.post (cs_ ρ args) rs → VC cx R t (ρ ++ rs) Ls
    | none => False
  | .loop ks init t, ρ, Ls => ∃ (I : List C → Prop) (μ : List C → Nat), I (cs_ ρ init) ∧ allC cx.P ks fun xs => I xs → VC cx R t (ρ ++ xs) (Ls ++ [fun ys => I ys ∧ μ ys < μ xs])
  | .arr rows t, ρ, Ls => ∀ v : Value, VC cx R t (ρ ++ [.s v (rows.map (cs_ ρ))]) Ls
  | .dfn e t, ρ, Ls => VC cx R t (ρ ++ [e.ev ρ]) Ls
  | .mk n row t, ρ, Ls => ∀ v : Value, VC cx R t (ρ ++ [.s v (List.replicate (n.den ρ).toNat (cs_ ρ row))]) Ls
  | .cat a b t, ρ, Ls => ∀ v : Value, VC cx R t (ρ ++ [.s v ((a.ev ρ).rows ++ (b.ev ρ).rows)]) Ls
  | .upd a x o l t, ρ, Ls => ∀ v : Value, VC cx R t (ρ ++ [.s v (updRow (a.ev ρ).rows (x.den ρ).toNat o (cs_ ρ l))]) Ls
  | .both a b, ρ, Ls => VC cx R a ρ Ls ∧ VC cx R b ρ Ls
  | .join ks ws t, ρ, Ls => ∃ I : List C → Prop, VC cx R ws ρ (Ls ++ [I]) ∧ allC cx.P ks fun xs => I xs → VC cx R t (ρ ++ xs) (Ls ++ [I])
  | .fail _ _, _, _ => False
  | .back lvl vals, ρ, Ls => match Ls[lvl]? with
    | some p => p (cs_ ρ vals)
    | none => False

/-! The executor -/
def obT (l : List B) (t : Tree) : Tree := l.foldr Tree.ob t
def St.learnAll (st : St) (l : List B) : St := { st with bds := l.foldl (fun bd b => learn st.nx bd b true) st.bds }
def St.put (st : St) (dst : Option Tmp) (sv : Option SV) : Option St :=
  match dst with
  | none => some st
  | some d => if d < st.nt ∧ d < 1000 then some { st with sl := (d, sv) :: st.sl } else none
def wfS (n nb : Nat) : Option SV → Bool
  | some sv => sv.wf n nb
  | none => true
def wfM (n nb : Nat) : Option (TypeId × List Lf) → Bool
  | some mb => mb.2.all (Lf.wf n nb)
  | none => true
def wfV (n i : Nat) : Option (TypeId × E) → Bool
  | some e => Nat.blt i n && e.2.wf n
  | none => true
def wfC (n nb i : Nat) : Option (Nat × List S0 × List Lf) → Bool
  | some e => Nat.blt i n && e.2.1.all (S0.wf n nb) && e.2.2.all (Lf.wf n nb)
  | none => true
def St.wf (st : St) : Bool := st.sl.all (fun p => wfS st.nx st.nb p.2) && st.mem.all (fun p => wfM st.nx st.nb p.2) && st.vec.all (fun p => wfV st.nx p.1 p.2) && st.clo.all (fun p => wfC st.nx st.nb p.1 p.2)
/-- A new block. -/
def St.fresh (st : St) (t : TypeId) (cs : List Lf) : Option St :=
  if st.wf && cs.all (Lf.wf st.nx st.nb) && cs.all Lf.flat then some { st with mem := (st.nb, some (t, cs)) :: st.mem, nb := st.nb + 1 } else none
def Lf.kind : Lf → Option Lk
  | .int _ => some .int
  | .bool _ => some .bool
  | .arr t _ => some (.arr t)
  | .vec t _ => some (.vec t)
  | .cnt t _ => some (.vec t)
  | .clo _ => some .opq
  | _ => none
def Lf.ofKind (k : Lk) (i : Nat) : Lf :=
  match k with
  | .int => .int (.var i)
  | .bool => .bool (.of (.var i))
  | .arr t => .arr t (.var i)
  | .vec t => .vec t i
  | .opq => .clo i
/-- The new variables' slices of one's own. -/
def freshV : List Lk → Nat → Vecs
  | [], _ => []
  | .vec t :: ks, i => (i, some (t, .var i)) :: freshV ks (i + 1)
  | _ :: ks, i => freshV ks (i + 1)
def freshL : List Lk → Nat → List Lf
  | [], _ => []
  | k :: ks, i => Lf.ofKind k i :: freshL ks (i + 1)
def kindsL : List Lf → Option (List Lk)
  | [] => some []
  | l :: ls => match l.kind, kindsL ls with
    | some k, some ks => some (k :: ks)
    | _, _ => none
abbrev Mem := List (Nat × Option (TypeId × List Lf))
def S0.shape (s : S0) : Option Sh0 :=
  match s with
  | .lf l => l.kind.map .lf
  | .agg l => (kindsL l).map .agg
/-- A value's shape: a pointer to a block that is known stands for it. -/
def S0.shapeM (mem : Mem) (s : S0) : Option Sh0 :=
  match s with
  | .lf (.ptr b 0) => match look mem b with
    | some mb => (kindsL mb.2).map (.box mb.1)
    | none => none
  | s => s.shape
def S0.cellsM (mem : Mem) (s : S0) : List Lf :=
  match s with
  | .lf (.ptr b 0) => match look mem b with
    | some mb => mb.2
    | none => []
  | s => s.cells
def shapes (mem : Mem) : List S0 → Option (List Sh0)
  | [] => some []
  | s :: ss => match s.shapeM mem, shapes mem ss with
    | some h, some hs => some (h :: hs)
    | _, _ => none
def Sh0.fresh (nb : Nat) (s : Sh0) (i : Nat) : S0 :=
  match s with
  | .lf k => .lf (Lf.ofKind k i)
  | .agg l => .agg (freshL l i)
  | .box _ _ => .lf (.ptr nb 0)
def freshS (nb : Nat) : List Sh0 → Nat → List S0
  | [], _ => []
  | s :: ss, i => s.fresh nb i :: freshS nb ss (i + s.kinds.length)
def freshMem (nb : Nat) : List Sh0 → Nat → Mem
  | [], _ => []
  | .box t l :: ss, i => (nb, some (t, freshL l i)) :: freshMem nb ss (i + l.length)
  | s :: ss, i => freshMem nb ss (i + s.kinds.length)
def boxOf : List S0 → Option Nat
  | [] => none
  | .lf (.ptr b 0) :: _ => some b
  | _ :: l => boxOf l
/-- At most one pointer among the arguments; a result that is a pointer stands alone, and then there is none among the arguments. -/
def Lk.noVec : Lk → Bool
  | .vec _ => false
  | _ => true
/-- What may lie in a row. -/
def Lk.row : Lk → Bool
  | .vec _ | .opq => false
  | _ => true
theorem row_noVec {ks : List Lk} (h : ks.all Lk.row = true) : ks.all Lk.noVec = true := by
  rw [List.all_eq_true] at h ⊢
  intro k hk
  have := h k hk
  cases k <;> first | rfl | cases this
def boxOk (ct : Ct) : Bool := Nat.ble (ct.args.filter Sh0.isBox).length 1 && (ct.res.all (fun s => !s.isBox) || (Nat.beq ct.res.length 1 && (ct.args.all fun s => !s.isBox) && (kindsOf ct.res).all Lk.noVec)) && (kindsOf ct.args).all Lk.noVec
def St.s0s (st : St) : List Operand → Option (List S0)
  | [] => some []
  | x :: xs => match st.s0 x, st.s0s xs with
    | some s, some r => some (s :: r)
    | _, _ => none
/-- What is to be shown of numbers that are handed on: that they are in range. -/
def rngL (bd : Bds) : List Lf → List B
  | [] => []
  | .int e :: l => rng bd e ++ rngL bd l
  | _ :: l => rngL bd l
def cellsOf (mem : Mem) (l : List S0) : List Lf := l.flatMap (S0.cellsM mem)
def boxMem (mem : Mem) (args : List S0) (ks : List Lk) (i : Nat) : Mem :=
  match boxOf args with
  | some b => match look mem b with
    | some mb => [(b, some (mb.1, freshL ks i))]
    | none => []
  | none => []
/-- What is known behind a call. -/
def St.called (st : St) (ct : Ct) (args : List S0) : St :=
  { st with nx := st.nx + (kindsOf ct.res ++ boxKinds ct.args).length, nb := st.nb + (freshMem st.nb ct.res st.nx).length, mem := freshMem st.nb ct.res st.nx ++ boxMem st.mem args (boxKinds ct.args) (st.nx + (kindsOf ct.res).length) ++ st.mem, vec := freshV (kindsOf ct.res) st.nx ++ st.vec }
def svOf (l : List S0) : SV :=
  match l with
  | [s] => .one s
  | l => .tup l
def Lk.noArr : Lk → Bool
  | .arr _ => false
  | _ => true
def rowsOf (ks : List Lk) : Nat → List (Nat × S0) → Option (List (List Lf))
  | _, [] => some []
  | i, (j, s) :: l => if Nat.beq i j && decide (kindsL s.cells = some ks) then (rowsOf ks (i + 1) l).map (s.cells :: ·) else none
def St.know (st : St) (d : Option Tmp) (b : B) (t : Bool) : St :=
  { st with bds := learn st.nx st.bds b t, sl := match d with
    | some d => if d < st.nt ∧ d < 1000 then (d, some (.one (.lf (.bool (.lit t))))) :: st.sl else st.sl
    | none => st.sl }
/-! Slices of one's own -/
def Lf.isVec : Lf → Bool
  | .vec _ _ => true
  | _ => false
def Lf.isNil : Lf → Bool
  | .cst (.slice none 0 0) => true
  | _ => false
/-- Where the slice lies, and what it holds. -/
def mkJoin (i : Nat) (r : E) : E :=
  match r with
  | .var j => if j = i then .var i else .join (.var i) r
  | r => .join (.var i) r
/-- A cell as it is asked for: a slice of one's own is lent, the nil slice is one. -/
def Lf.adapt (P : Program) (vec : Vecs) (k : Lk) (l : Lf) : Lf :=
  match k, l with
  | .arr _, .vec te i => match look vec i with
    | some e => if e.1 = te then .arr te (mkJoin i e.2) else .vec te i
    | none => .vec te i
  | .arr te, .cst (.slice none 0 0) => if (kinds P te).isSome then .arr te .nil else .cst (.slice none 0 0)
  | _, l => l
def adaptL (P : Program) (vec : Vecs) : List Lk → List Lf → List Lf
  | k :: ks, l :: ls => l.adapt P vec k :: adaptL P vec ks ls
  | _, ls => ls
def S0.adapt (P : Program) (vec : Vecs) (sh : Sh0) (s : S0) : S0 :=
  match sh, s with
  | .lf k, .lf l => .lf (l.adapt P vec k)
  | .agg ks, .agg ls => .agg (adaptL P vec ks ls)
  | _, s => s
def adapts (P : Program) (vec : Vecs) : List Sh0 → List S0 → List S0
  | sh :: shs, s :: ss => s.adapt P vec sh :: adapts P vec shs ss
  | _, ss => ss
/-- A slice of one's own handed on for good: with what it holds. -/
def Lf.give (P : Program) (vec : Vecs) (k : Lk) (l : Lf) : Lf :=
  match k, l with
  | .vec _, .vec te i => match look vec i with
    | some e => if e.1 = te then .cnt te (mkJoin i e.2) else .vec te i
    | none => .vec te i
  | k, l => l.adapt P vec k
/-- Results that hold no slice of somebody else. -/
def flatK (P : Program) : Lk → Bool
  | .arr _ => false
  | .vec t => match kinds P t with
    | some ks => ks.all Lk.noArr
    | none => false
  | _ => true
def callCt (cx : Cx) (st : St) (o : Oper) (f : Nat) (args0 : List S0) (k : St → Option Tree) : Option Tree :=
  match cx.ct f with
  | some ct => if shapes st.mem (adapts cx.P st.vec ct.args args0) = some ct.args ∧ st.wf = true ∧ boxOk ct = true ∧ (args0.all (fun s => s.cells.all fun l => !l.isVec) = true ∨ (kindsOf ct.res ++ boxKinds ct.args).all (flatK cx.P) = true) then
      ((st.called ct (adapts cx.P st.vec ct.args args0)).put o.dst (some (svOf (freshS st.nb ct.res st.nx)))).bind fun st' =>
        (k st').map fun t => obT (rngL st.bds (cellsOf st.mem (adapts cx.P st.vec ct.args args0))) (.call f (cellsOf st.mem (adapts cx.P st.vec ct.args args0)) t)
    else none
  | none => none
/-- Nil slices become slices of one's own. -/
def ownL : List Lk → List Lf → Nat → List Lf × List TypeId
  | .arr t :: ks, l :: ls, i => if l.isNil then (.vec t i :: (ownL ks ls (i + 1)).1, t :: (ownL ks ls (i + 1)).2) else (l :: (ownL ks ls i).1, (ownL ks ls i).2)
  | _ :: ks, l :: ls, i => (l :: (ownL ks ls i).1, (ownL ks ls i).2)
  | _, ls, _ => (ls, [])
def nilV : List TypeId → Nat → Vecs
  | [], _ => []
  | t :: ts, i => (i, some (t, .var i)) :: nilV ts (i + 1)
def S0.with (s : S0) (l : List Lf) : S0 :=
  match s, l with
  | .lf _, [x] => .lf x
  | _, l => .agg l
def dfnN : Nat → Tree → Tree
  | 0, t => t
  | n + 1, t => .dfn .nil (dfnN n t)
def St.nils (P : Program) (t : TypeId) (s : S0) (st : St) : Option (S0 × St × Nat) :=
  match kinds P t with
  | some ks => if s.cells.any Lf.isNil && Nat.beq ks.length s.cells.length && st.wf && s.wf st.nx st.nb && ks.all Lk.noVec && ((ownL ks s.cells st.nx).2.all fun t => (kinds P t).isSome) then
      some (s.with (ownL ks s.cells st.nx).1, { st with nx := st.nx + (ownL ks s.cells st.nx).2.length, vec := nilV (ownL ks s.cells st.nx).2 st.nx ++ st.vec }, (ownL ks s.cells st.nx).2.length)
    else none
  | none => none
/-- A slice of one's own becomes one that nobody writes any more. -/
def Lf.frz (i n : Nat) (l : Lf) : Lf :=
  match l with
  | .vec te j => if j = i then .arr te (.var n) else .vec te j
  | .velp te sz j x o => if j = i then .elp te sz (.var n) x o else .velp te sz j x o
  | l => l
def S0.frz (i n : Nat) : S0 → S0
  | .lf l => .lf (l.frz i n)
  | .agg l => .agg (l.map (Lf.frz i n))
def SV.frz (i n : Nat) : SV → SV
  | .one s => .one (s.frz i n)
  | .tup l => .tup (l.map (S0.frz i n))
  | .fn f l => .fn f l
/-- Only places of this kind of elements. -/
def frzOk (te : TypeId) (i : Nat) (l : Lf) : Bool :=
  match l with
  | .vec t j => !Nat.beq j i || Nat.beq t te
  | .velp t _ j _ _ => !Nat.beq j i || Nat.beq t te
  | _ => true
def SV.cells : SV → List Lf
  | .one s => s.cells
  | .tup ss => ss.flatMap S0.cells
  | .fn _ l => l
def St.freeze (st : St) (i : Nat) : Option (E × St) :=
  match look st.vec i with
  | some e => if st.wf && (st.sl.all fun p => match p.2 with | some sv => sv.cells.all (frzOk e.1 i) | none => true) && (st.mem.all fun p => match p.2 with | some mb => mb.2.all (frzOk e.1 i) | none => true) then
      some (mkJoin i e.2, { st with nx := st.nx + 1, vec := (i, none) :: st.vec, sl := st.sl.map fun p => (p.1, p.2.map (SV.frz i st.nx)), mem := st.mem.map fun p => (p.1, p.2.map fun mb => (mb.1, mb.2.map (Lf.frz i st.nx))) })
    else none
  | none => none
def freezeAll : List Nat → St → (St → Option Tree) → Option Tree
  | [], st, k => k st
  | i :: l, st, k => match st.freeze i with
    | some (e, st') => (freezeAll l st' k).map (.dfn e)
    | none => freezeAll l st k
def vecsOf (l : List Lf) : List Nat := l.filterMap fun | .vec _ i => some i | _ => none
def s0Cells (st : St) (x : Operand) : List Lf := match st.s0 x with | some s => s.cells | none => []
/-- The slices of one's own that are given away by an operation. -/
def toFreeze (cx : Cx) (st : St) (o : Oper) : List Nat :=
  match o.op with
  | .buildSlice _ _ ps => vecsOf (ps.toList.flatMap fun p => s0Cells st p.2)
  | .store _ a x => match st.lf a with
    | some (.velp ..) => vecsOf (s0Cells st x)
    | _ => []
  | .call c => match c.callee with
    | .value (.func f) => match cx.ct f with
      | some ct => if (kindsOf ct.res ++ boxKinds ct.args).all (flatK cx.P) then [] else vecsOf (c.args.toList.flatMap (s0Cells st))
      | none => []
    | _ => []
  | _ => []
/-- The method of a type, by its name: one of a struct, by value. -/
def methFn (P : Program) (t : TypeId) (name : String) : Option FuncId :=
  match P.info? t with
  | some i => match i.methods.find? (·.name == name) with
    | some m => match m.func, P.underlying t with
      | some (f, false), some (.struct _) => if m.path.isEmpty then some f else none
      | _, _ => none
    | none => none
  | none => none
/-- Blocks that a function carried out in place has made and that nothing names any more are forgotten (where a hint says so): the next block has the number that it had before. -/
def St.trim (nb : Nat) (st : St) : St := { st with mem := st.mem.filter (fun p => Nat.blt p.1 nb), nb := nb }
def trimH (cx : Cx) (st : St) (o : Oper) (st' : St) : St := if (cx.hv (st.path * 100000 + 80000 + o.dst.getD 0)).isEmpty then st' else st'.trim st.nb
/-- A call by its function. -/
def callF (cx : Cx) (st : St) (o : Oper) (f : Nat) (args : List S0) (k : St → Option Tree) : Option Tree :=
  match cx.ct f with
  | some _ => callCt cx st o f args k
  | none => if st.wf && args.all (S0.wf st.nx st.nb) then cx.H f args { st with path := st.path * 1000 + o.dst.getD 0 + 1 } fun l st' => (({ trimH cx st o st' with path := st.path } : St).put o.dst (some (svOf l))).bind k else none
/-- The rows of a slice, of one's own or not. -/
def rowsLf (vec : Vecs) : Lf → Option (TypeId × E)
  | .arr te a => some (te, a)
  | .vec te i => match look vec i with
    | some e => if e.1 = te then some e else none
    | none => none
  | _ => none
/-- What is appended to: its variable (none: the nil slice), what it holds. -/
def appA (te : TypeId) (vec : Vecs) : Lf → Option (Option Nat × E)
  | .vec ta i => match look vec i with
    | some e => if ta = te ∧ e.1 = te then some (some i, e.2) else none
    | none => none
  | l => if l.isNil then some (none, .nil) else none
def appB (te : TypeId) (vec : Vecs) (b : Lf) : Option (TypeId × E) := if b.isNil then some (te, .nil) else rowsLf vec b
def appNe (b : Lf) (i : Option Nat) : Bool :=
  match b, i with
  | .vec _ j, some i => !Nat.beq i j
  | _, _ => true
/-- A slice is compared with nil: is it 'not equal'. -/
def eqNeg : BinOp → Option Bool
  | .eql => some false
  | .neq => some true
  | _ => none
/-- Without this one. -/
def dropV (ci : Option Nat) (v : Vecs) : Vecs := match ci with | some i => (i, none) :: v | none => v
/-- A new block's nil slices become slices of one's own (but where a hint says that they stay nil). -/
def nilsA (cx : Cx) (st : St) (o : Oper) (t : TypeId) (cs : List Lf) : Option (S0 × St × Nat) := if (cx.hv (st.path * 100000 + 70000 + o.dst.getD 0)).isEmpty then st.nils cx.P t (.agg cs) else none
theorem nilsA_some {cx : Cx} {st : St} {o : Oper} {t : TypeId} {cs : List Lf} {r : S0 × St × Nat} (h : nilsA cx st o t cs = some r) : st.nils cx.P t (.agg cs) = some r := by
  unfold nilsA at h
  split at h
  · exact h
  · cases h
def doOp (cx : Cx) (st : St) (o : Oper) (k : St → Option Tree) : Option Tree :=
  match opVal cx.P st o with
  | some (obs, sv) => match sv with
    | .one s => match (st.learnAll obs).nils cx.P o.type s with
      | some (s', st', n) => (st'.put o.dst (some (.one s'))).bind fun st => (k st).map fun t => obT obs (dfnN n t)
      | none => ((st.learnAll obs).put o.dst (some sv)).bind fun st => (k st).map (obT obs)
    | _ => ((st.learnAll obs).put o.dst (some sv)).bind fun st => (k st).map (obT obs)
  | none => match o.op with
    | .binOp op t x y _ => match sliceOf cx.P t, st.lf x, st.lf y, eqNeg op with
      | some te, some (.arr ta a), some l, some neg => if ta = te ∧ l.isNil = true then
          match (st.put o.dst (some (.one (.lf (.bool (.lit (!neg))))))).bind k, (st.put o.dst (some (.one (.lf (.bool (.lit neg)))))).bind k with
          | some t1, some t0 => some (.both (.split (.cmp .eq (.len a) (.lit 0)) t1 t0) t0)
          | _, _ => none
        else none
      | _, _, _, _ => none
    | .alloc t => match zeroLf cx.P t with
      | some cs => match nilsA cx st o t cs with
        | some (s', st1, n) => (st1.fresh t s'.cells).bind fun st' => (st'.put o.dst (some (.one (.lf (.ptr st.nb 0))))).bind fun st => (k st).map (dfnN n)
        | none => (st.fresh t cs).bind fun st' => (st'.put o.dst (some (.one (.lf (.ptr st.nb 0))))).bind k
      | none => none
    | .box t x => match st.s0 x with
      | some s => (st.fresh t s.cells).bind fun st' => (st'.put o.dst (some (.one (.lf (.ptr st.nb 0))))).bind k
      | none => none
    | .store t a x => match st.lf a, st.s0 x with
      | some (.ptr b off), some s => match look st.mem b, sizeIs cx.P t with
        | some mb, some n => if s.cells.length = n ∧ off + n ≤ mb.2.length ∧ s.cells.all Lf.flat = true then
            match st.nils cx.P t s with
            | some (s', st1, m) => (({ st1 with mem := (b, some (mb.1, mb.2.take off ++ s'.cells ++ mb.2.drop (off + n))) :: st1.mem } : St).put o.dst none).bind fun st' => (k st').map (dfnN m)
            | none => (({ st with mem := (b, some (mb.1, mb.2.take off ++ s.cells ++ mb.2.drop (off + n))) :: st.mem } : St).put o.dst none).bind k
          else none
        | _, _ => none
      | some (.velp te sz i e off), some s => match look st.vec i, kinds cx.P te, sizeIs cx.P t with
        | some ve, some ks, some n => if ve.1 = te ∧ ks.length = sz ∧ s.cells.length = n ∧ off + n ≤ ks.length ∧ kindsL (adaptL cx.P [] ((ks.drop off).take n) s.cells) = some ((ks.drop off).take n) ∧ st.wf = true ∧ ks.all Lk.row = true then
            (({ st with nx := st.nx + 1, vec := (i, some (te, .var st.nx)) :: st.vec } : St).put o.dst none).bind fun st' =>
              (k st').map fun t => obT (rngL st.bds (adaptL cx.P [] ((ks.drop off).take n) s.cells)) (.upd ve.2 e off (adaptL cx.P [] ((ks.drop off).take n) s.cells) t)
          else none
        | _, _, _ => none
      | _, _ => none
    | .buildSlice t len ps => match sliceOf cx.P t with
      | some te => match kinds cx.P te, zeroLf cx.P te, parts? st ps.toList with
        | some ks, some z, some r => match rowsOf ks 0 r with
          | some rows => if st.wf && ks.all Lk.row && Nat.beq rows.length len && Nat.ble (len * ks.length) 16777216 && Nat.beq z.length ks.length then
              (({ st with nx := st.nx + 1, vec := (st.nx, some (te, .var st.nx)) :: st.vec } : St).put o.dst (some (.one (.lf (.vec te st.nx))))).bind fun st' =>
                (k st').map fun t => obT (rngL st.bds rows.flatten) (.arr rows t)
            else none
          | none => none
        | _, _, _ => none
      | none => none
    | .makeSlice t n m => match sliceOf cx.P t, st.lf n, st.lf m with
      | some te, some (.int e), some (.int e') => match kinds cx.P te, zeroLf cx.P te, cx.P.info? te with
        | some ks, some z, some it => if e = e' ∧ kindsL (adaptL cx.P [] ks z) = some ks ∧ st.wf = true ∧ ks.all Lk.row = true ∧ rngL st.bds (adaptL cx.P [] ks z) = [] then
            (({ st with nx := st.nx + 1, vec := (st.nx, some (te, .var st.nx)) :: st.vec } : St).put o.dst (some (.one (.lf (.vec te st.nx))))).bind fun st' =>
              (k st').map fun t => obT (need (B.mkCmp st.bds .le (.lit 0) e) ++ need (B.mkCmp st.bds .le (.mul (.lit it.bytes) e) (.lit 281474976710656)) ++ need (B.mkCmp st.bds .le e (.lit 9223372036854775807))) (.mk e (adaptL cx.P [] ks z) t)
          else none
        | _, _, _ => none
      | _, _, _ => none
    | .makeFunc (.func f) first captured => match st.s0s first.toList, st.s0s captured.toList with
      | some fs, some cs => if st.wf && fs.all (S0.wf st.nx st.nb) && cs.all (S0.wf st.nx st.nb) && cs.all (fun s => Nat.beq s.cells.length 1 && match s with | .lf _ => true | _ => false) then
          (({ st with nx := st.nx + 1, clo := (st.nx, some (f, fs, cs.flatMap S0.cells)) :: st.clo } : St).put o.dst (some (.one (.lf (.clo st.nx))))).bind fun st' => (k st').map (.arr [])
        else none
      | _, _ => none
    | .slice t x none (some y) none => match sliceOf cx.P t, st.lf x, st.lf y with
      | some te, some (.vec tv i), some (.int e) => match look st.vec i, kinds cx.P te with
        | some ve, some _ => if tv = te ∧ ve.1 = te ∧ st.wf = true then
            (({ st with nx := st.nx + 1, vec := (st.nx, some (te, .var st.nx)) :: dropV (some i) st.vec } : St).put o.dst (some (.one (.lf (.vec te st.nx))))).bind fun st' =>
              (k st').map fun t => obT (need (B.mkCmp st.bds .le (.lit 0) e) ++ need (B.mkCmp st.bds .le e (.len ve.2))) (.cat (.sub3 ve.2 (.lit 0) e 0) .nil t)
          else none
        | _, _ => none
      | _, _, _ => none
    | .call c => match c.callee, st.s0s c.args.toList with
      | .builtin .append, some [.lf a, .lf b] => match c.argTypes.toList with
        | [t, t'] => match sliceOf cx.P t with
          | some te => match kinds cx.P te, zeroLf cx.P te, cx.P.info? te with
            | some ks, some z, some it => if t = t' ∧ st.wf = true ∧ Nat.ble 1 it.bytes = true ∧ z.length = ks.length then
                match appA te st.vec a, appB te st.vec b with
                | some (i, ea), some (tb, eb) => if tb = te ∧ appNe b i = true then
                    (({ st with nx := st.nx + 1, vec := (st.nx, some (te, .var st.nx)) :: dropV i st.vec } : St).put o.dst (some (.one (.lf (.vec te st.nx))))).bind fun st' =>
                      (k st').map fun t => obT (need (B.mkCmp st.bds .le (.mul (.add (.len ea) (.len eb)) (.lit it.bytes)) (.lit 140737488355328))) (.cat ea eb t)
                  else none
                | _, _ => none
              else none
            | _, _, _ => none
          | none => none
        | _ => none
      | .value (.func f), some args => match cx.sel f with
        | some g => match g st.bds args with
          | some (obs, b, s1, s2) => match (((st.learnAll obs).know none b true).put o.dst (some s1)).bind k, (((st.learnAll obs).know none b false).put o.dst (some s2)).bind k with
            | some t, some e => some (obT obs (.split b t e))
            | _, _ => none
          | none => none
        | none => match cx.inl f with
          | some g => match g st.bds args with
            | some (obs, s) => ((st.learnAll obs).put o.dst (some (.one s))).bind fun st => (k st).map (obT obs)
            | none => none
          | none => callF cx st o f args k
      | .value (.tmp x), some args => match st.ev (.tmp x) with
        | some (.fn f ls) => callF cx st o f (.agg ls :: args) k
        | some (.one (.lf (.clo i))) => match look st.clo i with
          | some (f, fs, cs) => callF cx st o f (fs ++ args ++ cs.map .lf) k
          | none => none
        | some (.one (.lf (.cst v))) => match v with
          | .func (.func f) x y => if x.isEmpty && y.isEmpty then callF cx st o f args k else none
          | _ => none
        | _ => none
      | .invoke recv name, some [] => match st.lf recv with
        | some (.cst (.iface t (.agg cs))) => match methFn cx.P t name with
          | some f => if cs.isEmpty then callF cx st o f [.agg []] k else none
          | none => none
        | _ => none
      | _, _ => none
    | _ => none
/-- Where nothing is known to do the tree says so. -/
def orF (x : Option Tree) (n : Nat) (l : List Nat) : Option Tree := match x with | some t => some t | none => some (.fail n l)
def doOpF (cx : Cx) (st : St) (o : Oper) (k : St → Option Tree) : Option Tree := freezeAll (toFreeze cx st o) st fun st => doOp cx st o k
/-- An operation that is not carried out: its slot holds nothing; said where a guard reads it. -/
def skV : SV := .one (.lf (.cst undef))
def guards (ops : Array Oper) (d : Tmp) : Bool := ops.toList.any fun p => match p.guard with
  | some (j, _) => match (ops[j]?).bind (·.dst) with
    | some e => Nat.beq e d
    | none => false
  | none => false
def St.skip (st : St) (ops : Array Oper) (o : Oper) : Option St :=
  match o.dst with
  | none => st.put o.dst none
  | some d => if guards ops d then st.put o.dst (some skV) else st.put o.dst none
def isB : Value → Bool
  | .bool _ => true
  | _ => false
/-- The rest of a slice of one's own, taken and cleared. -/
def clearT (cx : Cx) (st : St) (o : Oper) (rest : List Oper) (k : St → Option Tree) : Option Tree :=
  match o.op, o.guard, o.dst, rest with
  | .slice t x (some y) none none, none, some d, [o2] => match o2.op, o2.guard, o2.dst with
    | .call c, none, none => match c.callee, c.args.toList, c.argTypes.toList with
      | .builtin .clear, [.tmp d'], [t'] => match sliceOf cx.P t, st.lf x, st.lf y with
        | some te, some (.vec tv i), some (.int e) => match look st.vec i, kinds cx.P te, zeroLf cx.P te with
          | some ve, some ks, some z => if d' = d ∧ t' = t ∧ tv = te ∧ ve.1 = te ∧ st.wf = true ∧ ks.all Lk.row = true ∧ kindsL (adaptL cx.P [] ks z) = some ks ∧ rngL st.bds (adaptL cx.P [] ks z) = [] ∧ e.wf st.nx = true then
              (({ st with nx := st.nx + 1 + 1, vec := (i, some (te, .var (st.nx + 1))) :: st.vec } : St).put (some d) none).bind fun st' => (k st').map fun t => obT (need (B.mkCmp st.bds .le (.lit 0) e) ++ need (B.mkCmp st.bds .le e (.len ve.2))) (.mk (.sub (.len ve.2) e) (adaptL cx.P [] ks z) (.cat (.sub3 ve.2 (.lit 0) e 0) (.var st.nx) t))
            else none
          | _, _, _ => none
        | _, _, _ => none
      | _, _, _ => none
    | _, _, _ => none
  | _, _, _, _ => none
def execOps (cx : Cx) (ops : Array Oper) : List Oper → St → (St → Option Tree) → Option Tree
  | [], st, k => k st
  | o :: rest, st, k => match clearT cx st o rest k with
   | some t => some t
   | none => match o.guard with
    | none => orF (doOpF cx st o fun st => execOps cx ops rest st k) (o.dst.getD 0) [st.path]
    | some (j, want) => match (ops[j]?).bind (·.dst) with
      | none => none
      | some d => match st.lf (.tmp d) with
        | some (.bool (.lit v)) => if v = want then orF (doOpF cx st o fun st => execOps cx ops rest st k) (o.dst.getD 0) [st.path] else (st.skip ops o).bind fun st => execOps cx ops rest st k
        | some (.bool b) => match doOpF cx (st.know (some d) b want) o fun st => execOps cx ops rest st k, ((st.know (some d) b !want).skip ops o).bind fun st => execOps cx ops rest st k with
          | some t, some e => some (if want then .split b t e else .split b e t)
          | _, _ => none
        | some (.cst v) => if isB v then none else (st.skip ops o).bind fun st => execOps cx ops rest st k
        | _ => none
inductive Ex where
  | nrm
  | ext (id : Nat)
  | ret
/-- The number of the first region, by which a loop is known. -/
def firstReg : Code → Option Nat
  | .region id _ _ => some id
  | .seq a b => match firstReg a with
    | some i => some i
    | none => firstReg b
  | .cond _ a b => match firstReg a with
    | some i => some i
    | none => firstReg b
  | .block _ c | .loop c | .scope c => firstReg c
  | _ => none
end Go.Proofs.Ytbgofenplhdllaa
/- The engine, part 9: what a state says of a frame and a world; writes, calls. -/
namespace Go.Proofs.Ytbgofenplhdllaa
open Go.RowKit
set_option linter.unusedSimpArgs false
set_option linter.unusedVariables false

theorem Keeps.refl (F : Nat → Prop) (w : World) : Keeps F w w := ⟨rfl, rfl, rfl, Nat.le_refl _, fun _ _ => rfl⟩
theorem Keeps.trans {F : Nat → Prop} {a b c : World} (h : Keeps F a b) (k : Keeps F b c) : Keeps F a c :=
  ⟨k.os.trans h.os, k.tape.trans h.tape, k.output.trans h.output, Nat.le_trans h.size k.size, fun i hi => (k.block i hi).trans (h.block i hi)⟩
theorem Keeps.of_below {F : Nat → Prop} {w w' : World} {B : Nat} (h : Below B w w') (hF : ∀ i, F i → i < B) : Keeps F w w' := ⟨h.os, h.tape, h.output, h.size, fun i hi => h.block i (hF i hi)⟩
theorem Keeps.below {w w' : World} {B : Nat} (h : Keeps (fun i => i < B) w w') : Below B w w' := ⟨h.os, h.tape, h.output, h.size, h.block⟩
theorem below_alloc (w : World) (o : Obj) : Below w.heap.size w (w.alloc o) := (Below.refl _ _).alloc (Nat.le_refl _) o

/-- A slot's value: of this frame, or of those above. -/
def slotV (Γ : Env) (a : Act) (t : Nat) : Value := if t < 1000 then a.tmps.getD t undef else Γ.up.sl (t - 1000)
/-- Who owns a block: a known block, a slice of one's own. -/
def Hold (Γ : Env) (st : St) (s : Bool) (j b : Nat) : Prop :=
  match s with
  | true => ∃ mb, look st.mem j = some mb ∧ Γ.blk j = b
  | false => ∃ e, look st.vec j = some e ∧ (at_ Γ.ρ j).loc.ownBlock = some b
theorem Hold.mem {Γ : Env} {st : St} {j : Nat} {mb : TypeId × List Lf} (h : look st.mem j = some mb) : Hold Γ st true j (Γ.blk j) := ⟨mb, h, rfl⟩
theorem Hold.vec {Γ : Env} {st : St} {i : Nat} {e : TypeId × E} {b : Nat} (h : look st.vec i = some e) (hb : (at_ Γ.ρ i).loc.ownBlock = some b) : Hold Γ st false i b := ⟨e, h, hb⟩
theorem Hold.inv {Γ : Env} {st : St} {s : Bool} {j b : Nat} (h : Hold Γ st s j b) : (s = true ∧ ∃ mb, look st.mem j = some mb ∧ Γ.blk j = b) ∨ (s = false ∧ ∃ e, look st.vec j = some e ∧ (at_ Γ.ρ j).loc.ownBlock = some b) := by
  cases s with
  | true => exact .inl ⟨rfl, h⟩
  | false => exact .inr ⟨rfl, h⟩
theorem Own.iff {Γ : Env} {st : St} {b o : Nat} : Own Γ st b o ↔ Γ.base b o ∨ ∃ s j, Hold Γ st s j b := by
  constructor
  · rintro (h | ⟨j, mb, h, rfl⟩ | ⟨i, e, h, hb⟩)
    · exact .inl h
    · exact .inr ⟨_, _, .mem h⟩
    · exact .inr ⟨_, _, .vec h hb⟩
  · rintro (h | ⟨s, j, h⟩)
    · exact .inl h
    · rcases h.inv with ⟨rfl, mb, h', rfl⟩ | ⟨rfl, e, h', hb⟩
      · exact .inr (.inl ⟨_, _, h', rfl⟩)
      · exact .inr (.inr ⟨_, _, h', hb⟩)
structure Sat (P : Program) (F : Nat → Prop) (w0 : World) (Γ : Env) (st : St) (a : Act) (w : World) : Prop where
  slots : ∀ t sv, look st.sl t = some sv → slotV Γ a t = sv.den Γ ∧ sv.ok P w (Own Γ st) Γ
  size : a.tmps.size = st.nt
  mem : ∀ b mb, look st.mem b = some mb → Blk w (Γ.blk b) mb.1 (dens Γ mb.2) ∧ (∀ l ∈ mb.2, l.ok P w (Own Γ st) Γ) ∧ ¬ F (Γ.blk b) ∧ b < st.nb
  vec : ∀ i e, look st.vec i = some e → VecOK P w (Own Γ st) e.1 (at_ Γ.ρ i).loc (e.2.ev Γ.ρ) ∧ i < st.nx ∧ ∀ b, (at_ Γ.ρ i).loc.ownBlock = some b → ¬ F b ∧ ∀ o, ¬ Γ.base b o
  clo : ∀ i e, look st.clo i = some e → (at_ Γ.ρ i).loc = .func (.func e.1) (e.2.1.map (S0.den Γ)).toArray (e.2.2.map (Lf.den Γ)).toArray ∧ (∀ s ∈ e.2.1, s.ok P w (Own Γ st) Γ) ∧ ∀ l ∈ e.2.2, l.ok P w (Own Γ st) Γ
  inj : ∀ s j s' j' b, Hold Γ st s j b → Hold Γ st s' j' b → s = s' ∧ j = j'
  keeps : Keeps F w0 w
  fold : ∀ i, F i → i < w0.heap.size
  base : ∀ b o, Γ.base b o → b < w.heap.size
  defers : a.defers = Γ.up.ds
  len : Γ.ρ.length = st.nx
  nb : Γ.nb = st.nb
  num : Num st.bds Γ.ρ

section
variable {P : Program} {F : Nat → Prop} {w0 : World} {Γ : Env} {st : St} {a : Act} {w : World}
theorem Sat.view (h : Sat P F w0 Γ st a w) (xs : Array Operand) : View P Γ st xs a.eval w where
  slots x _ sv hx := by
    cases x with
    | tmp t =>
      have := h.slots t sv (by
        simp only [St.ev] at hx
        split at hx
        · exact hx
        · cases hx)
      refine ⟨?_, this.2⟩
      rw [← this.1]
      simp only [St.ev] at hx
      split at hx
      · rename_i hlt; unfold slotV; rw [if_pos hlt]; rfl
      · cases hx
    | const v =>
      simp only [St.ev, Option.some.injEq] at hx
      subst hx
      refine ⟨(S0.den_ofValue Γ v).symm, fun l hl => ?_⟩
      unfold S0.ofValue at hl
      split at hl
      · simp only [S0.cells, List.mem_map] at hl
        obtain ⟨v, -, rfl⟩ := hl
        unfold Lf.ofValue
        split <;> trivial
      · simp only [S0.cells, List.mem_singleton] at hl
        subst hl
        unfold Lf.ofValue
        split <;> trivial
    | global g => simp only [St.ev, Option.some.injEq] at hx; subst hx; exact ⟨rfl, one_ok trivial⟩
    | func f => simp only [St.ev, Option.some.injEq] at hx; subst hx; exact ⟨rfl, one_ok trivial⟩
  mem b mb hb := ⟨(h.mem b mb hb).1, (h.mem b mb hb).2.1⟩
  vec i e hi := (h.vec i e hi).1
  clo := h.clo
  num := h.num
theorem Sat.own_lt (h : Sat P F w0 Γ st a w) : ∀ b o, Own Γ st b o → b < w.heap.size := by
  rintro b o (hb | ⟨j, mb, hj, rfl⟩ | ⟨i, e, hi, hb⟩)
  · exact h.base b o hb
  · exact (h.mem j mb hj).1.lt
  · exact (h.vec i e hi).1.lt hb
theorem Hold.own {s : Bool} {j b : Nat} (h : Hold Γ st s j b) (o : Nat) : Own Γ st b o := Own.iff.2 (.inr ⟨s, j, h⟩)
theorem Sat.hold_lt (h : Sat P F w0 Γ st a w) {s : Bool} {j b : Nat} (hh : Hold Γ st s j b) : b < w.heap.size := h.own_lt b 0 (hh.own 0)
/-- What a holder holds, if it is the same holder in another state. -/
theorem Hold.congr {Γ Γ' : Env} {st st' : St} (hm : ∀ j mb, look st'.mem j = some mb → (∃ mb', look st.mem j = some mb') ∧ Γ'.blk j = Γ.blk j) (hv : ∀ i e, look st'.vec i = some e → (∃ e', look st.vec i = some e') ∧ at_ Γ'.ρ i = at_ Γ.ρ i)
    {s : Bool} {j b : Nat} (h : Hold Γ' st' s j b) : Hold Γ st s j b := by
  rcases h.inv with ⟨rfl, mb, h', rfl⟩ | ⟨rfl, e, h', hb⟩
  · obtain ⟨⟨mb, h1⟩, h2⟩ := hm _ _ h'; rw [h2]; exact .mem h1
  · obtain ⟨⟨e, h1⟩, h2⟩ := hv _ _ h'; rw [h2] at hb; exact .vec h1 hb
theorem getD_set {tmps : Array Value} {d t : Nat} {v : Value} (hd : d < tmps.size) : (tmps.setIfInBounds d v).getD t undef = if d = t then v else tmps.getD t undef := by
  simp only [Array.getD_eq_getD_getElem?, Array.getElem?_setIfInBounds]
  split
  · rename_i e; subst e; simp [hd]
  · rfl
theorem Act.put_tmps (a : Act) (d : Nat) (v : Value) : (a.put (some d) v).tmps = a.tmps.setIfInBounds d v := rfl
theorem slotV_put {Γ : Env} {a : Act} {d t : Nat} {v : Value} (hd : d < a.tmps.size) (hd' : d < 1000) : slotV Γ (a.put (some d) v) t = if d = t then v else slotV Γ a t := by
  unfold slotV
  rw [Act.put_tmps, getD_set hd]
  by_cases h : d = t
  · subst h; simp [hd']
  · simp [h]
/-- Only slots and what is known of numbers change. -/
theorem Sat.slots' (h : Sat P F w0 Γ st a w) {sl : List (Nat × Option SV)} {a' : Act} {bds : Bds} (hs : ∀ t sv, look sl t = some sv → slotV Γ a' t = sv.den Γ ∧ sv.ok P w (Own Γ st) Γ) (hz : a'.tmps.size = st.nt) (hd : a'.defers = Γ.up.ds) (hn : Num bds Γ.ρ) :
    Sat P F w0 Γ { st with sl := sl, bds := bds } a' w := ⟨hs, hz, h.mem, h.vec, h.clo, h.inj, h.keeps, h.fold, h.base, hd, h.len, h.nb, hn⟩
theorem Sat.put (h : Sat P F w0 Γ st a w) {dst : Option Tmp} {sv : SV} {st' : St} (hp : st.put dst (some sv) = some st') (hok : sv.ok P w (Own Γ st) Γ) : Sat P F w0 Γ st' (a.put dst (sv.den Γ)) w := by
  cases dst with
  | none => simp only [St.put, Option.some.injEq] at hp; subst hp; exact h
  | some d =>
    simp only [St.put] at hp
    split at hp
    · rename_i hd
      cases hp
      refine h.slots' (fun t s hs => ?_) (by simp [Act.put, h.size]) h.defers h.num
      rw [slotV_put (by rw [h.size]; exact hd.1) hd.2]
      simp only [look] at hs
      split at hs
      · rename_i e; cases hs; rw [if_pos e]; exact ⟨rfl, hok⟩
      · rename_i e; rw [if_neg e]; exact h.slots t s hs
    · cases hp
theorem Sat.drop (h : Sat P F w0 Γ st a w) {dst : Option Tmp} {st' : St} (hp : st.put dst none = some st') (v : Value) : Sat P F w0 Γ st' (a.put dst v) w := by
  cases dst with
  | none => simp only [St.put, Option.some.injEq] at hp; subst hp; exact h
  | some d =>
    simp only [St.put] at hp
    split at hp
    · rename_i hd
      cases hp
      refine h.slots' (fun t s hs => ?_) (by simp [Act.put, h.size]) h.defers h.num
      rw [slotV_put (by rw [h.size]; exact hd.1) hd.2]
      simp only [look] at hs
      split at hs
      · cases hs
      · rename_i e; rw [if_neg e]; exact h.slots t s hs
    · cases hp
theorem St.put_same {dst : Option Tmp} {sv : Option SV} {st' : St} (hp : st.put dst sv = some st') : st'.lvl = st.lvl ∧ st'.mem = st.mem ∧ st'.nb = st.nb ∧ st'.vec = st.vec ∧ st'.clo = st.clo ∧ st'.nx = st.nx ∧ st'.nt = st.nt ∧ st'.path = st.path := by
  cases dst with
  | none => simp only [St.put, Option.some.injEq] at hp; subst hp; exact ⟨rfl, rfl, rfl, rfl, rfl, rfl, rfl, rfl⟩
  | some d => simp only [St.put] at hp; split at hp <;> cases hp; exact ⟨rfl, rfl, rfl, rfl, rfl, rfl, rfl, rfl⟩
theorem St.put_lvl {dst : Option Tmp} {sv : Option SV} {st' : St} (hp : st.put dst sv = some st') : st'.lvl = st.lvl := (St.put_same hp).1
theorem St.put_mem {dst : Option Tmp} {sv : Option SV} {st' : St} (hp : st.put dst sv = some st') : st'.mem = st.mem := (St.put_same hp).2.1
theorem St.put_nb {dst : Option Tmp} {sv : Option SV} {st' : St} (hp : st.put dst sv = some st') : st'.nb = st.nb := (St.put_same hp).2.2.1
theorem learnAll_num : ∀ (l : List B) (bd : Bds) (n : Nat), n ≤ Γ.ρ.length → Num bd Γ.ρ → Obs Γ.ρ l → Num (l.foldl (fun bd b => learn n bd b true) bd) Γ.ρ
  | [], _, _, _, h, _ => h
  | b :: l, bd, n, hn, h, ho => learnAll_num l _ n hn ⟨learn_ok h.len hn b bd true h.bds (ho b (by simp)), h.len⟩ fun x hx => ho x (by simp [hx])
theorem Sat.learn (h : Sat P F w0 Γ st a w) {l : List B} (ho : Obs Γ.ρ l) : Sat P F w0 Γ (st.learnAll l) a w :=
  h.slots' h.slots h.size h.defers (learnAll_num l _ _ (by rw [h.len]; exact Nat.le_refl _) h.num ho)
theorem Sat.repath (h : Sat P F w0 Γ st a w) (p : Nat) : Sat P F w0 Γ { st with path := p } a w :=
  ⟨h.slots, h.size, h.mem, h.vec, h.clo, h.inj, h.keeps, h.fold, h.base, h.defers, h.len, h.nb, h.num⟩
theorem Sat.relvl (h : Sat P F w0 Γ st a w) (n : Nat) : Sat P F w0 Γ { st with lvl := n } a w :=
  ⟨h.slots, h.size, h.mem, h.vec, h.clo, h.inj, h.keeps, h.fold, h.base, h.defers, h.len, h.nb, h.num⟩

/-! Γ grows -/
theorem look_wf {α : Type} {f : Nat → Option α → Bool} : ∀ {l : List (Nat × Option α)} {t : Nat} {v : α}, l.all (fun p => f p.1 p.2) = true → look l t = some v → f t (some v) = true
  | [], _, _, _, h => by cases h
  | (k, u) :: l, t, v, ha, h => by
    simp only [List.all_cons, Bool.and_eq_true] at ha
    simp only [look] at h
    split at h
    · rename_i e; subst e; subst h; exact ha.1
    · exact look_wf ha.2 h
theorem Sat.wf_slot (h : Sat P F w0 Γ st a w) (hw : st.wf = true) {t : Nat} {sv : SV} (hs : look st.sl t = some sv) : sv.wf Γ.ρ.length Γ.nb = true := by
  simp only [St.wf, Bool.and_eq_true] at hw
  rw [h.len, h.nb]
  exact look_wf (f := fun _ => wfS st.nx st.nb) hw.1.1.1 hs
theorem Sat.wf_mem (h : Sat P F w0 Γ st a w) (hw : st.wf = true) {b : Nat} {mb : TypeId × List Lf} (hs : look st.mem b = some mb) : mb.2.all (Lf.wf Γ.ρ.length Γ.nb) = true := by
  simp only [St.wf, Bool.and_eq_true] at hw
  rw [h.len, h.nb]
  exact look_wf (f := fun _ => wfM st.nx st.nb) hw.1.1.2 hs
theorem Sat.wf_vec (h : Sat P F w0 Γ st a w) (hw : st.wf = true) {i : Nat} {e : TypeId × E} (hs : look st.vec i = some e) : e.2.wf Γ.ρ.length = true := by
  simp only [St.wf, Bool.and_eq_true] at hw
  rw [h.len]
  have := look_wf (f := wfV st.nx) hw.1.2 hs
  simp only [wfV, Bool.and_eq_true] at this
  exact this.2
theorem Sat.wf_clo (h : Sat P F w0 Γ st a w) (hw : st.wf = true) {i : Nat} {e : Nat × List S0 × List Lf} (hs : look st.clo i = some e) : i < Γ.ρ.length ∧ e.2.1.all (S0.wf Γ.ρ.length Γ.nb) = true ∧ e.2.2.all (Lf.wf Γ.ρ.length Γ.nb) = true := by
  simp only [St.wf, Bool.and_eq_true] at hw
  rw [h.len, h.nb]
  have := look_wf (f := wfC st.nx st.nb) hw.2 hs
  simp only [wfC, Bool.and_eq_true, Nat.blt_eq] at this
  exact ⟨this.1.1, this.1.2, this.2⟩
theorem S0.ok_keep {P : Program} {w w' : World} {Own Own' : Nat → Nat → Prop} {Γ : Env} {s : S0} (h : s.ok P w Own Γ) (hs : w.heap.size ≤ w'.heap.size)
    (hh : ∀ b o, b < w.heap.size → ¬ Own b o → w'.cell? ⟨b, o, none⟩ = w.cell? ⟨b, o, none⟩ ∧ ¬ Own' b o) : s.ok P w' Own' Γ := fun l hl => Lf.ok_keep (h l hl) hs hh
theorem S0.ok_ext {P : Program} {w : World} {Own : Nat → Nat → Prop} {Γ Γ' : Env} (he : Ext Γ Γ') {s : S0} (hw : s.wf Γ.ρ.length Γ.nb = true) (h : s.ok P w Own Γ) : s.ok P w Own Γ' :=
  SV.ok_ext he (l := .one s) hw h
/-- All that is known stays, in a world where nothing was turned but what is one's own. -/
structure Turn (w w' : World) (O O' : Nat → Nat → Prop) : Prop where
  size : w.heap.size ≤ w'.heap.size
  keep : ∀ b o, b < w.heap.size → ¬ O b o → w'.cell? ⟨b, o, none⟩ = w.cell? ⟨b, o, none⟩ ∧ ¬ O' b o
theorem Sat.slots_keep (h : Sat P F w0 Γ st a w) {w' : World} {O' : Nat → Nat → Prop} (ht : Turn w w' (Own Γ st) O') : ∀ t sv, look st.sl t = some sv → slotV Γ a t = sv.den Γ ∧ sv.ok P w' O' Γ :=
  fun t sv hs => ⟨(h.slots t sv hs).1, SV.ok_keep (h.slots t sv hs).2 ht.size ht.keep⟩
theorem Sat.clo_keep (h : Sat P F w0 Γ st a w) {w' : World} {O' : Nat → Nat → Prop} (ht : Turn w w' (Own Γ st) O') : ∀ i e, look st.clo i = some e → (at_ Γ.ρ i).loc = .func (.func e.1) (e.2.1.map (S0.den Γ)).toArray (e.2.2.map (Lf.den Γ)).toArray ∧ (∀ s ∈ e.2.1, s.ok P w' O' Γ) ∧ ∀ l ∈ e.2.2, l.ok P w' O' Γ :=
  fun i e hi => ⟨(h.clo i e hi).1, fun s hs => S0.ok_keep ((h.clo i e hi).2.1 s hs) ht.size ht.keep, fun l hl => Lf.ok_keep ((h.clo i e hi).2.2 l hl) ht.size ht.keep⟩
theorem Sat.slots_ext (h : Sat P F w0 Γ st a w) (hw : st.wf = true) {Γ' : Env} (he : Ext Γ Γ') {w' : World} {O' : Nat → Nat → Prop} (ht : Turn w w' (Own Γ st) O') : ∀ t sv, look st.sl t = some sv → slotV Γ' a t = sv.den Γ' ∧ sv.ok P w' O' Γ' := fun t sv hs => by
  have hwf := h.wf_slot hw hs
  obtain ⟨h1, h2⟩ := h.slots_keep ht t sv hs
  refine ⟨?_, SV.ok_ext he hwf h2⟩
  rw [SV.den_ext he sv hwf, ← h1]
  unfold slotV; rw [he.up]
theorem Sat.clo_ext (h : Sat P F w0 Γ st a w) (hw : st.wf = true) {Γ' : Env} (he : Ext Γ Γ') {w' : World} {O' : Nat → Nat → Prop} (ht : Turn w w' (Own Γ st) O') : ∀ i e, look st.clo i = some e → (at_ Γ'.ρ i).loc = .func (.func e.1) (e.2.1.map (S0.den Γ')).toArray (e.2.2.map (Lf.den Γ')).toArray ∧ (∀ s ∈ e.2.1, s.ok P w' O' Γ') ∧ ∀ l ∈ e.2.2, l.ok P w' O' Γ' := fun i e hi => by
  obtain ⟨k1, k2, k3⟩ := h.wf_clo hw hi
  obtain ⟨h1, h2, h3⟩ := h.clo_keep ht i e hi
  obtain ⟨m, hm⟩ := he.ρ
  refine ⟨?_, fun s hs => S0.ok_ext he (List.all_eq_true.1 k2 s hs) (h2 s hs), fun l hl => Lf.ok_ext he (List.all_eq_true.1 k3 l hl) (h3 l hl)⟩
  rw [hm, at_ext k1, h1, List.map_congr_left fun s hs => S0.den_ext he s (List.all_eq_true.1 k2 s hs), List.map_congr_left fun l hl => Lf.den_ext he l (List.all_eq_true.1 k3 l hl)]
theorem Sat.vec_at (h : Sat P F w0 Γ st a w) {Γ' : Env} (he : Ext Γ Γ') {i : Nat} {e : TypeId × E} (hi : look st.vec i = some e) : at_ Γ'.ρ i = at_ Γ.ρ i := by
  obtain ⟨m, hm⟩ := he.ρ
  rw [hm, at_ext (by rw [h.len]; exact (h.vec i e hi).2.1)]
theorem Sat.vec_ext (h : Sat P F w0 Γ st a w) (hw : st.wf = true) {Γ' : Env} (he : Ext Γ Γ') {w' : World} {O' : Nat → Nat → Prop} (ht : Turn w w' (Own Γ st) O') {i : Nat} {e : TypeId × E} (hi : look st.vec i = some e) (hb : ∀ b, (at_ Γ.ρ i).loc.ownBlock = some b → w'.heap[b]? = w.heap[b]?) :
    VecOK P w' O' e.1 (at_ Γ'.ρ i).loc (e.2.ev Γ'.ρ) := by
  rw [h.vec_at he hi]
  obtain ⟨m, hm⟩ := he.ρ
  rw [hm, E.ev_ext _ (h.wf_vec hw hi)]
  exact (h.vec i e hi).1.keep ht.size ht.keep hb

theorem Sat.fresh (h : Sat P F w0 Γ st a w) {t : TypeId} {cs : List Lf} {st' : St} (hf : st.fresh t cs = some st') (hok : ∀ l ∈ cs, l.ok P w (Own Γ st) Γ) :
    ∃ Γ', Ext Γ Γ' ∧ Γ'.ρ = Γ.ρ ∧ Γ'.blk st.nb = w.heap.size ∧ Sat P F w0 Γ' st' a (w.alloc (.cells (dens Γ cs) t)) ∧ st'.lvl = st.lvl := by
  unfold St.fresh at hf
  split at hf
  · rename_i hc
    simp only [Bool.and_eq_true] at hc
    obtain ⟨⟨hw, hcw⟩, hfl⟩ := hc
    cases hf
    let Γ' : Env := { Γ with blk := fun b => if b = st.nb then w.heap.size else Γ.blk b, nb := st.nb + 1 }
    have he : Ext Γ Γ' := ⟨⟨[], by simp [Γ']⟩, fun b hb => by simp [Γ']; intro e; rw [h.nb] at hb; omega, by simp [Γ', h.nb], rfl, rfl⟩
    have hbel := below_alloc w (.cells (dens Γ cs) t)
    have hs' : w.heap.size ≤ (w.alloc (.cells (dens Γ cs) t)).heap.size := hbel.size
    have hblk : ∀ j mb, look st.mem j = some mb → Γ'.blk j = Γ.blk j := fun j mb hj => he.blk j (by rw [h.nb]; exact (h.mem j mb hj).2.2.2)
    have hhold : ∀ s j b, Hold Γ' { st with mem := (st.nb, some (t, cs)) :: st.mem, nb := st.nb + 1 } s j b → Hold Γ st s j b ∨ (s = true ∧ j = st.nb ∧ b = w.heap.size) := by
      intro s j b hh
      rcases hh.inv with ⟨rfl, mb, hj, rfl⟩ | ⟨rfl, e, hi, hb⟩
      · simp only [look] at hj
        split at hj
        · rename_i e; subst e; right; simp [Γ']
        · left; rw [hblk _ _ hj]; exact .mem hj
      · exact .inl (.vec (Γ := Γ) hi hb)
    have hown : ∀ b o, Own Γ' { st with mem := (st.nb, some (t, cs)) :: st.mem, nb := st.nb + 1 } b o → Own Γ st b o ∨ b = w.heap.size := by
      intro b o hb
      rcases Own.iff.1 hb with hb | ⟨s, j, hh⟩
      · exact .inl (.inl hb)
      · rcases hhold s j b hh with hh | hh
        · exact .inl (hh.own o)
        · exact .inr hh.2.2
    have ht : Turn w (w.alloc (.cells (dens Γ cs) t)) (Own Γ st) (Own Γ' { st with mem := (st.nb, some (t, cs)) :: st.mem, nb := st.nb + 1 }) :=
      ⟨hs', fun b o hb hno => ⟨World.cell?_of_block (hbel.block b hb), fun ho => (hown b o ho).elim hno (fun e => by omega)⟩⟩
    refine ⟨Γ', he, rfl, by simp [Γ'], ⟨h.slots_ext hw he ht, h.size, fun b mb hb => ?_, fun i e hi => ⟨h.vec_ext hw he ht hi fun b hb => hbel.block b ((h.vec i e hi).1.lt hb), (h.vec i e hi).2⟩, h.clo_ext hw he ht, fun s j s' j' b h1 h2 => ?_, h.keeps.trans (Keeps.of_below hbel (fun i hi => ?_)), h.fold, fun b o hb => Nat.lt_of_lt_of_le (h.base b o hb) hs', h.defers, h.len, by simp [Γ'], h.num⟩, rfl⟩
    · simp only [look] at hb
      split at hb
      · rename_i e
        subst e
        cases hb
        have hcw' : cs.all (Lf.wf Γ.ρ.length Γ.nb) = true := by rw [h.len, h.nb]; exact hcw
        simp only [Γ', if_true]
        refine ⟨?_, fun l hl => Lf.ok_ext he (List.all_eq_true.1 hcw' l hl) (Lf.ok_keep (hok l hl) ht.size ht.keep), fun hF => ?_, by simp⟩
        · have := dens_ext he cs hcw'
          rw [show dens _ cs = dens Γ cs from this]
          exact Blk.new w t _
        · have := h.fold _ hF; have := h.keeps.size; omega
      · rename_i e
        obtain ⟨h1, h2, h3, h4⟩ := h.mem b mb hb
        have hwf := h.wf_mem hw hb
        rw [hblk b mb hb, dens_ext he _ hwf]
        exact ⟨h1.alloc _, fun l hl => Lf.ok_ext he (List.all_eq_true.1 hwf l hl) (Lf.ok_keep (h2 l hl) ht.size ht.keep), h3, Nat.lt_succ_of_lt h4⟩
    · rcases hhold _ _ _ h1 with h1 | h1 <;> rcases hhold _ _ _ h2 with h2 | h2
      · exact h.inj _ _ _ _ _ h1 h2
      · have := h.hold_lt h1; omega
      · have := h.hold_lt h2; omega
      · exact ⟨h1.1.trans h2.1.symm, h1.2.1.trans h2.2.1.symm⟩
    · have := h.fold i hi; have := h.keeps.size; omega
  · cases hf

theorem SV.ok_addO {P : Program} {w : World} {O : Nat → Nat → Prop} {Γ : Env} {ob : Nat → Prop} {sv : SV} (h : sv.ok P w O (Γ.addO ob)) : sv.ok P w O Γ := by
  cases sv with
  | one s => exact fun l hl => by have := h l hl; cases l <;> exact this
  | tup ss => exact fun s hs l hl => by have := h s hs l hl; cases l <;> exact this
  | fn f ls => exact fun l hl => by have := h l hl; cases l <;> exact this
theorem SV.ok_addO' {P : Program} {w : World} {O : Nat → Nat → Prop} {Γ : Env} {ob : Nat → Prop} {sv : SV} (h : sv.ok P w O Γ) : sv.ok P w O (Γ.addO ob) := by
  cases sv with
  | one s => exact fun l hl => by have := h l hl; cases l <;> exact this
  | tup ss => exact fun s hs l hl => by have := h s hs l hl; cases l <;> exact this
  | fn f ls => exact fun l hl => by have := h l hl; cases l <;> exact this
theorem Lf.ok_addO {P : Program} {w : World} {O : Nat → Nat → Prop} {Γ : Env} {ob : Nat → Prop} {l : Lf} : l.ok P w O (Γ.addO ob) ↔ l.ok P w O Γ := by cases l <;> exact Iff.rfl
theorem Lf.den_addO (Γ : Env) (ob : Nat → Prop) (l : Lf) : l.den (Γ.addO ob) = l.den Γ := by cases l <;> rfl
theorem dens_addO (Γ : Env) (ob : Nat → Prop) (l : List Lf) : dens (Γ.addO ob) l = dens Γ l := by
  unfold dens; rw [List.map_congr_left fun x _ => Lf.den_addO Γ ob x]
theorem Hold.addO {ob : Nat → Prop} {s : Bool} {j b : Nat} (h : Hold (Γ.addO ob) st s j b) : Hold Γ st s j b := by
  cases s <;> exact h
theorem Hold.toO {ob : Nat → Prop} {s : Bool} {j b : Nat} (h : Hold Γ st s j b) : Hold (Γ.addO ob) st s j b := by
  cases s <;> exact h
/-- A block that was made some time ago is taken up. -/
theorem Sat.adoptM {b : Nat} {ob : Nat → Prop} (h : Sat P F w0 (Γ.addO ob) st a w) (hob : ob b) {t : TypeId} {cs : List Lf} (hw : st.wf = true) (hcw : cs.all (Lf.wf st.nx st.nb) = true) (hb : Blk w b t (dens Γ cs)) (hge : w0.heap.size ≤ b)
    (hne : ∀ s j, ¬ Hold Γ st s j b) (hcs : ∀ l ∈ cs, l.ok P w (Own (Γ.addO ob) st) Γ) :
    ∃ Γ', Ext Γ Γ' ∧ Γ'.ρ = Γ.ρ ∧ Γ'.blk st.nb = b ∧ (∀ s j x, Hold Γ' { st with mem := (st.nb, some (t, cs)) :: st.mem, nb := st.nb + 1 } s j x → Hold Γ st s j x ∨ x = b) ∧ Sat P F w0 (Γ'.addO fun x => ob x ∧ x ≠ b) { st with mem := (st.nb, some (t, cs)) :: st.mem, nb := st.nb + 1 } a w := by
  let Γ' : Env := { Γ with blk := fun x => if x = st.nb then b else Γ.blk x, nb := st.nb + 1 }
  have hnb : Γ.nb = st.nb := h.nb
  have hlen : Γ.ρ.length = st.nx := h.len
  have he : Ext Γ Γ' := ⟨⟨[], by simp [Γ']⟩, fun x hx => by simp [Γ']; intro e; rw [hnb] at hx; omega, by simp [Γ', hnb], rfl, rfl⟩
  have hblk : ∀ j mb, look st.mem j = some mb → Γ'.blk j = Γ.blk j := fun j mb hj => he.blk j (by rw [hnb]; exact (h.mem j mb hj).2.2.2)
  have hhold : ∀ s j x, Hold Γ' { st with mem := (st.nb, some (t, cs)) :: st.mem, nb := st.nb + 1 } s j x → Hold Γ st s j x ∨ (s = true ∧ j = st.nb ∧ x = b) := by
    intro s j x hh
    rcases hh.inv with ⟨rfl, mb, hj, rfl⟩ | ⟨rfl, e, hi, hb⟩
    · simp only [look] at hj
      split at hj
      · rename_i e; subst e; right; simp [Γ']
      · left; rw [hblk _ _ hj]; exact .mem hj
    · exact .inl (.vec (Γ := Γ) hi hb)
  have hown : ∀ x o, Own (Γ'.addO fun x => ob x ∧ x ≠ b) { st with mem := (st.nb, some (t, cs)) :: st.mem, nb := st.nb + 1 } x o → Own (Γ.addO ob) st x o := by
    intro x o hx
    rcases Own.iff.1 hx with hx | ⟨s, j, hh⟩
    · exact .inl (Or.imp id And.left hx)
    · rcases hhold s j x hh.addO with hh | hh
      · exact Hold.own (Γ := Γ.addO ob) hh.toO o
      · exact .inl (.inr (by rw [hh.2.2]; exact hob))
  have ht : Turn w w (Own (Γ.addO ob) st) (Own (Γ'.addO fun x => ob x ∧ x ≠ b) { st with mem := (st.nb, some (t, cs)) :: st.mem, nb := st.nb + 1 }) := ⟨Nat.le_refl _, fun x o _ hno => ⟨rfl, fun ho => hno (hown x o ho)⟩⟩
  refine ⟨Γ', he, rfl, by simp [Γ'], fun s j x hh => (hhold s j x hh).imp id fun e => e.2.2, ⟨fun t' sv hsv => ?_, h.size, fun x mb hx => ?_, fun i e hi => ⟨?_, (h.vec i e hi).2.1, fun b' hb' => ⟨((h.vec i e hi).2.2 b' hb').1, fun o ho => ((h.vec i e hi).2.2 b' hb').2 o (Or.imp id And.left ho)⟩⟩, fun i e hi => ?_, fun s j s' j' x h1 h2 => ?_, h.keeps, h.fold, fun x o hx => h.base x o (Or.imp id And.left hx), h.defers, h.len, rfl, h.num⟩⟩
  · have hwf : sv.wf Γ.ρ.length Γ.nb = true := h.wf_slot hw hsv
    obtain ⟨h1, h2⟩ := h.slots_keep ht t' sv hsv
    rw [SV.den_addO] at h1
    exact ⟨by rw [SV.den_addO, SV.den_ext he sv hwf, ← h1]; rfl, SV.ok_addO' (SV.ok_ext he hwf (SV.ok_addO h2))⟩
  · simp only [look] at hx
    split at hx
    · rename_i e
      subst e
      cases hx
      have hcw' : cs.all (Lf.wf Γ.ρ.length Γ.nb) = true := by rw [hlen, hnb]; exact hcw
      rw [dens_addO, show (Γ'.addO fun x => ob x ∧ x ≠ b).blk st.nb = b from by simp [Γ', Env.addO]]
      refine ⟨?_, fun l hl => Lf.ok_addO.2 ((Lf.ok_ext he (List.all_eq_true.1 hcw' l hl) (hcs l hl)).anti' hown), fun hF => ?_, by simp⟩
      · rw [show dens Γ' cs = dens Γ cs from dens_ext he cs hcw']
        exact hb
      · have := h.fold _ hF; omega
    · rename_i e
      obtain ⟨h1, h2, h3, h4⟩ := h.mem x mb hx
      have hwf : mb.2.all (Lf.wf Γ.ρ.length Γ.nb) = true := h.wf_mem hw hx
      rw [dens_addO] at h1
      rw [show (Γ'.addO fun x => ob x ∧ x ≠ b).blk x = Γ.blk x from hblk x mb hx, dens_addO, dens_ext he _ hwf]
      exact ⟨h1, fun l hl => Lf.ok_addO.2 (Lf.ok_ext he (List.all_eq_true.1 hwf l hl) (Lf.ok_addO.1 (h2 l hl |>.anti' hown))), h3, Nat.lt_succ_of_lt h4⟩
  · exact (h.vec i e hi).1.anti hown
  · obtain ⟨k1, k2, k3⟩ := h.wf_clo hw hi
    obtain ⟨h1, h2, h3⟩ := h.clo_keep ht i e hi
    refine ⟨?_, fun s hs => SV.ok_addO' (sv := .one s) (S0.ok_ext he (List.all_eq_true.1 k2 s hs) (SV.ok_addO (sv := .one s) (h2 s hs))), fun l hl => Lf.ok_addO.2 (Lf.ok_ext he (List.all_eq_true.1 k3 l hl) (Lf.ok_addO.1 (h3 l hl)))⟩
    have h1' : (at_ Γ.ρ i).loc = _ := h1
    rw [show at_ (Γ'.addO fun x => ob x ∧ x ≠ b).ρ i = at_ Γ.ρ i from rfl, h1', List.map_congr_left fun s hs => (S0.den_addO Γ ob s).trans ((S0.den_addO Γ' (fun x => ob x ∧ x ≠ b) s).trans (S0.den_ext he s (List.all_eq_true.1 k2 s hs))).symm, List.map_congr_left fun l hl => (Lf.den_addO Γ ob l).trans ((Lf.den_addO Γ' (fun x => ob x ∧ x ≠ b) l).trans (Lf.den_ext he l (List.all_eq_true.1 k3 l hl))).symm]
  · rcases hhold _ _ _ h1.addO with h1 | h1 <;> rcases hhold _ _ _ h2.addO with h2 | h2
    · refine h.inj s j s' j' x ?_ ?_
      · exact h1.toO
      · exact h2.toO
    · exact absurd (h2.2.2 ▸ h1) (hne _ _)
    · exact absurd (h1.2.2 ▸ h2) (hne _ _)
    · exact ⟨h1.1.trans h2.1.symm, h1.2.1.trans h2.2.1.symm⟩

theorem Sat.adopt' {b : Nat} (h : Sat P F w0 (Γ.addO (· = b)) st a w) {t : TypeId} {cs : List Lf} (hw : st.wf = true) (hcw : cs.all (Lf.wf st.nx st.nb) = true) (hb : Blk w b t (dens Γ cs)) (hge : w0.heap.size ≤ b)
    (hne : ∀ s j, ¬ Hold Γ st s j b) (hcs : ∀ l ∈ cs, l.ok P w (Own (Γ.addO (· = b)) st) Γ) :
    ∃ Γ', Ext Γ Γ' ∧ Γ'.ρ = Γ.ρ ∧ Γ'.blk st.nb = b ∧ Sat P F w0 Γ' { st with mem := (st.nb, some (t, cs)) :: st.mem, nb := st.nb + 1 } a w := by
  obtain ⟨Γ', e1, e2, e3, -, e4⟩ := h.adoptM rfl hw hcw hb hge hne hcs
  rw [Env.addO_no (fun x hx => hx.2 hx.1)] at e4
  exact ⟨Γ', e1, e2, e3, e4⟩
theorem Sat.adoptS {b : Nat} {ob : Nat → Prop} (h : Sat P F w0 (Γ.addO ob) st a w) (hob : ob b) {t : TypeId} {cs : List Lf} {st' : St} (hf : st.fresh t cs = some st') (hb : Blk w b t (dens Γ cs)) (hge : w0.heap.size ≤ b)
    (hne : ∀ s j, ¬ Hold Γ st s j b) (hcs : ∀ l ∈ cs, l.ok P w (Own (Γ.addO ob) st) Γ) :
    ∃ Γ', Ext Γ Γ' ∧ Γ'.ρ = Γ.ρ ∧ Γ'.blk st.nb = b ∧ (∀ s j x, Hold Γ' st' s j x → Hold Γ st s j x ∨ x = b) ∧ Sat P F w0 (Γ'.addO fun x => ob x ∧ x ≠ b) st' a w ∧ st'.lvl = st.lvl := by
  unfold St.fresh at hf
  split at hf
  · rename_i hc
    simp only [Bool.and_eq_true] at hc
    cases hf
    obtain ⟨Γ', e1, e2, e3, e5, e4⟩ := h.adoptM hob hc.1.1 hc.1.2 hb hge hne hcs
    exact ⟨Γ', e1, e2, e3, e5, e4, rfl⟩
  · cases hf
/-- A call that leaves all that was there as it was. -/
theorem Sat.below (h : Sat P F w0 Γ st a w) {w' : World} (hb : Below w.heap.size w w') : Sat P F w0 Γ st a w' := by
  have ht : Turn w w' (Own Γ st) (Own Γ st) := ⟨hb.size, fun b o hb' hno => ⟨World.cell?_of_block (hb.block b hb'), hno⟩⟩
  refine ⟨h.slots_keep ht, h.size, fun b mb hm => ?_, fun i e hi => ⟨(h.vec i e hi).1.keep ht.size ht.keep fun b hb' => hb.block b ((h.vec i e hi).1.lt hb'), (h.vec i e hi).2⟩, h.clo_keep ht, h.inj, h.keeps.trans (Keeps.of_below hb fun i hi => ?_), h.fold, fun b o hb' => Nat.lt_of_lt_of_le (h.base b o hb') hb.size, h.defers, h.len, h.nb, h.num⟩
  · obtain ⟨h1, h2, h3, h4⟩ := h.mem b mb hm
    exact ⟨h1.below hb, fun l hl => Lf.ok_keep (h2 l hl) ht.size ht.keep, h3, h4⟩
  · have := h.fold i hi; have := h.keeps.size; omega
/-- New variables. -/
theorem Sat.grow (h : Sat P F w0 Γ st a w) (hw : st.wf = true) {rs : List C} (hs : Smalls (Γ.ρ ++ rs)) :
    Sat P F w0 { Γ with ρ := Γ.ρ ++ rs } { st with nx := st.nx + rs.length } a w := by
  have he : Ext Γ { Γ with ρ := Γ.ρ ++ rs } := ⟨⟨rs, rfl⟩, fun _ _ => rfl, Nat.le_refl _, rfl, rfl⟩
  have hhold : ∀ s j b, Hold { Γ with ρ := Γ.ρ ++ rs } { st with nx := st.nx + rs.length } s j b → Hold Γ st s j b := fun s j b hh =>
    Hold.congr (Γ := Γ) (st := st) (Γ' := { Γ with ρ := Γ.ρ ++ rs }) (st' := { st with nx := st.nx + rs.length }) (fun j mb hj => ⟨⟨mb, hj⟩, rfl⟩) (fun i e hi => ⟨⟨e, hi⟩, h.vec_at he hi⟩) hh
  have hown : ∀ b o, Own { Γ with ρ := Γ.ρ ++ rs } { st with nx := st.nx + rs.length } b o → Own Γ st b o := fun b o hb => by
    rcases Own.iff.1 hb with hb | ⟨s, j, hh⟩
    · exact .inl hb
    · exact (hhold s j b hh).own o
  have ht : Turn w w (Own Γ st) (Own { Γ with ρ := Γ.ρ ++ rs } { st with nx := st.nx + rs.length }) := ⟨Nat.le_refl _, fun b o _ hno => ⟨rfl, fun ho => hno (hown b o ho)⟩⟩
  refine ⟨h.slots_ext hw he ht, h.size, fun b mb hm => ?_, fun i e hi => ⟨h.vec_ext hw he ht hi fun _ _ => rfl, Nat.lt_of_lt_of_le (h.vec i e hi).2.1 (Nat.le_add_right _ _), by rw [h.vec_at he hi]; exact (h.vec i e hi).2.2⟩, h.clo_ext hw he ht, fun s j s' j' b h1 h2 => h.inj s j s' j' b (hhold _ _ _ h1) (hhold _ _ _ h2), h.keeps, h.fold, h.base, h.defers, by simp [h.len], h.nb, ⟨Bds.ok_ext h.num.bds, hs⟩⟩
  obtain ⟨h1, h2, h3, h4⟩ := h.mem b mb hm
  have hwf := h.wf_mem hw hm
  rw [dens_ext he _ hwf]
  exact ⟨h1, fun l hl => Lf.ok_ext he (List.all_eq_true.1 hwf l hl) (Lf.ok_keep (h2 l hl) ht.size ht.keep), h3, h4⟩
/-- A block of one's own holds something new; all else is as it was. -/
theorem Sat.mod (h : Sat P F w0 Γ st a w) {b : Nat} {mb : TypeId × List Lf} (hb : look st.mem b = some mb) {w' : World} (hk : Keeps (fun i => i < w.heap.size ∧ i ≠ Γ.blk b) w w') {cs : List Lf}
    (hnew : Blk w' (Γ.blk b) mb.1 (dens Γ cs)) (hok : ∀ l ∈ cs, l.ok P w' (Own Γ st) Γ) : Sat P F w0 Γ { st with mem := (b, some (mb.1, cs)) :: st.mem } a w' := by
  obtain ⟨m1, m2, m3, m4⟩ := h.mem b mb hb
  have hhold : ∀ s j x, Hold Γ { st with mem := (b, some (mb.1, cs)) :: st.mem } s j x → Hold Γ st s j x := fun s j x hh =>
    Hold.congr (Γ := Γ) (st := st) (Γ' := Γ) (st' := { st with mem := (b, some (mb.1, cs)) :: st.mem }) (fun j mj hj => ⟨by
      simp only [look] at hj
      split at hj
      · rename_i e; subst e; exact ⟨mb, hb⟩
      · exact ⟨mj, hj⟩, rfl⟩) (fun i e hi => ⟨⟨e, hi⟩, rfl⟩) hh
  have hown : ∀ k o, Own Γ { st with mem := (b, some (mb.1, cs)) :: st.mem } k o → Own Γ st k o := fun k o hk => by
    rcases Own.iff.1 hk with hk | ⟨s, j, hh⟩
    · exact .inl hk
    · exact (hhold s j k hh).own o
  have hbh : Hold Γ st true b (Γ.blk b) := .mem hb
  have ht : Turn w w' (Own Γ st) (Own Γ { st with mem := (b, some (mb.1, cs)) :: st.mem }) :=
    ⟨hk.size, fun k o hlt hno => ⟨World.cell?_of_block (hk.block k ⟨hlt, fun e => hno (e ▸ hbh.own o)⟩), fun ho => hno (hown k o ho)⟩⟩
  refine ⟨h.slots_keep ht, h.size, fun c mc hm => ?_, fun i e hi => ⟨(h.vec i e hi).1.keep ht.size ht.keep fun b' hb' => hk.block b' ⟨(h.vec i e hi).1.lt hb', fun e' => by
      have := (h.inj _ _ _ _ _ (Hold.vec (Γ := Γ) hi hb') (e' ▸ hbh)).1; cases this⟩, (h.vec i e hi).2⟩, h.clo_keep ht, fun s j s' j' x h1 h2 => h.inj _ _ _ _ _ (hhold _ _ _ h1) (hhold _ _ _ h2), h.keeps.trans ⟨hk.os, hk.tape, hk.output, hk.size, fun i hi => hk.block i ⟨?_, fun e => m3 (e ▸ hi)⟩⟩, h.fold, fun b' o hb' => Nat.lt_of_lt_of_le (h.base b' o hb') hk.size, h.defers, h.len, h.nb, h.num⟩
  · simp only [look] at hm
    split at hm
    · rename_i e
      subst e
      cases hm
      exact ⟨hnew, fun l hl => (hok l hl).anti' hown, m3, m4⟩
    · rename_i e
      obtain ⟨h1, h2, h3, h4⟩ := h.mem c mc hm
      refine ⟨?_, fun l hl => Lf.ok_keep (h2 l hl) ht.size ht.keep, h3, h4⟩
      exact (hk.block (Γ.blk c) ⟨h1.lt, fun e' => e (h.inj _ _ _ _ _ (Hold.mem (Γ := Γ) hm) (e' ▸ hbh)).2.symm⟩).trans h1
  · have := h.fold i hi; have := h.keeps.size; omega
/-- A new block that is not one's own yet: nothing that is known lies in it. -/
theorem Sat.belowO (h : Sat P F w0 Γ st a w) {w' : World} (hb : Below w.heap.size w w') {n : Nat} (hn : w.heap.size ≤ n) (hn' : n < w'.heap.size) : Sat P F w0 (Γ.addO (· = n)) st a w' := by
  have h2 := h.below hb
  have ht : Turn w w' (Own Γ st) (Own (Γ.addO (· = n)) st) := ⟨hb.size, fun b o' hb' hno => ⟨World.cell?_of_block (hb.block b hb'), fun hx => by
    rcases Own.iff.1 hx with (hx | hx) | ⟨s, j, hh⟩
    · exact hno (.inl hx)
    · have hx : b = n := hx; omega
    · exact hno (hh.addO.own o')⟩⟩
  refine ⟨fun t' sv hsv => ?_, h2.size, fun b mb hm => ?_, fun i e hi => ⟨(h.vec i e hi).1.keep ht.size ht.keep fun b hb' => hb.block b ((h.vec i e hi).1.lt hb'), (h.vec i e hi).2.1, fun b hb' => ⟨((h.vec i e hi).2.2 b hb').1, fun o ho => ho.elim (((h.vec i e hi).2.2 b hb').2 o) fun e' => by
      have := (h.vec i e hi).1.lt hb'; have e' : b = n := e'; omega⟩⟩, fun i e hi => ?_, fun s j s' j' x h1 h3 => h.inj _ _ _ _ _ h1.addO h3.addO, h2.keeps, h2.fold, fun b o' hb' => ?_, h2.defers, h2.len, h2.nb, h2.num⟩
  · obtain ⟨q1, q2⟩ := h.slots_keep ht t' sv hsv
    exact ⟨by rw [SV.den_addO]; exact q1, SV.ok_addO' q2⟩
  · obtain ⟨q1, q2, q3, q4⟩ := h.mem b mb hm
    rw [dens_addO]
    exact ⟨q1.below hb, fun l hl => Lf.ok_addO.2 (Lf.ok_keep (q2 l hl) ht.size ht.keep), q3, q4⟩
  · obtain ⟨h1, h2, h3⟩ := h.clo_keep ht i e hi
    refine ⟨?_, fun s hs => SV.ok_addO' (sv := .one s) (h2 s hs), fun l hl => Lf.ok_addO.2 (h3 l hl)⟩
    rw [List.map_congr_left fun s _ => S0.den_addO Γ (· = n) s, List.map_congr_left fun l _ => Lf.den_addO Γ (· = n) l]
    exact h1
  · rcases hb' with hb' | hb'
    · exact Nat.lt_of_lt_of_le (h.base b o' hb') hb.size
    · have hb' : b = n := hb'; rw [hb']; exact hn'
/-- A store into a block of one's own. -/
theorem Sat.store (h : Sat P F w0 Γ st a w) {b off : Nat} {mb : TypeId × List Lf} (hb : look st.mem b = some mb) {cs : List Lf} (hle : off + cs.length ≤ mb.2.length) (hok : ∀ l ∈ cs, l.ok P w (Own Γ st) Γ) :
    Sat P F w0 Γ { st with mem := (b, some (mb.1, mb.2.take off ++ cs ++ mb.2.drop (off + cs.length))) :: st.mem } a
      (w.setRow (Γ.blk b) ((dens Γ mb.2).toList.take off ++ (cs.map (Lf.den Γ)) ++ (dens Γ mb.2).toList.drop (off + cs.length)).toArray) := by
  obtain ⟨m1, m2, m3, m4⟩ := h.mem b mb hb
  have m1' : w.heap[Γ.blk b]? = some (.cells (dens Γ mb.2) mb.1 (0, 0)) := m1
  generalize hnew : ((dens Γ mb.2).toList.take off ++ (cs.map (Lf.den Γ)) ++ (dens Γ mb.2).toList.drop (off + cs.length)).toArray = new
  have hnew' : new = dens Γ (mb.2.take off ++ cs ++ mb.2.drop (off + cs.length)) := by
    rw [← hnew]; simp [dens, List.map_take, List.map_drop]
  have hsz : (w.setRow (Γ.blk b) new).heap.size = w.heap.size := by simp [World.setRow]
  have hoth : ∀ k, k ≠ Γ.blk b → (w.setRow (Γ.blk b) new).heap[k]? = w.heap[k]? := fun k hk => setRow_other w _ k new hk
  have hkeep : ∀ l : Lf, l.ok P w (Own Γ st) Γ → l.ok P (w.setRow (Γ.blk b) new) (Own Γ st) Γ := fun l hl => Lf.ok_keep hl (by rw [hsz]; exact Nat.le_refl _) fun k o _ hno => ⟨World.cell?_of_block (hoth k fun e => hno (e ▸ (Hold.mem (Γ := Γ) hb).own o)), hno⟩
  refine h.mod hb (w' := w.setRow (Γ.blk b) new) ⟨rfl, rfl, rfl, by rw [hsz]; exact Nat.le_refl _, fun i hi => hoth i hi.2⟩ ?_ fun l hl => hkeep l ?_
  · rw [← hnew']; exact setRow_heap w _ _ _ _ _ m1'
  · rcases List.mem_append.1 hl with hl | hl
    · rcases List.mem_append.1 hl with hl | hl
      · exact m2 l (List.mem_of_mem_take hl)
      · exact hok l hl
    · exact m2 l (List.mem_of_mem_drop hl)
end
end Go.Proofs.Ytbgofenplhdllaa
/- The engine, part 10: arguments and results; one operation, a row of operations. -/
namespace Go.Proofs.Ytbgofenplhdllaa
open Go.RowKit
set_option linter.unusedSimpArgs false
set_option linter.unusedVariables false

/-! Typed data -/
def CTy (P : Program) : List Lk → List C → Prop
  | [], [] => True
  | k :: ks, c :: cs => ((∀ n, c.small n) ∧ match k with
    | .int => ∃ n, c = .i n
    | .bool => ∃ t, c = .b t
    | .arr t => ∃ v rows d, c = .s v rows ∧ TyN P d t rows
    | .vec t => ∃ v rows d, c = .s v rows ∧ TyN P d t rows
    | .opq => ∃ v, c = .s v []) ∧ CTy P ks cs
  | _, _ => False
theorem CTy.len {P : Program} : ∀ {ks : List Lk} {cs : List C}, CTy P ks cs → cs.length = ks.length
  | [], [], _ => rfl
  | _ :: ks, _ :: cs, h => by simp [CTy.len h.2]
  | [], _ :: _, h => h.elim
  | _ :: _, [], h => h.elim
theorem CTy.small {P : Program} : ∀ {ks : List Lk} {cs : List C}, CTy P ks cs → ∀ c ∈ cs, ∀ n, c.small n
  | [], [], _, c, hc => by cases hc
  | _ :: ks, _ :: cs, h, c, hc => by
    rcases List.mem_cons.1 hc with rfl | hc
    · exact h.1.1
    · exact CTy.small h.2 c hc
  | [], _ :: _, h, _, _ => h.elim
  | _ :: _, [], h, _, _ => h.elim
theorem CTy.append {P : Program} : ∀ {ks ls : List Lk} {cs ds : List C}, CTy P ks cs → CTy P ls ds → CTy P (ks ++ ls) (cs ++ ds)
  | [], _, [], _, _, h => h
  | _ :: _, _, _ :: _, _, h, h' => ⟨h.1, CTy.append h.2 h'⟩
  | [], _, _ :: _, _, h, _ => h.elim
  | _ :: _, _, [], _, h, _ => h.elim
theorem allC_elim {P : Program} : ∀ {ks : List Lk} {p : List C → Prop}, allC P ks p → ∀ cs, CTy P ks cs → p cs
  | [], p, h, [], _ => h
  | .int :: ks, p, h, c :: cs, hc => by
    obtain ⟨⟨h1, n, rfl⟩, h2⟩ := hc
    exact allC_elim (h n (h1 0).1 (h1 0).2) cs h2
  | .bool :: ks, p, h, c :: cs, hc => by
    obtain ⟨⟨h1, n, rfl⟩, h2⟩ := hc
    exact allC_elim (h n) cs h2
  | .arr t :: ks, p, h, c :: cs, hc => by
    obtain ⟨⟨h1, v, rows, d, rfl, hty⟩, h2⟩ := hc
    exact allC_elim (h v rows d hty h1) cs h2
  | .vec t :: ks, p, h, c :: cs, hc => by
    obtain ⟨⟨h1, v, rows, d, rfl, hty⟩, h2⟩ := hc
    exact allC_elim (h v rows d hty h1) cs h2
  | .opq :: ks, p, h, c :: cs, hc => by
    obtain ⟨⟨h1, v, rfl⟩, h2⟩ := hc
    exact allC_elim (h v) cs h2
  | [], _, _, _ :: _, h => h.elim
  | _ :: _, _, _, [], h => h.elim
theorem Smalls.app {ρ cs : List C} (h : Smalls ρ) (hc : ∀ c ∈ cs, ∀ n, c.small n) : Smalls (ρ ++ cs) := by
  intro i n
  unfold at_
  rw [List.getD_eq_getElem?_getD]
  by_cases hi : i < ρ.length
  · rw [List.getElem?_append_left hi]
    have := h i n
    unfold at_ at this
    rwa [List.getD_eq_getElem?_getD] at this
  · rw [List.getElem?_append_right (by omega)]
    cases hx : cs[i - ρ.length]? with
    | none => exact C.small_zero n
    | some c => exact hc c (List.mem_of_getElem? hx) n
theorem Smalls.nil : Smalls [] := fun i n => by simp [at_, C.small_zero]

theorem ArrN.tyN {P : Program} {S : Nat → Nat → Prop} {w : World} : ∀ (d : Nat) (te : TypeId) (v : Value) (rows : List (List C)), ArrN P S w d te v rows → TyN P d te rows ∨ ∃ ks, kinds P te = some ks ∧ rows = []
  | 0, _, _, _, h => h.elim
  | d + 1, te, v, rows, ⟨ks, hk, a, cap, hv, hh⟩ => by
    by_cases hne : rows = []
    · exact .inr ⟨ks, hk, hne⟩
    · left
      obtain ⟨b, o, ha, -, hr⟩ := hh hne
      refine ⟨ks, hk, fun r hr' => ?_⟩
      obtain ⟨i, hi⟩ := List.getElem?_of_mem hr'
      obtain ⟨hl, hc⟩ := hr i r hi
      refine ⟨hl, fun j k hj => ?_⟩
      obtain ⟨-, u, c, hu, hrj, hm⟩ := hc j k hj
      refine ⟨c, hrj, ?_⟩
      cases k with
      | int => obtain ⟨n, -, hn⟩ := hm; exact ⟨n, hn⟩
      | bool => obtain ⟨n, -, hn⟩ := hm; exact ⟨n, hn⟩
      | vec t => exact hm.elim
      | opq => exact hm.elim
      | arr t =>
        obtain ⟨rows', hc', hn⟩ := hm
        refine ⟨u, rows', hc', ?_⟩
        rcases ArrN.tyN d t u rows' hn with h | ⟨ks', hk', rfl⟩
        · exact h
        · cases d with
          | zero => exact hn.elim
          | succ d => exact ⟨ks', hk', fun r hr => by cases hr⟩
theorem ArrOK.tyN {P : Program} {w : World} {O : Nat → Nat → Prop} {te : TypeId} {c : C} (h : ArrOK P w O te c) : ∃ v rows d, c = .s v rows ∧ TyN P d te rows := by
  obtain ⟨v, rows, rfl, d, S, hS, hA⟩ := h
  rcases hA.tyN with h | ⟨ks, hk, rfl⟩
  · exact ⟨v, rows, d, rfl, h⟩
  · exact ⟨v, [], 1, rfl, ks, hk, fun r hr => by cases hr⟩

theorem TyN.mono {P : Program} : ∀ {d : Nat} {te : TypeId} {rows : List (List C)}, TyN P d te rows → TyN P (d + 1) te rows
  | 0, _, _, h => h.elim
  | d + 1, te, rows, ⟨ks, hk, h⟩ => ⟨ks, hk, fun r hr => ⟨(h r hr).1, fun j k hj => by
      obtain ⟨c, hc, hm⟩ := (h r hr).2 j k hj
      refine ⟨c, hc, ?_⟩
      cases k with
      | arr t => obtain ⟨v, rows', e, ht⟩ := hm; exact ⟨v, rows', e, TyN.mono ht⟩
      | _ => exact hm⟩⟩
theorem TyN.le {P : Program} {d d' : Nat} (hd : d ≤ d') {te : TypeId} {rows : List (List C)} (h : TyN P d te rows) : TyN P d' te rows := by
  induction hd with
  | refl => exact h
  | step _ ih => exact ih.mono
theorem CReps.tyN {P : Program} {w : World} {O : Nat → Nat → Prop} : ∀ {ks : List Lk} {us : List Value} {cs : List C}, CReps P w O ks us cs → ∃ d, ∀ (j : Nat) (k : Lk), ks[j]? = some k → ∃ c : C, cs[j]? = some c ∧
      match k with
      | .int => ∃ n, c = .i n
      | .bool => ∃ t, c = .b t
      | .arr t => ∃ v rows', c = .s v rows' ∧ TyN P d t rows'
      | .vec _ | .opq => False
  | [], [], [], _ => ⟨0, fun j k hj => by simp at hj⟩
  | k :: ks, u :: us, c :: cs, h => by
    obtain ⟨d, hd⟩ := CReps.tyN h.2
    have h1 := h.1.2
    obtain ⟨d', hd'⟩ : ∃ d', match k with
      | .int => ∃ n, c = .i n
      | .bool => ∃ t, c = .b t
      | .arr t => ∃ v rows', c = .s v rows' ∧ TyN P d' t rows'
      | .vec _ | .opq => False := by
      cases k with
      | int => obtain ⟨n, -, e⟩ := h1; exact ⟨0, n, e⟩
      | bool => obtain ⟨n, -, e⟩ := h1; exact ⟨0, n, e⟩
      | arr t => obtain ⟨v, rows, d', e, ht⟩ := h1.2.tyN; exact ⟨d', v, rows, e, ht⟩
      | vec t => exact h1.elim
      | opq => exact h1.elim
    refine ⟨Max.max d d', fun j k' hj => ?_⟩
    cases j with
    | zero =>
      simp at hj; subst hj
      refine ⟨c, rfl, ?_⟩
      cases k with
      | arr t => obtain ⟨v, rows, e, ht⟩ := hd'; exact ⟨v, rows, e, ht.le (by omega)⟩
      | _ => exact hd'
    | succ j =>
      obtain ⟨x, hx, hm⟩ := hd j k' (by simpa using hj)
      refine ⟨x, by simpa using hx, ?_⟩
      cases k' with
      | arr t => obtain ⟨v, rows, e, ht⟩ := hm; exact ⟨v, rows, e, ht.le (by omega)⟩
      | _ => exact hm
  | [], [], _ :: _, h => h.elim
  | [], _ :: _, _, h => h.elim
  | _ :: _, [], _, h => h.elim
  | _ :: _, _ :: _, [], h => h.elim
theorem VecOK.tyN {P : Program} {w : World} {O : Nat → Nat → Prop} {te : TypeId} {v : Value} {c : C} (h : VecOK P w O te v c) : ∃ v rows d, c = .s v rows ∧ TyN P d te rows := by
  obtain ⟨ks, us, hk, ⟨v', hc⟩, hl, hr, ho⟩ := h
  obtain ⟨d, hd⟩ := hr.tyN
  refine ⟨v', c.rows, d + 1, hc, ks, hk, fun r hr' => ⟨hl r hr', fun j k hj => ?_⟩⟩
  obtain ⟨i, hi⟩ := List.getElem?_of_mem hr'
  have hilt : i < c.rows.length := by
    rcases Nat.lt_or_ge i c.rows.length with h | h
    · exact h
    · rw [List.getElem?_eq_none h] at hi; cases hi
  have hjlt : j < ks.length := by
    rcases Nat.lt_or_ge j ks.length with h | h
    · exact h
    · rw [List.getElem?_eq_none h] at hj; cases hj
  obtain ⟨x, hx, hm⟩ := hd (i * ks.length + j) k (by rw [rowsK_get hilt hjlt]; exact hj)
  rw [flatten_get _ hl i j r hi hjlt] at hx
  exact ⟨x, hx, hm⟩
theorem CReps.small {P : Program} {w : World} {O : Nat → Nat → Prop} : ∀ {ks : List Lk} {us : List Value} {cs : List C}, CReps P w O ks us cs → ∀ c ∈ cs, ∀ n, c.small n
  | [], [], [], _, c, hc => by cases hc
  | _ :: _, _ :: _, _ :: _, h, c, hc => by
    rcases List.mem_cons.1 hc with rfl | hc
    · exact h.1.1
    · exact CReps.small h.2 c hc
  | [], [], _ :: _, h, _, _ => h.elim
  | [], _ :: _, _, h, _, _ => h.elim
  | _ :: _, [], _, h, _, _ => h.elim
  | _ :: _, _ :: _, [], h, _, _ => h.elim
theorem VecOK.small {P : Program} {w : World} {O : Nat → Nat → Prop} {te : TypeId} {v : Value} {c : C} (h : VecOK P w O te v c) : ∀ n, c.small n := by
  obtain ⟨ks, us, hk, ⟨v', hc⟩, hl, hr, ho⟩ := h
  have hlen : (c.rows.length : Int) ≤ 9223372036854775807 := by
    rcases ho.2 with ⟨-, hn⟩ | ⟨g, cap, cur, -, -, -, h1, h2, -⟩
    · rw [hn]; simp
    · simp only [maxLen] at h2; omega
  intro n
  rw [hc]
  cases n with
  | zero => trivial
  | succ n => exact ⟨hlen, fun r hr' x hx => hr.small x (List.mem_flatten.2 ⟨r, hr', hx⟩) n⟩

theorem LReps.ty {P : Program} {w : World} {Base : Nat → Nat → Prop} : ∀ {ks : List Lk} {us : List Value} {cs : List C}, LReps P w Base ks us cs → CTy P ks cs
  | [], [], [], _ => trivial
  | k :: ks, u :: us, c :: cs, h => by
    refine ⟨⟨h.1.1, ?_⟩, LReps.ty h.2⟩
    have h1 := h.1.2
    cases k with
    | int => obtain ⟨n, -, hn⟩ := h1; exact ⟨n, hn⟩
    | bool => obtain ⟨n, -, hn⟩ := h1; exact ⟨n, hn⟩
    | arr t => exact h1.2.tyN
    | vec t => exact h1.2.tyN
    | opq => exact ⟨_, h1.1⟩
  | [], [], _ :: _, h => h.elim
  | [], _ :: _, _, h => h.elim
  | _ :: _, [], _, h => h.elim
  | _ :: _, _ :: _, [], h => h.elim
theorem Rep0.ty {P : Program} {w : World} {Base : Nat → Nat → Prop} {old : Option Nat} {s : Sh0} {v : Value} {cs : List C} (h : Rep0 P w Base old s v cs) : CTy P s.kinds cs := by
  cases s with
  | lf k => obtain ⟨c, rfl, hc⟩ := h; exact LReps.ty (us := [v]) ⟨hc, trivial⟩
  | agg l => obtain ⟨us, -, hc⟩ := h; exact LReps.ty hc
  | box t l => obtain ⟨b, us, -, -, -, hc⟩ := h; exact LReps.ty hc
theorem Reps.ty {P : Program} {w : World} {Base : Nat → Nat → Prop} {old : Option Nat} : ∀ {ss : List Sh0} {vs : List Value} {cs : List C}, Reps P w Base old ss vs cs → CTy P (kindsOf ss) cs
  | [], [], cs, h => by subst h; trivial
  | s :: ss, v :: vs, cs, h => by
    obtain ⟨c1, c2, rfl, h1, h2⟩ := h
    exact CTy.append h1.ty (Reps.ty h2)
  | [], _ :: _, _, h => h.elim
  | _ :: _, [], _, h => h.elim

/-! What is handed on -/
/-- What is handed on: a slice of one's own with what it holds. -/
def Lf.okR (P : Program) (w : World) (O : Nat → Nat → Prop) (Γ : Env) : Lf → Prop
  | .cnt te r => VecOK P w O te (r.ev Γ.ρ).loc (r.ev Γ.ρ)
  | .vec _ _ => False
  | l => l.ok P w O Γ
theorem Lf.okR_of {P : Program} {w : World} {O : Nat → Nat → Prop} {Γ : Env} {l : Lf} {k : Lk} (hk : l.kind = some k) (hn : k.noVec = true) (h : l.ok P w O Γ) : l.okR P w O Γ := by
  cases l with
  | cnt te r => cases hk; cases hn
  | vec te i => cases hk; cases hn
  | _ => exact h
theorem Lf.rep {P : Program} {w : World} {O : Nat → Nat → Prop} {Γ : Env} {bd : Bds} (hn : Num bd Γ.ρ) {l : Lf} {k : Lk} (hk : l.kind = some k) (ho : l.okR P w O Γ) (hr : Obs Γ.ρ (rngL bd [l])) : LRep P w O k (l.den Γ) (l.c Γ.ρ) := by
  cases l with
  | int e =>
    cases hk
    refine ⟨fun n => ?_, _, rfl, rfl⟩
    have h1 : Obs Γ.ρ (rng bd e) := by simpa [rngL] using hr
    have h2 : -9223372036854775808 ≤ e.den Γ.ρ ∧ e.den Γ.ρ ≤ 9223372036854775807 := by
      unfold rng at h1
      split at h1
      · rename_i p hp
        have := E.iv_ok hn.bds hn.len e _ hp
        split at h1
        · omega
        · exact inr_den (h1 _ (by simp))
      · exact inr_den (h1 _ (by simp))
    cases n <;> exact h2
  | bool b => cases hk; exact ⟨fun n => (by cases n <;> trivial), _, rfl, rfl⟩
  | arr t a =>
    cases hk
    refine ⟨fun n => ?_, rfl, ho⟩
    obtain ⟨v, rows, hc, -⟩ := ho
    rcases E.small hn.len a with h1 | h1
    · exact h1 n
    · simp only [Lf.c, hc, C.rows] at h1 ⊢
      subst h1
      cases n <;> simp [C.small]
  | vec t i => exact ho.elim
  | cnt t r => cases hk; exact ⟨VecOK.small ho, rfl, ho⟩
  | clo i =>
    cases hk
    obtain ⟨v, hv, h1⟩ := ho
    simp only [Lf.c, Lf.den, hv, C.loc]
    exact ⟨fun n => (by cases n <;> simp [C.small]), rfl, h1⟩
  | _ => cases hk
theorem rngL_cons {bd : Bds} {ρ : List C} {l : Lf} {ls : List Lf} (h : Obs ρ (rngL bd (l :: ls))) : Obs ρ (rngL bd [l]) ∧ Obs ρ (rngL bd ls) := by
  cases l with
  | int e =>
    simp only [rngL] at h ⊢
    simp only [List.append_nil]
    exact Obs.app h
  | _ => exact ⟨fun b hb => (by simp [rngL] at hb), h⟩
theorem rngL_app {bd : Bds} {ρ : List C} : ∀ {l m : List Lf}, Obs ρ (rngL bd (l ++ m)) → Obs ρ (rngL bd l) ∧ Obs ρ (rngL bd m)
  | [], m, h => ⟨fun b hb => (by cases hb), h⟩
  | x :: l, m, h => by
    obtain ⟨h1, h2⟩ := rngL_cons (ls := l ++ m) h
    obtain ⟨h3, h4⟩ := rngL_app h2
    refine ⟨?_, h4⟩
    cases x with
    | int e =>
      simp only [rngL, List.append_nil] at h1 ⊢
      intro b hb
      rcases List.mem_append.1 hb with hb | hb
      · exact h1 b hb
      · exact h3 b hb
    | _ => exact h3
theorem Ls_rep {P : Program} {w : World} {O : Nat → Nat → Prop} {Γ : Env} {bd : Bds} (hn : Num bd Γ.ρ) : ∀ {ls : List Lf} {ks : List Lk}, kindsL ls = some ks → (∀ l ∈ ls, l.okR P w O Γ) → Obs Γ.ρ (rngL bd ls) →
    LReps P w O ks (ls.map (Lf.den Γ)) (cs_ Γ.ρ ls)
  | [], ks, hk, _, _ => by simp [kindsL] at hk; subst hk; trivial
  | l :: ls, ks, hk, ho, hr => by
    simp only [kindsL] at hk
    split at hk
    · rename_i k ks' h1 h2
      cases hk
      obtain ⟨r1, r2⟩ := rngL_cons hr
      exact ⟨Lf.rep hn h1 (ho l (by simp)) r1, Ls_rep hn h2 (fun x hx => ho x (by simp [hx])) r2⟩
    · cases hk
/-- What is handed on is data of its kind. -/
theorem Ls_ty {P : Program} {w : World} {O : Nat → Nat → Prop} {Γ : Env} {bd : Bds} (hn : Num bd Γ.ρ) : ∀ {ls : List Lf} {ks : List Lk}, kindsL ls = some ks → (∀ l ∈ ls, l.ok P w O Γ ∧ l.isVec = false) → Obs Γ.ρ (rngL bd ls) → CTy P ks (cs_ Γ.ρ ls)
  | [], ks, hk, _, _ => by simp [kindsL] at hk; subst hk; trivial
  | l :: ls, ks, hk, ho, hr => by
    simp only [kindsL] at hk
    split at hk
    · rename_i k ks' h1 h2
      cases hk
      obtain ⟨r1, r2⟩ := rngL_cons hr
      refine ⟨?_, Ls_ty hn h2 (fun x hx => ho x (by simp [hx])) r2⟩
      obtain ⟨ho1, ho2⟩ := ho l (by simp)
      cases l with
      | cnt te r =>
        cases h1
        obtain ⟨v, rows, d, e, ht, hs⟩ := ho1
        simp only [Lf.c, e]
        exact ⟨hs, v, rows, d, rfl, ht⟩
      | vec te i => cases ho2
      | int e => have := Lf.rep (P := P) (w := w) (O := O) hn h1 (l := .int e) trivial r1; exact (LReps.ty (us := [_]) (ks := [k]) (cs := [_]) ⟨this, trivial⟩).1
      | bool e => have := Lf.rep (P := P) (w := w) (O := O) hn h1 (l := .bool e) trivial r1; exact (LReps.ty (us := [_]) (ks := [k]) (cs := [_]) ⟨this, trivial⟩).1
      | arr t e => have := Lf.rep (P := P) (w := w) (O := O) hn h1 (l := .arr t e) ho1 r1; exact (LReps.ty (us := [_]) (ks := [k]) (cs := [_]) ⟨this, trivial⟩).1
      | clo e => have := Lf.rep (P := P) (w := w) (O := O) hn h1 (l := .clo e) ho1 r1; exact (LReps.ty (us := [_]) (ks := [k]) (cs := [_]) ⟨this, trivial⟩).1
      | _ => cases h1
    · cases hk
theorem LRep.weaken {P : Program} {w : World} {O O' : Nat → Nat → Prop} (hh : ∀ b o, O' b o → O b o) {k : Lk} {u : Value} {c : C} (h : LRep P w O k u c) : LRep P w O' k u c := by
  refine ⟨h.1, ?_⟩
  have h2 := h.2
  cases k with
  | int => exact h2
  | bool => exact h2
  | arr t => exact ⟨h2.1, h2.2.anti hh⟩
  | vec t => exact ⟨h2.1, h2.2.anti hh⟩
  | opq => exact h2
theorem LReps.weaken {P : Program} {w : World} {O O' : Nat → Nat → Prop} (hh : ∀ b o, O' b o → O b o) : ∀ {ks : List Lk} {us : List Value} {cs : List C}, LReps P w O ks us cs → LReps P w O' ks us cs
  | [], [], [], _ => trivial
  | _ :: _, _ :: _, _ :: _, h => ⟨h.1.weaken hh, h.2.weaken hh⟩
  | [], [], _ :: _, h => h.elim
  | [], _ :: _, _, h => h.elim
  | _ :: _, [], _, h => h.elim
  | _ :: _, _ :: _, [], h => h.elim
theorem cells_rep {P : Program} {w : World} {O : Nat → Nat → Prop} {Γ : Env} {bd : Bds} (hn : Num bd Γ.ρ) {mem : Mem} {old : Option Nat} : ∀ {args : List S0} {ss : List Sh0}, shapes mem args = some ss → (∀ s ∈ args, ∀ l ∈ s.cells, l.okR P w O Γ) →
    (∀ b mb, S0.lf (.ptr b 0) ∈ args → look mem b = some mb → Blk w (Γ.blk b) mb.1 (dens Γ mb.2) ∧ (∀ l ∈ mb.2, l.okR P w (fun x o => O x o ∨ some (Γ.blk b) = some x) Γ) ∧ match old with | none => ∀ o, O (Γ.blk b) o | some n => n ≤ Γ.blk b) →
    Obs Γ.ρ (rngL bd (cellsOf mem args)) → Reps P w O old ss (args.map (S0.den Γ)) (cs_ Γ.ρ (cellsOf mem args))
  | [], ss, hs, _, _, _ => by simp [shapes] at hs; subst hs; rfl
  | s :: args, ss, hs, ho, hm, hr => by
    simp only [shapes] at hs
    split at hs
    · rename_i h hss h1 h2
      cases hs
      have hcell : cellsOf mem (s :: args) = s.cellsM mem ++ cellsOf mem args := by simp [cellsOf]
      rw [hcell] at hr ⊢
      obtain ⟨r1, r2⟩ := rngL_app hr
      refine ⟨cs_ Γ.ρ (s.cellsM mem), cs_ Γ.ρ (cellsOf mem args), by simp [cs_], ?_, cells_rep hn h2 (fun x hx => ho x (by simp [hx])) (fun b mb hb => hm b mb (by simp [hb])) r2⟩
      have hso := ho s (by simp)
      have plain : s.shapeM mem = s.shape → s.cellsM mem = s.cells → Rep0 P w O old h (s.den Γ) (cs_ Γ.ρ (s.cellsM mem)) := by
        intro e1 e2
        rw [e1] at h1
        rw [e2] at r1 ⊢
        cases s with
        | lf l =>
          simp only [S0.shape, Option.map_eq_some_iff] at h1
          obtain ⟨k, hk, rfl⟩ := h1
          exact ⟨_, rfl, Lf.rep hn hk (hso l (by simp [S0.cells])) r1⟩
        | agg ls =>
          simp only [S0.shape, Option.map_eq_some_iff] at h1
          obtain ⟨k, hk, rfl⟩ := h1
          exact ⟨_, rfl, Ls_rep hn hk hso r1⟩
      by_cases hp : ∃ b, s = .lf (.ptr b 0)
      · obtain ⟨b, rfl⟩ := hp
        simp only [S0.shapeM] at h1
        split at h1
        · rename_i mb hmb
          simp only [Option.map_eq_some_iff] at h1
          obtain ⟨ks, hks, rfl⟩ := h1
          obtain ⟨m1, m2, m3⟩ := hm b mb (by simp) hmb
          have hc : (S0.lf (.ptr b 0)).cellsM mem = mb.2 := by simp only [S0.cellsM, hmb]
          rw [hc] at r1 ⊢
          exact ⟨Γ.blk b, mb.2.map (Lf.den Γ), rfl, m1, m3, Ls_rep hn hks m2 r1⟩
        · cases h1
      · refine plain ?_ ?_
        · unfold S0.shapeM; split
          · exact absurd ⟨_, rfl⟩ hp
          · rfl
        · unfold S0.cellsM; split
          · exact absurd ⟨_, rfl⟩ hp
          · rfl
    · cases hs

/-! What comes back -/
theorem Lf.of_rep {P : Program} {w : World} {O : Nat → Nat → Prop} {Γ : Env} {k : Lk} {u : Value} {c : C} (h : LRep P w O k u c) {i : Nat} (hi : at_ Γ.ρ i = c) : (Lf.ofKind k i).den Γ = u ∧ (Lf.ofKind k i).ok P w O Γ := by
  cases k with
  | int => obtain ⟨n, rfl, rfl⟩ := h.2; exact ⟨by simp [Lf.ofKind, Lf.den, E.den_var, hi, C.int], trivial⟩
  | bool => obtain ⟨n, rfl, rfl⟩ := h.2; exact ⟨by simp [Lf.ofKind, Lf.den, B.den, E.ev, hi, C.bool], trivial⟩
  | arr t => obtain ⟨h1, h2⟩ := h.2; exact ⟨by simp [Lf.ofKind, Lf.den, E.ev, hi, h1], by simp only [Lf.ofKind, Lf.ok, E.ev, hi]; exact h2⟩
  | vec t => obtain ⟨h1, h2⟩ := h.2; exact ⟨by simp [Lf.ofKind, Lf.den, hi, h1], by simp only [Lf.ofKind, Lf.ok, hi, ← h1]; obtain ⟨a, cap, e⟩ := h2.slice; exact ⟨a, _, cap, e⟩⟩
  | opq => obtain ⟨h1, h2⟩ := h.2; rw [h1] at hi; exact ⟨by simp [Lf.ofKind, Lf.den, hi, C.loc], _, hi, h2⟩
theorem freshL_rep {P : Program} {w : World} {O : Nat → Nat → Prop} {Γ : Env} : ∀ {ks : List Lk} {us : List Value} {cs : List C}, LReps P w O ks us cs → ∀ i, (∀ j c, cs[j]? = some c → at_ Γ.ρ (i + j) = c) →
    (freshL ks i).map (Lf.den Γ) = us ∧ ∀ l ∈ freshL ks i, l.ok P w O Γ
  | [], [], [], _, i, _ => ⟨rfl, fun l hl => by cases hl⟩
  | k :: ks, u :: us, c :: cs, h, i, hi => by
    obtain ⟨h1, h2⟩ := Lf.of_rep (i := i) h.1 (hi 0 c (by simp))
    obtain ⟨h3, h4⟩ := freshL_rep h.2 (i + 1) (fun j c hj => by have := hi (j + 1) c (by simpa using hj); rwa [show i + 1 + j = i + (j + 1) by omega])
    refine ⟨by simp [freshL, h1, h3], fun l hl => ?_⟩
    rcases List.mem_cons.1 hl with rfl | hl
    · exact h2
    · exact h4 l hl
  | [], [], _ :: _, h, _, _ => h.elim
  | [], _ :: _, _, h, _, _ => h.elim
  | _ :: _, [], _, h, _, _ => h.elim
  | _ :: _, _ :: _, [], h, _, _ => h.elim
theorem freshS_rep {P : Program} {w : World} {O : Nat → Nat → Prop} {Γ : Env} {nb : Nat} {old : Option Nat} : ∀ {ss : List Sh0} {vs : List Value} {cs : List C}, Reps P w O old ss vs cs → (∀ b, IsBox ss vs b → Γ.blk nb = b) → ∀ i, (∀ j c, cs[j]? = some c → at_ Γ.ρ (i + j) = c) →
    (freshS nb ss i).map (S0.den Γ) = vs ∧ ∀ s ∈ freshS nb ss i, s.ok P w O Γ
  | [], [], cs, h, _, i, _ => ⟨rfl, fun l hl => by cases hl⟩
  | s :: ss, v :: vs, cs, h, hbx, i, hi => by
    obtain ⟨c1, c2, rfl, h1, h2⟩ := h
    have hlen : c1.length = s.kinds.length := h1.ty.len
    obtain ⟨h3, h4⟩ := freshS_rep h2 (fun b hb => hbx b (by cases s <;> first | exact hb | exact .inr hb)) (i + s.kinds.length) (fun j c hj => by
      have := hi (c1.length + j) c (by rw [List.getElem?_append_right (by omega)]; simpa using hj)
      rwa [← hlen, Nat.add_assoc])
    have hi1 : ∀ j c, c1[j]? = some c → at_ Γ.ρ (i + j) = c := fun j c hj => hi j c (by
      have : j < c1.length := by
        rcases Nat.lt_or_ge j c1.length with h' | h'
        · exact h'
        · rw [List.getElem?_eq_none h'] at hj; cases hj
      rw [List.getElem?_append_left this]; exact hj)
    have key : (s.fresh nb i).den Γ = v ∧ (s.fresh nb i).ok P w O Γ := by
      cases s with
      | lf k =>
        obtain ⟨c, rfl, hc⟩ := h1
        obtain ⟨h5, h6⟩ := Lf.of_rep hc (i := i) (hi1 0 c (by simp))
        exact ⟨h5, fun l hl => by simp [Sh0.fresh, S0.cells] at hl; subst hl; exact h6⟩
      | agg l =>
        obtain ⟨us, rfl, hc⟩ := h1
        obtain ⟨h5, h6⟩ := freshL_rep hc i hi1
        exact ⟨by simp only [Sh0.fresh, S0.den, dens, h5], h6⟩
      | box t l =>
        obtain ⟨b, us, rfl, -, -, -⟩ := h1
        have := hbx b (.inl rfl)
        exact ⟨by simp only [Sh0.fresh, S0.den, Lf.den, this], fun l hl => by simp [Sh0.fresh, S0.cells] at hl; subst hl; trivial⟩
    refine ⟨by simp [freshS, key.1, h3], fun x hx => ?_⟩
    rcases List.mem_cons.1 hx with rfl | hx
    · exact key.2
    · exact h4 x hx
  | [], _ :: _, _, h, _, _, _ => h.elim
  | _ :: _, [], _, h, _, _, _ => h.elim
theorem at_app {ρ cs : List C} {j : Nat} {c : C} (h : cs[j]? = some c) : at_ (ρ ++ cs) (ρ.length + j) = c := by
  unfold at_
  rw [List.getD_eq_getElem?_getD, List.getElem?_append_right (by omega)]
  simp [h]
theorem svOf_rep {P : Program} {w : World} {O : Nat → Nat → Prop} {Γ : Env} {nb n : Nat} {ss : List Sh0} {v : Value} {cs : List C} (h : Res P w O n ss v cs) (hbx : ∀ vs, Reps P w (fun b o => O b o ∨ b ∈ vecB (kindsOf ss) cs) (some n) ss vs cs → v = (match vs with | [x] => x | _ => .tuple vs.toArray) → ∀ b, IsBox ss vs b → Γ.blk nb = b)
    {i : Nat} (hi : ∀ j c, cs[j]? = some c → at_ Γ.ρ (i + j) = c) :
    (svOf (freshS nb ss i)).den Γ = v ∧ (svOf (freshS nb ss i)).ok P w (fun b o => O b o ∨ b ∈ vecB (kindsOf ss) cs) Γ := by
  obtain ⟨vs, hv, hr, -, -⟩ := h
  obtain ⟨h1, h2⟩ := freshS_rep (Γ := Γ) (nb := nb) hr (hbx vs hr hv) i hi
  subst hv
  match hss : freshS nb ss i, vs, h1 with
  | [], [], _ => exact ⟨rfl, fun s hs => by cases hs⟩
  | [s], [v], h1 =>
    simp at h1
    rw [hss] at h2
    exact ⟨h1, h2 s (by simp)⟩
  | s :: t :: l, v :: u :: m, h1 =>
    rw [hss] at h2
    refine ⟨?_, h2⟩
    simp only [svOf, SV.den]
    rw [h1]

/-! Pointers among the arguments -/
theorem shapes_noBox {mem : Mem} : ∀ {args : List S0} {ss : List Sh0}, shapes mem args = some ss → ss.all (fun s => !s.isBox) = true → boxOf args = none ∧ boxKinds ss = [] ∧ (∀ vs i, ¬ IsBox ss vs i) ∧ ∀ b, S0.lf (.ptr b 0) ∉ args
  | [], ss, h, _ => by simp [shapes] at h; subst h; exact ⟨rfl, rfl, fun vs i hi => (by cases vs <;> exact hi.elim), fun b hb => by cases hb⟩
  | s :: args, ss, h, hb => by
    simp only [shapes] at h
    split at h
    · rename_i sh hss h1 h2
      cases h
      simp only [List.all_cons, Bool.and_eq_true] at hb
      obtain ⟨i1, i2, i3, i4⟩ := shapes_noBox h2 hb.2
      have hnp : ∀ b, s ≠ .lf (.ptr b 0) := by
        rintro b rfl
        simp only [S0.shapeM] at h1
        split at h1
        · simp only [Option.map_eq_some_iff] at h1
          obtain ⟨ks, -, rfl⟩ := h1
          cases hb.1
        · cases h1
      refine ⟨?_, ?_, ?_, ?_⟩
      · unfold boxOf
        split
        · rename_i e; cases e
        · rename_i b l e; cases e; exact absurd rfl (hnp b)
        · rename_i e; cases e; exact i1
      · cases sh with
        | box t l => cases hb.1
        | _ => exact i2
      · intro vs i hi
        cases sh with
        | box t l => cases hb.1
        | _ => cases vs with
          | nil => exact hi.elim
          | cons v vs => exact i3 vs i hi
      · intro b hm
        rcases List.mem_cons.1 hm with e | hm
        · exact hnp b e.symm
        · exact i4 b hm
    · cases h
theorem outs_noBox {P : Program} {w : World} {O : Nat → Nat → Prop} : ∀ {ss : List Sh0} {vs : List Value} {outs : List C}, ss.all (fun s => !s.isBox) = true → Outs P w O ss vs outs → outs = []
  | [], vs, outs, _, h => by cases vs <;> exact h
  | s :: ss, [], outs, hb, h => by cases s <;> exact h
  | s :: ss, v :: vs, outs, hb, h => by
    simp only [List.all_cons, Bool.and_eq_true] at hb
    cases s with
    | box t l => cases hb.1
    | lf k => exact outs_noBox (ss := ss) (vs := vs) hb.2 h
    | agg l => exact outs_noBox (ss := ss) (vs := vs) hb.2 h
/-- One pointer among the arguments, or none. -/
theorem outs_one {P : Program} {w' : World} {O : Nat → Nat → Prop} {Γ : Env} {mem : Mem} : ∀ {args : List S0} {ss : List Sh0} {outs : List C}, shapes mem args = some ss → (ss.filter Sh0.isBox).length ≤ 1 → Outs P w' O ss (args.map (S0.den Γ)) outs →
    (ss.all (fun s => !s.isBox) = true) ∨
    (∃ b mb us, boxOf args = some b ∧ look mem b = some mb ∧ kindsL mb.2 = some (boxKinds ss) ∧ Blk w' (Γ.blk b) mb.1 us.toArray ∧ LReps P w' O (boxKinds ss) us outs ∧ (∀ i, IsBox ss (args.map (S0.den Γ)) i → i = Γ.blk b) ∧ ∀ c, S0.lf (.ptr c 0) ∈ args → c = b)
  | [], ss, outs, h, _, _ => by simp [shapes] at h; subst h; exact .inl rfl
  | s :: args, ss, outs, h, hl, ho => by
    simp only [shapes] at h
    split at h
    · rename_i sh hss h1 h2
      cases h
      by_cases hp : ∃ b, s = .lf (.ptr b 0)
      · obtain ⟨b, rfl⟩ := hp
        right
        simp only [S0.shapeM] at h1
        split at h1
        · rename_i mb hmb
          simp only [Option.map_eq_some_iff] at h1
          obtain ⟨ks, hks, rfl⟩ := h1
          have hno : hss.all (fun s => !s.isBox) = true := by
            rw [List.all_eq_true]
            intro x hx
            simp only [List.filter_cons, Sh0.isBox, if_true, List.length_cons] at hl
            have h0 : (hss.filter Sh0.isBox) = [] := List.eq_nil_of_length_eq_zero (by omega)
            cases hxb : x.isBox with
            | false => rfl
            | true => have := List.mem_filter.2 ⟨hx, hxb⟩; rw [h0] at this; cases this
          obtain ⟨i1, i2, i3, i4⟩ := shapes_noBox h2 hno
          obtain ⟨c1, c2, b', us, rfl, e, hblk, hrep, hrest⟩ := ho
          have hc2 := outs_noBox hno hrest
          subst hc2
          have hb' : b' = Γ.blk b := by cases e; rfl
          subst hb'
          have hbk : boxKinds (.box mb.1 ks :: hss) = ks := by
            have : boxKinds (.box mb.1 ks :: hss) = ks ++ boxKinds hss := rfl
            rw [this, i2, List.append_nil]
          refine ⟨b, mb, us, rfl, hmb, by rw [hbk]; exact hks, hblk, by rw [hbk, List.append_nil]; exact hrep, ?_, ?_⟩
          · rintro i (hi | hi)
            · cases hi; rfl
            · exact absurd hi (i3 _ i)
          · intro c hc
            rcases List.mem_cons.1 hc with e | hc
            · cases e; rfl
            · exact absurd hc (i4 c)
        · cases h1
      · have hsh : sh.isBox = false := by
          have : s.shapeM mem = s.shape := by
            unfold S0.shapeM; split
            · exact absurd ⟨_, rfl⟩ hp
            · rfl
          rw [this] at h1
          cases s with
          | lf l => simp only [S0.shape, Option.map_eq_some_iff] at h1; obtain ⟨k, -, rfl⟩ := h1; rfl
          | agg l => simp only [S0.shape, Option.map_eq_some_iff] at h1; obtain ⟨k, -, rfl⟩ := h1; rfl
        have hbo : boxOf (s :: args) = boxOf args := by
          unfold boxOf
          split
          · rename_i e; cases e
          · rename_i b l e; cases e; exact absurd ⟨b, rfl⟩ hp
          · rename_i e; cases e; conv => lhs; unfold boxOf
        have ho' : Outs P w' O hss (args.map (S0.den Γ)) outs := by cases sh <;> first | exact ho | cases hsh
        rcases outs_one h2 (by simpa [List.filter_cons, hsh] using hl) ho' with h3 | ⟨b, mb, us, g1, g2, g3, g4, g5, g6, g7⟩
        · left; simp [hsh, h3]
        · right
          have hbk : boxKinds (sh :: hss) = boxKinds hss := by cases sh <;> first | rfl | cases hsh
          refine ⟨b, mb, us, by rw [hbo]; exact g1, g2, by rw [hbk]; exact g3, g4, by rw [hbk]; exact g5, fun i hi => g6 i (by cases sh <;> first | exact hi | cases hsh), fun c hc => ?_⟩
          rcases List.mem_cons.1 hc with e | hc
          · exact absurd ⟨c, e.symm⟩ hp
          · exact g7 c hc
    · cases h
end Go.Proofs.Ytbgofenplhdllaa
