/- Texts laid into one: M Nu O Ea Eb Ec Ed Ee Ef Eg. -/
import Derived.Below
import Derived.OneCell
import Derived.Deep.Draws
import Derived.Test.YtbgofenplhdllaaProg
import Derived.ProofKit
import Derived.OpenShut
import Derived.Deep.Slices
import Derived.KernelRfl
import Derived.Calls
import Derived.Tactics
import Derived.Orders
import Derived.Laws.CopyRow
import Derived.Laws.Build
import Derived.Laws.StructEq
import Derived.Laws.Tables
import Derived.IntWalk
import Derived.Laws.Slices
/- Words for memory: a block that is known whole, and what keeps it. -/
namespace Go.Proofs.Ytbgofenplhdllaa
open Go.RowKit

/-- Block b is just the cells cs of element type t; none may not be written. -/
def Blk (w : World) (b : Nat) (t : TypeId) (cs : Array Value) : Prop := w.heap[b]? = some (.cells cs t (0, 0))

section
variable {w w' : World} {b : Nat} {t : TypeId} {cs : Array Value}
theorem Blk.lt (h : Blk w b t cs) : b < w.heap.size := lt_of_block h
theorem Blk.cell (h : Blk w b t cs) (i : Nat) {v : Value} (hv : cs[i]? = some v) : w.cell? ⟨b, i, none⟩ = some v := by
  unfold Blk at h
  simp [World.cell?, h, hv]
theorem Blk.froz (h : Blk w b t cs) (i : Nat) : w.frozen? ⟨b, i, none⟩ = false := by
  unfold Blk at h
  simp [World.frozen?, h]
theorem Blk.new (w : World) (t : TypeId) (cs : Array Value) : Blk (w.alloc (.cells cs t)) w.heap.size t cs := by
  unfold Blk
  show (w.heap.push _)[w.heap.size]? = _
  simp
theorem Blk.new' {w : World} {n : Nat} {t : TypeId} {cs : Array Value} (h : w.heap.size = n) : Blk (w.alloc (.cells cs t)) n t cs := by rw [← h]; exact Blk.new w t cs
theorem Blk.drew (h : Blk w b t cs) : Blk w.drew b t cs := h
theorem Blk.drewN (h : Blk w b t cs) (n : Nat) : Blk (w.drewN n) b t cs := h
theorem Blk.alloc (h : Blk w b t cs) (o : Obj) : Blk (w.alloc o) b t cs := (Below.heap_alloc w o b h.lt).trans h
theorem Blk.put (h : Blk w b t cs) (i : Nat) (u : Value) : Blk (w.setCell ⟨b, i, none⟩ u) b t (cs.setIfInBounds i u) := by
  unfold Blk at h ⊢
  simp [World.setCell, Array.getElem?_modify, h]
theorem Blk.far (h : Blk w b t cs) {p : Addr} (hp : b ≠ p.block) (u : Value) : Blk (w.setCell p u) b t cs := (Below.heap_setCell w p u b hp).trans h
theorem Blk.below (h : Blk w b t cs) (hb : Below w.heap.size w w') : Blk w' b t cs := (hb.block b h.lt).trans h
end

theorem cell_put_same (w : World) (a : Addr) (v : Value) : (w.setCell a v).cell? a = (w.cell? a).map fun _ => v := by
  cases h : w.cell? a with
  | some u => exact World.cell?_setCell_same w a v h
  | none =>
    cases h2 : (w.setCell a v).cell? a with
    | none => rfl
    | some u =>
      exfalso
      simp only [World.cell?, World.setCell, Array.getElem?_modify] at h h2
      simp only [if_true] at h2
      cases hh : w.heap[a.block]? with
      | none => simp [hh] at h2
      | some o =>
        cases o <;> simp [hh] at h h2
        all_goals (cases hs : a.spot <;> simp_all)

theorem bstep {w w1 w2 : World} (h : Below w.heap.size w w1) (h2 : Below w1.heap.size w1 w2) : Below w.heap.size w w2 := h.trans (h2.mono h.size)
theorem balloc {w w1 : World} {o : Obj} (h : Below w.heap.size w w1) : Below w.heap.size w (w1.alloc o) := h.alloc h.size o
theorem bdrew {w w1 : World} (h : Below w.heap.size w w1) : Below w.heap.size w w1.drew := h.drew
theorem bdrewN {w w1 : World} (h : Below w.heap.size w w1) (n : Nat) : Below w.heap.size w (w1.drewN n) := ⟨h.os, h.tape, h.output, h.size, h.block⟩
theorem bset {w w1 : World} {p : Addr} {u : Value} (h : Below w.heap.size w w1) (hp : w.heap.size ≤ p.block) : Below w.heap.size w (w1.setCell p u) := h.setCell hp u
end Go.Proofs.Ytbgofenplhdllaa
/- Numbers in a slice. -/
namespace Go.Proofs.Ytbgofenplhdllaa
open Go.RowKit
end Go.Proofs.Ytbgofenplhdllaa
/- Arguments opened: structs of integers, slices of integers, slices of structs of integers. -/
namespace Go.Proofs.Ytbgofenplhdllaa
open Go.ChangeShapes Go.WideShapes Go.RowKit Go.Deep

section
variable {H : Type} {enc : TypeId × Value → H} {P : Program} {w : World} {base : Nat} {spare : Nat → Bool} {held : Bool}
end
theorem own : ownKnob Try.prog.godebug = none := by kernel_rfl
end Go.Proofs.Ytbgofenplhdllaa
/- The engine, part 1: pure data, expressions, values, states. -/
namespace Go.Proofs.Ytbgofenplhdllaa
set_option linter.unusedSimpArgs false
open Go.RowKit

/-- Pure data: what a cell holds; a slice by its value and by its rows. -/
inductive C where
  | i (n : Int)
  | b (t : Bool)
  | s (v : Value) (rows : List (List C))
  deriving Inhabited
def C.int : C → Int | .i n => n | _ => 0
def C.bool : C → Bool | .b t => t | _ => false
def C.rows : C → List (List C) | .s _ r => r | _ => []
def C.loc : C → Value | .s v _ => v | _ => .slice none 0 0
/-- Row i, cell o. -/
def C.at (c : C) (i : Nat) (o : Nat) : C := (c.rows.getD i []).getD o (.i 0)
/-- No slice in it is longer than a slice can be, no number is greater than a number can be. -/
def C.small : Nat → C → Prop
  | _, .i k => -9223372036854775808 ≤ k ∧ k ≤ 9223372036854775807
  | n + 1, .s _ rows => (rows.length : Int) ≤ 9223372036854775807 ∧ ∀ r ∈ rows, ∀ c ∈ r, C.small n c
  | _, _ => True

/-- The value of a variable. -/
def at_ (ρ : List C) (i : Nat) : C := ρ.getD i (.i 0)

inductive E where
  | lit (n : Int)
  | var (i : Nat)
  | add (a b : E)
  | sub (a b : E)
  | mul (a b : E)
  | quo (a b : E)
  | rem (a b : E)
  | max (a b : E)
  | min (a b : E)
  | len (a : E)
  | cell (a x : E) (o : Nat)
  /-- No rows: the nil slice. -/
  | nil
  /-- A slice that lies where the first one does and holds what the second one does. -/
  | join (l r : E)
  /-- A part of a slice; a row has so many cells. -/
  | sub3 (a lo hi : E) (sz : Nat)
  /-- A number, wrapped. -/
  | wr (a : E)
  deriving DecidableEq, Repr, Inhabited

/-- Where a part of a slice lies. -/
def partLoc (v : Value) (lo hi sz : Nat) : Value :=
  match v with
  | .slice a _ cap => .slice (if cap = lo then a else a.map (·.add (lo * sz))) (hi - lo) (cap - lo)
  | v => v
def E.ev (ρ : List C) : E → C
  | .lit n => .i n
  | .var i => at_ ρ i
  | .add a b => .i ((a.ev ρ).int + (b.ev ρ).int)
  | .sub a b => .i ((a.ev ρ).int - (b.ev ρ).int)
  | .mul a b => .i ((a.ev ρ).int * (b.ev ρ).int)
  | .quo a b => .i ((a.ev ρ).int.tdiv (b.ev ρ).int)
  | .rem a b => .i ((a.ev ρ).int.tmod (b.ev ρ).int)
  | .max a b => .i (Max.max (a.ev ρ).int (b.ev ρ).int)
  | .min a b => .i (Min.min (a.ev ρ).int (b.ev ρ).int)
  | .len a => .i ((a.ev ρ).rows.length : Int)
  | .cell a x o => (a.ev ρ).at (x.ev ρ).int.toNat o
  | .nil => .s (.slice none 0 0) []
  | .join l r => .s (l.ev ρ).loc (r.ev ρ).rows
  | .wr a => .i (IntKind.i64.wrap (a.ev ρ).int)
  | .sub3 a lo hi sz => .s (partLoc (a.ev ρ).loc (lo.ev ρ).int.toNat (hi.ev ρ).int.toNat sz) (((a.ev ρ).rows.take (hi.ev ρ).int.toNat).drop (lo.ev ρ).int.toNat)
def E.den (ρ : List C) (e : E) : Int := (e.ev ρ).int
section
variable (ρ : List C) (a b : E)
theorem E.den_lit (n : Int) : (E.lit n).den ρ = n := rfl
theorem E.den_var (i : Nat) : (E.var i).den ρ = (at_ ρ i).int := rfl
theorem E.den_add : (E.add a b).den ρ = a.den ρ + b.den ρ := rfl
theorem E.den_sub : (E.sub a b).den ρ = a.den ρ - b.den ρ := rfl
theorem E.den_mul : (E.mul a b).den ρ = a.den ρ * b.den ρ := rfl
theorem E.den_quo : (E.quo a b).den ρ = (a.den ρ).tdiv (b.den ρ) := rfl
theorem E.den_rem : (E.rem a b).den ρ = (a.den ρ).tmod (b.den ρ) := rfl
theorem E.den_max : (E.max a b).den ρ = Max.max (a.den ρ) (b.den ρ) := rfl
theorem E.den_min : (E.min a b).den ρ = Min.min (a.den ρ) (b.den ρ) := rfl
theorem E.den_len : (E.len a).den ρ = ((a.ev ρ).rows.length : Int) := rfl
theorem E.den_wr : (E.wr a).den ρ = IntKind.i64.wrap (a.den ρ) := rfl
theorem E.den_cell (o : Nat) : (E.cell a b o).den ρ = ((a.ev ρ).at (b.den ρ).toNat o).int := rfl
end

/-- Only variables below n. -/
def E.wf (n : Nat) : E → Bool
  | .lit _ => true
  | .var i => Nat.blt i n
  | .add a b | .sub a b | .mul a b | .quo a b | .rem a b | .max a b | .min a b => a.wf n && b.wf n
  | .len a => a.wf n
  | .cell a x _ => a.wf n && x.wf n
  | .nil => true
  | .join a b => a.wf n && b.wf n
  | .sub3 a b c _ => a.wf n && b.wf n && c.wf n
  | .wr a => a.wf n

inductive Cmp where
  | eq | ne | lt | le
  deriving DecidableEq, Repr, Inhabited
def Cmp.den : Cmp → Int → Int → Bool
  | .eq, a, b => a == b
  | .ne, a, b => a != b
  | .lt, a, b => decide (a < b)
  | .le, a, b => decide (a ≤ b)

inductive B where
  | lit (t : Bool)
  | of (e : E)
  | cmp (c : Cmp) (a b : E)
  | not (a : B)
  | and (a b : B)
  | or (a b : B)
  | beq (a b : B)
  deriving DecidableEq, Repr, Inhabited

def B.den (ρ : List C) : B → Bool
  | .lit t => t
  | .of e => (e.ev ρ).bool
  | .cmp c a b => c.den (a.den ρ) (b.den ρ)
  | .not a => !a.den ρ
  | .and a b => a.den ρ && b.den ρ
  | .or a b => a.den ρ || b.den ρ
  | .beq a b => a.den ρ == b.den ρ

def B.wf (n : Nat) : B → Bool
  | .lit _ => true
  | .of e => e.wf n
  | .cmp _ a b => a.wf n && b.wf n
  | .not a => a.wf n
  | .and a b | .or a b | .beq a b => a.wf n && b.wf n

theorem at_ext {ρ l : List C} {i : Nat} (h : i < ρ.length) : at_ (ρ ++ l) i = at_ ρ i := by
  unfold at_
  rw [List.getD_eq_getElem?_getD, List.getD_eq_getElem?_getD, List.getElem?_append_left h]
theorem E.ev_ext {ρ l : List C} (e : E) (h : e.wf ρ.length = true) : e.ev (ρ ++ l) = e.ev ρ := by
  induction e with
  | lit n => rfl
  | var i => simp only [E.wf, Nat.blt_eq] at h; simp [E.ev, at_ext h]
  | nil => rfl
  | len a ih => simp only [E.wf] at h; simp [E.ev, ih h]
  | wr a ih => simp only [E.wf] at h; simp [E.ev, ih h]
  | add a b iha ihb | sub a b iha ihb | mul a b iha ihb | quo a b iha ihb | rem a b iha ihb | max a b iha ihb | min a b iha ihb | cell a b _ iha ihb | join a b iha ihb =>
    simp only [E.wf, Bool.and_eq_true] at h; simp [E.ev, iha h.1, ihb h.2]
  | sub3 a b c _ iha ihb ihc => simp only [E.wf, Bool.and_eq_true] at h; simp [E.ev, iha h.1.1, ihb h.1.2, ihc h.2]
theorem E.den_ext {ρ l : List C} (e : E) (h : e.wf ρ.length = true) : e.den (ρ ++ l) = e.den ρ := by
  unfold E.den; rw [E.ev_ext e h]
theorem B.den_ext {ρ l : List C} (e : B) (h : e.wf ρ.length = true) : e.den (ρ ++ l) = e.den ρ := by
  induction e with
  | lit n => rfl
  | of e => simp only [B.wf] at h; simp [B.den, E.ev_ext e h]
  | cmp c a b => simp only [B.wf, Bool.and_eq_true] at h; simp [B.den, E.den_ext _ h.1, E.den_ext _ h.2]
  | not a ih => simp only [B.wf] at h; simp [B.den, ih h]
  | and a b iha ihb | or a b iha ihb | beq a b iha ihb => simp only [B.wf, Bool.and_eq_true] at h; simp [B.den, iha h.1, ihb h.2]

/-! Intervals -/
abbrev Bds := List (Nat × Int × Int)
def Bds.get : Bds → Nat → Option (Int × Int)
  | [], _ => none
  | (k, v) :: l, n => if k = n then some v else Bds.get l n
def Bds.ok (bd : Bds) (ρ : List C) : Prop := ∀ x lo hi, (x, lo, hi) ∈ bd → x < ρ.length ∧ lo ≤ (at_ ρ x).int ∧ (at_ ρ x).int ≤ hi
theorem Bds.get_mem {bd : Bds} {x : Nat} {v : Int × Int} (h : bd.get x = some v) : (x, v) ∈ bd := by
  induction bd with
  | nil => cases h
  | cons p l ih =>
    obtain ⟨k, u⟩ := p
    unfold Bds.get at h
    split at h
    · rename_i e; cases h; subst e; exact List.mem_cons_self ..
    · exact List.mem_cons_of_mem _ (ih h)
theorem Bds.ok_ext {bd : Bds} {ρ l : List C} (h : bd.ok ρ) : bd.ok (ρ ++ l) := fun x lo hi hm => by
  obtain ⟨h1, h2, h3⟩ := h x lo hi hm
  rw [at_ext h1]
  exact ⟨by simp; omega, h2, h3⟩

def maxabs (p : Int × Int) : Int := Max.max p.2 (-p.1)
/-- Where a number lies, by what is known of the variables. -/
def E.iv (bd : Bds) : E → Option (Int × Int)
  | .lit n => some (n, n)
  | .var i => match bd.get i with
    | some p => some p
    | none => some (-9223372036854775808, 9223372036854775807)
  | .add a b => match a.iv bd, b.iv bd with
    | some p, some q => some (p.1 + q.1, p.2 + q.2)
    | _, _ => none
  | .sub a b => match a.iv bd, b.iv bd with
    | some p, some q => some (p.1 - q.2, p.2 - q.1)
    | _, _ => none
  | .mul a b => match a.iv bd, b.iv bd with
    | some p, some q => some (Min.min (Min.min (p.1 * q.1) (p.1 * q.2)) (Min.min (p.2 * q.1) (p.2 * q.2)), Max.max (Max.max (p.1 * q.1) (p.1 * q.2)) (Max.max (p.2 * q.1) (p.2 * q.2)))
    | _, _ => none
  | .quo a b => match a.iv bd with
    | some p => match b.iv bd with
      | some q => if 0 ≤ p.1 ∧ 0 ≤ q.1 then some (0, p.2) else some (-maxabs p, maxabs p)
      | none => some (-maxabs p, maxabs p)
    | none => none
  | .rem a b => match a.iv bd, b.iv bd with
    | some p, some q => if 0 ≤ p.1 then (if 1 ≤ q.1 then some (0, Min.min p.2 (q.2 - 1)) else some (0, p.2)) else some (-maxabs p, maxabs p)
    | some p, none => if 0 ≤ p.1 then some (0, p.2) else some (-maxabs p, maxabs p)
    | _, _ => none
  | .max a b => match a.iv bd, b.iv bd with
    | some p, some q => some (Max.max p.1 q.1, Max.max p.2 q.2)
    | _, _ => none
  | .min a b => match a.iv bd, b.iv bd with
    | some p, some q => some (Min.min p.1 q.1, Min.min p.2 q.2)
    | _, _ => none
  | .len _ => some (0, 9223372036854775807)
  | .cell _ _ _ => some (-9223372036854775808, 9223372036854775807)
  | .nil | .join _ _ | .sub3 _ _ _ _ => some (0, 0)
  | .wr _ => some (-9223372036854775808, 9223372036854775807)

theorem mul_corner {x y a b c d : Int} (h1 : a ≤ x) (h2 : x ≤ b) (h3 : c ≤ y) (h4 : y ≤ d) :
    Min.min (Min.min (a * c) (a * d)) (Min.min (b * c) (b * d)) ≤ x * y ∧ x * y ≤ Max.max (Max.max (a * c) (a * d)) (Max.max (b * c) (b * d)) := by
  have lin : ∀ (u v : Int), u ≤ v → ∀ z, (0 ≤ z → u * z ≤ v * z) ∧ (z ≤ 0 → v * z ≤ u * z) := fun u v h z =>
    ⟨fun hz => Int.mul_le_mul_of_nonneg_right h hz, fun hz => Int.mul_le_mul_of_nonpos_right h hz⟩
  have e1 := lin c y h3 a; have e2 := lin y d h4 a; have e3 := lin c y h3 b; have e4 := lin y d h4 b
  have f1 := lin a x h1 y; have f2 := lin x b h2 y
  simp only [Int.mul_comm c a, Int.mul_comm y a, Int.mul_comm d a, Int.mul_comm c b, Int.mul_comm y b, Int.mul_comm d b] at e1 e2 e3 e4
  generalize a * c = ac at *
  generalize a * d = ad at *
  generalize b * c = bc at *
  generalize b * d = bd at *
  generalize a * y = ay at *
  generalize b * y = by_ at *
  generalize x * y = xy at *
  omega
theorem tdiv_abs (x y : Int) {a b : Int} (h1 : a ≤ x) (h2 : x ≤ b) : -Max.max b (-a) ≤ x.tdiv y ∧ x.tdiv y ≤ Max.max b (-a) := by
  have h := Int.natAbs_tdiv_le_natAbs x y
  omega
theorem tmod_abs (x y : Int) {a b : Int} (h1 : a ≤ x) (h2 : x ≤ b) : -Max.max b (-a) ≤ x.tmod y ∧ x.tmod y ≤ Max.max b (-a) := by
  have h : (x.tmod y).natAbs ≤ x.natAbs := by rw [Int.natAbs_tmod]; exact Nat.mod_le ..
  omega

def Smalls (ρ : List C) : Prop := ∀ i n, (at_ ρ i).small n
theorem C.small_zero (m : Nat) : (C.i 0).small m := by cases m <;> simp [C.small]
theorem C.small_at {c : C} (h : ∀ n, c.small n) (i o n : Nat) : (c.at i o).small n := by
  unfold C.at
  cases c with
  | i k => simp [C.rows, C.small_zero]
  | b k => simp [C.rows, C.small_zero]
  | s v rows =>
    have h1 := (h (n + 1)).2
    simp only [C.rows, List.getD_eq_getElem?_getD]
    cases hr : rows[i]? with
    | none => simp [C.small_zero]
    | some r =>
      simp only [Option.getD_some]
      cases hc : r[o]? with
      | none => simp [C.small_zero]
      | some c => exact h1 r (List.mem_of_getElem? hr) c (List.mem_of_getElem? hc)
theorem C.at_norows {c : C} (h : c.rows = []) (i o : Nat) : c.at i o = .i 0 := by simp [C.at, h]
theorem C.small_rows {c : C} (h : (∀ n, c.small n) ∨ c.rows = []) {l : List (List C)} (hl : l.length ≤ c.rows.length) (hs : ∀ r ∈ l, r ∈ c.rows) (v : Value) : ∀ n, (C.s v l).small n := by
  intro n
  rcases h with h | h
  · cases c with
    | s u rows =>
      cases n with
      | zero => trivial
      | succ n =>
        have h1 := h (n + 1)
        simp only [C.rows] at hl hs
        exact ⟨by have := h1.1; omega, fun r hr x hx => h1.2 r (hs r hr) x hx⟩
    | i k => simp [C.rows] at hl; subst hl; cases n <;> simp [C.small]
    | b k => simp [C.rows] at hl; subst hl; cases n <;> simp [C.small]
  · rw [h] at hl; simp at hl; subst hl; cases n <;> simp [C.small]
theorem E.small {ρ : List C} (h : Smalls ρ) (e : E) : (∀ n, (e.ev ρ).small n) ∨ (e.ev ρ).rows = [] := by
  induction e with
  | var i => exact .inl (h i)
  | cell a x o iha _ =>
    rcases iha with h1 | h1
    · exact .inl (fun n => C.small_at h1 _ _ _)
    · exact .inl (fun n => by simp only [E.ev, C.at_norows h1]; exact C.small_zero n)
  | join l r _ ih => exact .inl (C.small_rows ih (Nat.le_refl _) (fun _ h => h) _)
  | sub3 a lo hi sz ih _ _ => exact .inl (C.small_rows ih (by simp; omega) (fun _ h => List.mem_of_mem_take (List.mem_of_mem_drop h)) _)
  | _ => exact .inr rfl
theorem C.rows_le {c : C} (h : ∀ n, c.small n) : (c.rows.length : Int) ≤ 9223372036854775807 := by
  cases c with
  | s v rows => exact (h 1).1
  | _ => simp [C.rows]
theorem C.int_le {c : C} (h : ∀ n, c.small n) : -9223372036854775808 ≤ c.int ∧ c.int ≤ 9223372036854775807 := by
  cases c with
  | i k => exact h 0
  | _ => simp [C.int]

theorem E.iv_ok {bd : Bds} {ρ : List C} (hb : bd.ok ρ) (hl : Smalls ρ) (e : E) : ∀ p, e.iv bd = some p → p.1 ≤ e.den ρ ∧ e.den ρ ≤ p.2 := by
  induction e with
  | lit n => intro p h; cases h; exact ⟨Int.le_refl _, Int.le_refl _⟩
  | var i =>
    intro p h
    simp only [E.iv] at h
    split at h
    · rename_i q hq; cases h; exact (hb i p.1 p.2 (Bds.get_mem hq)).2
    · cases h; exact C.int_le (hl i)
  | len a => intro p h; cases h; exact ⟨Int.natCast_nonneg _, by
      rcases E.small hl a with h1 | h1
      · exact C.rows_le h1
      · simp only [E.den_len, h1]; simp⟩
  | cell a x o =>
    intro p h
    cases h
    rcases E.small hl (.cell a x o) with h1 | h1
    · exact C.int_le h1
    · rcases E.small hl a with h2 | h2
      · exact C.int_le (C.small_at h2 _ _)
      · simp only [E.den_cell, C.at_norows h2]; simp [C.int]
  | wr a _ => intro p h; cases h; simp only [E.den, E.ev, C.int]; rw [IntKind.wrap_i64]; omega
  | nil => intro p h; cases h; simp [E.den, E.ev, C.int]
  | join l r _ _ => intro p h; cases h; simp [E.den, E.ev, C.int]
  | sub3 a lo hi sz _ _ _ => intro p h; cases h; simp [E.den, E.ev, C.int]
  | add a b iha ihb =>
    intro p h
    simp only [E.iv] at h
    split at h
    · rename_i q r h1 h2; cases h; have := iha _ h1; have := ihb _ h2; simp only [E.den_add, E.den_sub, E.den_max, E.den_min]; omega
    · cases h
  | sub a b iha ihb =>
    intro p h
    simp only [E.iv] at h
    split at h
    · rename_i q r h1 h2; cases h; have := iha _ h1; have := ihb _ h2; simp only [E.den_add, E.den_sub, E.den_max, E.den_min]; omega
    · cases h
  | mul a b iha ihb =>
    intro p h
    simp only [E.iv] at h
    split at h
    · rename_i q r h1 h2
      cases h
      have i1 := iha _ h1; have i2 := ihb _ h2
      exact mul_corner i1.1 i1.2 i2.1 i2.2
    · cases h
  | quo a b iha ihb =>
    intro p h
    simp only [E.iv] at h
    split at h
    · rename_i q h1
      have i1 := iha _ h1
      have g : ∀ y, -maxabs q ≤ (a.den ρ).tdiv y ∧ (a.den ρ).tdiv y ≤ maxabs q := fun y => tdiv_abs _ y i1.1 i1.2
      split at h
      · rename_i r h2
        have i2 := ihb _ h2
        split at h
        · rename_i hc
          cases h
          have := Int.tdiv_nonneg (a := a.den ρ) (b := b.den ρ) (by omega) (by omega)
          have h5 := Int.natAbs_tdiv_le_natAbs (a.den ρ) (b.den ρ)
          simp only [E.den_quo, E.den_rem]
          omega
        · cases h; exact g _
      · cases h; exact g _
    · cases h
  | rem a b iha ihb =>
    intro p h
    simp only [E.iv] at h
    have pos : ∀ q : Int × Int, a.iv bd = some q → 0 ≤ q.1 → 0 ≤ (a.den ρ).tmod (b.den ρ) ∧ (a.den ρ).tmod (b.den ρ) ≤ q.2 := fun q h1 hq => by
      have i1 := iha _ h1
      have := Int.tmod_nonneg (b.den ρ) (a := a.den ρ) (by omega)
      have h5 : ((a.den ρ).tmod (b.den ρ)).natAbs ≤ (a.den ρ).natAbs := by rw [Int.natAbs_tmod]; exact Nat.mod_le ..
      omega
    split at h
    · rename_i q r h1 h2
      have i1 := iha _ h1; have i2 := ihb _ h2
      split at h
      · rename_i hq
        have := pos _ h1 hq
        split at h
        · rename_i hr
          cases h
          have := Int.tmod_lt_of_pos (a.den ρ) (b := b.den ρ) (by omega)
          simp only [E.den_quo, E.den_rem]
          omega
        · cases h; exact this
      · cases h; exact tmod_abs _ _ i1.1 i1.2
    · rename_i q h1 h2
      have i1 := iha _ h1
      split at h
      · rename_i hq; cases h; exact pos q h1 hq
      · cases h; exact tmod_abs _ _ i1.1 i1.2
    · cases h
  | max a b iha ihb =>
    intro p h
    simp only [E.iv] at h
    split at h
    · rename_i q r h1 h2; cases h; have := iha _ h1; have := ihb _ h2; simp only [E.den_add, E.den_sub, E.den_max, E.den_min]; omega
    · cases h
  | min a b iha ihb =>
    intro p h
    simp only [E.iv] at h
    split at h
    · rename_i q r h1 h2; cases h; have := iha _ h1; have := ihb _ h2; simp only [E.den_add, E.den_sub, E.den_max, E.den_min]; omega
    · cases h
end Go.Proofs.Ytbgofenplhdllaa
/- The engine, part 2: symbolic values, environments, what an operation yields. -/
namespace Go.Proofs.Ytbgofenplhdllaa
open Go.RowKit

/-- One cell. -/
inductive Lf where
  | int (e : E)
  | bool (b : B)
  | ptr (b off : Nat)
  | arr (te : TypeId) (a : E)
  | elp (te : TypeId) (sz : Nat) (a x : E) (o : Nat)
  | cst (v : Value)
  /-- A slice of one's own, known by its variable. -/
  | vec (te : TypeId) (i : Nat)
  /-- A place in it. -/
  | velp (te : TypeId) (sz : Nat) (i : Nat) (x : E) (o : Nat)
  /-- A function value, known by its variable. -/
  | clo (i : Nat)
  /-- What a slice of one's own holds (handed on, never held in a slot). -/
  | cnt (te : TypeId) (r : E)
  /-- A number without a sign (from 0 to 2^64 - 1). -/
  | u64 (e : E)
  deriving Inhabited
inductive S0 where
  | lf (l : Lf)
  | agg (l : List Lf)
  deriving Inhabited
inductive SV where
  | one (s : S0)
  | tup (l : List S0)
  | fn (f : Nat) (l : List Lf)
  deriving Inhabited

/-- The slots of the frames above; the frame's deferred calls. -/
structure Up where
  sl : Nat → Value
  ds : List Deferred
structure Env where
  ρ : List C
  blk : Nat → Nat
  nb : Nat
  base : Nat → Nat → Prop
  up : Up := ⟨fun _ => default, []⟩

/-- The address of a cell of a slice. -/
def elemAt (v : Value) (k : Nat) : Value :=
  match v with
  | .slice (some a) _ _ => .pointer (some (a.add k))
  | _ => .pointer none
def Lf.den (Γ : Env) : Lf → Value
  | .int e => .int .i64 (e.den Γ.ρ)
  | .bool b => .bool (b.den Γ.ρ)
  | .ptr b off => .pointer (some ⟨Γ.blk b, off, none⟩)
  | .arr _ a => (a.ev Γ.ρ).loc
  | .elp _ sz a x o => elemAt (a.ev Γ.ρ).loc ((x.den Γ.ρ).toNat * sz + o)
  | .cst v => v
  | .vec _ i => (at_ Γ.ρ i).loc
  | .velp _ sz i x o => elemAt (at_ Γ.ρ i).loc ((x.den Γ.ρ).toNat * sz + o)
  | .clo i => (at_ Γ.ρ i).loc
  | .cnt _ r => (r.ev Γ.ρ).loc
  | .u64 e => .int .u64 (e.den Γ.ρ)
def dens (Γ : Env) (l : List Lf) : Array Value := (l.map (Lf.den Γ)).toArray
def S0.den (Γ : Env) : S0 → Value
  | .lf l => l.den Γ
  | .agg l => .agg (dens Γ l)
def SV.den (Γ : Env) : SV → Value
  | .one s => s.den Γ
  | .tup l => .tuple (l.map (S0.den Γ)).toArray
  | .fn f l => .func (.func f) #[.agg (dens Γ l)] #[]

def Lf.wf (n nb : Nat) : Lf → Bool
  | .int e => e.wf n
  | .bool b => b.wf n
  | .ptr b _ => Nat.blt b nb
  | .arr _ a => a.wf n
  | .elp _ _ a x _ => a.wf n && x.wf n
  | .cst _ => true
  | .vec _ i | .clo i => Nat.blt i n
  | .velp _ _ i x _ => Nat.blt i n && x.wf n
  | .cnt _ r => r.wf n
  | .u64 e => e.wf n
def S0.wf (n nb : Nat) : S0 → Bool
  | .lf l => l.wf n nb
  | .agg l => l.all (Lf.wf n nb)
def SV.wf (n nb : Nat) : SV → Bool
  | .one s => s.wf n nb
  | .tup l => l.all (S0.wf n nb)
  | .fn _ l => l.all (Lf.wf n nb)

/-- Some blocks more that are not one's own. -/
def Env.addO (Γ : Env) (ob : Nat → Prop) : Env := { Γ with base := fun b o => Γ.base b o ∨ ob b }
theorem Env.addO_no {ob : Nat → Prop} (h : ∀ b, ¬ ob b) (Γ : Env) : Γ.addO ob = Γ := by
  unfold Env.addO
  cases Γ
  simp [h]
theorem Env.addO_congr {ob ob' : Nat → Prop} (h : ∀ b, ob b ↔ ob' b) (Γ : Env) : Γ.addO ob = Γ.addO ob' := by
  rw [show ob = ob' from funext fun b => propext (h b)]
theorem Env.addO_addO (Γ : Env) (ob ob' : Nat → Prop) : (Γ.addO ob).addO ob' = Γ.addO fun b => ob b ∨ ob' b := by
  unfold Env.addO
  simp only [or_assoc]
theorem S0.den_addO (Γ : Env) (ob : Nat → Prop) (s : S0) : s.den (Γ.addO ob) = s.den Γ := by
  have h1 : ∀ l : Lf, l.den (Γ.addO ob) = l.den Γ := fun l => by cases l <;> rfl
  have h2 : ∀ l : List Lf, dens (Γ.addO ob) l = dens Γ l := fun l => by unfold dens; rw [List.map_congr_left fun x _ => h1 x]
  cases s with
  | lf l => exact h1 l
  | agg l => simp only [S0.den, h2]
theorem SV.den_addO (Γ : Env) (ob : Nat → Prop) (s : SV) : s.den (Γ.addO ob) = s.den Γ := by
  have h1 : ∀ l : Lf, l.den (Γ.addO ob) = l.den Γ := fun l => by cases l <;> rfl
  have h2 : ∀ l : List Lf, dens (Γ.addO ob) l = dens Γ l := fun l => by unfold dens; rw [List.map_congr_left fun x _ => h1 x]
  have h3 : ∀ s : S0, s.den (Γ.addO ob) = s.den Γ := fun s => by cases s with | lf l => exact h1 l | agg l => simp only [S0.den, h2]
  cases s with
  | one s => exact h3 s
  | tup l => simp only [SV.den]; rw [List.map_congr_left fun x _ => h3 x]
  | fn f l => simp only [SV.den, h2]
/-- Γ' knows what Γ knows. -/
structure Ext (Γ Γ' : Env) : Prop where
  ρ : ∃ l, Γ'.ρ = Γ.ρ ++ l
  blk : ∀ b, b < Γ.nb → Γ'.blk b = Γ.blk b
  nb : Γ.nb ≤ Γ'.nb
  base : Γ'.base = Γ.base
  up : Γ'.up = Γ.up
theorem Ext.refl (Γ : Env) : Ext Γ Γ := ⟨⟨[], by simp⟩, fun _ _ => rfl, Nat.le_refl _, rfl, rfl⟩
theorem Ext.len {Γ Γ' : Env} (h : Ext Γ Γ') : Γ.ρ.length ≤ Γ'.ρ.length := by obtain ⟨l, e⟩ := h.ρ; rw [e]; simp
theorem Ext.trans {a b c : Env} (h : Ext a b) (k : Ext b c) : Ext a c := by
  obtain ⟨l, e⟩ := h.ρ
  obtain ⟨m, f⟩ := k.ρ
  exact ⟨⟨l ++ m, by rw [f, e, List.append_assoc]⟩, fun x hx => (k.blk x (by have := h.nb; omega)).trans (h.blk x hx), Nat.le_trans h.nb k.nb, k.base.trans h.base, k.up.trans h.up⟩
theorem Lf.den_ext {Γ Γ' : Env} (h : Ext Γ Γ') (s : Lf) (hw : s.wf Γ.ρ.length Γ.nb = true) : s.den Γ' = s.den Γ := by
  obtain ⟨l, e⟩ := h.ρ
  cases s with
  | int x => simp only [Lf.den, e, E.den_ext _ hw]
  | bool x => simp only [Lf.den, e, B.den_ext _ hw]
  | ptr b o => simp only [Lf.wf, Nat.blt_eq] at hw; simp only [Lf.den, h.blk b hw]
  | arr te a => simp only [Lf.wf] at hw; simp only [Lf.den, e, E.ev_ext _ hw]
  | elp te sz a x o => simp only [Lf.wf, Bool.and_eq_true] at hw; simp only [Lf.den, e, E.ev_ext _ hw.1, E.den_ext _ hw.2]
  | cst v => rfl
  | vec te i => simp only [Lf.wf, Nat.blt_eq] at hw; simp only [Lf.den, e, at_ext hw]
  | clo i => simp only [Lf.wf, Nat.blt_eq] at hw; simp only [Lf.den, e, at_ext hw]
  | velp te sz i x o => simp only [Lf.wf, Bool.and_eq_true, Nat.blt_eq] at hw; simp only [Lf.den, e, at_ext hw.1, E.den_ext _ hw.2]
  | cnt te r => simp only [Lf.wf] at hw; simp only [Lf.den, e, E.ev_ext _ hw]
  | u64 x => simp only [Lf.den, e, E.den_ext _ hw]
theorem dens_ext {Γ Γ' : Env} (h : Ext Γ Γ') (l : List Lf) (hw : l.all (Lf.wf Γ.ρ.length Γ.nb) = true) : dens Γ' l = dens Γ l := by
  unfold dens
  congr 1
  exact List.map_congr_left fun x hx => Lf.den_ext h x (List.all_eq_true.1 hw x hx)
theorem S0.den_ext {Γ Γ' : Env} (h : Ext Γ Γ') (s : S0) (hw : s.wf Γ.ρ.length Γ.nb = true) : s.den Γ' = s.den Γ := by
  cases s with
  | lf l => exact Lf.den_ext h l hw
  | agg l => simp only [S0.den, dens_ext h l hw]
theorem SV.den_ext {Γ Γ' : Env} (h : Ext Γ Γ') (s : SV) (hw : s.wf Γ.ρ.length Γ.nb = true) : s.den Γ' = s.den Γ := by
  cases s with
  | one l => exact S0.den_ext h l hw
  | tup l =>
    simp only [SV.den]
    congr 2
    exact List.map_congr_left fun x hx => S0.den_ext h x (List.all_eq_true.1 hw x hx)
  | fn f l => simp only [SV.den, dens_ext h l hw]

theorem E.wf_mono {n m : Nat} (h : n ≤ m) (e : E) (hw : e.wf n = true) : e.wf m = true := by
  induction e with
  | lit n => rfl
  | var i => simp only [E.wf, Nat.blt_eq] at hw ⊢; omega
  | len a ih => exact ih hw
  | wr a ih => exact ih hw
  | nil => rfl
  | sub3 a b c _ iha ihb ihc => simp only [E.wf, Bool.and_eq_true] at hw ⊢; exact ⟨⟨iha hw.1.1, ihb hw.1.2⟩, ihc hw.2⟩
  | add a b iha ihb | sub a b iha ihb | mul a b iha ihb | quo a b iha ihb | rem a b iha ihb | max a b iha ihb | min a b iha ihb | cell a b _ iha ihb | join a b iha ihb =>
    simp only [E.wf, Bool.and_eq_true] at hw ⊢; exact ⟨iha hw.1, ihb hw.2⟩
theorem B.wf_mono {n m : Nat} (h : n ≤ m) (e : B) (hw : e.wf n = true) : e.wf m = true := by
  induction e with
  | lit n => rfl
  | of e => exact E.wf_mono h e hw
  | cmp c a b => simp only [B.wf, Bool.and_eq_true] at hw ⊢; exact ⟨E.wf_mono h _ hw.1, E.wf_mono h _ hw.2⟩
  | not a ih => exact ih hw
  | and a b iha ihb | or a b iha ihb | beq a b iha ihb => simp only [B.wf, Bool.and_eq_true] at hw ⊢; exact ⟨iha hw.1, ihb hw.2⟩
theorem Lf.wf_mono {n m nb : Nat} (h : n ≤ m) (l : Lf) (hw : l.wf n nb = true) : l.wf m nb = true := by
  cases l with
  | int e => exact E.wf_mono h e hw
  | bool e => exact B.wf_mono h e hw
  | ptr b o => exact hw
  | arr t a => exact E.wf_mono h a hw
  | elp t s a x o => simp only [Lf.wf, Bool.and_eq_true] at hw ⊢; exact ⟨E.wf_mono h _ hw.1, E.wf_mono h _ hw.2⟩
  | cst v => rfl
  | vec t i => simp only [Lf.wf, Nat.blt_eq] at hw ⊢; omega
  | clo i => simp only [Lf.wf, Nat.blt_eq] at hw ⊢; omega
  | velp t s i x o => simp only [Lf.wf, Bool.and_eq_true, Nat.blt_eq] at hw ⊢; exact ⟨by omega, E.wf_mono h _ hw.2⟩
  | cnt t r => exact E.wf_mono h r hw
  | u64 e => exact E.wf_mono h e hw
theorem Lfs.wf_mono {n m nb : Nat} (h : n ≤ m) {l : List Lf} (hw : l.all (Lf.wf n nb) = true) : l.all (Lf.wf m nb) = true :=
  List.all_eq_true.2 fun x hx => Lf.wf_mono h x (List.all_eq_true.1 hw x hx)
theorem S0.wf_mono {n m nb : Nat} (h : n ≤ m) (s : S0) (hw : s.wf n nb = true) : s.wf m nb = true := by
  cases s with
  | lf l => exact Lf.wf_mono h l hw
  | agg l => exact Lfs.wf_mono h hw
theorem SV.wf_mono {n m nb : Nat} (h : n ≤ m) (s : SV) (hw : s.wf n nb = true) : s.wf m nb = true := by
  cases s with
  | one s => exact S0.wf_mono h s hw
  | tup l => exact List.all_eq_true.2 fun x hx => S0.wf_mono h x (List.all_eq_true.1 hw x hx)
  | fn f l => exact Lfs.wf_mono h hw

/-! Values read as symbols -/
def Lf.ofValue : Value → Lf
  | .int .i64 n => .int (.lit n)
  | .bool b => .bool (.lit b)
  | v => .cst v
theorem Lf.den_ofValue (Γ : Env) (v : Value) : (Lf.ofValue v).den Γ = v := by
  unfold Lf.ofValue
  split <;> rfl
def S0.ofValue : Value → S0
  | .agg cs => .agg (cs.toList.map Lf.ofValue)
  | v => .lf (Lf.ofValue v)
theorem S0.den_ofValue (Γ : Env) (v : Value) : (S0.ofValue v).den Γ = v := by
  unfold S0.ofValue
  split
  · simp only [S0.den, dens, List.map_map]
    congr 1
    apply Array.ext'
    simp only [Function.comp_def, Lf.den_ofValue, List.map_id']
  · exact Lf.den_ofValue _ _
def S0.cells : S0 → List Lf
  | .lf l => [l]
  | .agg l => l
/-- No aggregate hides in a cell. -/
def Lf.flat : Lf → Bool
  | .cst v => v.oneCell'
  | .cnt _ _ => false
  | _ => true

/-! The program's tables -/
/-- Is it an aggregate: none if not known. -/
def aggOf (P : Program) (t : TypeId) : Option Bool :=
  match P.underlying t with
  | some (.struct _) => some true
  | some (.array _ _) => some true
  | some _ => some false
  | none => none
def sizeIs (P : Program) (t : TypeId) : Option Nat := (P.info? t).map (·.size)
theorem run_isAgg {P : Program} {t : TypeId} {b : Bool} (h : aggOf P t = some b) (w : World) : (isAgg t).run P w = .ok b w := by
  unfold aggOf at h
  unfold isAgg
  cases hd : P.underlying t with
  | none => simp [hd] at h
  | some d =>
    rw [hd] at h
    cases d <;> simp at h <;> subst h <;> simp [run_underlying hd]
theorem run_typeInfo' {P : Program} {t : TypeId} {i : TypeInfo} (h : P.info? t = some i) (w : World) : (typeInfo t).run P w = .ok i w := by
  simp [typeInfo, h]
theorem run_sizeOf' {P : Program} {t : TypeId} {n : Nat} (h : sizeIs P t = some n) (w : World) : (sizeOf t).run P w = .ok n w := by
  unfold sizeIs at h
  cases hi : P.info? t with
  | none => simp [hi] at h
  | some i => simp [hi] at h; subst h; simp [sizeOf, run_typeInfo' hi]
end Go.Proofs.Ytbgofenplhdllaa
/- The engine, part 3: what an operation yields that leaves the world alone. -/
namespace Go.Proofs.Ytbgofenplhdllaa
set_option linter.unusedSimpArgs false
open Go.RowKit

def look {α : Type} : List (Nat × Option α) → Nat → Option α
  | [], _ => none
  | (k, v) :: l, n => if k = n then v else look l n

structure St where
  sl : List (Nat × Option SV)
  mem : List (Nat × Option (TypeId × List Lf))
  nt : Nat
  nb : Nat
  nx : Nat
  lvl : Nat
  bds : Bds
  /-- Slices of one's own: by the variable that says where they lie, what they hold. -/
  vec : List (Nat × Option (TypeId × E)) := []
  /-- Function values: by their variable, the function, what comes before and what behind the arguments. -/
  clo : List (Nat × Option (Nat × List S0 × List Lf)) := []
  /-- How the code came here. -/
  path : Nat := 0
  /-- Operations whose numbers wrap (path * 1000 + slot). -/
  wr : List Nat := []
  deriving Inhabited

def St.ev (st : St) : Operand → Option SV
  | .tmp t => if t < 1000 then look st.sl t else none
  | .const v => some (.one (S0.ofValue v))
  | .global g => some (.one (.lf (.cst (.pointer (some ⟨g, 0, none⟩)))))
  | .func f => some (.one (.lf (.cst (.func (.func f) #[] #[]))))
def St.lf (st : St) (x : Operand) : Option Lf := match st.ev x with | some (.one (.lf l)) => some l | _ => none
def St.s0 (st : St) (x : Operand) : Option S0 := match st.ev x with | some (.one s) => some s | _ => none

/-! Numbers -/
def E.mkAdd : E → E → E
  | .lit a, .lit b => .lit (a + b)
  | .lit 0, b => b
  | a, .lit 0 => a
  | a, b => .add a b
def E.mkSub : E → E → E
  | .lit a, .lit b => .lit (a - b)
  | a, .lit 0 => a
  | a, b => .sub a b
def E.mkMul : E → E → E
  | .lit a, .lit b => .lit (a * b)
  | .lit 1, b => b
  | a, .lit 1 => a
  | a, b => .mul a b
theorem E.den_mkAdd (ρ : List C) (a b : E) : (E.mkAdd a b).den ρ = a.den ρ + b.den ρ := by
  unfold E.mkAdd; split <;> simp [E.den_add, E.den_lit]
theorem E.den_mkSub (ρ : List C) (a b : E) : (E.mkSub a b).den ρ = a.den ρ - b.den ρ := by
  unfold E.mkSub; split <;> simp [E.den_sub, E.den_lit]
theorem E.den_mkMul (ρ : List C) (a b : E) : (E.mkMul a b).den ρ = a.den ρ * b.den ρ := by
  unfold E.mkMul; split <;> simp [E.den_mul, E.den_lit]
def Cmp.dec (c : Cmp) (p q : Int × Int) : Option Bool :=
  match c with
  | .lt => if p.2 < q.1 then some true else if q.2 ≤ p.1 then some false else none
  | .le => if p.2 ≤ q.1 then some true else if q.2 < p.1 then some false else none
  | .eq => if p.2 < q.1 ∨ q.2 < p.1 then some false else if p.1 = p.2 ∧ q.1 = q.2 ∧ p.1 = q.1 then some true else none
  | .ne => if p.2 < q.1 ∨ q.2 < p.1 then some true else if p.1 = p.2 ∧ q.1 = q.2 ∧ p.1 = q.1 then some false else none
theorem Cmp.dec_ok {c : Cmp} {p q : Int × Int} {t : Bool} (h : c.dec p q = some t) {x y : Int} (hx : p.1 ≤ x ∧ x ≤ p.2) (hy : q.1 ≤ y ∧ y ≤ q.2) : c.den x y = t := by
  cases c <;> simp only [Cmp.dec] at h <;> (split at h; · cases h; simp [Cmp.den]; omega) <;> (split at h; · cases h; simp [Cmp.den]; omega) <;> cases h
def B.mkCmp (bd : Bds) (c : Cmp) (a b : E) : B :=
  match a.iv bd, b.iv bd with
  | some p, some q => match c.dec p q with
    | some t => .lit t
    | none => .cmp c a b
  | _, _ => .cmp c a b
def B.mkNot : B → B
  | .lit t => .lit !t
  | .not a => a
  | b => .not b
theorem B.den_mkNot (ρ : List C) (b : B) : (B.mkNot b).den ρ = !b.den ρ := by
  unfold B.mkNot; split <;> simp [B.den]

/-- What is known of an environment's numbers. -/
structure Num (bd : Bds) (ρ : List C) : Prop where
  bds : bd.ok ρ
  len : Smalls ρ

theorem B.den_mkCmp {bd : Bds} {ρ : List C} (hn : Num bd ρ) (c : Cmp) (a b : E) : (B.mkCmp bd c a b).den ρ = c.den (a.den ρ) (b.den ρ) := by
  unfold B.mkCmp
  split
  · rename_i p q h1 h2
    split
    · rename_i t h3
      exact (Cmp.dec_ok h3 (E.iv_ok hn.bds hn.len a _ h1) (E.iv_ok hn.bds hn.len b _ h2)).symm
    · rfl
  · rfl

/-- A number that fits into 64 bits; what is to be shown of it, if anything. -/
def inr (e : E) : B := .and (.cmp .le (.lit (-9223372036854775808)) e) (.cmp .le e (.lit 9223372036854775807))
def rng (bd : Bds) (e : E) : List B :=
  match e.iv bd with
  | some p => if -9223372036854775808 ≤ p.1 ∧ p.2 ≤ 9223372036854775807 then [] else [inr e]
  | none => [inr e]
theorem inr_den {ρ : List C} {e : E} (h : (inr e).den ρ = true) : -9223372036854775808 ≤ e.den ρ ∧ e.den ρ ≤ 9223372036854775807 := by
  simp only [inr, B.den, Cmp.den, E.den_lit, Bool.and_eq_true] at h
  exact ⟨of_decide_eq_true h.1, of_decide_eq_true h.2⟩
def Obs (ρ : List C) (l : List B) : Prop := ∀ b ∈ l, b.den ρ = true
theorem Obs.app {ρ : List C} {l m : List B} (h : Obs ρ (l ++ m)) : Obs ρ l ∧ Obs ρ m := ⟨fun b hb => h b (by simp [hb]), fun b hb => h b (by simp [hb])⟩
theorem rng_ok {bd : Bds} {ρ : List C} (hn : Num bd ρ) {e : E} (h : Obs ρ (rng bd e)) : IntKind.i64.wrap (e.den ρ) = e.den ρ := by
  have g : -9223372036854775808 ≤ e.den ρ ∧ e.den ρ ≤ 9223372036854775807 := by
    unfold rng at h
    split at h
    · rename_i p hp
      have := E.iv_ok hn.bds hn.len e _ hp
      split at h
      · omega
      · have := h (inr e) (by simp)
        exact inr_den this
    · have := h (inr e) (by simp)
      exact inr_den this
  exact IntWalk.i64_in _ g
/-- A divisor is not 0. -/
def nz (bd : Bds) (e : E) : List B :=
  match e.iv bd with
  | some p => if 1 ≤ p.1 ∨ p.2 ≤ -1 then [] else [.cmp .ne e (.lit 0)]
  | none => [.cmp .ne e (.lit 0)]
theorem nz_ok {bd : Bds} {ρ : List C} (hn : Num bd ρ) {e : E} (h : Obs ρ (nz bd e)) : e.den ρ ≠ 0 := by
  unfold nz at h
  split at h
  · rename_i p hp
    have := E.iv_ok hn.bds hn.len e _ hp
    split at h
    · omega
    · have := h (.cmp .ne e (.lit 0)) (by simp)
      simpa [B.den, Cmp.den, E.den_lit] using this
  · have := h (.cmp .ne e (.lit 0)) (by simp)
    simpa [B.den, Cmp.den, E.den_lit] using this

def binLf (bd : Bds) (op : BinOp) : Lf → Lf → Option (List B × Lf)
  | .int a, .int b => match op with
    | .add => some (rng bd (.add a b), .int (E.mkAdd a b))
    | .sub => some (rng bd (.sub a b), .int (E.mkSub a b))
    | .mul => some (rng bd (.mul a b), .int (E.mkMul a b))
    | .quo => some (nz bd b ++ rng bd (.quo a b), .int (.quo a b))
    | .rem => some (nz bd b, .int (.rem a b))
    | .eql => some ([], .bool (B.mkCmp bd .eq a b))
    | .neq => some ([], .bool (B.mkCmp bd .ne a b))
    | .lss => some ([], .bool (B.mkCmp bd .lt a b))
    | .leq => some ([], .bool (B.mkCmp bd .le a b))
    | .gtr => some ([], .bool (B.mkCmp bd .lt b a))
    | .geq => some ([], .bool (B.mkCmp bd .le b a))
    | _ => none
  | _, _ => none

theorem run_binLf {P : Program} {bd : Bds} {Γ : Env} (hn : Num bd Γ.ρ) {op : BinOp} {x y l : Lf} {obs : List B} (h : binLf bd op x y = some (obs, l)) (ho : Obs Γ.ρ obs)
    (t : TypeId) (u v : Operand) (w : World) : (do eqGuard op t u v (x.den Γ) (y.den Γ); binOp op t (x.den Γ) (y.den Γ) : Sem Value).run P w = .ok (l.den Γ) w := by
  unfold binLf at h
  split at h
  · rename_i a b
    have hg : eqGuard op t u v ((Lf.int a).den Γ) ((Lf.int b).den Γ) = pure () := eqGuard_at_int ..
    simp only [hg, pure_bind]
    split at h <;> first
      | (cases h; done)
      | (cases h
         first
          | (have e := rng_ok hn ho; simp only [Lf.den, binOp_add, binOp_sub, binOp_mul, Op.intArith, Sem.run_pure, E.den_mkAdd, E.den_mkSub, E.den_mkMul]; simp only [E.den_add, E.den_sub, E.den_mul, E.den_quo] at e; rw [e]; done)
          | (have e1 := nz_ok hn (Obs.app ho).1; have e := rng_ok hn (Obs.app ho).2; simp only [Lf.den, binOp_quo, Op.intDiv, if_neg e1, Sem.run_pure]; simp only [E.den_add, E.den_sub, E.den_mul, E.den_quo] at e; rw [e]; rfl)
          | (have e1 := nz_ok hn ho; simp only [Lf.den, binOp_rem, Op.intDiv, if_neg e1, Sem.run_pure]; rfl)
          | (simp only [Lf.den, binOp_eql, binOp_neq, binOp_lss, binOp_leq, binOp_gtr, binOp_geq, Sem.run_pure, B.den_mkCmp hn, Cmp.den, GT.gt, GE.ge]))
  · cases h
/-- Numbers that wrap. -/
def binW (op : BinOp) (a b : E) : Option E :=
  match op with
  | .add => some (.wr (.add a b))
  | .sub => some (.wr (.sub a b))
  | .mul => some (.wr (.mul a b))
  | _ => none
theorem run_binW {P : Program} {Γ : Env} {op : BinOp} {a b e : E} (h : binW op a b = some e) (t : TypeId) (u v : Operand) (w : World) :
    (do eqGuard op t u v (.int .i64 (a.den Γ.ρ)) (.int .i64 (b.den Γ.ρ)); binOp op t (.int .i64 (a.den Γ.ρ)) (.int .i64 (b.den Γ.ρ)) : Sem Value).run P w = .ok (.int .i64 (e.den Γ.ρ)) w := by
  have hg : eqGuard op t u v (.int .i64 (a.den Γ.ρ)) (.int .i64 (b.den Γ.ρ)) = pure () := eqGuard_at_int ..
  simp only [hg, pure_bind]
  unfold binW at h
  split at h <;> cases h <;> simp only [binOp_add, binOp_sub, binOp_mul, Op.intArith, Sem.run_pure, E.den_wr, E.den_add, E.den_sub, E.den_mul]
end Go.Proofs.Ytbgofenplhdllaa
/- The engine, part 4: memory of slices; what each operation yields that leaves the world alone. -/
namespace Go.Proofs.Ytbgofenplhdllaa
open Go.RowKit
set_option linter.unusedSimpArgs false

/-! What lies in a type's cells -/
inductive Lk where
  | int
  | bool
  | arr (t : TypeId)
  /-- A slice of one's own (never in a row of a slice). -/
  | vec (t : TypeId)
  /-- A value of one cell that is only handed on (never in a row of a slice). -/
  | opq
  deriving DecidableEq, Repr, Inhabited
def kindsF (P : Program) : Nat → TypeId → Option (List Lk)
  | 0, _ => none
  | d + 1, t => match P.underlying t with
    | some (.int .i64) => some [.int]
    | some .bool => some [.bool]
    | some (.slice e) => some [.arr e]
    | some (.struct fs) => fs.toList.foldl (fun acc f => match acc, kindsF P d f.type with
      | some l, some m => if l.length = f.offset then some (l ++ m) else none
      | _, _ => none) (some [])
    | some (.array n e) => (kindsF P d e).map fun l => (List.replicate n l).flatten
    | _ => none
/-- The kinds of a type's cells, as many as its size says. -/
def kinds (P : Program) (t : TypeId) : Option (List Lk) :=
  match kindsF P 6 t with
  | some l => if sizeIs P t = some l.length ∧ l.length ≠ 0 then some l else none
  | none => none
theorem kinds_size {P : Program} {t : TypeId} {l : List Lk} (h : kinds P t = some l) : sizeIs P t = some l.length ∧ l.length ≠ 0 := by
  unfold kinds at h
  split at h
  · split at h
    · rename_i h1; cases h; exact h1
    · cases h
  · cases h

/-- A slice in memory, its blocks in S. -/
def ArrN (P : Program) (S : Nat → Nat → Prop) (w : World) : Nat → TypeId → Value → List (List C) → Prop
  | 0, _, _, _ => False
  | d + 1, te, v, rows => ∃ ks, kinds P te = some ks ∧ ∃ a cap, v = .slice a rows.length cap ∧ (rows ≠ [] → ∃ b o, a = some ⟨b, o, none⟩ ∧ rows.length ≤ cap ∧
      ∀ i r, rows[i]? = some r → r.length = ks.length ∧ ∀ j k, ks[j]? = some k → S b (o + (i * ks.length + j)) ∧ ∃ u c, w.cell? ⟨b, o + (i * ks.length + j), none⟩ = some u ∧ r[j]? = some c ∧
        match k with
        | .int => ∃ n, u = .int .i64 n ∧ c = .i n
        | .bool => ∃ t, u = .bool t ∧ c = .b t
        | .arr t => ∃ rows', c = .s u rows' ∧ ArrN P S w d t u rows'
        | .vec _ | .opq => False)
theorem ArrN.keep {P : Program} {S : Nat → Nat → Prop} {w w' : World} (h : ∀ b o, S b o → w'.cell? ⟨b, o, none⟩ = w.cell? ⟨b, o, none⟩) : ∀ (d : Nat) (te : TypeId) (v : Value) (rows : List (List C)), ArrN P S w d te v rows → ArrN P S w' d te v rows
  | 0, _, _, _, hh => hh
  | d + 1, te, v, rows, ⟨ks, hk, a, cap, hv, hh⟩ => by
    refine ⟨ks, hk, a, cap, hv, fun hne => ?_⟩
    obtain ⟨b, o, ha, hcap, hr⟩ := hh hne
    refine ⟨b, o, ha, hcap, fun i r hi => ?_⟩
    obtain ⟨hl, hc⟩ := hr i r hi
    refine ⟨hl, fun j k hj => ?_⟩
    obtain ⟨hS, u, c, hu, hrj, hm⟩ := hc j k hj
    refine ⟨hS, u, c, ?_, hrj, ?_⟩
    · rw [← hu]; exact h b _ hS
    · cases k with
      | int => exact hm
      | bool => exact hm
      | vec t => exact hm
      | opq => exact hm
      | arr t =>
        obtain ⟨rows', hc, hn⟩ := hm
        exact ⟨rows', hc, ArrN.keep h d t u rows' hn⟩
theorem ArrN.slice {P : Program} {S : Nat → Nat → Prop} {w : World} {d : Nat} {te : TypeId} {v : Value} {rows : List (List C)} (h : ArrN P S w d te v rows) : ∃ a cap, v = .slice a rows.length cap := by
  cases d with
  | zero => exact h.elim
  | succ d => obtain ⟨ks, hk, a, cap, hv, hh⟩ := h; exact ⟨a, cap, hv⟩

/-- A slice that none of the blocks 'Own' holds. -/
def ArrOK (P : Program) (w : World) (Own : Nat → Nat → Prop) (te : TypeId) (c : C) : Prop :=
  ∃ v rows, c = .s v rows ∧ ∃ d S, (∀ b o, S b o → b < w.heap.size ∧ ¬ Own b o) ∧ ArrN P S w d te v rows
theorem ArrOK.keep {P : Program} {w w' : World} {Own Own' : Nat → Nat → Prop} {te : TypeId} {c : C} (h : ArrOK P w Own te c) (hs : w.heap.size ≤ w'.heap.size)
    (hh : ∀ b o, b < w.heap.size → ¬ Own b o → w'.cell? ⟨b, o, none⟩ = w.cell? ⟨b, o, none⟩ ∧ ¬ Own' b o) : ArrOK P w' Own' te c := by
  obtain ⟨v, rows, hc, d, S, hS, hA⟩ := h
  exact ⟨v, rows, hc, d, S, fun b o hb => ⟨by have := (hS b o hb).1; omega, (hh b o (hS b o hb).1 (hS b o hb).2).2⟩, hA.keep (fun b o hb => (hh b o (hS b o hb).1 (hS b o hb).2).1)⟩

/-- A cell's value and what it stands for. -/
def CRep (P : Program) (w : World) (Base : Nat → Nat → Prop) (k : Lk) (u : Value) (c : C) : Prop :=
  (∀ n, c.small n) ∧ match k with
  | .int => ∃ n, u = .int .i64 n ∧ c = .i n
  | .bool => ∃ t, u = .bool t ∧ c = .b t
  | .arr t => u = c.loc ∧ ArrOK P w Base t c
  | .vec _ | .opq => False
def CReps (P : Program) (w : World) (Base : Nat → Nat → Prop) : List Lk → List Value → List C → Prop
  | [], [], [] => True
  | k :: ks, u :: us, c :: cs => CRep P w Base k u c ∧ CReps P w Base ks us cs
  | _, _, _ => False
/-- The kinds of so many rows. -/
def rowsK (n : Nat) (ks : List Lk) : List Lk := (List.replicate n ks).flatten
/-- A slice of one's own: its row of cells belongs to nobody else. -/
def VecOK (P : Program) (w : World) (O : Nat → Nat → Prop) (te : TypeId) (v : Value) (c : C) : Prop :=
  ∃ ks us, kinds P te = some ks ∧ (∃ v', c = .s v' c.rows) ∧ (∀ r ∈ c.rows, r.length = ks.length) ∧ CReps P w O (rowsK c.rows.length ks) us c.rows.flatten ∧ w.ownsRow 0 te ks.length v c.rows.length us
section
variable {P : Program} {w w' : World} {O O' : Nat → Nat → Prop}
theorem CRep.keep {k : Lk} {u : Value} {c : C} (h : CRep P w O k u c) (hs : w.heap.size ≤ w'.heap.size)
    (hh : ∀ b o, b < w.heap.size → ¬ O b o → w'.cell? ⟨b, o, none⟩ = w.cell? ⟨b, o, none⟩ ∧ ¬ O' b o) : CRep P w' O' k u c := by
  refine ⟨h.1, ?_⟩
  have h2 := h.2
  cases k with
  | arr t => exact ⟨h2.1, h2.2.keep hs hh⟩
  | _ => exact h2
theorem CReps.keep (hs : w.heap.size ≤ w'.heap.size) (hh : ∀ b o, b < w.heap.size → ¬ O b o → w'.cell? ⟨b, o, none⟩ = w.cell? ⟨b, o, none⟩ ∧ ¬ O' b o) : ∀ {ks : List Lk} {us : List Value} {cs : List C}, CReps P w O ks us cs → CReps P w' O' ks us cs
  | [], [], [], _ => trivial
  | _ :: _, _ :: _, _ :: _, h => ⟨h.1.keep hs hh, CReps.keep hs hh h.2⟩
  | [], [], _ :: _, h => h.elim
  | [], _ :: _, _, h => h.elim
  | _ :: _, [], _, h => h.elim
  | _ :: _, _ :: _, [], h => h.elim
theorem CReps.append : ∀ {ks ls : List Lk} {us vs : List Value} {cs ds : List C}, CReps P w O ks us cs → CReps P w O ls vs ds → CReps P w O (ks ++ ls) (us ++ vs) (cs ++ ds)
  | [], _, [], _, [], _, _, h => h
  | _ :: _, _, _ :: _, _, _ :: _, _, h, h' => ⟨h.1, CReps.append h.2 h'⟩
  | [], _, [], _, _ :: _, _, h, _ => h.elim
  | [], _, _ :: _, _, _, _, h, _ => h.elim
  | _ :: _, _, [], _, _, _, h, _ => h.elim
  | _ :: _, _, _ :: _, _, [], _, h, _ => h.elim
theorem CReps.len : ∀ {ks : List Lk} {us : List Value} {cs : List C}, CReps P w O ks us cs → us.length = ks.length ∧ cs.length = ks.length
  | [], [], [], _ => ⟨rfl, rfl⟩
  | _ :: _, _ :: _, _ :: _, h => by have := CReps.len h.2; simp [this.1, this.2]
  | [], [], _ :: _, h => h.elim
  | [], _ :: _, _, h => h.elim
  | _ :: _, [], _, h => h.elim
  | _ :: _, _ :: _, [], h => h.elim
theorem CReps.get : ∀ {ks : List Lk} {us : List Value} {cs : List C}, CReps P w O ks us cs → ∀ {j : Nat} {k : Lk}, ks[j]? = some k → ∃ u c, us[j]? = some u ∧ cs[j]? = some c ∧ CRep P w O k u c
  | [], [], [], _, j, k, hj => by simp at hj
  | _ :: _, u :: _, c :: _, h, 0, k, hj => by simp at hj; subst hj; exact ⟨u, c, rfl, rfl, h.1⟩
  | _ :: _, _ :: _, _ :: _, h, j + 1, k, hj => by simpa using CReps.get h.2 (j := j) (by simpa using hj)
  | [], [], _ :: _, h, _, _, _ => h.elim
  | [], _ :: _, _, h, _, _, _ => h.elim
  | _ :: _, [], _, h, _, _, _ => h.elim
  | _ :: _, _ :: _, [], h, _, _, _ => h.elim
theorem CReps.set : ∀ {ks : List Lk} {us : List Value} {cs : List C}, CReps P w O ks us cs → ∀ {j : Nat} {k : Lk} {u : Value} {c : C}, ks[j]? = some k → CRep P w O k u c → CReps P w O ks (us.set j u) (cs.set j c)
  | [], [], [], _, j, k, _, _, hj, _ => by simp at hj
  | _ :: _, _ :: _, _ :: _, h, 0, k, _, _, hj, h' => by simp at hj; subst hj; exact ⟨h', h.2⟩
  | _ :: _, _ :: _, _ :: _, h, j + 1, k, _, _, hj, h' => ⟨h.1, CReps.set h.2 (j := j) (by simpa using hj) h'⟩
  | [], [], _ :: _, h, _, _, _, _, _, _ => h.elim
  | [], _ :: _, _, h, _, _, _, _, _, _ => h.elim
  | _ :: _, [], _, h, _, _, _, _, _, _ => h.elim
  | _ :: _, _ :: _, [], h, _, _, _, _, _, _ => h.elim
theorem rowsK_succ (n : Nat) (ks : List Lk) : rowsK (n + 1) ks = ks ++ rowsK n ks := by simp [rowsK, List.replicate_succ]
theorem rowsK_add (n m : Nat) (ks : List Lk) : rowsK (n + m) ks = rowsK n ks ++ rowsK m ks := by
  induction n with
  | zero => simp [rowsK]
  | succ n ih => rw [show n + 1 + m = (n + m) + 1 by omega, rowsK_succ, rowsK_succ, ih, List.append_assoc]
theorem rowsK_len (n : Nat) (ks : List Lk) : (rowsK n ks).length = n * ks.length := by
  induction n with
  | zero => simp [rowsK]
  | succ n ih => rw [rowsK_succ, List.length_append, ih, Nat.add_mul]; omega
theorem rowsK_get {n i j : Nat} {ks : List Lk} (hi : i < n) (hj : j < ks.length) : (rowsK n ks)[i * ks.length + j]? = ks[j]? := by
  induction n generalizing i with
  | zero => omega
  | succ n ih =>
    rw [rowsK_succ]
    cases i with
    | zero => rw [Nat.zero_mul, Nat.zero_add, List.getElem?_append_left hj]
    | succ i =>
      rw [List.getElem?_append_right (by rw [Nat.add_mul]; omega), show (i + 1) * ks.length + j - ks.length = i * ks.length + j by rw [Nat.add_mul]; omega]
      exact ih (by omega)
theorem flatten_get {α : Type} {sz : Nat} : ∀ (rows : List (List α)), (∀ r ∈ rows, r.length = sz) → ∀ (i j : Nat) (r : List α), rows[i]? = some r → j < sz → rows.flatten[i * sz + j]? = r[j]?
  | [], _, i, j, r, h, _ => by simp at h
  | x :: rows, hl, 0, j, r, h, hj => by
    simp at h
    subst h
    rw [List.flatten_cons, Nat.zero_mul, Nat.zero_add, List.getElem?_append_left (by rw [hl x (by simp)]; exact hj)]
  | x :: rows, hl, i + 1, j, r, h, hj => by
    rw [List.flatten_cons, List.getElem?_append_right (by rw [hl x (by simp), Nat.add_mul]; omega), hl x (by simp)]
    have := flatten_get rows (fun r hr => hl r (by simp [hr])) i j r (by simpa using h) hj
    rw [← this]
    congr 1
    rw [Nat.add_mul]; omega
theorem VecOK.keep {te : TypeId} {v : Value} {c : C} (h : VecOK P w O te v c) (hs : w.heap.size ≤ w'.heap.size)
    (hh : ∀ b o, b < w.heap.size → ¬ O b o → w'.cell? ⟨b, o, none⟩ = w.cell? ⟨b, o, none⟩ ∧ ¬ O' b o) (hb : ∀ b, v.ownBlock = some b → w'.heap[b]? = w.heap[b]?) : VecOK P w' O' te v c := by
  obtain ⟨ks, us, h1, h2, h3, h4, h5⟩ := h
  refine ⟨ks, us, h1, h2, h3, h4.keep hs hh, h5.1, ?_⟩
  rcases h5.2 with hn | ⟨g, cap, cur, rfl, k1, k2, k3⟩
  · exact .inl hn
  · exact .inr ⟨g, cap, cur, rfl, k1, by rw [hb g rfl]; exact k2, k3⟩
theorem VecOK.anti {te : TypeId} {v : Value} {c : C} (h : VecOK P w O te v c) (hh : ∀ b o, O' b o → O b o) : VecOK P w O' te v c :=
  h.keep (Nat.le_refl _) (fun b o _ hno => ⟨rfl, fun ho => hno (hh b o ho)⟩) fun _ _ => rfl
theorem VecOK.slice {te : TypeId} {v : Value} {c : C} (h : VecOK P w O te v c) : ∃ a cap, v = .slice a c.rows.length cap := by
  obtain ⟨ks, us, h1, h2, h3, h4, h5⟩ := h
  rcases h5.2 with ⟨rfl, hn⟩ | ⟨g, cap, cur, rfl, -⟩
  · exact ⟨none, 0, by rw [hn]⟩
  · exact ⟨_, cap, rfl⟩
theorem VecOK.lt {te : TypeId} {v : Value} {c : C} (h : VecOK P w O te v c) {b : Nat} (hb : v.ownBlock = some b) : b < w.heap.size := by
  obtain ⟨ks, us, h1, h2, h3, h4, h5⟩ := h
  exact (h5.lt b hb).2
end
/-- Data of a slice's kind. -/
def TyN (P : Program) : Nat → TypeId → List (List C) → Prop
  | 0, _, _ => False
  | d + 1, te, rows => ∃ ks : List Lk, kinds P te = some ks ∧ ∀ r ∈ rows, r.length = ks.length ∧ ∀ (j : Nat) (k : Lk), ks[j]? = some k → ∃ c : C, r[j]? = some c ∧
      match k with
      | .int => ∃ n, c = .i n
      | .bool => ∃ t, c = .b t
      | .arr t => ∃ v rows', c = .s v rows' ∧ TyN P d t rows'
      | .vec _ | .opq => False
def Lf.ok (P : Program) (w : World) (Own : Nat → Nat → Prop) (Γ : Env) : Lf → Prop
  | .arr te a => ArrOK P w Own te (a.ev Γ.ρ)
  | .elp te sz a x _ => ArrOK P w Own te (a.ev Γ.ρ) ∧ 0 ≤ x.den Γ.ρ ∧ x.den Γ.ρ < ((a.ev Γ.ρ).rows.length : Int) ∧ sizeIs P te = some sz
  | .vec _ i => ∃ a n cap, (at_ Γ.ρ i).loc = .slice a n cap
  | .velp te sz i x _ => ∃ b n cap, (at_ Γ.ρ i).loc = .slice (some ⟨b, 0, none⟩) n cap ∧ sizeIs P te = some sz ∧ 0 ≤ x.den Γ.ρ ∧ x.den Γ.ρ < (n : Int)
  | .clo i => ∃ v, at_ Γ.ρ i = .s v [] ∧ v.oneCell' = true
  | .cnt te r => ∃ v rows d, r.ev Γ.ρ = .s v rows ∧ TyN P d te rows ∧ ∀ n, (C.s v rows).small n
  | _ => True
def S0.ok (P : Program) (w : World) (Own : Nat → Nat → Prop) (Γ : Env) (s : S0) : Prop := ∀ l ∈ s.cells, l.ok P w Own Γ
def SV.ok (P : Program) (w : World) (Own : Nat → Nat → Prop) (Γ : Env) : SV → Prop
  | .one s => s.ok P w Own Γ
  | .tup l => ∀ s ∈ l, s.ok P w Own Γ
  | .fn _ l => ∀ x ∈ l, x.ok P w Own Γ
theorem Lf.ok_keep {P : Program} {w w' : World} {Own Own' : Nat → Nat → Prop} {Γ : Env} {l : Lf} (h : l.ok P w Own Γ) (hs : w.heap.size ≤ w'.heap.size)
    (hh : ∀ b o, b < w.heap.size → ¬ Own b o → w'.cell? ⟨b, o, none⟩ = w.cell? ⟨b, o, none⟩ ∧ ¬ Own' b o) : l.ok P w' Own' Γ := by
  cases l with
  | arr te a => exact ArrOK.keep h hs hh
  | elp te sz a x o => exact ⟨ArrOK.keep h.1 hs hh, h.2⟩
  | _ => exact h
theorem SV.ok_keep {P : Program} {w w' : World} {Own Own' : Nat → Nat → Prop} {Γ : Env} {l : SV} (h : l.ok P w Own Γ) (hs : w.heap.size ≤ w'.heap.size)
    (hh : ∀ b o, b < w.heap.size → ¬ Own b o → w'.cell? ⟨b, o, none⟩ = w.cell? ⟨b, o, none⟩ ∧ ¬ Own' b o) : l.ok P w' Own' Γ := by
  cases l with
  | one s => exact fun l hl => Lf.ok_keep (h l hl) hs hh
  | tup ss => exact fun s hs' l hl => Lf.ok_keep (h s hs' l hl) hs hh
  | fn f ls => exact fun l hl => Lf.ok_keep (h l hl) hs hh
theorem Lf.ok_ext {P : Program} {w : World} {Own : Nat → Nat → Prop} {Γ Γ' : Env} (he : Ext Γ Γ') {l : Lf} (hw : l.wf Γ.ρ.length Γ.nb = true) (h : l.ok P w Own Γ) : l.ok P w Own Γ' := by
  obtain ⟨m, e⟩ := he.ρ
  cases l with
  | arr te a => simp only [Lf.wf] at hw; simp only [Lf.ok, e, E.ev_ext _ hw] at h ⊢; exact h
  | elp te sz a x o =>
    simp only [Lf.wf, Bool.and_eq_true] at hw
    simp only [Lf.ok, e, E.ev_ext _ hw.1, E.den_ext _ hw.2] at h ⊢; exact h
  | vec te i => simp only [Lf.wf, Nat.blt_eq] at hw; simp only [Lf.ok, e, at_ext hw] at h ⊢; exact h
  | clo i => simp only [Lf.wf, Nat.blt_eq] at hw; simp only [Lf.ok, e, at_ext hw] at h ⊢; exact h
  | velp te sz i x o => simp only [Lf.wf, Bool.and_eq_true, Nat.blt_eq] at hw; simp only [Lf.ok, e, at_ext hw.1, E.den_ext _ hw.2] at h ⊢; exact h
  | cnt te r => simp only [Lf.wf] at hw; simp only [Lf.ok, e, E.ev_ext _ hw] at h ⊢; exact h
  | _ => trivial
theorem SV.ok_ext {P : Program} {w : World} {Own : Nat → Nat → Prop} {Γ Γ' : Env} (he : Ext Γ Γ') {l : SV} (hw : l.wf Γ.ρ.length Γ.nb = true) (h : l.ok P w Own Γ) : l.ok P w Own Γ' := by
  cases l with
  | one s =>
    cases s with
    | lf l => exact fun x hx => by simp [S0.cells] at hx; subst hx; exact Lf.ok_ext he hw (h _ (by simp [S0.cells]))
    | agg ls => exact fun x hx => Lf.ok_ext he (List.all_eq_true.1 hw x hx) (h x hx)
  | tup ss =>
    intro s hs x hx
    have hws := List.all_eq_true.1 hw s hs
    cases s with
    | lf l => simp [S0.cells] at hx; subst hx; exact Lf.ok_ext he hws (h _ hs _ (by simp [S0.cells]))
    | agg ls => exact Lf.ok_ext he (List.all_eq_true.1 hws x hx) (h _ hs x hx)
  | fn f ls => exact fun x hx => Lf.ok_ext he (List.all_eq_true.1 hw x hx) (h x hx)

theorem ArrOK.anti {P : Program} {w : World} {O O' : Nat → Nat → Prop} {te : TypeId} {c : C} (h : ArrOK P w O te c) (hh : ∀ b o, O' b o → O b o) : ArrOK P w O' te c := by
  obtain ⟨v, rows, hc, d, S, hS, hA⟩ := h
  exact ⟨v, rows, hc, d, S, fun b o hb => ⟨(hS b o hb).1, fun ho => (hS b o hb).2 (hh b o ho)⟩, hA⟩
theorem Lf.ok_anti {P : Program} {w : World} {O O' : Nat → Nat → Prop} {Γ : Env} {l : Lf} (h : l.ok P w O Γ) (hh : ∀ b o, O' b o → O b o) : l.ok P w O' Γ := by
  cases l with
  | arr te a => exact ArrOK.anti h hh
  | elp te sz a x o => exact ⟨ArrOK.anti h.1 hh, h.2⟩
  | _ => exact h
theorem Lf.ok.anti' {P : Program} {w : World} {O O' : Nat → Nat → Prop} {Γ : Env} {l : Lf} (h : l.ok P w O Γ) (hh : ∀ b o, O' b o → O b o) : l.ok P w O' Γ := Lf.ok_anti h hh
/-- The cells of a row, read. -/
def rowLf (a x : E) : Nat → List Lk → List Lf
  | _, [] => []
  | o, .int :: l => .int (.cell a x o) :: rowLf a x (o + 1) l
  | o, .bool :: l => .bool (.of (.cell a x o)) :: rowLf a x (o + 1) l
  | o, .arr t :: l => .arr t (.cell a x o) :: rowLf a x (o + 1) l
  | o, .vec t :: l => .arr t (.cell a x o) :: rowLf a x (o + 1) l
  | o, .opq :: l => .int (.cell a x o) :: rowLf a x (o + 1) l
theorem rowLf_get (a x : E) : ∀ (l : List Lk) (o j : Nat), (rowLf a x o l)[j]? = (l[j]?).map fun k => match k with
    | .int => Lf.int (.cell a x (o + j))
    | .bool => .bool (.of (.cell a x (o + j)))
    | .arr t => .arr t (.cell a x (o + j))
    | .vec t => .arr t (.cell a x (o + j))
    | .opq => .int (.cell a x (o + j))
  | [], o, j => by simp [rowLf]
  | k :: l, o, 0 => by cases k <;> simp [rowLf]
  | k :: l, o, j + 1 => by
    have := rowLf_get a x l (o + 1) j
    cases k <;> simp [rowLf, this, Nat.add_assoc, Nat.add_comm 1 j]
/-- What lies at a cell of a row. -/
theorem ArrOK.cell {P : Program} {w : World} {Own : Nat → Nat → Prop} {te : TypeId} {ks : List Lk} (hk : kinds P te = some ks) {Γ : Env} {a x : E} (h : ArrOK P w Own te (a.ev Γ.ρ)) (h0 : 0 ≤ x.den Γ.ρ)
    (h1 : x.den Γ.ρ < ((a.ev Γ.ρ).rows.length : Int)) : ∃ b o, (∀ k, elemAt (a.ev Γ.ρ).loc k = .pointer (some ⟨b, o + k, none⟩)) ∧
      ∀ j, j < ks.length → ∀ l, (rowLf a x 0 ks)[j]? = some l → w.cell? ⟨b, o + ((x.den Γ.ρ).toNat * ks.length + j), none⟩ = some (l.den Γ) ∧ l.ok P w Own Γ := by
  obtain ⟨v, rows, hc, d, S, hS, hA⟩ := h
  cases d with
  | zero => exact hA.elim
  | succ d =>
    obtain ⟨ks', hk', a', cap, hv, hh⟩ := hA
    obtain rfl : ks = ks' := Option.some.inj (hk.symm.trans hk')
    rw [hc] at h1
    simp only [C.rows] at h1
    have hne : rows ≠ [] := by intro e; subst e; simp at h1; omega
    obtain ⟨b, o, rfl, -, hr⟩ := hh hne
    subst hv
    refine ⟨b, o, fun k => by rw [hc]; simp only [C.loc, elemAt]; unfold Addr.add; split <;> simp_all, fun j hj l hl => ?_⟩
    have hlt : (x.den Γ.ρ).toNat < rows.length := by omega
    obtain ⟨hrl, hcell⟩ := hr (x.den Γ.ρ).toNat rows[(x.den Γ.ρ).toNat] (by simp [hlt])
    obtain ⟨-, u, c, hu, hrj, hm⟩ := hcell j ks[j] (by simp [hj])
    rw [rowLf_get] at hl
    simp only [List.getElem?_eq_getElem hj, Option.map_some, Option.some.injEq, Nat.zero_add] at hl
    have hat : (E.cell a x j).ev Γ.ρ = c := by
      simp only [E.ev, C.at, hc, C.rows]
      rw [show (x.ev Γ.ρ).int = x.den Γ.ρ from rfl]
      simp [List.getD_eq_getElem?_getD, hlt, hrj]
    rw [hu]
    generalize ks[j] = k at *
    cases k with
    | int =>
      obtain ⟨n, rfl, rfl⟩ := hm
      subst hl
      exact ⟨by simp only [Lf.den, E.den, hat, C.int], trivial⟩
    | bool =>
      obtain ⟨n, rfl, rfl⟩ := hm
      subst hl
      exact ⟨by simp only [Lf.den, B.den, hat, C.bool], trivial⟩
    | vec t => exact hm.elim
    | opq => exact hm.elim
    | arr t =>
      obtain ⟨rows', rfl, hn⟩ := hm
      subst hl
      refine ⟨by simp only [Lf.den, hat, C.loc], ?_⟩
      simp only [Lf.ok, hat]
      exact ⟨_, _, rfl, d, S, hS, hn⟩
/-- What lies at a cell of a row of a slice of one's own. -/
theorem VecOK.cell {P : Program} {w : World} {O : Nat → Nat → Prop} {te : TypeId} {ks : List Lk} (hk : kinds P te = some ks) {Γ : Env} {v : Value} {a x : E} (h : VecOK P w O te v (a.ev Γ.ρ)) (h0 : 0 ≤ x.den Γ.ρ)
    (h1 : x.den Γ.ρ < ((a.ev Γ.ρ).rows.length : Int)) : ∃ b, (∀ k, elemAt v k = .pointer (some ⟨b, k, none⟩)) ∧ v.ownBlock = some b ∧
      ∀ j, j < ks.length → ∀ l, (rowLf a x 0 ks)[j]? = some l → w.cell? ⟨b, (x.den Γ.ρ).toNat * ks.length + j, none⟩ = some (l.den Γ) ∧ l.ok P w O Γ := by
  obtain ⟨ks', us, hk', hc, hl, hr, ho⟩ := h
  obtain rfl : ks = ks' := Option.some.inj (hk.symm.trans hk')
  rcases ho.2 with ⟨-, hn⟩ | ⟨g, cap, cur, rfl, -⟩
  · rw [hn] at h1; simp at h1; omega
  refine ⟨g, fun k => by simp only [elemAt]; unfold Addr.add; split <;> simp_all, rfl, fun j hj l hlj => ?_⟩
  have hlt : (x.den Γ.ρ).toNat < (a.ev Γ.ρ).rows.length := by omega
  obtain ⟨u, c, hu, hcc, hrep⟩ := hr.get (j := (x.den Γ.ρ).toNat * ks.length + j) (k := ks[j]) (by rw [rowsK_get hlt hj]; simp [hj])
  have hcell := ho.cells (g := g) rfl _ _ hu
  rw [show (⟨g, 0, none⟩ : Addr).add ((x.den Γ.ρ).toNat * ks.length + j) = ⟨g, (x.den Γ.ρ).toNat * ks.length + j, none⟩ by unfold Addr.add; split <;> simp_all] at hcell
  rw [flatten_get _ hl _ _ (a.ev Γ.ρ).rows[(x.den Γ.ρ).toNat] (by simp [hlt]) hj] at hcc
  have hat : (E.cell a x j).ev Γ.ρ = c := by
    simp only [E.ev, C.at]
    rw [show (x.ev Γ.ρ).int = x.den Γ.ρ from rfl]
    simp [List.getD_eq_getElem?_getD, hlt, hcc]
  rw [rowLf_get] at hlj
  simp only [List.getElem?_eq_getElem hj, Option.map_some, Option.some.injEq, Nat.zero_add] at hlj
  rw [hcell]
  have h2 := hrep.2
  generalize ks[j] = k at *
  cases k with
  | int =>
    obtain ⟨n, rfl, rfl⟩ := h2
    subst hlj
    exact ⟨by simp only [Lf.den, E.den, hat, C.int], trivial⟩
  | bool =>
    obtain ⟨n, rfl, rfl⟩ := h2
    subst hlj
    exact ⟨by simp only [Lf.den, B.den, hat, C.bool], trivial⟩
  | vec t => exact h2.elim
  | opq => exact h2.elim
  | arr t =>
    subst hlj
    refine ⟨by simp only [Lf.den, hat, h2.1], ?_⟩
    simp only [Lf.ok, hat]
    exact h2.2
end Go.Proofs.Ytbgofenplhdllaa
/- The engine, part 5: loads, addresses, parts, fills, comparisons. -/
namespace Go.Proofs.Ytbgofenplhdllaa
open Go.RowKit
set_option linter.unusedSimpArgs false

theorem ArrOK.addr {P : Program} {w : World} {Own : Nat → Nat → Prop} {te : TypeId} {c : C} {x : Int} (h : ArrOK P w Own te c) (h0 : 0 ≤ x) (h1 : x < (c.rows.length : Int)) :
    ∃ b o, (∀ k, elemAt c.loc k = .pointer (some ⟨b, o + k, none⟩)) ∧ ∃ cap, c.loc = .slice (some ⟨b, o, none⟩) c.rows.length cap := by
  obtain ⟨v, rows, rfl, d, S, hS, hA⟩ := h
  cases d with
  | zero => exact hA.elim
  | succ d =>
    obtain ⟨ks', hk', a', cap, hv, hh⟩ := hA
    simp only [C.rows] at h1
    have hne : rows ≠ [] := by intro e; subst e; simp at h1; omega
    obtain ⟨b, o, rfl, -, hr⟩ := hh hne
    subst hv
    exact ⟨b, o, fun k => by simp only [C.loc, elemAt]; unfold Addr.add; split <;> simp_all, cap, rfl⟩
theorem ArrOK.loc {P : Program} {w : World} {Own : Nat → Nat → Prop} {te : TypeId} {c : C} (h : ArrOK P w Own te c) : ∃ a cap, c.loc = .slice a c.rows.length cap := by
  obtain ⟨v, rows, rfl, d, S, hS, hA⟩ := h
  obtain ⟨a, cap, hv⟩ := hA.slice
  exact ⟨a, cap, hv⟩

theorem ArrOK.room {P : Program} {w : World} {Own : Nat → Nat → Prop} {te : TypeId} {c : C} (h : ArrOK P w Own te c) : ∃ a cap, c.loc = .slice a c.rows.length cap ∧ c.rows.length ≤ cap := by
  obtain ⟨v, rows, rfl, d, S, hS, hA⟩ := h
  cases d with
  | zero => exact hA.elim
  | succ d =>
    obtain ⟨ks, hk, a, cap, hv, hh⟩ := hA
    refine ⟨a, cap, hv, ?_⟩
    show rows.length ≤ cap
    by_cases hne : rows = []
    · subst hne; exact Nat.zero_le _
    · obtain ⟨b, o, -, hcap, -⟩ := hh hne
      exact hcap
/-- A part of a slice. -/
theorem ArrOK.part {P : Program} {w : World} {Own : Nat → Nat → Prop} {te : TypeId} {c : C} (h : ArrOK P w Own te c) {sz lo hi : Nat} (hsz : sizeIs P te = some sz) (h1 : lo ≤ hi) (h2 : hi ≤ c.rows.length) :
    ArrOK P w Own te (.s (partLoc c.loc lo hi sz) ((c.rows.take hi).drop lo)) := by
  obtain ⟨v, rows, rfl, d, S, hS, hA⟩ := h
  cases d with
  | zero => exact hA.elim
  | succ d =>
    obtain ⟨ks, hk, a, cap, hv, hh⟩ := hA
    subst hv
    have hks := (kinds_size hk).1
    rw [hsz] at hks
    cases hks
    have h2 : hi ≤ rows.length := h2
    have hlen : ((rows.take hi).drop lo).length = hi - lo := by rw [List.length_drop, List.length_take]; omega
    refine ⟨_, _, rfl, d + 1, S, hS, ks, hk, (if cap = lo then a else a.map (·.add (lo * ks.length))), cap - lo, ?_, fun hne => ?_⟩
    · show partLoc (.slice a rows.length cap) lo hi ks.length = .slice _ ((rows.take hi).drop lo).length _
      rw [hlen]; rfl
    · have hne : (rows.take hi).drop lo ≠ [] := hne
      have hlt : lo < hi := by
        rcases Nat.lt_or_ge lo hi with h | h
        · exact h
        · exact absurd (List.eq_nil_of_length_eq_zero (by rw [hlen]; omega)) hne
      obtain ⟨b, o, rfl, hcap, hr⟩ := hh (by intro e; subst e; simp at h2; omega)
      refine ⟨b, o + lo * ks.length, ?_, ?_, fun i r hi' => ?_⟩
      · rw [if_neg (by omega)]
        simp only [Option.map_some, Option.some.injEq]
        unfold Addr.add
        split <;> simp_all
      · show ((rows.take hi).drop lo).length ≤ cap - lo
        rw [hlen]; omega
      · have hi' : ((rows.take hi).drop lo)[i]? = some r := hi'
        have hrow : rows[lo + i]? = some r := by
          rw [List.getElem?_drop, List.getElem?_take] at hi'
          split at hi'
          · exact hi'
          · cases hi'
        obtain ⟨hl, hc⟩ := hr (lo + i) r hrow
        refine ⟨hl, fun j k hj => ?_⟩
        have := hc j k hj
        rw [show o + ((lo + i) * ks.length + j) = o + lo * ks.length + (i * ks.length + j) by rw [Nat.add_mul]; omega] at this
        exact this

/-! Parts of aggregates -/
def cut (cs : List Lf) (off n : Nat) : List Lf := (cs.drop off).take n
theorem dens_cut (Γ : Env) (cs : List Lf) (off n : Nat) : dens Γ (cut cs off n) = (dens Γ cs).extract off (off + n) := by
  apply Array.ext'
  simp [dens, cut, List.map_drop, List.map_take]
theorem dens_size (Γ : Env) (cs : List Lf) : (dens Γ cs).size = cs.length := by simp [dens]
theorem dens_get (Γ : Env) (cs : List Lf) (i : Nat) : (dens Γ cs)[i]? = (cs[i]?).map (Lf.den Γ) := by simp [dens]
def partS (P : Program) (t : TypeId) (cs : List Lf) (off : Nat) : Option S0 :=
  match aggOf P t with
  | some true => match sizeIs P t with
    | some n => if off + n ≤ cs.length then some (.agg (cut cs off n)) else none
    | none => none
  | some false => (cs[off]?).map .lf
  | none => none
theorem run_partS {P : Program} {t : TypeId} {cs : List Lf} {off : Nat} {s : S0} (h : partS P t cs off = some s) (Γ : Env) (w : World) : (part t (dens Γ cs) off).run P w = .ok (s.den Γ) w := by
  unfold partS at h
  unfold part
  split at h
  · rename_i ha
    split at h
    · rename_i n hn
      split at h
      · cases h
        simp [run_isAgg ha, run_sizeOf' hn, S0.den, dens_cut]
      · cases h
    · cases h
  · rename_i ha
    cases hc : cs[off]? with
    | none => simp [hc] at h
    | some l =>
      simp [hc] at h
      subst h
      simp [run_isAgg ha, dens_get, hc, S0.den]
  · cases h
theorem partS_cells {P : Program} {t : TypeId} {cs : List Lf} {off : Nat} {s : S0} (h : partS P t cs off = some s) : ∀ l ∈ s.cells, l ∈ cs := by
  unfold partS at h
  split at h
  · split at h
    · split at h
      · cases h
        intro l hl
        exact List.mem_of_mem_drop (List.mem_of_mem_take hl)
      · cases h
    · cases h
  · cases hc : cs[off]? with
    | none => simp [hc] at h
    | some l =>
      simp [hc] at h
      subst h
      intro x hx
      simp [S0.cells] at hx
      subst hx
      exact List.mem_of_getElem? hc
  · cases h

/-! Loads -/
abbrev Vecs := List (Nat × Option (TypeId × E))
def loadLf (P : Program) (mem : List (Nat × Option (TypeId × List Lf))) (vec : Vecs) (t : TypeId) : Lf → Option S0
  | .ptr b off => match look mem b with
    | some mb => partS P t mb.2 off
    | none => none
  | .elp te sz a x o => match kinds P te, kinds P t with
    | some ks, some kt => if ks.length = sz ∧ (ks.drop o).take kt.length = kt then partS P t (rowLf a x 0 ks) o else none
    | _, _ => none
  | .velp te sz i x o => match look vec i, kinds P te, kinds P t with
    | some e, some ks, some kt => if e.1 = te ∧ ks.length = sz ∧ (ks.drop o).take kt.length = kt then partS P t (rowLf e.2 x 0 ks) o else none
    | _, _, _ => none
  | _ => none
theorem rowLf_length (a x : E) : ∀ (l : List Lk) (o : Nat), (rowLf a x o l).length = l.length
  | [], _ => rfl
  | k :: l, o => by cases k <;> simp [rowLf, rowLf_length a x l]
theorem run_load_part {P : Program} {t : TypeId} {cs : List Lf} {off : Nat} {s : S0} (h : partS P t cs off = some s) (Γ : Env) (w : World) (b k : Nat)
    (hc : ∀ j l, cs[j]? = some l → w.cell? ⟨b, k + j, none⟩ = some (l.den Γ)) : (Instr.loadAt t (.pointer (some ⟨b, k + off, none⟩))).run P w = .ok (s.den Γ) w := by
  unfold partS at h
  simp only [Instr.loadAt, Instr.sureAddr, pure_bind, loadVar]
  split at h
  · rename_i ha
    split at h
    · rename_i n hn
      split at h
      · rename_i hle
        cases h
        have hlen : ((cut cs off n).map (Lf.den Γ)).length = n := by simp [cut]; omega
        have := run_loadCells_list (P := P) w ⟨b, k + off, none⟩ ((cut cs off n).map (Lf.den Γ)) (fun j v hj => by
          rw [Addr.add_lit, Nat.add_assoc]
          simp only [cut, List.getElem?_map, List.getElem?_take, List.getElem?_drop] at hj
          split at hj
          · cases hcc : cs[off + j]? with
            | none => simp [hcc] at hj
            | some l => simp [hcc] at hj; subst hj; exact hc _ _ hcc
          · simp at hj)
        rw [hlen] at this
        simp [run_isAgg ha, run_sizeOf' hn, this, S0.den, dens]
      · cases h
    · cases h
  · rename_i ha
    cases hcc : cs[off]? with
    | none => simp [hcc] at h
    | some l =>
      simp [hcc] at h
      subst h
      simp [run_isAgg ha, hc _ _ hcc, S0.den]
  · cases h

/-- What an operation may lean on. -/
def Own (Γ : Env) (st : St) (b o : Nat) : Prop := Γ.base b o ∨ (∃ j mb, look st.mem j = some mb ∧ Γ.blk j = b) ∨ ∃ i e, look st.vec i = some e ∧ (at_ Γ.ρ i).loc.ownBlock = some b
structure View (P : Program) (Γ : Env) (st : St) (xs : Array Operand) (ρ : Operand → Value) (w : World) : Prop where
  slots : ∀ x ∈ xs, ∀ sv, st.ev x = some sv → ρ x = sv.den Γ ∧ sv.ok P w (Own Γ st) Γ
  mem : ∀ b mb, look st.mem b = some mb → Blk w (Γ.blk b) mb.1 (dens Γ mb.2) ∧ ∀ l ∈ mb.2, l.ok P w (Own Γ st) Γ
  vec : ∀ i e, look st.vec i = some e → VecOK P w (Own Γ st) e.1 (at_ Γ.ρ i).loc (e.2.ev Γ.ρ)
  clo : ∀ i e, look st.clo i = some e → (at_ Γ.ρ i).loc = .func (.func e.1) (e.2.1.map (S0.den Γ)).toArray (e.2.2.map (Lf.den Γ)).toArray ∧ (∀ s ∈ e.2.1, s.ok P w (Own Γ st) Γ) ∧ ∀ l ∈ e.2.2, l.ok P w (Own Γ st) Γ
  num : Num st.bds Γ.ρ

theorem run_loadLf {P : Program} {Γ : Env} {st : St} {xs : Array Operand} {ρ : Operand → Value} {w : World} (hv : View P Γ st xs ρ w) {t : TypeId} {l : Lf} {s : S0}
    (h : loadLf P st.mem st.vec t l = some s) (hl : l.ok P w (Own Γ st) Γ) : (Instr.loadAt t (l.den Γ)).run P w = .ok (s.den Γ) w ∧ s.ok P w (Own Γ st) Γ := by
  unfold loadLf at h
  split at h
  · rename_i b off
    split at h
    · rename_i mb hm
      obtain ⟨hb, hok⟩ := hv.mem b mb hm
      refine ⟨?_, fun l hl => hok l (partS_cells h l hl)⟩
      have := run_load_part h Γ w (Γ.blk b) 0 (fun j l hj => by
        rw [Nat.zero_add]
        exact hb.cell j (by rw [dens_get, hj]; rfl))
      rw [Nat.zero_add] at this
      exact this
    · cases h
  · rename_i te sz a x o
    split at h
    · rename_i ks kt hks hkt
      split at h
      · rename_i hc
        obtain ⟨hc1, hc2⟩ := hc
        obtain ⟨hA, h0, h1, hsz⟩ := hl
        obtain ⟨b, p, he, hcell⟩ := ArrOK.cell hks hA h0 h1
        refine ⟨?_, fun l hl => ?_⟩
        · simp only [Lf.den]
          rw [he]
          have := run_load_part h Γ w b (p + (x.den Γ.ρ).toNat * ks.length) (fun j l hj => by
            have hlt : j < ks.length := by
              rcases Nat.lt_or_ge j ks.length with h' | h'
              · exact h'
              · rw [List.getElem?_eq_none (by rw [rowLf_length]; exact h')] at hj; cases hj
            have := (hcell j hlt l hj).1
            rwa [← Nat.add_assoc] at this)
          rw [← hc1, ← Nat.add_assoc]
          exact this
        · have hm := partS_cells h l hl
          obtain ⟨j, hj⟩ := List.getElem?_of_mem hm
          have hlt : j < ks.length := by
            rcases Nat.lt_or_ge j ks.length with h' | h'
            · exact h'
            · rw [List.getElem?_eq_none (by rw [rowLf_length]; exact h')] at hj; cases hj
          exact (hcell j hlt l hj).2
      · cases h
    · cases h
  · rename_i te sz i x o
    split at h
    · rename_i e ks kt hi hks hkt
      split at h
      · rename_i hc
        obtain ⟨rfl, hc1, hc2⟩ := hc
        obtain ⟨b', n, cap, hloc, hsz, h0, h1⟩ := hl
        have hve := hv.vec i e hi
        have hlen : n = ((e.2.ev Γ.ρ).rows.length) := by
          obtain ⟨a, cap', hs'⟩ := hve.slice
          rw [hloc] at hs'; cases hs'; rfl
        obtain ⟨b, he, -, hcell⟩ := VecOK.cell hks hve h0 (by rw [← hlen]; exact h1)
        refine ⟨?_, fun l hl => ?_⟩
        · simp only [Lf.den]
          rw [he]
          have := run_load_part h Γ w b ((x.den Γ.ρ).toNat * ks.length) (fun j l hj => by
            have hlt : j < ks.length := by
              rcases Nat.lt_or_ge j ks.length with h' | h'
              · exact h'
              · rw [List.getElem?_eq_none (by rw [rowLf_length]; exact h')] at hj; cases hj
            exact (hcell j hlt l hj).1)
          rw [← hc1]
          exact this
        · have hm := partS_cells h l hl
          obtain ⟨j, hj⟩ := List.getElem?_of_mem hm
          have hlt : j < ks.length := by
            rcases Nat.lt_or_ge j ks.length with h' | h'
            · exact h'
            · rw [List.getElem?_eq_none (by rw [rowLf_length]; exact h')] at hj; cases hj
          exact (hcell j hlt l hj).2
      · cases h
    · cases h
  · cases h

/-! Fields' and elements' addresses -/
def fieldOff (P : Program) (s : TypeId) (f : Nat) : Option Nat :=
  match P.underlying s with
  | some (.struct fs) => match fs[f]? with
    | some fd => match sizeIs P fd.type with
      | some (_ + 1) => some fd.offset
      | _ => none
    | none => none
  | _ => none
def Lf.shift (k : Nat) : Lf → Option Lf
  | .ptr b off => some (.ptr b (off + k))
  | .elp te sz a x o => some (.elp te sz a x (o + k))
  | .velp te sz i x o => some (.velp te sz i x (o + k))
  | _ => none
theorem run_fieldOff {P : Program} {s : TypeId} {f k : Nat} (h : fieldOff P s f = some k) (b o : Nat) (w : World) :
    (Instr.fieldAt s (.pointer (some ⟨b, o, none⟩)) f).run P w = .ok (.pointer (some ⟨b, o + k, none⟩)) w := by
  unfold fieldOff at h
  split at h
  · rename_i fs hu
    split at h
    · rename_i fd hf
      split at h
      · rename_i n hn
        cases h
        simp [Instr.fieldAt, run_underlying hu, hf, Instr.sureAddr, fieldPlace, run_sizeOf' hn, Addr.add_lit]
      · cases h
    · cases h
  · cases h
theorem run_shift {P : Program} {Γ : Env} {w : World} {Own : Nat → Nat → Prop} {s : TypeId} {f k : Nat} (h : fieldOff P s f = some k) {l l' : Lf} (hl : l.shift k = some l') (ho : l.ok P w Own Γ) :
    (Instr.fieldAt s (l.den Γ) f).run P w = .ok (l'.den Γ) w ∧ l'.ok P w Own Γ := by
  cases l <;> simp only [Lf.shift, Option.some.injEq] at hl <;> first | (cases hl; done) | skip
  · subst hl
    exact ⟨run_fieldOff h _ _ _, trivial⟩
  · rename_i te sz a x o
    subst hl
    refine ⟨?_, ho⟩
    obtain ⟨b, p, he, -⟩ := ho.1.addr ho.2.1 ho.2.2.1
    simp only [Lf.den]
    rw [he, he, run_fieldOff h]
    simp [Nat.add_assoc]
  · rename_i te sz i x o
    subst hl
    refine ⟨?_, ho⟩
    obtain ⟨b, n, cap, hloc, -⟩ := ho
    have he : ∀ k, elemAt (at_ Γ.ρ i).loc k = .pointer (some ⟨b, k, none⟩) := fun k => by rw [hloc]; simp only [elemAt]; unfold Addr.add; split <;> simp_all
    simp only [Lf.den]
    rw [he, he, run_fieldOff h]
    simp [Nat.add_assoc]
def need (b : B) : List B := match b with | .lit true => [] | b => [b]
theorem need_ok {ρ : List C} {b : B} (h : Obs ρ (need b)) : b.den ρ = true := by
  unfold need at h
  split at h
  · rfl
  · exact h _ (by simp)
def sliceOf (P : Program) (t : TypeId) : Option TypeId := match P.underlying t with | some (.slice e) => some e | _ => none
theorem sliceOf_eq {P : Program} {t e : TypeId} (h : sliceOf P t = some e) : P.underlying t = some (.slice e) := by
  unfold sliceOf at h
  split at h
  · rename_i hu; cases h; exact hu
  · cases h
def idxLf (P : Program) (vec : Vecs) (bd : Bds) (t : TypeId) : Lf → E → Option (List B × Lf)
  | .arr te a, x => if sliceOf P t = some te then match sizeIs P te with
      | some sz => some (need (B.mkCmp bd .le (.lit 0) x) ++ need (B.mkCmp bd .lt x (.len a)), .elp te sz a x 0)
      | none => none
    else none
  | .vec te i, x => match look vec i with
    | some e => if e.1 = te ∧ sliceOf P t = some te then match sizeIs P te with
      | some sz => some (need (B.mkCmp bd .le (.lit 0) x) ++ need (B.mkCmp bd .lt x (.len e.2)), .velp te sz i x 0)
      | none => none
      else none
    | none => none
  | .ptr b off, .lit (.ofNat k) => match P.underlying t with
    | some (.array n e) => match sizeIs P e with
      | some sz => if k < n then some ([], .ptr b (off + k * sz)) else none
      | none => none
    | _ => none
  | _, _ => none
theorem run_idxLf {P : Program} {Γ : Env} {w : World} {Own : Nat → Nat → Prop} {vec : Vecs} (hvec : ∀ i e, look vec i = some e → VecOK P w Own e.1 (at_ Γ.ρ i).loc (e.2.ev Γ.ρ)) {bd : Bds} (hn : Num bd Γ.ρ) {t : TypeId} {l l' : Lf} {x : E} {obs : List B} (h : idxLf P vec bd t l x = some (obs, l'))
    (ho : l.ok P w Own Γ) (hob : Obs Γ.ρ obs) : (Instr.indexAt t (l.den Γ) (.int .i64 (x.den Γ.ρ))).run P w = .ok (l'.den Γ) w ∧ l'.ok P w Own Γ := by
  have key : ∀ te a, l = .arr te a → (Instr.indexAt t (l.den Γ) (.int .i64 (x.den Γ.ρ))).run P w = .ok (l'.den Γ) w ∧ l'.ok P w Own Γ := by
    intro te a e
    subst e
    simp only [idxLf] at h
    split at h
    · rename_i hu'
      have hu := sliceOf_eq hu'
      split at h
      · rename_i sz hs
        cases h
        obtain ⟨o1, o2⟩ := Obs.app hob
        have g1 := need_ok o1
        have g2 := need_ok o2
        rw [B.den_mkCmp hn] at g1 g2
        have g1' : 0 ≤ x.den Γ.ρ := of_decide_eq_true g1
        have g2' : x.den Γ.ρ < ((a.ev Γ.ρ).rows.length : Int) := of_decide_eq_true g2
        obtain ⟨b, p, he, cap, hloc⟩ := ArrOK.addr ho g1' g2'
        refine ⟨?_, ho, g1', g2', hs⟩
        have hel : P.elem t = te := by simp [Program.elem, hu]
        simp only [Lf.den, he]
        rw [hloc, run_indexAt_slice w t _ _ _ _ _ (by rw [hel]; exact hu), if_pos ⟨g1', g2'⟩, hel, run_sizeOf' hs]
        simp [Addr.add_lit]
      · cases h
    · cases h
  unfold idxLf at h
  split at h
  · exact key _ _ rfl
  · rename_i te i
    split at h
    · rename_i e hi
      split at h
      · rename_i hcc
        obtain ⟨rfl, hu'⟩ := hcc
        have hu := sliceOf_eq hu'
        split at h
        · rename_i sz hs
          cases h
          obtain ⟨o1, o2⟩ := Obs.app hob
          have g1 := need_ok o1
          have g2 := need_ok o2
          rw [B.den_mkCmp hn] at g1 g2
          have g1' : 0 ≤ x.den Γ.ρ := of_decide_eq_true g1
          have g2' : x.den Γ.ρ < ((e.2.ev Γ.ρ).rows.length : Int) := of_decide_eq_true g2
          have hve := hvec i e hi
          obtain ⟨ks, us, k1, k2, k3, k4, k5⟩ := hve
          rcases k5.2 with ⟨-, hn0⟩ | ⟨g, cap, cur, hloc, -⟩
          · rw [hn0] at g2'; simp at g2'; omega
          refine ⟨?_, ⟨g, _, cap, hloc, hs, g1', g2'⟩⟩
          have hel : P.elem t = e.1 := by simp [Program.elem, hu]
          simp only [Lf.den]
          rw [hloc, run_indexAt_slice w t _ _ _ _ _ (by rw [hel]; exact hu), if_pos ⟨g1', g2'⟩, hel, run_sizeOf' hs]
          simp [Addr.add_lit, elemAt]
        · cases h
      · cases h
    · cases h
  · rename_i b off k
    split at h
    · rename_i n e hu
      split at h
      · rename_i sz hs
        split at h
        · rename_i hk
          cases h
          refine ⟨?_, trivial⟩
          have hel : P.elem t = e := by simp [Program.elem, hu]
          have hal : P.arrayLen t = n := by simp [Program.arrayLen, hu]
          simp only [Lf.den]
          rw [run_indexAt_array w t _ _ _ (by rw [hel, hal]; exact hu), if_pos (by rw [hal]; simp [E.den_lit]; omega), hel, run_sizeOf' hs]
          simp [Addr.add_lit, E.den_lit]
        · cases h
      · cases h
    · cases h
  · cases h
end Go.Proofs.Ytbgofenplhdllaa
/- The engine, part 6: structs built and compared; one operation that leaves the world alone. -/
namespace Go.Proofs.Ytbgofenplhdllaa
open Go.RowKit
set_option linter.unusedSimpArgs false

/-! build -/
def setAll (off : Nat) (new : List Lf) (cs : List Lf) : List Lf := new.zipIdx.foldl (fun cs (c, j) => cs.set (off + j) c) cs
def fillLf (place : Nat → Option (Nat × Nat)) (cells : List Lf) : List (Nat × S0) → Option (List Lf)
  | [] => some cells
  | (i, v) :: rest => match place i with
    | none => none
    | some p => if v.cells.length = p.2 ∧ p.1 + v.cells.length ≤ cells.length then fillLf place (setAll p.1 v.cells cells) rest else none
theorem S0.den_cells (Γ : Env) (s : S0) (hs : ∀ l ∈ s.cells, (l.den Γ).cells = #[l.den Γ]) : (s.den Γ).cells = dens Γ s.cells := by
  cases s with
  | lf l => simp only [S0.den, S0.cells, dens]; rw [hs l (by simp [S0.cells])]; rfl
  | agg l => rfl
theorem foldl_dens (Γ : Env) (off : Nat) : ∀ (new : List (Lf × Nat)) (cs : List Lf),
    (new.map fun p => (p.1.den Γ, p.2)).foldl (fun (cs : Array Value) (p : Value × Nat) => cs.setIfInBounds (off + p.2) p.1) (dens Γ cs) = dens Γ (new.foldl (fun cs (p : Lf × Nat) => cs.set (off + p.2) p.1) cs)
  | [], cs => rfl
  | p :: rest, cs => by
    simp only [List.map_cons, List.foldl_cons]
    rw [← foldl_dens Γ off rest]
    congr 1
    apply Array.ext'
    simp [dens, List.map_set]
theorem fill_dens (Γ : Env) (place : Nat → Option (Nat × Nat)) : ∀ (parts : List (Nat × S0)) (cells out : List Lf), (∀ p ∈ parts, ∀ l ∈ p.2.cells, (l.den Γ).cells = #[l.den Γ]) →
    fillLf place cells parts = some out → Instr.fill place (dens Γ cells) (parts.map fun p => (p.1, p.2.den Γ)) = some (dens Γ out)
  | [], cells, out, _, h => by simp [fillLf] at h; subst h; simp [Instr.fill]
  | (i, v) :: rest, cells, out, hs, h => by
    simp only [fillLf] at h
    split at h
    · cases h
    · rename_i p hp
      obtain ⟨off, size⟩ := p
      split at h
      · rename_i hc
        have hcl := S0.den_cells Γ v (hs (i, v) (by simp))
        simp only [List.map_cons, Instr.fill, hp, hcl, dens_size]
        rw [if_neg (by simp; simp at hc; omega)]
        have := foldl_dens Γ off v.cells.zipIdx cells
        have e : (dens Γ v.cells).zipIdx = ((v.cells.zipIdx.map fun p => (p.1.den Γ, p.2)).toArray) := by
          apply Array.ext'
          simp [dens, List.zipIdx_map]
        rw [e]
        simp only [List.foldl_toArray]
        rw [show (List.foldl (fun (cs : Array Value) (x : Value × Nat) => match x with | (c, j) => cs.setIfInBounds (off + j) c) (dens Γ cells) (v.cells.zipIdx.map fun p => (p.1.den Γ, p.2))) = dens Γ (setAll off v.cells cells) from this]
        exact fill_dens Γ place rest _ _ (fun p hp => hs p (by simp [hp])) h
      · cases h
def zeroLf (P : Program) (t : TypeId) : Option (List Lf) :=
  match P.info? t with
  | some it => it.zero.map fun z => z.cells.toList.map Lf.ofValue
  | none => none
theorem dens_ofValues (Γ : Env) (l : List Value) : dens Γ (l.map Lf.ofValue) = l.toArray := by
  simp [dens, Function.comp_def, Lf.den_ofValue]
theorem zeroLf_spec {P : Program} {t : TypeId} {cs : List Lf} (h : zeroLf P t = some cs) (Γ : Env) : ∃ it z, P.info? t = some it ∧ it.zero = some z ∧ z.cells = dens Γ cs := by
  unfold zeroLf at h
  split at h
  · rename_i it hi
    cases hz : it.zero with
    | none => simp [hz] at h
    | some z =>
      simp [hz] at h
      subst h
      exact ⟨it, z, hi, hz, by rw [dens_ofValues]⟩
  · cases h
def buildLf (P : Program) (t : TypeId) (parts : List (Nat × S0)) : Option (List Lf) :=
  match zeroLf P t, P.underlying t with
  | some z, some (.array _ e) => match P.info? e with
    | some ie => fillLf (fun i => some (i * ie.size, ie.size)) z parts
    | none => none
  | some z, some (.struct fields) => match fields.toList.mapM (fun f => (P.info? f.type).map fun i => (f.offset, i.size)) with
    | some places => fillLf (places.toArray[·]?) z parts
    | none => none
  | _, _ => none
theorem built_buildLf {P : Program} {t : TypeId} {parts : List (Nat × S0)} {out : List Lf} (h : buildLf P t parts = some out) (Γ : Env) (hs : ∀ p ∈ parts, ∀ l ∈ p.2.cells, (l.den Γ).cells = #[l.den Γ]) :
    P.built t (parts.map fun p => (p.1, p.2.den Γ)) = some (dens Γ out) := by
  unfold buildLf at h
  unfold Program.built
  split at h
  · rename_i z n e hz hu
    obtain ⟨it, zv, hi, hzz, hc⟩ := zeroLf_spec hz Γ
    split at h
    · rename_i ie hie
      simp only [hi, hu, hzz, hie, hc]
      exact fill_dens Γ _ _ _ _ hs h
    · cases h
  · rename_i z fs hz hu
    obtain ⟨it, zv, hi, hzz, hc⟩ := zeroLf_spec hz Γ
    split at h
    · rename_i places hp
      simp only [hi, hu, hzz, hp, hc]
      exact fill_dens Γ _ _ _ _ hs h
    · cases h
  · cases h
/-- Where the cells of what was built come from. -/
theorem fillLf_mem (place : Nat → Option (Nat × Nat)) : ∀ (parts : List (Nat × S0)) (cells out : List Lf), fillLf place cells parts = some out → ∀ l ∈ out, l ∈ cells ∨ ∃ p ∈ parts, l ∈ p.2.cells
  | [], cells, out, h => by simp [fillLf] at h; subst h; exact fun l hl => .inl hl
  | (i, v) :: rest, cells, out, h => by
    simp only [fillLf] at h
    split at h
    · cases h
    · rename_i p hp
      split at h
      · intro l hl
        rcases fillLf_mem place rest _ _ h l hl with h1 | ⟨p', hp', h1⟩
        · have key : ∀ (new : List (Lf × Nat)) (cs : List Lf), l ∈ new.foldl (fun cs (q : Lf × Nat) => cs.set (p.1 + q.2) q.1) cs → l ∈ cs ∨ ∃ q ∈ new, l = q.1 := by
            intro new
            induction new with
            | nil => intro cs h; exact .inl h
            | cons q new ih =>
              intro cs h
              rcases ih _ h with h | ⟨q', hq', h⟩
              · rcases List.mem_or_eq_of_mem_set h with h | h
                · exact .inl h
                · exact .inr ⟨q, by simp, h⟩
              · exact .inr ⟨q', by simp [hq'], h⟩
          rcases key _ _ h1 with h2 | ⟨q, hq, rfl⟩
          · exact .inl h2
          · refine .inr ⟨(i, v), by simp, ?_⟩
            have := List.fst_mem_of_mem_zipIdx hq
            exact this
        · exact .inr ⟨p', by simp [hp'], h1⟩
      · cases h

/-! Structs compared -/
def B.mkAnd : B → B → B
  | .lit true, b => b
  | .lit false, _ => .lit false
  | a, .lit true => a
  | a, b => .and a b
theorem B.den_mkAnd (ρ : List C) (a b : B) : (B.mkAnd a b).den ρ = (a.den ρ && b.den ρ) := by
  unfold B.mkAnd; split <;> simp [B.den]
def eqFs (rec : TypeId → S0 → S0 → Option B) (P : Program) (xs ys : List Lf) : List Field → Option B
  | [] => some (.lit true)
  | f :: fs => if f.name = "_" then none else match partS P f.type xs f.offset, partS P f.type ys f.offset with
    | some a, some b => match rec f.type a b, eqFs rec P xs ys fs with
      | some r, some s => some (B.mkAnd r s)
      | _, _ => none
    | _, _ => none
def eq1 (P : Program) (bd : Bds) (rec : TypeId → S0 → S0 → Option B) (t : TypeId) : S0 → S0 → Option B
  | .lf (.int a), .lf (.int b) => match P.underlying t with
    | some (.int _) => some (B.mkCmp bd .eq a b)
    | _ => none
  | .lf (.bool a), .lf (.bool b) => match P.underlying t with
    | some .bool => some (.beq a b)
    | _ => none
  | .agg xs, .agg ys => match P.underlying t with
    | some (.struct fs) => if P.stoodInHeld t then none else eqFs rec P xs ys fs.toList
    | _ => none
  | _, _ => none
def eqT (P : Program) (bd : Bds) : Nat → TypeId → S0 → S0 → Option B
  | 0 => fun _ _ _ => none
  | d + 1 => eq1 P bd (eqT P bd d)
theorem run_eqFs {P : Program} {bd : Bds} {Γ : Env} (d D : Nat) (ih : ∀ t x y b, eqT P bd d t x y = some b → ∀ w, (Op.equalIn (D + d) t (x.den Γ) (y.den Γ)).run P w = .ok (b.den Γ.ρ) w)
    (xs ys : List Lf) : ∀ (fs : List Field) (b : B), eqFs (eqT P bd d) P xs ys fs = some b → ∀ w, (Op.eqFields (D + d) (dens Γ xs) (dens Γ ys) fs).run P w = .ok (b.den Γ.ρ) w
  | [], b, h, w => by simp [eqFs] at h; subst h; simp [Op.eqFields, B.den]
  | f :: fs, b, h, w => by
    simp only [eqFs] at h
    split at h
    · cases h
    · rename_i hn
      split at h
      · rename_i a c ha hc
        split at h
        · rename_i r s hr hs
          cases h
          have i1 := ih _ _ _ _ hr w
          have i2 := run_eqFs d D ih xs ys fs s hs w
          simp only [Op.eqFields, ne_eq, hn, not_false_eq_true, if_true, Sem.run_bind, run_partS ha, run_partS hc, Result.andThen_ok, i1, B.den_mkAnd]
          cases r.den Γ.ρ
          · simp
          · simp [i2]
        · cases h
      · cases h
theorem run_eqT {P : Program} {bd : Bds} {Γ : Env} (hn : Num bd Γ.ρ) (D : Nat) : ∀ (d : Nat) (t : TypeId) (x y : S0) (b : B), eqT P bd d t x y = some b → ∀ w, (Op.equalIn (D + d) t (x.den Γ) (y.den Γ)).run P w = .ok (b.den Γ.ρ) w := by
  intro d
  induction d with
  | zero => intro t x y b h; cases h
  | succ d ih =>
    intro t x y b h w
    unfold eqT at h
    rw [show D + (d + 1) = (D + d) + 1 from rfl]
    unfold eq1 at h
    split at h
    · split at h
      · rename_i k hu
        cases h
        simp only [S0.den, Lf.den, B.den_mkCmp hn, Cmp.den]
        exact run_equalIn_int w (D + d) t _ k _ _ hu
      · cases h
    · split at h
      · rename_i hu
        cases h
        exact run_equalIn_bool w (D + d) t _ _ hu
      · cases h
    · split at h
      · rename_i fs hu
        split at h
        · cases h
        · rename_i hst
          have hf : P.fieldsOf t = fs := by simp [Program.fieldsOf, hu]
          simp only [S0.den]
          rw [run_equalIn_struct w (D + d) t _ _ (by rw [hf]; exact hu) (by simpa using hst), hf]
          exact run_eqFs d D ih _ _ fs.toList b h w
      · cases h
    · cases h
end Go.Proofs.Ytbgofenplhdllaa
/- The engine, part 7: one operation that leaves the world alone. -/
namespace Go.Proofs.Ytbgofenplhdllaa
open Go.RowKit
set_option linter.unusedSimpArgs false

theorem St.lf_ev {st : St} {x : Operand} {l : Lf} (h : st.lf x = some l) : st.ev x = some (.one (.lf l)) := by
  unfold St.lf at h
  split at h
  · rename_i l' h1; cases h; exact h1
  · cases h
theorem St.s0_ev {st : St} {x : Operand} {s : S0} (h : st.s0 x = some s) : st.ev x = some (.one s) := by
  unfold St.s0 at h
  split at h
  · rename_i l' h1; cases h; exact h1
  · cases h
theorem View.lf {P : Program} {Γ : Env} {st : St} {xs : Array Operand} {ρ : Operand → Value} {w : World} (hv : View P Γ st xs ρ w) {x : Operand} (hx : x ∈ xs) {l : Lf} (h : st.lf x = some l) :
    ρ x = l.den Γ ∧ l.ok P w (Own Γ st) Γ := by
  obtain ⟨h1, h2⟩ := hv.slots x hx _ (St.lf_ev h)
  exact ⟨h1, h2 l (by simp [S0.cells])⟩
theorem View.s0 {P : Program} {Γ : Env} {st : St} {xs : Array Operand} {ρ : Operand → Value} {w : World} (hv : View P Γ st xs ρ w) {x : Operand} (hx : x ∈ xs) {s : S0} (h : st.s0 x = some s) :
    ρ x = s.den Γ ∧ s.ok P w (Own Γ st) Γ := hv.slots x hx _ (St.s0_ev h)

theorem wrapU (n : Int) : IntKind.u64.wrap n = n % 18446744073709551616 := by simp [IntKind.wrap, IntKind.bits, IntKind.signed]
/-- One cell's value. -/
theorem Lf.one_cell {P : Program} {w : World} {O : Nat → Nat → Prop} {Γ : Env} {l : Lf} (hf : l.flat = true) (ho : l.ok P w O Γ) : (l.den Γ).oneCell' = true := by
  cases l with
  | int e => rfl
  | bool b => rfl
  | ptr b o => rfl
  | arr te a =>
    obtain ⟨x, cap, hv⟩ := ArrOK.loc ho
    simp only [Lf.den, hv]; rfl
  | elp te sz a x o =>
    obtain ⟨b, p, he, -⟩ := ho.1.addr ho.2.1 ho.2.2.1
    simp only [Lf.den, he]; rfl
  | cst v => exact hf
  | vec te i => obtain ⟨a, n, cap, hl⟩ := ho; simp only [Lf.den, hl]; rfl
  | clo i => obtain ⟨v, hv, h1⟩ := ho; simp only [Lf.den, hv, C.loc]; exact h1
  | velp te sz i x o => obtain ⟨b, n, cap, hl, -⟩ := ho; simp only [Lf.den, hl, elemAt]; rfl
  | cnt te r => cases hf
  | u64 e => rfl
theorem one_cells {v : Value} (h : v.oneCell' = true) : v.cells = #[v] := by
  cases v <;> first | rfl | cases h
def parts? (st : St) : List (Nat × Operand) → Option (List (Nat × S0))
  | [] => some []
  | (i, x) :: l => match st.s0 x, parts? st l with
    | some s, some r => if s.cells.all Lf.flat then some ((i, s) :: r) else none
    | _, _ => none
theorem parts_ok {P : Program} {Γ : Env} {st : St} {xs : Array Operand} {ρ : Operand → Value} {w : World} (hv : View P Γ st xs ρ w) : ∀ (l : List (Nat × Operand)) (r : List (Nat × S0)), parts? st l = some r →
    (∀ p ∈ l, p.2 ∈ xs) → (l.map fun p => (p.1, ρ p.2)) = r.map (fun p => (p.1, p.2.den Γ)) ∧ ∀ p ∈ r, p.2.ok P w (Own Γ st) Γ ∧ p.2.cells.all Lf.flat = true
  | [], r, h, _ => by simp [parts?] at h; subst h; simp
  | (i, x) :: l, r, h, hx => by
    simp only [parts?] at h
    split at h
    · rename_i s r' hs hr
      split at h
      · rename_i hf
        cases h
        obtain ⟨h1, h2⟩ := hv.s0 (hx (i, x) (by simp)) hs
        obtain ⟨h3, h4⟩ := parts_ok hv l r' hr (fun p hp => hx p (by simp [hp]))
        refine ⟨by simp [h1, h3], fun p hp => ?_⟩
        rcases List.mem_cons.1 hp with rfl | hp
        · exact ⟨h2, hf⟩
        · exact h4 p hp
      · cases h
    · cases h

/-- The bounds of a part of a slice. -/
def loOf (st : St) : Option Operand → Option E
  | none => some (.lit 0)
  | some y => match st.lf y with
    | some (.int e) => some e
    | _ => none
def hiOf (st : St) (a : E) : Option Operand → Option E
  | none => some (.len a)
  | some y => match st.lf y with
    | some (.int e) => some e
    | _ => none
/-- A known value of an interface type is compared with nil. -/
def nilCmp (P : Program) (op : BinOp) (t : TypeId) (u v : Value) (y : Operand) : Option Bool :=
  match op, u, v, y, P.underlying t with
  | .eql, .iface _ _, .nilIface, .const _, some (.interface _) => some false
  | .neq, .iface _ _, .nilIface, .const _, some (.interface _) => some true
  | .eql, .nilIface, .nilIface, .const _, some (.interface _) => some true
  | .neq, .nilIface, .nilIface, .const _, some (.interface _) => some false
  | _, _, _, _, _ => none
/-- A type whose only value has no cells. -/
def zeroNil (P : Program) (t : TypeId) : Bool := match P.info? t with
  | some it => match it.zero with
    | some (.agg a) => a.isEmpty
    | _ => false
  | none => false
/-- Is a known value of an interface type one of a type. -/
def assertV (P : Program) (aty : TypeId) (u : Value) : Option Bool :=
  if P.concrete aty && zeroNil P aty then match u with
    | .iface t (.agg cs) => if cs.isEmpty then some (Nat.beq t aty) else none
    | .nilIface => some false
    | _ => none
  else none
def opVal (P : Program) (st : St) (o : Oper) : Option (List B × SV) :=
  match o.op with
  | .move x | .assign x => (st.ev x).map ([], ·)
  | .pick c a b => match st.lf c with
    | some (.bool (.lit t)) => (st.ev (if t then a else b)).map ([], ·)
    | _ => none
  | .load t x => match st.lf x with
    | some l => (loadLf P st.mem st.vec t l).map fun s => ([], .one s)
    | none => none
  | .binOp op t x y _ => match st.s0 x, st.s0 y with
    | some (.lf (.int a)), some (.lf (.int b)) => match (if st.wr.contains (st.path * 1000 + o.dst.getD 0) then binW op a b else none) with
      | some e => some ([], .one (.lf (.int e)))
      | none => (binLf st.bds op (.int a) (.int b)).map fun r => (r.1, .one (.lf r.2))
    | some (.lf (.bool a)), some (.lf (.bool b)) => match op, P.underlying t with
      | .eql, some .bool => some ([], .one (.lf (.bool (.beq a b))))
      | .neq, some .bool => some ([], .one (.lf (.bool (.not (.beq a b)))))
      | _, _ => none
    | some (.agg xs), some (.agg ys) => match op, P.eqGuardType P.depth t, eqT P st.bds 20 t (.agg xs) (.agg ys) with
      | .eql, false, some r => some ([], .one (.lf (.bool r)))
      | .neq, false, some r => some ([], .one (.lf (.bool (B.mkNot r))))
      | _, _, _ => none
    | some (.lf (.u64 a)), some (.lf (.cst (.int .u64 n))) => match op with
      | .shr => if 0 ≤ n ∧ n < 64 then some (need (B.mkCmp st.bds .le (.lit 0) a), .one (.lf (.u64 (.quo a (.lit (2 ^ n.toNat)))))) else none
      | _ => none
    | some (.lf (.cst u)), some (.lf (.cst v)) => (nilCmp P op t u v y).map fun b => ([], .one (.lf (.bool (.lit b))))
    | _, _ => none
  | .convert src dst x => match P.underlying src, P.underlying dst, st.lf x with
    | some (.int .i64), some (.int .i64), some (.int e) => some (rng st.bds e, .one (.lf (.int e)))
    | some (.int .i64), some (.int .u64), some (.int e) => some (need (B.mkCmp st.bds .le (.lit 0) e) ++ need (B.mkCmp st.bds .le e (.lit 9223372036854775807)), .one (.lf (.u64 e)))
    | some (.int .u64), some (.int .i64), some (.u64 e) => some (need (B.mkCmp st.bds .le (.lit 0) e) ++ need (B.mkCmp st.bds .le e (.lit 9223372036854775807)), .one (.lf (.int e)))
    | _, _, _ => none
  | .index t x ix => match P.underlying t, st.s0 x, st.lf ix with
    | some (.array n e), some (.agg cs), some (.int (.lit i)) => match sizeIs P e with
      | some sz => if 0 ≤ i ∧ i < n then (partS P e cs (i.toNat * sz)).map fun s => ([], .one s) else none
      | none => none
    | _, _, _ => none
  | .makeInterface t x => match st.s0 x with
    | some (.agg []) => if P.concrete t = true then some ([], .one (.lf (.cst (.iface t (.agg #[]))))) else none
    | _ => none
  | .typeAssert x _ aty ok => match st.lf x with
    | some (.cst u) => if ok = true then (assertV P aty u).map fun b => ([], .tup [.agg [], .lf (.bool (.lit b))]) else none
    | _ => none
  | .unOp op _ x => match op, st.lf x with
    | .neg, some (.int a) => some (rng st.bds (.sub (.lit 0) a), .one (.lf (.int (E.mkSub (.lit 0) a))))
    | .not, some (.bool b) => some ([], .one (.lf (.bool (B.mkNot b))))
    | _, _ => none
  | .fieldAddr s x f => match fieldOff P s f, st.lf x with
    | some k, some l => (l.shift k).map fun l => ([], .one (.lf l))
    | _, _ => none
  | .field s x f => match P.underlying s, st.s0 x with
    | some (.struct fs), some (.agg cs) => match fs[f]? with
      | some fd => (partS P fd.type cs fd.offset).map fun s => ([], .one s)
      | none => none
    | _, _ => none
  | .indexAddr t x ix => match st.lf x, st.lf ix with
    | some l, some (.int e) => (idxLf P st.vec st.bds t l e).map fun r => (r.1, .one (.lf r.2))
    | _, _ => none
  | .build t ps => match parts? st ps.toList with
    | some r => (buildLf P t r).map fun cs => ([], .one (.agg cs))
    | none => none
  | .extract x i => match st.ev x with
    | some (.tup l) => (l[i]?).map fun s => ([], .one s)
    | _ => none
  | .nilCheck x => match st.lf x with
    | some (.ptr b o) => some ([], .one (.lf (.ptr b o)))
    | some (.elp te sz a i o) => some ([], .one (.lf (.elp te sz a i o)))
    | some (.velp te sz i x o) => some ([], .one (.lf (.velp te sz i x o)))
    | _ => none
  | .call c => match c.callee, c.args.toList, c.argTypes.toList with
    | .builtin .len, [x], [t] => match st.lf x with
      | some (.arr te a) => if sliceOf P t = some te then some ([], .one (.lf (.int (.len a)))) else none
      | some (.vec te i) => match look st.vec i with
        | some e => if e.1 = te ∧ sliceOf P t = some te then some ([], .one (.lf (.int (.len e.2)))) else none
        | none => none
      | _ => none
    | .builtin .max, [x, y], _ => match st.lf x, st.lf y with
      | some (.int a), some (.int b) => some ([], .one (.lf (.int (.max a b))))
      | _, _ => none
    | .builtin .min, [x, y], _ => match st.lf x, st.lf y with
      | some (.int a), some (.int b) => some ([], .one (.lf (.int (.min a b))))
      | _, _ => none
    | _, _, _ => none
  | .slice t x lo hi mx => match mx, sliceOf P t, st.lf x with
    | none, some te, some (.arr ta a) => match loOf st lo, hiOf st a hi, sizeIs P te with
      | some l, some r, some sz => if ta = te then some (need (B.mkCmp st.bds .le (.lit 0) l) ++ (need (B.mkCmp st.bds .le l r) ++ need (B.mkCmp st.bds .le r (.len a))), .one (.lf (.arr te (.sub3 a l r sz)))) else none
      | _, _, _ => none
    | _, _, _ => none
  | _ => none

section
variable {P : Program} {Γ : Env} {st : St} {ρ : Operand → Value} {w : World} {o : Oper}
theorem one_ok {l : Lf} {O : Nat → Nat → Prop} (h : l.ok P w O Γ) : (SV.one (.lf l)).ok P w O Γ := fun x hx => by simp [S0.cells] at hx; subst hx; exact h

theorem run_equal_in {t : TypeId} {ms : Array (String × TypeId)} (hu : P.underlying t = some (.interface ms)) (d : TypeId) (u : Value) : (Op.equal t (.iface d u) .nilIface).run P w = .ok false w := by
  have h : ∀ n : Nat, (Op.equalIn (n + 1) t (.iface d u) .nilIface).run P w = .ok false w := fun n => by simp [Op.equalIn, run_underlying hu]
  simp [Op.equal, Op.maxDepth, h 9999]
theorem run_equal_nn {t : TypeId} {ms : Array (String × TypeId)} (hu : P.underlying t = some (.interface ms)) : (Op.equal t .nilIface .nilIface).run P w = .ok true w := by
  have h : ∀ n : Nat, (Op.equalIn (n + 1) t .nilIface .nilIface).run P w = .ok true w := fun n => by simp [Op.equalIn, run_underlying hu]
  simp [Op.equal, Op.maxDepth, h 9999]
theorem run_nilCmp {op : BinOp} {t : TypeId} {u v : Value} {x y : Operand} {b : Bool} (h : nilCmp P op t u v y = some b) : (do eqGuard op t x y u v; binOp op t u v : Sem Value).run P w = .ok (.bool b) w := by
  unfold nilCmp at h
  split at h
  all_goals first | (cases h; done) | skip
  all_goals
    rename_i hu
    cases h
  · simp only [eqGuard_at_iface, pure_bind, binOp, Sem.run_bind, run_equal_in hu, Result.andThen_ok, Sem.run_pure]
  · simp only [eqGuard_at_iface, pure_bind, binOp, Sem.run_bind, run_equal_in hu, Result.andThen_ok, Sem.run_pure]; rfl
  · simp only [eqGuard_nil_constR, pure_bind, binOp, Sem.run_bind, run_equal_nn hu, Result.andThen_ok, Sem.run_pure]
  · simp only [eqGuard_nil_constR, pure_bind, binOp, Sem.run_bind, run_equal_nn hu, Result.andThen_ok, Sem.run_pure]; rfl
theorem run_assertV {aty xT : TypeId} {u : Value} {b : Bool} (h : assertV P aty u = some b) : (Instr.typeAssert u xT aty true).run P w = .ok (.tuple #[.agg #[], .bool b]) w := by
  unfold assertV at h
  split at h
  rotate_left
  · cases h
  rename_i hc
  simp only [Bool.and_eq_true] at hc
  obtain ⟨hc, hz⟩ := hc
  have hzero : (zeroValue aty).run P w = .ok (.agg #[]) w := by
    unfold zeroNil at hz
    split at hz
    · rename_i it hi
      split at hz
      · rename_i a hza
        rw [Array.isEmpty_iff] at hz
        subst hz
        simp [zeroValue, run_typeInfo' hi, hza]
      · cases hz
    · cases hz
  unfold Program.concrete at hc
  cases hd : P.underlying aty with
  | none => simp [hd] at hc
  | some d =>
    split at h
    · rename_i t cs
      split at h
      · rename_i hcs
        rw [Array.isEmpty_iff] at hcs
        subst hcs
        cases h
        by_cases e : t = aty
        · subst e
          rw [show Nat.beq t t = true from Nat.beq_refl t]
          cases d <;> first | (simp [hd] at hc; done) | simp [Instr.typeAssert, run_underlying hd]
        · have hb : Nat.beq t aty = false := by
            cases hx : Nat.beq t aty with
            | false => rfl
            | true => exact absurd (Nat.eq_of_beq_eq_true hx) e
          rw [hb]
          cases d <;> first | (simp [hd] at hc; done) | simp [Instr.typeAssert, run_underlying hd, if_neg e, hzero]
      · cases h
    · cases h
      cases d <;> first | (simp [hd] at hc; done) | simp [Instr.typeAssert, run_underlying hd, hzero]
    · cases h
theorem run_part {t te : TypeId} {a : Option Addr} {n cap sz : Nat} (hu : P.underlying t = some (.slice te)) (hsz : sizeIs P te = some sz) {lo hi : Option Value} {l r : Int}
    (hl : lo = none ∧ l = 0 ∨ lo = some (.int .i64 l)) (hr : hi = none ∧ r = n ∨ hi = some (.int .i64 r)) (g1 : 0 ≤ l) (g2 : l ≤ r) (g3 : r ≤ n) (hc : n ≤ cap) :
    (Instr.sliceAt t (.slice a n cap) lo hi none).run P w = .ok (partLoc (.slice a n cap) l.toNat r.toNat sz) w := by
  have hel : P.elem t = te := by simp [Program.elem, hu]
  have hul : P.underlying t = some (.slice (P.elem t)) := by rw [hel]; exact hu
  have hrs : (sizeOf (P.elem t)).run P w = .ok sz w := by
    rw [hel]
    unfold sizeIs at hsz
    cases hi : P.info? te with
    | none => rw [hi] at hsz; cases hsz
    | some it => rw [hi] at hsz; have : it.size = sz := by simpa using hsz
                 simp [sizeOf, typeInfo, hi, this]
  rw [run_sliceAt_slice _ _ _ _ _ _ hul]
  rcases hl with ⟨rfl, rfl⟩ | rfl <;> rcases hr with ⟨rfl, rfl⟩ | rfl
  · rw [run_slice_all (ht := hul), hrs]; simp [Result.andThen, sliced, partLoc]
  · rw [run_slice_h (ht := hul) (h0 := by omega) (h2 := by omega), hrs]; simp [Result.andThen, sliced, partLoc]
  · rw [run_slice_l (ht := hul) (h0 := by omega) (h1 := by omega), hrs]; simp [Result.andThen, sliced, partLoc]
  · rw [run_slice_lh (ht := hul) (h0 := by omega) (h1 := by omega) (h2 := by omega), hrs]; simp [Result.andThen, sliced, partLoc]
theorem loOf_ok {lo : Option Operand} {e : E} (h : loOf st lo = some e) (hv : View P Γ st o.op.operands ρ w) (hm : ∀ y, lo = some y → y ∈ o.op.operands) : lo.map ρ = none ∧ e.den Γ.ρ = 0 ∨ lo.map ρ = some (.int .i64 (e.den Γ.ρ)) := by
  cases lo with
  | none => cases h; exact .inl ⟨rfl, rfl⟩
  | some y =>
    simp only [loOf] at h
    split at h
    · rename_i e' he
      cases h
      have := (hv.lf (hm y rfl) he).1
      exact .inr (by simp [this, Lf.den])
    · cases h
theorem hiOf_ok {a : E} {hi : Option Operand} {e : E} (h : hiOf st a hi = some e) (hv : View P Γ st o.op.operands ρ w) (hm : ∀ y, hi = some y → y ∈ o.op.operands) : hi.map ρ = none ∧ e.den Γ.ρ = ((a.ev Γ.ρ).rows.length : Int) ∨ hi.map ρ = some (.int .i64 (e.den Γ.ρ)) := by
  cases hi with
  | none => cases h; exact .inl ⟨rfl, rfl⟩
  | some y =>
    simp only [hiOf] at h
    split at h
    · rename_i e' he
      cases h
      have := (hv.lf (hm y rfl) he).1
      exact .inr (by simp [this, Lf.den])
    · cases h
theorem opVal_ok {obs : List B} {sv : SV} (h : opVal P st o = some (obs, sv)) (hv : View P Γ st o.op.operands ρ w) (hob : Obs Γ.ρ obs) :
    (execOp ρ o).run P w = .ok (.value (sv.den Γ)) w ∧ sv.ok P w (Own Γ st) Γ := by
  obtain ⟨dst, op, type, pos, after, guard⟩ := o
  unfold opVal at h
  cases op <;> simp only [] at h <;> try (cases h; done)
  case move x =>
    cases hx : st.ev x with
    | none => simp [hx] at h
    | some s =>
      simp [hx] at h
      obtain ⟨rfl, rfl⟩ := h
      obtain ⟨h1, h2⟩ := hv.slots x (by simp [Op.operands]) _ hx
      exact ⟨by simp [execOp, h1], h2⟩
  case assign x =>
    cases hx : st.ev x with
    | none => simp [hx] at h
    | some s =>
      simp [hx] at h
      obtain ⟨rfl, rfl⟩ := h
      obtain ⟨h1, h2⟩ := hv.slots x (by simp [Op.operands]) _ hx
      exact ⟨by simp [execOp, h1], h2⟩
  case pick c a b =>
    split at h
    · rename_i t hc
      have h3 := (hv.lf (by simp [Op.operands]) hc).1
      cases hx : st.ev (if t then a else b) with
      | none => simp [hx] at h
      | some s =>
        simp [hx] at h
        obtain ⟨rfl, rfl⟩ := h
        obtain ⟨h1, h2⟩ := hv.slots _ (by cases t <;> simp [Op.operands]) _ hx
        refine ⟨?_, h2⟩
        simp only [execOp, h3, Lf.den, B.den, asBool]
        cases t <;> simp at h1 ⊢ <;> exact h1
    · cases h
  case load t x =>
    split at h
    · rename_i l hl
      obtain ⟨h1, h2⟩ := hv.lf (by simp [Op.operands]) hl
      cases hx : loadLf P st.mem st.vec t l with
      | none => simp [hx] at h
      | some s =>
        simp [hx] at h
        obtain ⟨rfl, rfl⟩ := h
        obtain ⟨h3, h4⟩ := run_loadLf hv hx h2
        exact ⟨by simp [execOp, h1, h3, SV.den], h4⟩
    · cases h
  case binOp op t x y yt =>
    split at h
    · rename_i a b ha hb
      obtain ⟨h1, -⟩ := hv.s0 (by simp [Op.operands]) ha
      obtain ⟨h2, -⟩ := hv.s0 (by simp [Op.operands]) hb
      split at h
      · rename_i e he
        cases h
        have he : binW op a b = some e := by
          split at he
          · exact he
          · cases he
        have := run_binW (P := P) (Γ := Γ) he t x y w
        refine ⟨?_, one_ok trivial⟩
        simp only [execOp, h1, h2, S0.den, Lf.den, Sem.run_bind, this, Result.andThen_ok, Sem.run_pure, SV.den]
      cases hr : binLf st.bds op (.int a) (.int b) with
      | none => simp [hr] at h
      | some r =>
        simp [hr] at h
        obtain ⟨rfl, rfl⟩ := h
        have := run_binLf (P := P) hv.num (Γ := Γ) (x := .int a) (y := .int b) (obs := r.1) (l := r.2) hr hob t x y w
        refine ⟨?_, ?_⟩
        · simp only [execOp, h1, h2, S0.den, Sem.run_bind, this, Result.andThen_ok, Sem.run_pure, SV.den]
        · apply one_ok
          simp only [binLf] at hr
          split at hr <;> cases hr <;> trivial
    · rename_i a b ha hb
      obtain ⟨h1, -⟩ := hv.s0 (by simp [Op.operands]) ha
      obtain ⟨h2, -⟩ := hv.s0 (by simp [Op.operands]) hb
      split at h
      · rename_i hu
        cases h
        refine ⟨?_, one_ok trivial⟩
        simp only [execOp, h1, h2, S0.den, Lf.den, eqGuard_at_bool, pure_bind, binOp, Sem.run_bind, run_equal_bool w t _ _ hu, Result.andThen_ok, Sem.run_pure, SV.den, B.den]
      · rename_i hu
        cases h
        refine ⟨?_, one_ok trivial⟩
        simp only [execOp, h1, h2, S0.den, Lf.den, eqGuard_at_bool, pure_bind, binOp, Sem.run_bind, run_equal_bool w t _ _ hu, Result.andThen_ok, Sem.run_pure, SV.den, B.den]
      · cases h
    · rename_i xs ys ha hb
      obtain ⟨h1, -⟩ := hv.s0 (by simp [Op.operands]) ha
      obtain ⟨h2, -⟩ := hv.s0 (by simp [Op.operands]) hb
      split at h
      · rename_i r hg hr
        cases h
        refine ⟨?_, one_ok trivial⟩
        have := run_eqT (Γ := Γ) hv.num 9980 20 t _ _ r hr w
        simp only [S0.den] at this
        simp only [execOp, h1, h2, S0.den, Sem.run_bind, run_eqGuard_agg w _ t x y _ _ hg, Result.andThen_ok, run_eql_struct, this, Sem.run_pure, SV.den, Lf.den]
      · rename_i r hg hr
        cases h
        refine ⟨?_, one_ok trivial⟩
        have := run_eqT (Γ := Γ) hv.num 9980 20 t _ _ r hr w
        simp only [S0.den] at this
        simp only [execOp, h1, h2, S0.den, Sem.run_bind, run_eqGuard_agg w _ t x y _ _ hg, Result.andThen_ok, run_neq_struct, this, Sem.run_pure, SV.den, Lf.den, B.den_mkNot]
      · cases h
    · rename_i a n ha hb
      obtain ⟨h1, -⟩ := hv.s0 (by simp [Op.operands]) ha
      obtain ⟨h2, -⟩ := hv.s0 (by simp [Op.operands]) hb
      split at h
      · split at h
        · rename_i hn
          cases h
          have g := need_ok hob
          rw [B.den_mkCmp hv.num] at g
          have g : (0 : Int) ≤ a.den Γ.ρ := of_decide_eq_true g
          refine ⟨?_, one_ok trivial⟩
          have hpow : (0 : Int) ≤ 2 ^ n.toNat := Int.le_of_lt (Int.pow_pos (by decide))
          have e : (a.den Γ.ρ).fdiv (2 ^ n.toNat) = (a.den Γ.ρ).tdiv (2 ^ n.toNat) := by rw [Int.fdiv_eq_ediv_of_nonneg _ hpow, Int.tdiv_eq_ediv_of_nonneg g]
          have hm : min n.toNat IntKind.u64.bits = n.toNat := by
            have : IntKind.u64.bits = 64 := rfl
            omega
          simp only [execOp, h1, h2, S0.den, Lf.den, Sem.run_bind, eqGuard_shr, pure_bind, binOp, Op.shift, if_neg (show ¬ n < 0 by omega), hm, e, Sem.run_pure, Result.andThen_ok, SV.den, E.den_quo, E.den_lit]
        · cases h
      · cases h
    · rename_i u v ha hb
      obtain ⟨h1, -⟩ := hv.s0 (by simp [Op.operands]) ha
      obtain ⟨h2, -⟩ := hv.s0 (by simp [Op.operands]) hb
      cases hn : nilCmp P op t u v y with
      | none => simp [hn] at h
      | some b =>
        simp [hn] at h
        obtain ⟨rfl, rfl⟩ := h
        have := run_nilCmp (P := P) (w := w) (x := x) hn
        refine ⟨?_, one_ok trivial⟩
        simp only [execOp, h1, h2, S0.den, Lf.den, Sem.run_bind (x := (do eqGuard op t x y u v; binOp op t u v : Sem Value)), this, Result.andThen_ok, Sem.run_pure, SV.den, B.den]
    · cases h
  case makeInterface t x =>
    split at h
    · rename_i hx
      obtain ⟨h1, -⟩ := hv.s0 (by simp [Op.operands]) hx
      split at h
      · rename_i hc
        cases h
        refine ⟨?_, one_ok trivial⟩
        have e : ρ x = .agg #[] := h1
        simp only [execOp, e, Sem.run_bind, run_makeInterface w t _ hc, Result.andThen_ok, Sem.run_pure, SV.den, S0.den, Lf.den]
      · cases h
    · cases h
  case typeAssert x xT aty ok =>
    split at h
    · rename_i u hx
      obtain ⟨h1, -⟩ := hv.lf (by simp [Op.operands]) hx
      split at h
      · rename_i hok
        subst hok
        cases hn : assertV P aty u with
        | none => simp [hn] at h
        | some b =>
          simp [hn] at h
          obtain ⟨rfl, rfl⟩ := h
          have e : ρ x = u := h1
          refine ⟨?_, fun s hs l hl => ?_⟩
          · simp only [execOp, e, Sem.run_bind, run_assertV (P := P) (w := w) hn, Result.andThen_ok, Sem.run_pure, SV.den]
            rfl
          · simp only [List.mem_cons, List.not_mem_nil, or_false] at hs
            rcases hs with rfl | rfl
            · simp [S0.cells] at hl
            · simp [S0.cells] at hl
              subst hl; trivial
      · cases h
    · cases h
  case convert src dst x =>
    split at h
    · rename_i e hs hd hx
      obtain ⟨h1, -⟩ := hv.lf (by simp [Op.operands]) hx
      cases h
      have e1 := rng_ok hv.num hob
      refine ⟨?_, one_ok trivial⟩
      simp only [execOp, h1, Lf.den, convert, Sem.run_bind, run_underlying hs, run_underlying hd, Result.andThen_ok, Conv.intToInt, Sem.run_pure, e1, SV.den, S0.den]
    · rename_i e hs hd hx
      obtain ⟨h1, -⟩ := hv.lf (by simp [Op.operands]) hx
      cases h
      obtain ⟨o1, o2⟩ := Obs.app hob
      have g1 := need_ok o1
      have g2 := need_ok o2
      rw [B.den_mkCmp hv.num] at g1 g2
      have g1 : (0 : Int) ≤ e.den Γ.ρ := of_decide_eq_true g1
      have g2 : e.den Γ.ρ ≤ 9223372036854775807 := of_decide_eq_true g2
      have e1 : IntKind.u64.wrap (e.den Γ.ρ) = e.den Γ.ρ := by rw [wrapU]; omega
      refine ⟨?_, one_ok trivial⟩
      simp only [execOp, h1, Lf.den, convert, Sem.run_bind, run_underlying hs, run_underlying hd, Result.andThen_ok, Conv.intToInt, Sem.run_pure, e1, SV.den, S0.den]
    · rename_i e hs hd hx
      obtain ⟨h1, -⟩ := hv.lf (by simp [Op.operands]) hx
      cases h
      obtain ⟨o1, o2⟩ := Obs.app hob
      have g1 := need_ok o1
      have g2 := need_ok o2
      rw [B.den_mkCmp hv.num] at g1 g2
      have g1 : (0 : Int) ≤ e.den Γ.ρ := of_decide_eq_true g1
      have g2 : e.den Γ.ρ ≤ 9223372036854775807 := of_decide_eq_true g2
      have e1 : IntKind.i64.wrap (e.den Γ.ρ) = e.den Γ.ρ := IntWalk.i64_in _ ⟨by omega, g2⟩
      refine ⟨?_, one_ok trivial⟩
      simp only [execOp, h1, Lf.den, convert, Sem.run_bind, run_underlying hs, run_underlying hd, Result.andThen_ok, Conv.intToInt, Sem.run_pure, e1, SV.den, S0.den]
    · cases h
  case index t x ix =>
    split at h
    · rename_i n e cs i hu hc hi
      obtain ⟨h1, h2⟩ := hv.s0 (by simp [Op.operands]) hc
      obtain ⟨h3, -⟩ := hv.lf (by simp [Op.operands]) hi
      split at h
      · rename_i sz hsz
        split at h
        · rename_i hin
          cases hp : partS P e cs (i.toNat * sz) with
          | none => simp [hp] at h
          | some s' =>
            simp [hp] at h
            obtain ⟨rfl, rfl⟩ := h
            refine ⟨?_, fun l hl => h2 l (partS_cells hp l hl)⟩
            simp only [execOp, h1, h3, Lf.den, E.den_lit, S0.den, Instr.index, asIntOf, Sem.run_bind, Sem.run_pure, pure_bind, run_underlying hu, Result.andThen_ok, if_pos hin, run_sizeOf' hsz, run_partS hp, SV.den]
        · cases h
      · cases h
    · cases h
  case unOp op t x =>
    split at h
    · rename_i a ha
      obtain ⟨h1, -⟩ := hv.lf (by simp [Op.operands]) ha
      cases h
      refine ⟨?_, one_ok trivial⟩
      have e := rng_ok hv.num hob
      simp only [E.den_sub, E.den_lit] at e
      simp only [execOp, h1, Lf.den, Op.unary, Op.intArith, Sem.run_bind, Sem.run_pure, Result.andThen_ok, SV.den, S0.den, E.den_mkSub, E.den_lit]
      rw [e]
    · rename_i b hb
      obtain ⟨h1, -⟩ := hv.lf (by simp [Op.operands]) hb
      cases h
      refine ⟨?_, one_ok trivial⟩
      simp only [execOp, h1, Lf.den, Op.unary, Sem.run_bind, Sem.run_pure, Result.andThen_ok, SV.den, S0.den, B.den_mkNot]
    · cases h
  case fieldAddr s x f =>
    split at h
    · rename_i k l hk hl
      obtain ⟨h1, h2⟩ := hv.lf (by simp [Op.operands]) hl
      cases hs : l.shift k with
      | none => simp [hs] at h
      | some l' =>
        simp [hs] at h
        obtain ⟨rfl, rfl⟩ := h
        obtain ⟨h3, h4⟩ := run_shift hk hs h2
        exact ⟨by simp [execOp, h1, h3, SV.den, S0.den], one_ok h4⟩
    · cases h
  case field s x f =>
    split at h
    · rename_i fs cs hu hc
      obtain ⟨h1, h2⟩ := hv.s0 (by simp [Op.operands]) hc
      split at h
      · rename_i fd hf
        cases hp : partS P fd.type cs fd.offset with
        | none => simp [hp] at h
        | some s' =>
          simp [hp] at h
          obtain ⟨rfl, rfl⟩ := h
          refine ⟨?_, fun l hl => h2 l (partS_cells hp l hl)⟩
          simp [execOp, h1, Instr.field, run_underlying hu, hf, S0.den, asAgg, run_partS hp, SV.den]
      · cases h
    · cases h
  case indexAddr t x ix =>
    split at h
    · rename_i l e hl he
      obtain ⟨h1, h2⟩ := hv.lf (by simp [Op.operands]) hl
      obtain ⟨h3, -⟩ := hv.lf (by simp [Op.operands]) he
      cases hr : idxLf P st.vec st.bds t l e with
      | none => simp [hr] at h
      | some r =>
        simp [hr] at h
        obtain ⟨rfl, rfl⟩ := h
        obtain ⟨h5, h6⟩ := run_idxLf (obs := r.1) (l' := r.2) hv.vec hv.num hr h2 hob
        refine ⟨?_, one_ok h6⟩
        simp only [execOp, h1, h3, Sem.run_bind]
        simp only [Lf.den] at h5 ⊢
        rw [h5]
        rfl
    · cases h
  case slice t x lo hi mx =>
    split at h
    · rename_i te ta a hte hx
      split at h
      · rename_i l r sz hl hr hsz
        split at h
        · rename_i hta
          cases h
          subst hta
          have hu := sliceOf_eq hte
          obtain ⟨h1, h2⟩ := hv.lf (by simp [Op.operands]) hx
          have h2 : ArrOK P w (Own Γ st) ta (a.ev Γ.ρ) := h2
          obtain ⟨ob1, ob2⟩ := Obs.app hob
          obtain ⟨ob2, ob3⟩ := Obs.app ob2
          have g1 := need_ok ob1
          have g2 := need_ok ob2
          have g3 := need_ok ob3
          rw [B.den_mkCmp hv.num] at g1 g2 g3
          have g1 : (0 : Int) ≤ l.den Γ.ρ := of_decide_eq_true g1
          have g2 : l.den Γ.ρ ≤ r.den Γ.ρ := of_decide_eq_true g2
          have g3 : r.den Γ.ρ ≤ ((a.ev Γ.ρ).rows.length : Int) := of_decide_eq_true g3
          obtain ⟨ad, cap, hloc, hcap⟩ := h2.room
          have k1 := loOf_ok hl hv (fun y hy => by subst hy; simp [Op.operands])
          have k2 := hiOf_ok hr hv (fun y hy => by subst hy; simp [Op.operands])
          refine ⟨?_, one_ok (h2.part hsz (lo := (l.den Γ.ρ).toNat) (hi := (r.den Γ.ρ).toNat) (by omega) (by omega))⟩
          have := run_part (w := w) (a := ad) hu hsz k1 k2 g1 g2 g3 hcap
          rw [← hloc] at this
          simp only [execOp, h1, Lf.den, Sem.run_bind, Option.map_none, this, Result.andThen_ok, Sem.run_pure, SV.den, S0.den]
          rfl
        · cases h
      · cases h
    · cases h
  case build t ps =>
    split at h
    · rename_i r hr
      obtain ⟨h1, h2⟩ := parts_ok hv ps.toList r hr (fun p hp => by simp [Op.operands]; exact ⟨p.1, by simpa using hp⟩)
      cases hb : buildLf P t r with
      | none => simp [hb] at h
      | some cs =>
        simp [hb] at h
        obtain ⟨rfl, rfl⟩ := h
        have h3 := built_buildLf hb Γ (fun p hp l hl => one_cells (Lf.one_cell (List.all_eq_true.1 (h2 p hp).2 l hl) ((h2 p hp).1 l hl)))
        refine ⟨?_, ?_⟩
        · simp only [execOp, Sem.run_bind]
          rw [run_build w t _ (dens Γ cs) (by rw [← h3, ← h1]; congr 1; simp)]
          rfl
        · intro l hl
          unfold buildLf at hb
          have zok : ∀ z, zeroLf P t = some z → l ∈ z → l.ok P w (Own Γ st) Γ := fun z hz hl => by
            unfold zeroLf at hz
            split at hz
            · rename_i it hi
              cases hzz : it.zero with
              | none => simp [hzz] at hz
              | some zv =>
                simp [hzz] at hz
                subst hz
                obtain ⟨v, -, rfl⟩ := List.mem_map.1 hl
                unfold Lf.ofValue
                split <;> trivial
            · cases hz
          split at hb
          · rename_i z n e hz hu
            split at hb
            · rcases fillLf_mem _ _ _ _ hb l hl with h4 | ⟨p, hp, h4⟩
              · exact zok _ hz h4
              · exact (h2 p hp).1 l h4
            · cases hb
          · rename_i z fs hz hu
            split at hb
            · rcases fillLf_mem _ _ _ _ hb l hl with h4 | ⟨p, hp, h4⟩
              · exact zok _ hz h4
              · exact (h2 p hp).1 l h4
            · cases hb
          · cases hb
    · cases h
  case extract x i =>
    split at h
    · rename_i l hl
      obtain ⟨h1, h2⟩ := hv.slots x (by simp [Op.operands]) _ hl
      cases hi : l[i]? with
      | none => simp [hi] at h
      | some s =>
        simp [hi] at h
        obtain ⟨rfl, rfl⟩ := h
        refine ⟨?_, h2 s (List.mem_of_getElem? hi)⟩
        simp [execOp, h1, SV.den, Instr.extract, hi]
    · cases h
  case nilCheck x =>
    split at h
    · rename_i b p hl
      obtain ⟨h1, h2⟩ := hv.lf (by simp [Op.operands]) hl
      cases h
      exact ⟨by simp [execOp, h1, Lf.den, SV.den, S0.den], one_ok h2⟩
    · rename_i te sz a i p hl
      obtain ⟨h1, h2⟩ := hv.lf (by simp [Op.operands]) hl
      cases h
      refine ⟨?_, one_ok h2⟩
      obtain ⟨b, q, he, -⟩ := h2.1.addr h2.2.1 h2.2.2.1
      simp [execOp, h1, Lf.den, SV.den, S0.den, he]
    · rename_i te sz i x p hl
      obtain ⟨h1, h2⟩ := hv.lf (by simp [Op.operands]) hl
      cases h
      refine ⟨?_, one_ok h2⟩
      obtain ⟨b, n, cap, hloc, -⟩ := h2
      simp [execOp, h1, Lf.den, SV.den, S0.den, hloc, elemAt]
    · cases h
  case call c =>
    obtain ⟨callee, args, argTypes⟩ := c
    simp only [] at h
    split at h
    · rename_i x t hargs htypes
      have ea : args = #[x] := by rw [← Array.toList_inj, hargs]
      have et : argTypes = #[t] := by rw [← Array.toList_inj, htypes]
      subst ea et
      split at h
      · rename_i te a hl
        obtain ⟨h1, h2⟩ := hv.lf (by simp [Op.operands, Call.operands]) hl
        split at h
        · rename_i hs
          cases h
          have hu := sliceOf_eq hs
          obtain ⟨p, cap, hloc⟩ := ArrOK.loc h2
          refine ⟨?_, one_ok trivial⟩
          simp only [execOp, resolve, invoke, builtin, List.map_toArray, List.map_cons, List.map_nil, h1, Lf.den, hloc, pure_bind, Sem.run_bind]
          rw [run_len_slice w t _ p _ cap (by simp [Program.elem, hu])]
          simp only [Result.andThen_ok, Sem.run_pure, goInt, SV.den, S0.den, Lf.den, E.den_len]
        · cases h
      · rename_i te i hl
        obtain ⟨h1, h2⟩ := hv.lf (by simp [Op.operands, Call.operands]) hl
        split at h
        · rename_i e hi
          split at h
          · rename_i hs
            cases h
            have hu := sliceOf_eq hs.2
            obtain ⟨p, cap, hloc⟩ := (hv.vec i e hi).slice
            refine ⟨?_, one_ok trivial⟩
            simp only [execOp, resolve, invoke, builtin, List.map_toArray, List.map_cons, List.map_nil, h1, Lf.den, hloc, pure_bind, Sem.run_bind]
            rw [run_len_slice w t _ p _ cap (by simp [Program.elem, hu])]
            simp only [Result.andThen_ok, Sem.run_pure, goInt, SV.den, S0.den, Lf.den, E.den_len]
          · cases h
        · cases h
      · cases h
    · rename_i ts x y hargs
      have ea : args = #[x, y] := by rw [← Array.toList_inj, hargs]
      subst ea
      split at h
      · rename_i a b hx hy
        obtain ⟨h1, -⟩ := hv.lf (by simp [Op.operands, Call.operands]) hx
        obtain ⟨h2, -⟩ := hv.lf (by simp [Op.operands, Call.operands]) hy
        cases h
        refine ⟨?_, one_ok trivial⟩
        simp only [execOp, resolve, invoke, builtin, List.map_toArray, List.map_cons, List.map_nil, h1, h2, Lf.den, pure_bind, Sem.run_bind, Builtin.max_, List.foldlM, Builtin.max2]
        simp only [Result.andThen_ok, Sem.run_pure, SV.den, S0.den, Lf.den, E.den_max, Sem.run_bind]
        rw [show (if E.den Γ.ρ b > E.den Γ.ρ a then E.den Γ.ρ b else E.den Γ.ρ a) = Max.max (E.den Γ.ρ a) (E.den Γ.ρ b) from by split <;> omega]
      · cases h
    · rename_i ts x y hargs
      have ea : args = #[x, y] := by rw [← Array.toList_inj, hargs]
      subst ea
      split at h
      · rename_i a b hx hy
        obtain ⟨h1, -⟩ := hv.lf (by simp [Op.operands, Call.operands]) hx
        obtain ⟨h2, -⟩ := hv.lf (by simp [Op.operands, Call.operands]) hy
        cases h
        refine ⟨?_, one_ok trivial⟩
        simp only [execOp, resolve, invoke, builtin, List.map_toArray, List.map_cons, List.map_nil, h1, h2, Lf.den, pure_bind, Sem.run_bind, Builtin.min_, List.foldlM, Builtin.min2]
        simp only [Result.andThen_ok, Sem.run_pure, SV.den, S0.den, Lf.den, E.den_min, Sem.run_bind]
        rw [show (if E.den Γ.ρ b < E.den Γ.ρ a then E.den Γ.ρ b else E.den Γ.ρ a) = Min.min (E.den Γ.ρ a) (E.den Γ.ρ b) from by split <;> omega]
      · cases h
    · cases h
end
end Go.Proofs.Ytbgofenplhdllaa
