/- The engine, part 1: pure data, expressions, values, states. -/
import Derived.Calls
import Derived.Tactics
import Derived.Below
import Derived.Orders
import Derived.KernelRfl
namespace Go.Proofs.Ytlbgcjpkegpmlaa
set_option linter.unusedSimpArgs false
open Go.RowKit

/-- Pure data: what a cell holds; a slice by its value and by its rows. -/
inductive C where
  | i (n : Int)
  | b (t : Bool)
  | s (v : Value) (rows : List (List C))
  deriving Inhabited
def C.int : C → Int | .i n => n | _ => 0
def C.bool : C → Bool | .b t => t | _ => false
def C.rows : C → List (List C) | .s _ r => r | _ => []
def C.loc : C → Value | .s v _ => v | _ => .slice none 0 0
/-- Row i, cell o. -/
def C.at (c : C) (i : Nat) (o : Nat) : C := (c.rows.getD i []).getD o (.i 0)
/-- No slice in it is longer than a slice can be, no number is greater than a number can be. -/
def C.small : Nat → C → Prop
  | _, .i k => -9223372036854775808 ≤ k ∧ k ≤ 9223372036854775807
  | n + 1, .s _ rows => (rows.length : Int) ≤ 9223372036854775807 ∧ ∀ r ∈ rows, ∀ c ∈ r, C.small n c
  | _, _ => True

/-- The value of a variable. -/
def at_ (ρ : List C) (i : Nat) : C := ρ.getD i (.i 0)

inductive E where
  | lit (n : Int)
  | var (i : Nat)
  | add (a b : E)
  | sub (a b : E)
  | mul (a b : E)
  | quo (a b : E)
  | rem (a b : E)
  | max (a b : E)
  | min (a b : E)
  | len (a : E)
  | cell (a x : E) (o : Nat)
  /-- No rows: the nil slice. -/
  | nil
  /-- A slice that lies where the first one does and holds what the second one does. -/
  | join (l r : E)
  /-- A part of a slice; a row has so many cells. -/
  | sub3 (a lo hi : E) (sz : Nat)
  /-- A number, wrapped. -/
  | wr (a : E)
  deriving DecidableEq, Repr, Inhabited

/-- Where a part of a slice lies. -/
def partLoc (v : Value) (lo hi sz : Nat) : Value :=
  match v with
  | .slice a _ cap => .slice (if cap = lo then a else a.map (·.add (lo * sz))) (hi - lo) (cap - lo)
  | v => v
def E.ev (ρ : List C) : E → C
  | .lit n => .i n
  | .var i => at_ ρ i
  | .add a b => .i ((a.ev ρ).int + (b.ev ρ).int)
  | .sub a b => .i ((a.ev ρ).int - (b.ev ρ).int)
  | .mul a b => .i ((a.ev ρ).int * (b.ev ρ).int)
  | .quo a b => .i ((a.ev ρ).int.tdiv (b.ev ρ).int)
  | .rem a b => .i ((a.ev ρ).int.tmod (b.ev ρ).int)
  | .max a b => .i (Max.max (a.ev ρ).int (b.ev ρ).int)
  | .min a b => .i (Min.min (a.ev ρ).int (b.ev ρ).int)
  | .len a => .i ((a.ev ρ).rows.length : Int)
  | .cell a x o => (a.ev ρ).at (x.ev ρ).int.toNat o
  | .nil => .s (.slice none 0 0) []
  | .join l r => .s (l.ev ρ).loc (r.ev ρ).rows
  | .wr a => .i (IntKind.i64.wrap (a.ev ρ).int)
  | .sub3 a lo hi sz => .s (partLoc (a.ev ρ).loc (lo.ev ρ).int.toNat (hi.ev ρ).int.toNat sz) (((a.ev ρ).rows.take (hi.ev ρ).int.toNat).drop (lo.ev ρ).int.toNat)
def E.den (ρ : List C) (e : E) : Int := (e.ev ρ).int
section
variable (ρ : List C) (a b : E)
theorem E.den_lit (n : Int) : (E.lit n).den ρ = n := rfl
theorem E.den_var (i : Nat) : (E.var i).den ρ = (at_ ρ i).int := rfl
theorem E.den_add : (E.add a b).den ρ = a.den ρ + b.den ρ := rfl
theorem E.den_sub : (E.sub a b).den ρ = a.den ρ - b.den ρ := rfl
theorem E.den_mul : (E.mul a b).den ρ = a.den ρ * b.den ρ := rfl
theorem E.den_quo : (E.quo a b).den ρ = (a.den ρ).tdiv (b.den ρ) := rfl
theorem E.den_rem : (E.rem a b).den ρ = (a.den ρ).tmod (b.den ρ) := rfl
theorem E.den_max : (E.max a b).den ρ = Max.max (a.den ρ) (b.den ρ) := rfl
theorem E.den_min : (E.min a b).den ρ = Min.min (a.den ρ) (b.den ρ) := rfl
theorem E.den_len : (E.len a).den ρ = ((a.ev ρ).rows.length : Int) := rfl
theorem E.den_wr : (E.wr a).den ρ = IntKind.i64.wrap (a.den ρ) := rfl
theorem E.den_cell (o : Nat) : (E.cell a b o).den ρ = ((a.ev ρ).at (b.den ρ).toNat o).int := rfl
end

/-- Only variables below n. -/
def E.wf (n : Nat) : E → Bool
  | .lit _ => true
  | .var i => Nat.blt i n
  | .add a b | .sub a b | .mul a b | .quo a b | .rem a b | .max a b | .min a b => a.wf n && b.wf n
  | .len a => a.wf n
  | .cell a x _ => a.wf n && x.wf n
  | .nil => true
  | .join a b => a.wf n && b.wf n
  | .sub3 a b c _ => a.wf n && b.wf n && c.wf n
  | .wr a => a.wf n

inductive Cmp where
  | eq | ne | lt | le
  deriving DecidableEq, Repr, Inhabited
def Cmp.den : Cmp → Int → Int → Bool
  | .eq, a, b => a == b
  | .ne, a, b => a != b
  | .lt, a, b => decide (a < b)
  | .le, a, b => decide (a ≤ b)

inductive B where
  | lit (t : Bool)
  | of (e : E)
  | cmp (c : Cmp) (a b : E)
  | not (a : B)
  | and (a b : B)
  | or (a b : B)
  | beq (a b : B)
  deriving DecidableEq, Repr, Inhabited

def B.den (ρ : List C) : B → Bool
  | .lit t => t
  | .of e => (e.ev ρ).bool
  | .cmp c a b => c.den (a.den ρ) (b.den ρ)
  | .not a => !a.den ρ
  | .and a b => a.den ρ && b.den ρ
  | .or a b => a.den ρ || b.den ρ
  | .beq a b => a.den ρ == b.den ρ

def B.wf (n : Nat) : B → Bool
  | .lit _ => true
  | .of e => e.wf n
  | .cmp _ a b => a.wf n && b.wf n
  | .not a => a.wf n
  | .and a b | .or a b | .beq a b => a.wf n && b.wf n

theorem at_ext {ρ l : List C} {i : Nat} (h : i < ρ.length) : at_ (ρ ++ l) i = at_ ρ i := by
  unfold at_
  rw [List.getD_eq_getElem?_getD, List.getD_eq_getElem?_getD, List.getElem?_append_left h]
theorem E.ev_ext {ρ l : List C} (e : E) (h : e.wf ρ.length = true) : e.ev (ρ ++ l) = e.ev ρ := by
  induction e with
  | lit n => rfl
  | var i => simp only [E.wf, Nat.blt_eq] at h; simp [E.ev, at_ext h]
  | nil => rfl
  | len a ih => simp only [E.wf] at h; simp [E.ev, ih h]
  | wr a ih => simp only [E.wf] at h; simp [E.ev, ih h]
  | add a b iha ihb | sub a b iha ihb | mul a b iha ihb | quo a b iha ihb | rem a b iha ihb | max a b iha ihb | min a b iha ihb | cell a b _ iha ihb | join a b iha ihb =>
    simp only [E.wf, Bool.and_eq_true] at h; simp [E.ev, iha h.1, ihb h.2]
  | sub3 a b c _ iha ihb ihc => simp only [E.wf, Bool.and_eq_true] at h; simp [E.ev, iha h.1.1, ihb h.1.2, ihc h.2]
theorem E.den_ext {ρ l : List C} (e : E) (h : e.wf ρ.length = true) : e.den (ρ ++ l) = e.den ρ := by
  unfold E.den; rw [E.ev_ext e h]
theorem B.den_ext {ρ l : List C} (e : B) (h : e.wf ρ.length = true) : e.den (ρ ++ l) = e.den ρ := by
  induction e with
  | lit n => rfl
  | of e => simp only [B.wf] at h; simp [B.den, E.ev_ext e h]
  | cmp c a b => simp only [B.wf, Bool.and_eq_true] at h; simp [B.den, E.den_ext _ h.1, E.den_ext _ h.2]
  | not a ih => simp only [B.wf] at h; simp [B.den, ih h]
  | and a b iha ihb | or a b iha ihb | beq a b iha ihb => simp only [B.wf, Bool.and_eq_true] at h; simp [B.den, iha h.1, ihb h.2]

/-! Intervals -/
abbrev Bds := List (Nat × Int × Int)
def Bds.get : Bds → Nat → Option (Int × Int)
  | [], _ => none
  | (k, v) :: l, n => if k = n then some v else Bds.get l n
def Bds.ok (bd : Bds) (ρ : List C) : Prop := ∀ x lo hi, (x, lo, hi) ∈ bd → x < ρ.length ∧ lo ≤ (at_ ρ x).int ∧ (at_ ρ x).int ≤ hi
theorem Bds.get_mem {bd : Bds} {x : Nat} {v : Int × Int} (h : bd.get x = some v) : (x, v) ∈ bd := by
  induction bd with
  | nil => cases h
  | cons p l ih =>
    obtain ⟨k, u⟩ := p
    unfold Bds.get at h
    split at h
    · rename_i e; cases h; subst e; exact List.mem_cons_self ..
    · exact List.mem_cons_of_mem _ (ih h)
theorem Bds.ok_ext {bd : Bds} {ρ l : List C} (h : bd.ok ρ) : bd.ok (ρ ++ l) := fun x lo hi hm => by
  obtain ⟨h1, h2, h3⟩ := h x lo hi hm
  rw [at_ext h1]
  exact ⟨by simp; omega, h2, h3⟩

def maxabs (p : Int × Int) : Int := Max.max p.2 (-p.1)
/-- Where a number lies, by what is known of the variables. -/
def E.iv (bd : Bds) : E → Option (Int × Int)
  | .lit n => some (n, n)
  | .var i => match bd.get i with
    | some p => some p
    | none => some (-9223372036854775808, 9223372036854775807)
  | .add a b => match a.iv bd, b.iv bd with
    | some p, some q => some (p.1 + q.1, p.2 + q.2)
    | _, _ => none
  | .sub a b => match a.iv bd, b.iv bd with
    | some p, some q => some (p.1 - q.2, p.2 - q.1)
    | _, _ => none
  | .mul a b => match a.iv bd, b.iv bd with
    | some p, some q => some (Min.min (Min.min (p.1 * q.1) (p.1 * q.2)) (Min.min (p.2 * q.1) (p.2 * q.2)), Max.max (Max.max (p.1 * q.1) (p.1 * q.2)) (Max.max (p.2 * q.1) (p.2 * q.2)))
    | _, _ => none
  | .quo a b => match a.iv bd with
    | some p => match b.iv bd with
      | some q => if 0 ≤ p.1 ∧ 0 ≤ q.1 then some (0, p.2) else some (-maxabs p, maxabs p)
      | none => some (-maxabs p, maxabs p)
    | none => none
  | .rem a b => match a.iv bd, b.iv bd with
    | some p, some q => if 0 ≤ p.1 then (if 1 ≤ q.1 then some (0, Min.min p.2 (q.2 - 1)) else some (0, p.2)) else some (-maxabs p, maxabs p)
    | some p, none => if 0 ≤ p.1 then some (0, p.2) else some (-maxabs p, maxabs p)
    | _, _ => none
  | .max a b => match a.iv bd, b.iv bd with
    | some p, some q => some (Max.max p.1 q.1, Max.max p.2 q.2)
    | _, _ => none
  | .min a b => match a.iv bd, b.iv bd with
    | some p, some q => some (Min.min p.1 q.1, Min.min p.2 q.2)
    | _, _ => none
  | .len _ => some (0, 9223372036854775807)
  | .cell _ _ _ => some (-9223372036854775808, 9223372036854775807)
  | .nil | .join _ _ | .sub3 _ _ _ _ => some (0, 0)
  | .wr _ => some (-9223372036854775808, 9223372036854775807)

theorem mul_corner {x y a b c d : Int} (h1 : a ≤ x) (h2 : x ≤ b) (h3 : c ≤ y) (h4 : y ≤ d) :
    Min.min (Min.min (a * c) (a * d)) (Min.min (b * c) (b * d)) ≤ x * y ∧ x * y ≤ Max.max (Max.max (a * c) (a * d)) (Max.max (b * c) (b * d)) := by
  have lin : ∀ (u v : Int), u ≤ v → ∀ z, (0 ≤ z → u * z ≤ v * z) ∧ (z ≤ 0 → v * z ≤ u * z) := fun u v h z =>
    ⟨fun hz => Int.mul_le_mul_of_nonneg_right h hz, fun hz => Int.mul_le_mul_of_nonpos_right h hz⟩
  have e1 := lin c y h3 a; have e2 := lin y d h4 a; have e3 := lin c y h3 b; have e4 := lin y d h4 b
  have f1 := lin a x h1 y; have f2 := lin x b h2 y
  simp only [Int.mul_comm c a, Int.mul_comm y a, Int.mul_comm d a, Int.mul_comm c b, Int.mul_comm y b, Int.mul_comm d b] at e1 e2 e3 e4
  generalize a * c = ac at *
  generalize a * d = ad at *
  generalize b * c = bc at *
  generalize b * d = bd at *
  generalize a * y = ay at *
  generalize b * y = by_ at *
  generalize x * y = xy at *
  omega
theorem tdiv_abs (x y : Int) {a b : Int} (h1 : a ≤ x) (h2 : x ≤ b) : -Max.max b (-a) ≤ x.tdiv y ∧ x.tdiv y ≤ Max.max b (-a) := by
  have h := Int.natAbs_tdiv_le_natAbs x y
  omega
theorem tmod_abs (x y : Int) {a b : Int} (h1 : a ≤ x) (h2 : x ≤ b) : -Max.max b (-a) ≤ x.tmod y ∧ x.tmod y ≤ Max.max b (-a) := by
  have h : (x.tmod y).natAbs ≤ x.natAbs := by rw [Int.natAbs_tmod]; exact Nat.mod_le ..
  omega

def Smalls (ρ : List C) : Prop := ∀ i n, (at_ ρ i).small n
theorem C.small_zero (m : Nat) : (C.i 0).small m := by cases m <;> simp [C.small]
theorem C.small_at {c : C} (h : ∀ n, c.small n) (i o n : Nat) : (c.at i o).small n := by
  unfold C.at
  cases c with
  | i k => simp [C.rows, C.small_zero]
  | b k => simp [C.rows, C.small_zero]
  | s v rows =>
    have h1 := (h (n + 1)).2
    simp only [C.rows, List.getD_eq_getElem?_getD]
    cases hr : rows[i]? with
    | none => simp [C.small_zero]
    | some r =>
      simp only [Option.getD_some]
      cases hc : r[o]? with
      | none => simp [C.small_zero]
      | some c => exact h1 r (List.mem_of_getElem? hr) c (List.mem_of_getElem? hc)
theorem C.at_norows {c : C} (h : c.rows = []) (i o : Nat) : c.at i o = .i 0 := by simp [C.at, h]
theorem C.small_rows {c : C} (h : (∀ n, c.small n) ∨ c.rows = []) {l : List (List C)} (hl : l.length ≤ c.rows.length) (hs : ∀ r ∈ l, r ∈ c.rows) (v : Value) : ∀ n, (C.s v l).small n := by
  intro n
  rcases h with h | h
  · cases c with
    | s u rows =>
      cases n with
      | zero => trivial
      | succ n =>
        have h1 := h (n + 1)
        simp only [C.rows] at hl hs
        exact ⟨by have := h1.1; omega, fun r hr x hx => h1.2 r (hs r hr) x hx⟩
    | i k => simp [C.rows] at hl; subst hl; cases n <;> simp [C.small]
    | b k => simp [C.rows] at hl; subst hl; cases n <;> simp [C.small]
  · rw [h] at hl; simp at hl; subst hl; cases n <;> simp [C.small]
theorem E.small {ρ : List C} (h : Smalls ρ) (e : E) : (∀ n, (e.ev ρ).small n) ∨ (e.ev ρ).rows = [] := by
  induction e with
  | var i => exact .inl (h i)
  | cell a x o iha _ =>
    rcases iha with h1 | h1
    · exact .inl (fun n => C.small_at h1 _ _ _)
    · exact .inl (fun n => by simp only [E.ev, C.at_norows h1]; exact C.small_zero n)
  | join l r _ ih => exact .inl (C.small_rows ih (Nat.le_refl _) (fun _ h => h) _)
  | sub3 a lo hi sz ih _ _ => exact .inl (C.small_rows ih (by simp; omega) (fun _ h => List.mem_of_mem_take (List.mem_of_mem_drop h)) _)
  | _ => exact .inr rfl
theorem C.rows_le {c : C} (h : ∀ n, c.small n) : (c.rows.length : Int) ≤ 9223372036854775807 := by
  cases c with
  | s v rows => exact (h 1).1
  | _ => simp [C.rows]
theorem C.int_le {c : C} (h : ∀ n, c.small n) : -9223372036854775808 ≤ c.int ∧ c.int ≤ 9223372036854775807 := by
  cases c with
  | i k => exact h 0
  | _ => simp [C.int]

theorem E.iv_ok {bd : Bds} {ρ : List C} (hb : bd.ok ρ) (hl : Smalls ρ) (e : E) : ∀ p, e.iv bd = some p → p.1 ≤ e.den ρ ∧ e.den ρ ≤ p.2 := by
  induction e with
  | lit n => intro p h; cases h; exact ⟨Int.le_refl _, Int.le_refl _⟩
  | var i =>
    intro p h
    simp only [E.iv] at h
    split at h
    · rename_i q hq; cases h; exact (hb i p.1 p.2 (Bds.get_mem hq)).2
    · cases h; exact C.int_le (hl i)
  | len a => intro p h; cases h; exact ⟨Int.natCast_nonneg _, by
      rcases E.small hl a with h1 | h1
      · exact C.rows_le h1
      · simp only [E.den_len, h1]; simp⟩
  | cell a x o =>
    intro p h
    cases h
    rcases E.small hl (.cell a x o) with h1 | h1
    · exact C.int_le h1
    · rcases E.small hl a with h2 | h2
      · exact C.int_le (C.small_at h2 _ _)
      · simp only [E.den_cell, C.at_norows h2]; simp [C.int]
  | wr a _ => intro p h; cases h; simp only [E.den, E.ev, C.int]; rw [IntKind.wrap_i64]; omega
  | nil => intro p h; cases h; simp [E.den, E.ev, C.int]
  | join l r _ _ => intro p h; cases h; simp [E.den, E.ev, C.int]
  | sub3 a lo hi sz _ _ _ => intro p h; cases h; simp [E.den, E.ev, C.int]
  | add a b iha ihb =>
    intro p h
    simp only [E.iv] at h
    split at h
    · rename_i q r h1 h2; cases h; have := iha _ h1; have := ihb _ h2; simp only [E.den_add, E.den_sub, E.den_max, E.den_min]; omega
    · cases h
  | sub a b iha ihb =>
    intro p h
    simp only [E.iv] at h
    split at h
    · rename_i q r h1 h2; cases h; have := iha _ h1; have := ihb _ h2; simp only [E.den_add, E.den_sub, E.den_max, E.den_min]; omega
    · cases h
  | mul a b iha ihb =>
    intro p h
    simp only [E.iv] at h
    split at h
    · rename_i q r h1 h2
      cases h
      have i1 := iha _ h1; have i2 := ihb _ h2
      exact mul_corner i1.1 i1.2 i2.1 i2.2
    · cases h
  | quo a b iha ihb =>
    intro p h
    simp only [E.iv] at h
    split at h
    · rename_i q h1
      have i1 := iha _ h1
      have g : ∀ y, -maxabs q ≤ (a.den ρ).tdiv y ∧ (a.den ρ).tdiv y ≤ maxabs q := fun y => tdiv_abs _ y i1.1 i1.2
      split at h
      · rename_i r h2
        have i2 := ihb _ h2
        split at h
        · rename_i hc
          cases h
          have := Int.tdiv_nonneg (a := a.den ρ) (b := b.den ρ) (by omega) (by omega)
          have h5 := Int.natAbs_tdiv_le_natAbs (a.den ρ) (b.den ρ)
          simp only [E.den_quo, E.den_rem]
          omega
        · cases h; exact g _
      · cases h; exact g _
    · cases h
  | rem a b iha ihb =>
    intro p h
    simp only [E.iv] at h
    have pos : ∀ q : Int × Int, a.iv bd = some q → 0 ≤ q.1 → 0 ≤ (a.den ρ).tmod (b.den ρ) ∧ (a.den ρ).tmod (b.den ρ) ≤ q.2 := fun q h1 hq => by
      have i1 := iha _ h1
      have := Int.tmod_nonneg (b.den ρ) (a := a.den ρ) (by omega)
      have h5 : ((a.den ρ).tmod (b.den ρ)).natAbs ≤ (a.den ρ).natAbs := by rw [Int.natAbs_tmod]; exact Nat.mod_le ..
      omega
    split at h
    · rename_i q r h1 h2
      have i1 := iha _ h1; have i2 := ihb _ h2
      split at h
      · rename_i hq
        have := pos _ h1 hq
        split at h
        · rename_i hr
          cases h
          have := Int.tmod_lt_of_pos (a.den ρ) (b := b.den ρ) (by omega)
          simp only [E.den_quo, E.den_rem]
          omega
        · cases h; exact this
      · cases h; exact tmod_abs _ _ i1.1 i1.2
    · rename_i q h1 h2
      have i1 := iha _ h1
      split at h
      · rename_i hq; cases h; exact pos q h1 hq
      · cases h; exact tmod_abs _ _ i1.1 i1.2
    · cases h
  | max a b iha ihb =>
    intro p h
    simp only [E.iv] at h
    split at h
    · rename_i q r h1 h2; cases h; have := iha _ h1; have := ihb _ h2; simp only [E.den_add, E.den_sub, E.den_max, E.den_min]; omega
    · cases h
  | min a b iha ihb =>
    intro p h
    simp only [E.iv] at h
    split at h
    · rename_i q r h1 h2; cases h; have := iha _ h1; have := ihb _ h2; simp only [E.den_add, E.den_sub, E.den_max, E.den_min]; omega
    · cases h
end Go.Proofs.Ytlbgcjpkegpmlaa
