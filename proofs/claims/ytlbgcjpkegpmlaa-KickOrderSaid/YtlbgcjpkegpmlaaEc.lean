/- The engine, part 3: what an operation yields that leaves the world alone. -/
import Derived.Test.YtlbgcjpkegpmlaaEb
import Derived.Laws.StructEq
import Derived.Laws.Tables
import Derived.IntWalk
namespace Go.Proofs.Ytlbgcjpkegpmlaa
set_option linter.unusedSimpArgs false
open Go.RowKit

def look {α : Type} : List (Nat × Option α) → Nat → Option α
  | [], _ => none
  | (k, v) :: l, n => if k = n then v else look l n

structure St where
  sl : List (Nat × Option SV)
  mem : List (Nat × Option (TypeId × List Lf))
  nt : Nat
  nb : Nat
  nx : Nat
  lvl : Nat
  bds : Bds
  /-- Slices of one's own: by the variable that says where they lie, what they hold. -/
  vec : List (Nat × Option (TypeId × E)) := []
  /-- Function values: by their variable, the function, what comes before and what behind the arguments. -/
  clo : List (Nat × Option (Nat × List S0 × List Lf)) := []
  /-- How the code came here. -/
  path : Nat := 0
  /-- Operations whose numbers wrap (path * 1000 + slot). -/
  wr : List Nat := []
  deriving Inhabited

def St.ev (st : St) : Operand → Option SV
  | .tmp t => if t < 1000 then look st.sl t else none
  | .const v => some (.one (S0.ofValue v))
  | .global g => some (.one (.lf (.cst (.pointer (some ⟨g, 0, none⟩)))))
  | .func f => some (.one (.lf (.cst (.func (.func f) #[] #[]))))
def St.lf (st : St) (x : Operand) : Option Lf := match st.ev x with | some (.one (.lf l)) => some l | _ => none
def St.s0 (st : St) (x : Operand) : Option S0 := match st.ev x with | some (.one s) => some s | _ => none

/-! Numbers -/
def E.mkAdd : E → E → E
  | .lit a, .lit b => .lit (a + b)
  | .lit 0, b => b
  | a, .lit 0 => a
  | a, b => .add a b
def E.mkSub : E → E → E
  | .lit a, .lit b => .lit (a - b)
  | a, .lit 0 => a
  | a, b => .sub a b
def E.mkMul : E → E → E
  | .lit a, .lit b => .lit (a * b)
  | .lit 1, b => b
  | a, .lit 1 => a
  | a, b => .mul a b
theorem E.den_mkAdd (ρ : List C) (a b : E) : (E.mkAdd a b).den ρ = a.den ρ + b.den ρ := by
  unfold E.mkAdd; split <;> simp [E.den_add, E.den_lit]
theorem E.den_mkSub (ρ : List C) (a b : E) : (E.mkSub a b).den ρ = a.den ρ - b.den ρ := by
  unfold E.mkSub; split <;> simp [E.den_sub, E.den_lit]
theorem E.den_mkMul (ρ : List C) (a b : E) : (E.mkMul a b).den ρ = a.den ρ * b.den ρ := by
  unfold E.mkMul; split <;> simp [E.den_mul, E.den_lit]
def Cmp.dec (c : Cmp) (p q : Int × Int) : Option Bool :=
  match c with
  | .lt => if p.2 < q.1 then some true else if q.2 ≤ p.1 then some false else none
  | .le => if p.2 ≤ q.1 then some true else if q.2 < p.1 then some false else none
  | .eq => if p.2 < q.1 ∨ q.2 < p.1 then some false else if p.1 = p.2 ∧ q.1 = q.2 ∧ p.1 = q.1 then some true else none
  | .ne => if p.2 < q.1 ∨ q.2 < p.1 then some true else if p.1 = p.2 ∧ q.1 = q.2 ∧ p.1 = q.1 then some false else none
theorem Cmp.dec_ok {c : Cmp} {p q : Int × Int} {t : Bool} (h : c.dec p q = some t) {x y : Int} (hx : p.1 ≤ x ∧ x ≤ p.2) (hy : q.1 ≤ y ∧ y ≤ q.2) : c.den x y = t := by
  cases c <;> simp only [Cmp.dec] at h <;> (split at h; · cases h; simp [Cmp.den]; omega) <;> (split at h; · cases h; simp [Cmp.den]; omega) <;> cases h
def B.mkCmp (bd : Bds) (c : Cmp) (a b : E) : B :=
  match a.iv bd, b.iv bd with
  | some p, some q => match c.dec p q with
    | some t => .lit t
    | none => .cmp c a b
  | _, _ => .cmp c a b
def B.mkNot : B → B
  | .lit t => .lit !t
  | .not a => a
  | b => .not b
theorem B.den_mkNot (ρ : List C) (b : B) : (B.mkNot b).den ρ = !b.den ρ := by
  unfold B.mkNot; split <;> simp [B.den]

/-- What is known of an environment's numbers. -/
structure Num (bd : Bds) (ρ : List C) : Prop where
  bds : bd.ok ρ
  len : Smalls ρ

theorem B.den_mkCmp {bd : Bds} {ρ : List C} (hn : Num bd ρ) (c : Cmp) (a b : E) : (B.mkCmp bd c a b).den ρ = c.den (a.den ρ) (b.den ρ) := by
  unfold B.mkCmp
  split
  · rename_i p q h1 h2
    split
    · rename_i t h3
      exact (Cmp.dec_ok h3 (E.iv_ok hn.bds hn.len a _ h1) (E.iv_ok hn.bds hn.len b _ h2)).symm
    · rfl
  · rfl

/-- A number that fits into 64 bits; what is to be shown of it, if anything. -/
def inr (e : E) : B := .and (.cmp .le (.lit (-9223372036854775808)) e) (.cmp .le e (.lit 9223372036854775807))
def rng (bd : Bds) (e : E) : List B :=
  match e.iv bd with
  | some p => if -9223372036854775808 ≤ p.1 ∧ p.2 ≤ 9223372036854775807 then [] else [inr e]
  | none => [inr e]
theorem inr_den {ρ : List C} {e : E} (h : (inr e).den ρ = true) : -9223372036854775808 ≤ e.den ρ ∧ e.den ρ ≤ 9223372036854775807 := by
  simp only [inr, B.den, Cmp.den, E.den_lit, Bool.and_eq_true] at h
  exact ⟨of_decide_eq_true h.1, of_decide_eq_true h.2⟩
def Obs (ρ : List C) (l : List B) : Prop := ∀ b ∈ l, b.den ρ = true
theorem Obs.app {ρ : List C} {l m : List B} (h : Obs ρ (l ++ m)) : Obs ρ l ∧ Obs ρ m := ⟨fun b hb => h b (by simp [hb]), fun b hb => h b (by simp [hb])⟩
theorem rng_ok {bd : Bds} {ρ : List C} (hn : Num bd ρ) {e : E} (h : Obs ρ (rng bd e)) : IntKind.i64.wrap (e.den ρ) = e.den ρ := by
  have g : -9223372036854775808 ≤ e.den ρ ∧ e.den ρ ≤ 9223372036854775807 := by
    unfold rng at h
    split at h
    · rename_i p hp
      have := E.iv_ok hn.bds hn.len e _ hp
      split at h
      · omega
      · have := h (inr e) (by simp)
        exact inr_den this
    · have := h (inr e) (by simp)
      exact inr_den this
  exact IntWalk.i64_in _ g
/-- A divisor is not 0. -/
def nz (bd : Bds) (e : E) : List B :=
  match e.iv bd with
  | some p => if 1 ≤ p.1 ∨ p.2 ≤ -1 then [] else [.cmp .ne e (.lit 0)]
  | none => [.cmp .ne e (.lit 0)]
theorem nz_ok {bd : Bds} {ρ : List C} (hn : Num bd ρ) {e : E} (h : Obs ρ (nz bd e)) : e.den ρ ≠ 0 := by
  unfold nz at h
  split at h
  · rename_i p hp
    have := E.iv_ok hn.bds hn.len e _ hp
    split at h
    · omega
    · have := h (.cmp .ne e (.lit 0)) (by simp)
      simpa [B.den, Cmp.den, E.den_lit] using this
  · have := h (.cmp .ne e (.lit 0)) (by simp)
    simpa [B.den, Cmp.den, E.den_lit] using this

def binLf (bd : Bds) (op : BinOp) : Lf → Lf → Option (List B × Lf)
  | .int a, .int b => match op with
    | .add => some (rng bd (.add a b), .int (E.mkAdd a b))
    | .sub => some (rng bd (.sub a b), .int (E.mkSub a b))
    | .mul => some (rng bd (.mul a b), .int (E.mkMul a b))
    | .quo => some (nz bd b ++ rng bd (.quo a b), .int (.quo a b))
    | .rem => some (nz bd b, .int (.rem a b))
    | .eql => some ([], .bool (B.mkCmp bd .eq a b))
    | .neq => some ([], .bool (B.mkCmp bd .ne a b))
    | .lss => some ([], .bool (B.mkCmp bd .lt a b))
    | .leq => some ([], .bool (B.mkCmp bd .le a b))
    | .gtr => some ([], .bool (B.mkCmp bd .lt b a))
    | .geq => some ([], .bool (B.mkCmp bd .le b a))
    | _ => none
  | _, _ => none

theorem run_binLf {P : Program} {bd : Bds} {Γ : Env} (hn : Num bd Γ.ρ) {op : BinOp} {x y l : Lf} {obs : List B} (h : binLf bd op x y = some (obs, l)) (ho : Obs Γ.ρ obs)
    (t : TypeId) (u v : Operand) (w : World) : (do eqGuard op t u v (x.den Γ) (y.den Γ); binOp op t (x.den Γ) (y.den Γ) : Sem Value).run P w = .ok (l.den Γ) w := by
  unfold binLf at h
  split at h
  · rename_i a b
    have hg : eqGuard op t u v ((Lf.int a).den Γ) ((Lf.int b).den Γ) = pure () := eqGuard_at_int ..
    simp only [hg, pure_bind]
    split at h <;> first
      | (cases h; done)
      | (cases h
         first
          | (have e := rng_ok hn ho; simp only [Lf.den, binOp_add, binOp_sub, binOp_mul, Op.intArith, Sem.run_pure, E.den_mkAdd, E.den_mkSub, E.den_mkMul]; simp only [E.den_add, E.den_sub, E.den_mul, E.den_quo] at e; rw [e]; done)
          | (have e1 := nz_ok hn (Obs.app ho).1; have e := rng_ok hn (Obs.app ho).2; simp only [Lf.den, binOp_quo, Op.intDiv, if_neg e1, Sem.run_pure]; simp only [E.den_add, E.den_sub, E.den_mul, E.den_quo] at e; rw [e]; rfl)
          | (have e1 := nz_ok hn ho; simp only [Lf.den, binOp_rem, Op.intDiv, if_neg e1, Sem.run_pure]; rfl)
          | (simp only [Lf.den, binOp_eql, binOp_neq, binOp_lss, binOp_leq, binOp_gtr, binOp_geq, Sem.run_pure, B.den_mkCmp hn, Cmp.den, GT.gt, GE.ge]))
  · cases h
/-- Numbers that wrap. -/
def binW (op : BinOp) (a b : E) : Option E :=
  match op with
  | .add => some (.wr (.add a b))
  | .sub => some (.wr (.sub a b))
  | .mul => some (.wr (.mul a b))
  | _ => none
theorem run_binW {P : Program} {Γ : Env} {op : BinOp} {a b e : E} (h : binW op a b = some e) (t : TypeId) (u v : Operand) (w : World) :
    (do eqGuard op t u v (.int .i64 (a.den Γ.ρ)) (.int .i64 (b.den Γ.ρ)); binOp op t (.int .i64 (a.den Γ.ρ)) (.int .i64 (b.den Γ.ρ)) : Sem Value).run P w = .ok (.int .i64 (e.den Γ.ρ)) w := by
  have hg : eqGuard op t u v (.int .i64 (a.den Γ.ρ)) (.int .i64 (b.den Γ.ρ)) = pure () := eqGuard_at_int ..
  simp only [hg, pure_bind]
  unfold binW at h
  split at h <;> cases h <;> simp only [binOp_add, binOp_sub, binOp_mul, Op.intArith, Sem.run_pure, E.den_wr, E.den_add, E.den_sub, E.den_mul]
end Go.Proofs.Ytlbgcjpkegpmlaa
