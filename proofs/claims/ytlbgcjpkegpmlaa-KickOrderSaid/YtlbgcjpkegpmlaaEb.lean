/- The engine, part 2: symbolic values, environments, what an operation yields. -/
import Derived.Test.YtlbgcjpkegpmlaaEa
import Derived.Test.YtlbgcjpkegpmlaaM
import Derived.Laws.CopyRow
import Derived.Laws.Build
namespace Go.Proofs.Ytlbgcjpkegpmlaa
open Go.RowKit

/-- One cell. -/
inductive Lf where
  | int (e : E)
  | bool (b : B)
  | ptr (b off : Nat)
  | arr (te : TypeId) (a : E)
  | elp (te : TypeId) (sz : Nat) (a x : E) (o : Nat)
  | cst (v : Value)
  /-- A slice of one's own, known by its variable. -/
  | vec (te : TypeId) (i : Nat)
  /-- A place in it. -/
  | velp (te : TypeId) (sz : Nat) (i : Nat) (x : E) (o : Nat)
  /-- A function value, known by its variable. -/
  | clo (i : Nat)
  /-- What a slice of one's own holds (handed on, never held in a slot). -/
  | cnt (te : TypeId) (r : E)
  deriving Inhabited
inductive S0 where
  | lf (l : Lf)
  | agg (l : List Lf)
  deriving Inhabited
inductive SV where
  | one (s : S0)
  | tup (l : List S0)
  | fn (f : Nat) (l : List Lf)
  deriving Inhabited

structure Env where
  ρ : List C
  blk : Nat → Nat
  nb : Nat
  base : Nat → Nat → Prop
  /-- The slots of the frames above. -/
  up : Nat → Value := fun _ => default

/-- The address of a cell of a slice. -/
def elemAt (v : Value) (k : Nat) : Value :=
  match v with
  | .slice (some a) _ _ => .pointer (some (a.add k))
  | _ => .pointer none
def Lf.den (Γ : Env) : Lf → Value
  | .int e => .int .i64 (e.den Γ.ρ)
  | .bool b => .bool (b.den Γ.ρ)
  | .ptr b off => .pointer (some ⟨Γ.blk b, off, none⟩)
  | .arr _ a => (a.ev Γ.ρ).loc
  | .elp _ sz a x o => elemAt (a.ev Γ.ρ).loc ((x.den Γ.ρ).toNat * sz + o)
  | .cst v => v
  | .vec _ i => (at_ Γ.ρ i).loc
  | .velp _ sz i x o => elemAt (at_ Γ.ρ i).loc ((x.den Γ.ρ).toNat * sz + o)
  | .clo i => (at_ Γ.ρ i).loc
  | .cnt _ r => (r.ev Γ.ρ).loc
def dens (Γ : Env) (l : List Lf) : Array Value := (l.map (Lf.den Γ)).toArray
def S0.den (Γ : Env) : S0 → Value
  | .lf l => l.den Γ
  | .agg l => .agg (dens Γ l)
def SV.den (Γ : Env) : SV → Value
  | .one s => s.den Γ
  | .tup l => .tuple (l.map (S0.den Γ)).toArray
  | .fn f l => .func (.func f) #[.agg (dens Γ l)] #[]

def Lf.wf (n nb : Nat) : Lf → Bool
  | .int e => e.wf n
  | .bool b => b.wf n
  | .ptr b _ => Nat.blt b nb
  | .arr _ a => a.wf n
  | .elp _ _ a x _ => a.wf n && x.wf n
  | .cst _ => true
  | .vec _ i | .clo i => Nat.blt i n
  | .velp _ _ i x _ => Nat.blt i n && x.wf n
  | .cnt _ r => r.wf n
def S0.wf (n nb : Nat) : S0 → Bool
  | .lf l => l.wf n nb
  | .agg l => l.all (Lf.wf n nb)
def SV.wf (n nb : Nat) : SV → Bool
  | .one s => s.wf n nb
  | .tup l => l.all (S0.wf n nb)
  | .fn _ l => l.all (Lf.wf n nb)

/-- One block more that is not one's own. -/
def Env.addO (Γ : Env) (ob : Option Nat) : Env := { Γ with base := fun b o => Γ.base b o ∨ ob = some b }
theorem Env.addO_none (Γ : Env) : Γ.addO none = Γ := by
  unfold Env.addO
  cases Γ
  simp
theorem S0.den_addO (Γ : Env) (ob : Option Nat) (s : S0) : s.den (Γ.addO ob) = s.den Γ := by
  have h1 : ∀ l : Lf, l.den (Γ.addO ob) = l.den Γ := fun l => by cases l <;> rfl
  have h2 : ∀ l : List Lf, dens (Γ.addO ob) l = dens Γ l := fun l => by unfold dens; rw [List.map_congr_left fun x _ => h1 x]
  cases s with
  | lf l => exact h1 l
  | agg l => simp only [S0.den, h2]
theorem SV.den_addO (Γ : Env) (ob : Option Nat) (s : SV) : s.den (Γ.addO ob) = s.den Γ := by
  have h1 : ∀ l : Lf, l.den (Γ.addO ob) = l.den Γ := fun l => by cases l <;> rfl
  have h2 : ∀ l : List Lf, dens (Γ.addO ob) l = dens Γ l := fun l => by unfold dens; rw [List.map_congr_left fun x _ => h1 x]
  have h3 : ∀ s : S0, s.den (Γ.addO ob) = s.den Γ := fun s => by cases s with | lf l => exact h1 l | agg l => simp only [S0.den, h2]
  cases s with
  | one s => exact h3 s
  | tup l => simp only [SV.den]; rw [List.map_congr_left fun x _ => h3 x]
  | fn f l => simp only [SV.den, h2]
/-- Γ' knows what Γ knows. -/
structure Ext (Γ Γ' : Env) : Prop where
  ρ : ∃ l, Γ'.ρ = Γ.ρ ++ l
  blk : ∀ b, b < Γ.nb → Γ'.blk b = Γ.blk b
  nb : Γ.nb ≤ Γ'.nb
  base : Γ'.base = Γ.base
  up : Γ'.up = Γ.up
theorem Ext.refl (Γ : Env) : Ext Γ Γ := ⟨⟨[], by simp⟩, fun _ _ => rfl, Nat.le_refl _, rfl, rfl⟩
theorem Ext.len {Γ Γ' : Env} (h : Ext Γ Γ') : Γ.ρ.length ≤ Γ'.ρ.length := by obtain ⟨l, e⟩ := h.ρ; rw [e]; simp
theorem Ext.trans {a b c : Env} (h : Ext a b) (k : Ext b c) : Ext a c := by
  obtain ⟨l, e⟩ := h.ρ
  obtain ⟨m, f⟩ := k.ρ
  exact ⟨⟨l ++ m, by rw [f, e, List.append_assoc]⟩, fun x hx => (k.blk x (by have := h.nb; omega)).trans (h.blk x hx), Nat.le_trans h.nb k.nb, k.base.trans h.base, k.up.trans h.up⟩
theorem Lf.den_ext {Γ Γ' : Env} (h : Ext Γ Γ') (s : Lf) (hw : s.wf Γ.ρ.length Γ.nb = true) : s.den Γ' = s.den Γ := by
  obtain ⟨l, e⟩ := h.ρ
  cases s with
  | int x => simp only [Lf.den, e, E.den_ext _ hw]
  | bool x => simp only [Lf.den, e, B.den_ext _ hw]
  | ptr b o => simp only [Lf.wf, Nat.blt_eq] at hw; simp only [Lf.den, h.blk b hw]
  | arr te a => simp only [Lf.wf] at hw; simp only [Lf.den, e, E.ev_ext _ hw]
  | elp te sz a x o => simp only [Lf.wf, Bool.and_eq_true] at hw; simp only [Lf.den, e, E.ev_ext _ hw.1, E.den_ext _ hw.2]
  | cst v => rfl
  | vec te i => simp only [Lf.wf, Nat.blt_eq] at hw; simp only [Lf.den, e, at_ext hw]
  | clo i => simp only [Lf.wf, Nat.blt_eq] at hw; simp only [Lf.den, e, at_ext hw]
  | velp te sz i x o => simp only [Lf.wf, Bool.and_eq_true, Nat.blt_eq] at hw; simp only [Lf.den, e, at_ext hw.1, E.den_ext _ hw.2]
  | cnt te r => simp only [Lf.wf] at hw; simp only [Lf.den, e, E.ev_ext _ hw]
theorem dens_ext {Γ Γ' : Env} (h : Ext Γ Γ') (l : List Lf) (hw : l.all (Lf.wf Γ.ρ.length Γ.nb) = true) : dens Γ' l = dens Γ l := by
  unfold dens
  congr 1
  exact List.map_congr_left fun x hx => Lf.den_ext h x (List.all_eq_true.1 hw x hx)
theorem S0.den_ext {Γ Γ' : Env} (h : Ext Γ Γ') (s : S0) (hw : s.wf Γ.ρ.length Γ.nb = true) : s.den Γ' = s.den Γ := by
  cases s with
  | lf l => exact Lf.den_ext h l hw
  | agg l => simp only [S0.den, dens_ext h l hw]
theorem SV.den_ext {Γ Γ' : Env} (h : Ext Γ Γ') (s : SV) (hw : s.wf Γ.ρ.length Γ.nb = true) : s.den Γ' = s.den Γ := by
  cases s with
  | one l => exact S0.den_ext h l hw
  | tup l =>
    simp only [SV.den]
    congr 2
    exact List.map_congr_left fun x hx => S0.den_ext h x (List.all_eq_true.1 hw x hx)
  | fn f l => simp only [SV.den, dens_ext h l hw]

theorem E.wf_mono {n m : Nat} (h : n ≤ m) (e : E) (hw : e.wf n = true) : e.wf m = true := by
  induction e with
  | lit n => rfl
  | var i => simp only [E.wf, Nat.blt_eq] at hw ⊢; omega
  | len a ih => exact ih hw
  | wr a ih => exact ih hw
  | nil => rfl
  | sub3 a b c _ iha ihb ihc => simp only [E.wf, Bool.and_eq_true] at hw ⊢; exact ⟨⟨iha hw.1.1, ihb hw.1.2⟩, ihc hw.2⟩
  | add a b iha ihb | sub a b iha ihb | mul a b iha ihb | quo a b iha ihb | rem a b iha ihb | max a b iha ihb | min a b iha ihb | cell a b _ iha ihb | join a b iha ihb =>
    simp only [E.wf, Bool.and_eq_true] at hw ⊢; exact ⟨iha hw.1, ihb hw.2⟩
theorem B.wf_mono {n m : Nat} (h : n ≤ m) (e : B) (hw : e.wf n = true) : e.wf m = true := by
  induction e with
  | lit n => rfl
  | of e => exact E.wf_mono h e hw
  | cmp c a b => simp only [B.wf, Bool.and_eq_true] at hw ⊢; exact ⟨E.wf_mono h _ hw.1, E.wf_mono h _ hw.2⟩
  | not a ih => exact ih hw
  | and a b iha ihb | or a b iha ihb | beq a b iha ihb => simp only [B.wf, Bool.and_eq_true] at hw ⊢; exact ⟨iha hw.1, ihb hw.2⟩
theorem Lf.wf_mono {n m nb : Nat} (h : n ≤ m) (l : Lf) (hw : l.wf n nb = true) : l.wf m nb = true := by
  cases l with
  | int e => exact E.wf_mono h e hw
  | bool e => exact B.wf_mono h e hw
  | ptr b o => exact hw
  | arr t a => exact E.wf_mono h a hw
  | elp t s a x o => simp only [Lf.wf, Bool.and_eq_true] at hw ⊢; exact ⟨E.wf_mono h _ hw.1, E.wf_mono h _ hw.2⟩
  | cst v => rfl
  | vec t i => simp only [Lf.wf, Nat.blt_eq] at hw ⊢; omega
  | clo i => simp only [Lf.wf, Nat.blt_eq] at hw ⊢; omega
  | velp t s i x o => simp only [Lf.wf, Bool.and_eq_true, Nat.blt_eq] at hw ⊢; exact ⟨by omega, E.wf_mono h _ hw.2⟩
  | cnt t r => exact E.wf_mono h r hw
theorem Lfs.wf_mono {n m nb : Nat} (h : n ≤ m) {l : List Lf} (hw : l.all (Lf.wf n nb) = true) : l.all (Lf.wf m nb) = true :=
  List.all_eq_true.2 fun x hx => Lf.wf_mono h x (List.all_eq_true.1 hw x hx)
theorem S0.wf_mono {n m nb : Nat} (h : n ≤ m) (s : S0) (hw : s.wf n nb = true) : s.wf m nb = true := by
  cases s with
  | lf l => exact Lf.wf_mono h l hw
  | agg l => exact Lfs.wf_mono h hw
theorem SV.wf_mono {n m nb : Nat} (h : n ≤ m) (s : SV) (hw : s.wf n nb = true) : s.wf m nb = true := by
  cases s with
  | one s => exact S0.wf_mono h s hw
  | tup l => exact List.all_eq_true.2 fun x hx => S0.wf_mono h x (List.all_eq_true.1 hw x hx)
  | fn f l => exact Lfs.wf_mono h hw

/-! Values read as symbols -/
def Lf.ofValue : Value → Lf
  | .int .i64 n => .int (.lit n)
  | .bool b => .bool (.lit b)
  | v => .cst v
theorem Lf.den_ofValue (Γ : Env) (v : Value) : (Lf.ofValue v).den Γ = v := by
  unfold Lf.ofValue
  split <;> rfl
def S0.ofValue : Value → S0
  | .agg cs => .agg (cs.toList.map Lf.ofValue)
  | v => .lf (Lf.ofValue v)
theorem S0.den_ofValue (Γ : Env) (v : Value) : (S0.ofValue v).den Γ = v := by
  unfold S0.ofValue
  split
  · simp only [S0.den, dens, List.map_map]
    congr 1
    apply Array.ext'
    simp only [Function.comp_def, Lf.den_ofValue, List.map_id']
  · exact Lf.den_ofValue _ _
def S0.cells : S0 → List Lf
  | .lf l => [l]
  | .agg l => l
/-- No aggregate hides in a cell. -/
def Lf.flat : Lf → Bool
  | .cst v => v.oneCell'
  | .cnt _ _ => false
  | _ => true

/-! The program's tables -/
/-- Is it an aggregate: none if not known. -/
def aggOf (P : Program) (t : TypeId) : Option Bool :=
  match P.underlying t with
  | some (.struct _) => some true
  | some (.array _ _) => some true
  | some _ => some false
  | none => none
def sizeIs (P : Program) (t : TypeId) : Option Nat := (P.info? t).map (·.size)
theorem run_isAgg {P : Program} {t : TypeId} {b : Bool} (h : aggOf P t = some b) (w : World) : (isAgg t).run P w = .ok b w := by
  unfold aggOf at h
  unfold isAgg
  cases hd : P.underlying t with
  | none => simp [hd] at h
  | some d =>
    rw [hd] at h
    cases d <;> simp at h <;> subst h <;> simp [run_underlying hd]
theorem run_typeInfo' {P : Program} {t : TypeId} {i : TypeInfo} (h : P.info? t = some i) (w : World) : (typeInfo t).run P w = .ok i w := by
  simp [typeInfo, h]
theorem run_sizeOf' {P : Program} {t : TypeId} {n : Nat} (h : sizeIs P t = some n) (w : World) : (sizeOf t).run P w = .ok n w := by
  unfold sizeIs at h
  cases hi : P.info? t with
  | none => simp [hi] at h
  | some i => simp [hi] at h; subst h; simp [sizeOf, run_typeInfo' hi]
end Go.Proofs.Ytlbgcjpkegpmlaa
