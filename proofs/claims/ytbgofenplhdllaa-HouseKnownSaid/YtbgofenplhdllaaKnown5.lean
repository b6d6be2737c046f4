/- Texts laid into one: Ew El Em Er. -/
import Derived.Test.YtbgofenplhdllaaKnown4
import Derived.OrdersHeld
import Derived.Scope
import Derived.CallsIn
import Derived.OrdersIn
import Derived.TacticsIn
/- The engine, part 11b: regions whose order is drawn, with calls and stores that turn the memory: the operations that only read come first, the others in the one order that there is. -/
namespace Go.Proofs.Ytbgofenplhdllaa
open Go.RowKit
set_option linter.unusedSimpArgs false
set_option linter.unusedVariables false

def sameV : Value → Value → Bool
  | .slice none a b, .slice none c d => Nat.beq a c && Nat.beq b d
  | .pointer a, .pointer b => decide (a = b)
  | .nilFunc, .nilFunc => true
  | .nilIface, .nilIface => true
  | .tuple a, .tuple b => a.isEmpty && b.isEmpty
  | .func (.func f) x y, .func (.func g) z u => Nat.beq f g && x.isEmpty && y.isEmpty && z.isEmpty && u.isEmpty
  | _, _ => false
def sameL : Lf → Lf → Bool
  | .int a, .int b => decide (a = b)
  | .bool a, .bool b => decide (a = b)
  | .ptr a o, .ptr b p => Nat.beq a b && Nat.beq o p
  | .arr t a, .arr u b => Nat.beq t u && decide (a = b)
  | .elp t s a x o, .elp u r b y p => Nat.beq t u && Nat.beq s r && decide (a = b) && decide (x = y) && Nat.beq o p
  | .cst u, .cst v => sameV u v
  | .vec t i, .vec u j => Nat.beq t u && Nat.beq i j
  | .velp t s i x o, .velp u r j y p => Nat.beq t u && Nat.beq s r && Nat.beq i j && decide (x = y) && Nat.beq o p
  | .clo i, .clo j => Nat.beq i j
  | .cnt t a, .cnt u b => Nat.beq t u && decide (a = b)
  | .u64 a, .u64 b => decide (a = b)
  | _, _ => false
def sameLs : List Lf → List Lf → Bool
  | [], [] => true
  | a :: l, b :: m => sameL a b && sameLs l m
  | _, _ => false
def same0 : S0 → S0 → Bool
  | .lf a, .lf b => sameL a b
  | .agg a, .agg b => sameLs a b
  | _, _ => false
def same0s : List S0 → List S0 → Bool
  | [], [] => true
  | a :: l, b :: m => same0 a b && same0s l m
  | _, _ => false
def sameS : SV → SV → Bool
  | .one a, .one b => same0 a b
  | .tup a, .tup b => same0s a b
  | .fn f a, .fn g b => Nat.beq f g && sameLs a b
  | _, _ => false
theorem sameV_eq {a b : Value} (h : sameV a b = true) : a = b := by
  unfold sameV at h
  split at h
  · simp only [Bool.and_eq_true] at h; rw [Nat.eq_of_beq_eq_true h.1, Nat.eq_of_beq_eq_true h.2]
  · rw [of_decide_eq_true h]
  · rfl
  · rfl
  · simp only [Bool.and_eq_true, Array.isEmpty_iff] at h
    rw [h.1, h.2]
  · simp only [Bool.and_eq_true, Array.isEmpty_iff] at h
    obtain ⟨⟨⟨⟨h1, h2⟩, h3⟩, h4⟩, h5⟩ := h
    rw [Nat.eq_of_beq_eq_true h1, h2, h3, h4, h5]
  · cases h
theorem sameL_eq {a b : Lf} (h : sameL a b = true) : a = b := by
  unfold sameL at h
  split at h
  · rw [of_decide_eq_true h]
  · rw [of_decide_eq_true h]
  · simp only [Bool.and_eq_true] at h; rw [Nat.eq_of_beq_eq_true h.1, Nat.eq_of_beq_eq_true h.2]
  · simp only [Bool.and_eq_true, decide_eq_true_eq] at h; rw [Nat.eq_of_beq_eq_true h.1, h.2]
  · simp only [Bool.and_eq_true, decide_eq_true_eq] at h
    obtain ⟨⟨⟨⟨h1, h2⟩, h3⟩, h4⟩, h5⟩ := h
    rw [Nat.eq_of_beq_eq_true h1, Nat.eq_of_beq_eq_true h2, h3, h4, Nat.eq_of_beq_eq_true h5]
  · rw [sameV_eq h]
  · simp only [Bool.and_eq_true] at h; rw [Nat.eq_of_beq_eq_true h.1, Nat.eq_of_beq_eq_true h.2]
  · simp only [Bool.and_eq_true, decide_eq_true_eq] at h
    obtain ⟨⟨⟨⟨h1, h2⟩, h3⟩, h4⟩, h5⟩ := h
    rw [Nat.eq_of_beq_eq_true h1, Nat.eq_of_beq_eq_true h2, Nat.eq_of_beq_eq_true h3, h4, Nat.eq_of_beq_eq_true h5]
  · rw [Nat.eq_of_beq_eq_true h]
  · simp only [Bool.and_eq_true, decide_eq_true_eq] at h; rw [Nat.eq_of_beq_eq_true h.1, h.2]
  · rw [of_decide_eq_true h]
  · cases h
theorem sameLs_eq : ∀ {a b : List Lf}, sameLs a b = true → a = b
  | [], [], _ => rfl
  | x :: a, y :: b, h => by
    simp only [sameLs, Bool.and_eq_true] at h
    rw [sameL_eq h.1, sameLs_eq h.2]
  | [], _ :: _, h => by cases h
  | _ :: _, [], h => by cases h
theorem same0_eq {a b : S0} (h : same0 a b = true) : a = b := by
  cases a <;> cases b <;> simp only [same0] at h
  · rw [sameL_eq h]
  · cases h
  · cases h
  · rw [sameLs_eq h]
theorem same0s_eq : ∀ {a b : List S0}, same0s a b = true → a = b
  | [], [], _ => rfl
  | x :: a, y :: b, h => by
    simp only [same0s, Bool.and_eq_true] at h
    rw [same0_eq h.1, same0s_eq h.2]
  | [], _ :: _, h => by cases h
  | _ :: _, [], h => by cases h
theorem sameS_eq {a b : SV} (h : sameS a b = true) : a = b := by
  cases a <;> cases b <;> simp only [sameS] at h
  · rw [same0_eq h]
  · cases h
  · cases h
  · cases h
  · rw [same0s_eq h]
  · cases h
  · cases h
  · cases h
  · simp only [Bool.and_eq_true] at h
    rw [Nat.eq_of_beq_eq_true h.1, sameLs_eq h.2]
theorem Lf.ok_unext {P : Program} {w : World} {Own : Nat → Nat → Prop} {Γ Γ' : Env} (he : Ext Γ Γ') {l : Lf} (hw : l.wf Γ.ρ.length Γ.nb = true) (h : l.ok P w Own Γ') : l.ok P w Own Γ := by
  obtain ⟨m, e⟩ := he.ρ
  cases l with
  | arr te a => simp only [Lf.wf] at hw; simp only [Lf.ok, e, E.ev_ext _ hw] at h ⊢; exact h
  | elp te sz a x o =>
    simp only [Lf.wf, Bool.and_eq_true] at hw
    simp only [Lf.ok, e, E.ev_ext _ hw.1, E.den_ext _ hw.2] at h ⊢; exact h
  | vec te i => simp only [Lf.wf, Nat.blt_eq] at hw; simp only [Lf.ok, e, at_ext hw] at h ⊢; exact h
  | clo i => simp only [Lf.wf, Nat.blt_eq] at hw; simp only [Lf.ok, e, at_ext hw] at h ⊢; exact h
  | velp te sz i x o => simp only [Lf.wf, Bool.and_eq_true, Nat.blt_eq] at hw; simp only [Lf.ok, e, at_ext hw.1, E.den_ext _ hw.2] at h ⊢; exact h
  | cnt te r => simp only [Lf.wf] at hw; simp only [Lf.ok, e, E.ev_ext _ hw] at h ⊢; exact h
  | _ => trivial
theorem S0.wf_cells {n nb : Nat} {s : S0} (h : s.wf n nb = true) : ∀ l ∈ s.cells, l.wf n nb = true := by
  cases s with
  | lf x => intro l hl; simp [S0.cells] at hl; subst hl; exact h
  | agg ls => exact fun l hl => List.all_eq_true.1 h l hl
theorem SV.ok_unext {P : Program} {w : World} {Own : Nat → Nat → Prop} {Γ Γ' : Env} (he : Ext Γ Γ') {s : SV} (hw : s.wf Γ.ρ.length Γ.nb = true) (h : s.ok P w Own Γ') : s.ok P w Own Γ := by
  cases s with
  | one s => exact fun l hl => Lf.ok_unext he (S0.wf_cells hw l hl) (h l hl)
  | tup ss => exact fun s hs l hl => Lf.ok_unext he (S0.wf_cells (List.all_eq_true.1 hw s hs) l hl) (h s hs l hl)
  | fn f ls => exact fun l hl => Lf.ok_unext he (List.all_eq_true.1 hw l hl) (h l hl)
theorem SV.ok_anti {P : Program} {w : World} {O O' : Nat → Nat → Prop} {Γ : Env} {l : SV} (h : l.ok P w O Γ) (hh : ∀ b o, O' b o → O b o) : l.ok P w O' Γ := by
  cases l with
  | one s => exact fun l hl => Lf.ok_anti (h l hl) hh
  | tup ss => exact fun s hs' l hl => Lf.ok_anti (h s hs' l hl) hh
  | fn f ls => exact fun l hl => Lf.ok_anti (h l hl) hh


/-! What is known in every world that the region may come to -/
theorem SV.ok_iff {P : Program} {w : World} {O : Nat → Nat → Prop} {Γ : Env} {s : SV} : s.ok P w O Γ ↔ ∀ l ∈ s.cells, l.ok P w O Γ := by
  cases s with
  | one s => exact Iff.rfl
  | tup ss =>
    constructor
    · intro h l hl
      obtain ⟨s, hs, hl⟩ := List.mem_flatMap.1 hl
      exact h s hs l hl
    · intro h s hs l hl
      exact h l (List.mem_flatMap.2 ⟨s, hs, hl⟩)
  | fn f ls => exact Iff.rfl
theorem SV.wf_cells {n nb : Nat} {s : SV} (h : s.wf n nb = true) : ∀ l ∈ s.cells, l.wf n nb = true := by
  cases s with
  | one s => exact S0.wf_cells h
  | tup ss =>
    intro l hl
    obtain ⟨s, hs, hl⟩ := List.mem_flatMap.1 hl
    exact S0.wf_cells (List.all_eq_true.1 h s hs) l hl
  | fn f ls => exact fun l hl => List.all_eq_true.1 h l hl
def St.slLeaves (st : St) : List Lf := st.sl.flatMap fun p => match look st.sl p.1 with | some sv => sv.cells | none => []
def St.leaves (st : St) : List Lf := st.slLeaves ++ st.mem.flatMap fun p => match look st.mem p.1 with | some mb => mb.2 | none => []
def knows (L : List Lf) (l : Lf) : Bool :=
  match l with
  | .arr te a => L.any (sameL (.arr te a))
  | .elp te _ a _ _ => L.any (sameL (.arr te a))
  | _ => true
theorem knows_ok {P : Program} {w w' : World} {O O' : Nat → Nat → Prop} {Γ : Env} {L : List Lf} (hL : ∀ l ∈ L, l.ok P w O Γ) {l : Lf} (hk : knows L l = true) (h : l.ok P w' O' Γ) : l.ok P w O Γ := by
  cases l with
  | arr te a =>
    obtain ⟨m, hm, e⟩ := List.any_eq_true.1 hk
    rw [sameL_eq e]; exact hL m hm
  | elp te sz a x o =>
    obtain ⟨m, hm, e⟩ := List.any_eq_true.1 hk
    have := hL m hm
    rw [← sameL_eq e] at this
    exact ⟨this, h.2⟩
  | _ => exact h
theorem look_mem' {α : Type} : ∀ {l : List (Nat × Option α)} {t : Nat} {v : α}, look l t = some v → ∃ p ∈ l, p.1 = t
  | [], _, _, h => by cases h
  | (k, u) :: l, t, v, h => by
    simp only [look] at h
    split at h
    · rename_i e; exact ⟨(k, u), by simp, e⟩
    · obtain ⟨p, hp, e⟩ := look_mem' h; exact ⟨p, by simp [hp], e⟩
theorem St.slLeaves_mem {st : St} {t : Nat} {sv : SV} (h : look st.sl t = some sv) : ∀ l ∈ sv.cells, l ∈ st.slLeaves := fun l hl => by
  obtain ⟨p, hp, rfl⟩ := look_mem' h
  exact List.mem_flatMap.2 ⟨p, hp, by rw [h]; exact hl⟩
theorem Sat.slLeaves_ok {P : Program} {F : Nat → Prop} {w0 : World} {Γ : Env} {st : St} {a : Act} {w : World} (h : Sat P F w0 Γ st a w) : ∀ l ∈ st.slLeaves, l.ok P w (Own Γ st) Γ := fun l hl => by
  obtain ⟨p, hp, hl⟩ := List.mem_flatMap.1 hl
  split at hl
  · rename_i sv hsv; exact SV.ok_iff.1 (h.slots _ _ hsv).2 l hl
  · cases hl
theorem Sat.leaves_ok {P : Program} {F : Nat → Prop} {w0 : World} {Γ : Env} {st : St} {a : Act} {w : World} (h : Sat P F w0 Γ st a w) : ∀ l ∈ st.leaves, l.ok P w (Own Γ st) Γ := fun l hl => by
  rcases List.mem_append.1 hl with hl | hl
  · exact h.slLeaves_ok l hl
  · obtain ⟨p, hp, hl⟩ := List.mem_flatMap.1 hl
    split at hl
    · rename_i mb hmb; exact (h.mem _ _ hmb).2.1 l hl
    · cases hl
theorem Sat.leaves_wf {P : Program} {F : Nat → Prop} {w0 : World} {Γ : Env} {st : St} {a : Act} {w : World} (h : Sat P F w0 Γ st a w) (hw : st.wf = true) : ∀ l ∈ st.leaves, l.wf Γ.ρ.length Γ.nb = true := fun l hl => by
  rcases List.mem_append.1 hl with hl | hl
  · obtain ⟨p, hp, hl⟩ := List.mem_flatMap.1 hl
    split at hl
    · rename_i sv hsv; exact SV.wf_cells (h.wf_slot hw hsv) l hl
    · cases hl
  · obtain ⟨p, hp, hl⟩ := List.mem_flatMap.1 hl
    split at hl
    · rename_i mb hmb; exact List.all_eq_true.1 (h.wf_mem hw hmb) l hl
    · cases hl

/-- Without these blocks and slices. -/
def St.hide (st : St) (M : List Pl) : St :=
  { st with mem := M.foldl (fun m p => match p with | .blk b => (b, none) :: m | _ => m) st.mem, vec := M.foldl (fun m p => match p with | .vec b => (b, none) :: m | _ => m) st.vec }
theorem look_hideF {α : Type} {f : Pl → Option Nat} : ∀ (l : List Pl) (sl : List (Nat × Option α)) (t : Nat) (v : α), look (l.foldl (fun m p => match f p with | some b => (b, none) :: m | none => m) sl) t = some v → look sl t = some v
  | [], _, _, _, h => h
  | p :: l, sl, t, v, h => by
    have := look_hideF l _ t v h
    simp only [] at this
    split at this
    · simp only [look] at this
      split at this
      · cases this
      · exact this
    · exact this
theorem look_hideM {α : Type} (l : List Pl) (sl : List (Nat × Option α)) (t : Nat) (v : α) (h : look (l.foldl (fun m p => match p with | .blk b => (b, none) :: m | _ => m) sl) t = some v) : look sl t = some v := by
  refine look_hideF (f := fun p => match p with | .blk b => some b | _ => none) l sl t v ?_
  rw [← h]
  congr 1
  congr 1
  funext m p
  cases p <;> rfl
theorem look_hideV {α : Type} (l : List Pl) (sl : List (Nat × Option α)) (t : Nat) (v : α) (h : look (l.foldl (fun m p => match p with | .vec b => (b, none) :: m | _ => m) sl) t = some v) : look sl t = some v := by
  refine look_hideF (f := fun p => match p with | .vec b => some b | _ => none) l sl t v ?_
  rw [← h]
  congr 1
  congr 1
  funext m p
  cases p <;> rfl
/-- What of a state is known in each of the region's worlds. -/
def clsOf (h st : St) : St :=
  { st with sl := st.sl.map fun p => (p.1, match p.2 with | some sv => if sv.cells.all (knows h.leaves) then some sv else none | none => none), mem := h.mem, vec := h.vec, clo := h.clo }
theorem look_cls {L : List Lf} : ∀ {l : List (Nat × Option SV)} {t : Nat} {sv : SV}, look (l.map fun p => (p.1, match p.2 with | some sv => if sv.cells.all (knows L) then some sv else none | none => none)) t = some sv → look l t = some sv ∧ sv.cells.all (knows L) = true
  | [], _, _, h => by cases h
  | (k, u) :: l, t, sv, h => by
    simp only [List.map_cons, look] at h ⊢
    split at h
    · rename_i e
      rw [if_pos e]
      cases u with
      | none => cases h
      | some x =>
        simp only [] at h
        split at h
        · rename_i hx; cases h; exact ⟨rfl, hx⟩
        · cases h
    · rename_i e
      rw [if_neg e]
      exact look_cls h
/-- All slices of one's own, all function values are still known, alike. -/
def coversV (h st : St) : Bool :=
  (h.vec.all fun p => match look h.vec p.1 with
    | none => true
    | some e => match look st.vec p.1 with
      | some e' => Nat.beq e.1 e'.1 && decide (e.2 = e'.2)
      | none => false) &&
  (h.clo.all fun p => match look h.clo p.1 with
    | none => true
    | some e => match look st.clo p.1 with
      | some e' => Nat.beq e.1 e'.1 && same0s e.2.1 e'.2.1 && sameLs e.2.2 e'.2.2
      | none => false)
theorem coversV_vec {h st : St} (hc : coversV h st = true) {i : Nat} {e : TypeId × E} (hi : look h.vec i = some e) : look st.vec i = some e := by
  simp only [coversV, Bool.and_eq_true] at hc
  obtain ⟨p, hp, rfl⟩ := look_mem' hi
  have := List.all_eq_true.1 hc.1 p hp
  rw [hi] at this
  simp only [] at this
  split at this
  · rename_i e' he'
    simp only [Bool.and_eq_true, decide_eq_true_eq] at this
    rw [he']
    exact congrArg some (Prod.ext (Nat.eq_of_beq_eq_true this.1).symm this.2.symm)
  · cases this
theorem coversV_clo {h st : St} (hc : coversV h st = true) {i : Nat} {e : Nat × List S0 × List Lf} (hi : look h.clo i = some e) : look st.clo i = some e := by
  simp only [coversV, Bool.and_eq_true] at hc
  obtain ⟨p, hp, rfl⟩ := look_mem' hi
  have := List.all_eq_true.1 hc.2 p hp
  rw [hi] at this
  simp only [] at this
  split at this
  · rename_i e' he'
    simp only [Bool.and_eq_true] at this
    rw [he']
    exact congrArg some (Prod.ext (Nat.eq_of_beq_eq_true this.1.1).symm (Prod.ext (same0s_eq this.1.2).symm (sameLs_eq this.2).symm))
  · cases this
def covers (h st : St) : Bool :=
  (h.mem.all fun p => match look h.mem p.1 with
    | none => true
    | some mb => match look st.mem p.1 with
      | some mb' => Nat.beq mb.1 mb'.1 && sameLs mb.2 mb'.2
      | none => false) &&
  coversV h st && h.slLeaves.all (knows st.leaves)
/-- The class of worlds. -/
def Kept (P : Program) (F : Nat → Prop) (w0 : World) (Γ0 : Env) (h : St) (a0 : Act) (w : World) : Prop := Sat P F w0 Γ0 h a0 w
theorem Kept.start {P : Program} {F : Nat → Prop} {w0 : World} {Γ : Env} {st : St} {a : Act} {w : World} (h : Sat P F w0 Γ st a w) {M : List Pl} : Kept P F w0 Γ (st.hide M) a w := by
  have hhold : ∀ s j b, Hold Γ (st.hide M) s j b → Hold Γ st s j b := fun s j b hh =>
    Hold.congr (Γ := Γ) (st := st) (Γ' := Γ) (st' := st.hide M) (fun j mb hj => ⟨⟨mb, look_hideM M _ _ _ hj⟩, rfl⟩) (fun i e hi => ⟨⟨e, look_hideV M _ _ _ hi⟩, rfl⟩) hh
  have hown : ∀ x o, Own Γ (st.hide M) x o → Own Γ st x o := fun x o hx => by
    rcases Own.iff.1 hx with hx | ⟨s, j, hh⟩
    · exact .inl hx
    · exact (hhold s j x hh).own o
  have ht : Turn w w (Own Γ st) (Own Γ (st.hide M)) := ⟨Nat.le_refl _, fun b o _ hno => ⟨rfl, fun ho => hno (hown b o ho)⟩⟩
  refine ⟨h.slots_keep ht, h.size, fun b mb hb => ?_, fun i e hi => ?_, h.clo_keep ht, fun s j s' j' b h1 h2 => h.inj _ _ _ _ _ (hhold _ _ _ h1) (hhold _ _ _ h2), h.keeps, h.fold, h.base, h.defers, h.len, h.nb, h.num⟩
  · obtain ⟨h1, h2, h3, h4⟩ := h.mem b mb (look_hideM M _ _ _ hb)
    exact ⟨h1, fun l hl => Lf.ok_anti (h2 l hl) hown, h3, h4⟩
  · obtain ⟨h1, h2, h3⟩ := h.vec i e (look_hideV M _ _ _ hi)
    exact ⟨h1.anti hown, h2, h3⟩
section
variable {P : Program} {F : Nat → Prop} {w0 : World} {Γ0 Γ : Env} {h st : St} {a0 a : Act} {w w' : World}
theorem Kept.down (hS : Kept P F w0 Γ0 h a0 w') (hs : Sat P F w0 Γ st a w) (he : Ext Γ0 Γ) (hw : h.wf = true) (hc : covers h st = true) : Kept P F w0 Γ0 h a0 w := by
  simp only [covers, Bool.and_eq_true] at hc
  obtain ⟨⟨c1, c2⟩, c3⟩ := hc
  have hnb0 : Γ0.nb = h.nb := hS.nb
  have mem' : ∀ b mb, look h.mem b = some mb → look st.mem b = some mb := by
    intro b mb hb
    obtain ⟨p, hp, rfl⟩ := look_mem' hb
    have := List.all_eq_true.1 c1 p hp
    rw [hb] at this
    simp only [] at this
    split at this
    · rename_i mb' hmb'
      simp only [Bool.and_eq_true] at this
      rw [hmb']
      exact congrArg some (Prod.ext (Nat.eq_of_beq_eq_true this.1).symm (sameLs_eq this.2).symm)
    · cases this
  have hat : ∀ i e, look h.vec i = some e → at_ Γ.ρ i = at_ Γ0.ρ i := fun i e hi => hS.vec_at he hi
  have hown : ∀ x o, Own Γ0 h x o → Own Γ st x o := by
    intro x o hx
    rcases Own.iff.1 hx with hx | ⟨s, j, hh⟩
    · exact .inl (by rw [he.base]; exact hx)
    · rcases hh.inv with ⟨rfl, mb, hj, rfl⟩ | ⟨rfl, e, hj, hb⟩
      · have := (hS.mem j mb hj).2.2.2
        have e1 : Γ.blk j = Γ0.blk j := he.blk j (by omega)
        rw [← e1]
        exact (Hold.mem (Γ := Γ) (mem' j mb hj)).own o
      · exact (Hold.vec (Γ := Γ) (coversV_vec c2 hj) (by rw [hat j e hj]; exact hb)).own o
  have leaf : ∀ l : Lf, l.wf Γ0.ρ.length Γ0.nb = true → l.ok P w (Own Γ st) Γ → l.ok P w (Own Γ0 h) Γ0 := fun l hl ho => Lf.ok_anti (Lf.ok_unext he hl ho) hown
  refine ⟨fun t sv hsv => ?_, hS.size, fun b mb hb => ?_, fun i e hi => ?_, fun i e hi => ?_, hS.inj, hs.keeps, hS.fold, fun x o hx => hs.base x o (by rw [he.base]; exact hx), hS.defers, hS.len, hS.nb, hS.num⟩
  · obtain ⟨h1, h2⟩ := hS.slots t sv hsv
    have hwf := SV.wf_cells (hS.wf_slot hw hsv)
    refine ⟨h1, SV.ok_iff.2 fun l hl => leaf l (hwf l hl) ?_⟩
    refine knows_ok hs.leaves_ok (List.all_eq_true.1 c3 l (St.slLeaves_mem hsv l hl)) (w' := w') ?_ (O' := Own Γ0 h)
    exact Lf.ok_ext he (hwf l hl) (SV.ok_iff.1 h2 l hl)
  · obtain ⟨h1, h2, h3, h4⟩ := hS.mem b mb hb
    obtain ⟨k1, k2, k3, k4⟩ := hs.mem b mb (mem' b mb hb)
    have hwf := hS.wf_mem hw hb
    have hblk : Γ.blk b = Γ0.blk b := he.blk b (by omega)
    refine ⟨?_, fun l hl => leaf l (List.all_eq_true.1 hwf l hl) (k2 l hl), h3, h4⟩
    rw [← dens_ext he mb.2 hwf]
    rw [hblk] at k1
    exact k1
  · obtain ⟨h1, h2, h3⟩ := hS.vec i e hi
    obtain ⟨k1, k2, k3⟩ := hs.vec i e (coversV_vec c2 hi)
    refine ⟨?_, h2, h3⟩
    obtain ⟨m, hm⟩ := he.ρ
    rw [hat i e hi, hm, E.ev_ext _ (hS.wf_vec hw hi)] at k1
    exact k1.anti hown
  · obtain ⟨h1, h2, h3⟩ := hS.clo i e hi
    obtain ⟨k1, k2, k3⟩ := hs.clo i e (coversV_clo c2 hi)
    obtain ⟨f1, f2, f3⟩ := hS.wf_clo hw hi
    exact ⟨h1, fun s hs' l hl => leaf l (S0.wf_cells (List.all_eq_true.1 f2 s hs') l hl) (k2 s hs' l hl), fun l hl => leaf l (List.all_eq_true.1 f3 l hl) (k3 l hl)⟩
theorem Kept.up (hS : Kept P F w0 Γ0 h a0 w') (hs : Sat P F w0 Γ st a w) (he : Ext Γ0 Γ) (hw : h.wf = true) : Sat P F w0 Γ (clsOf h st) a w' := by
  have hnb0 : Γ0.nb = h.nb := hS.nb
  have hblk : ∀ b mb, look h.mem b = some mb → Γ.blk b = Γ0.blk b := fun b mb hb => he.blk b (by have := (hS.mem b mb hb).2.2.2; omega)
  have hat : ∀ i e, look h.vec i = some e → at_ Γ.ρ i = at_ Γ0.ρ i := fun i e hi => hS.vec_at he hi
  have hhold : ∀ s j b, Hold Γ (clsOf h st) s j b → Hold Γ0 h s j b := fun s j b hh =>
    Hold.congr (Γ := Γ0) (st := h) (Γ' := Γ) (st' := clsOf h st) (fun j mb hj => ⟨⟨mb, hj⟩, hblk j mb hj⟩) (fun i e hi => ⟨⟨e, hi⟩, hat i e hi⟩) hh
  have hown : ∀ x o, Own Γ (clsOf h st) x o → Own Γ0 h x o := fun x o hx => by
    rcases Own.iff.1 hx with hx | ⟨s, j, hh⟩
    · exact .inl (by rw [← he.base]; exact hx)
    · exact (hhold s j x hh).own o
  have hL : ∀ l ∈ h.leaves, l.ok P w' (Own Γ (clsOf h st)) Γ := fun l hl => Lf.ok_anti (Lf.ok_ext he (hS.leaves_wf hw l hl) (hS.leaves_ok l hl)) hown
  have hle : h.nx ≤ st.nx := by rw [← hs.len, ← hS.len]; exact he.len
  refine ⟨fun t sv hsv => ?_, hs.size, fun b mb hb => ?_, fun i e hi => ?_, fun i e hi => ?_, fun s j s' j' b h1 h2 => hS.inj _ _ _ _ _ (hhold _ _ _ h1) (hhold _ _ _ h2), hS.keeps, hS.fold, fun x o hx => hS.base x o (by rw [← he.base]; exact hx), hs.defers, hs.len, hs.nb, hs.num⟩
  · obtain ⟨h1, h2⟩ := look_cls hsv
    obtain ⟨h3, h4⟩ := hs.slots t sv h1
    exact ⟨h3, SV.ok_iff.2 fun l hl => knows_ok hL (List.all_eq_true.1 h2 l hl) (SV.ok_iff.1 h4 l hl)⟩
  · have hb' : look h.mem b = some mb := hb
    obtain ⟨h1, h2, h3, h4⟩ := hS.mem b mb hb'
    have hwf := hS.wf_mem hw hb'
    have e1 : Γ.blk b = Γ0.blk b := hblk b mb hb'
    refine ⟨?_, fun l hl => Lf.ok_anti (Lf.ok_ext he (List.all_eq_true.1 hwf l hl) (h2 l hl)) hown, ?_, ?_⟩
    · rw [e1, dens_ext he mb.2 hwf]; exact h1
    · rw [e1]; exact h3
    · have := he.nb
      have := hs.nb
      show b < st.nb
      omega
  · have hi' : look h.vec i = some e := hi
    obtain ⟨h1, h2, h3⟩ := hS.vec i e hi'
    obtain ⟨m, hm⟩ := he.ρ
    refine ⟨?_, Nat.lt_of_lt_of_le h2 hle, fun b hb => ?_⟩
    · rw [hat i e hi', hm, E.ev_ext _ (hS.wf_vec hw hi')]
      exact h1.anti hown
    · rw [hat i e hi'] at hb
      exact ⟨(h3 b hb).1, fun o ho => (h3 b hb).2 o (by rw [← he.base]; exact ho)⟩
  · have hi' : look h.clo i = some e := hi
    obtain ⟨h1, h2, h3⟩ := hS.clo i e hi'
    obtain ⟨f1, f2, f3⟩ := hS.wf_clo hw hi'
    obtain ⟨m, hm⟩ := he.ρ
    refine ⟨?_, fun s hs' l hl => Lf.ok_anti (S0.ok_ext he (List.all_eq_true.1 f2 s hs') (h2 s hs') l hl) hown, fun l hl => Lf.ok_anti (Lf.ok_ext he (List.all_eq_true.1 f3 l hl) (h3 l hl)) hown⟩
    rw [hm, at_ext f1, h1, List.map_congr_left fun s hs' => S0.den_ext he s (List.all_eq_true.1 f2 s hs'), List.map_congr_left fun l hl => Lf.den_ext he l (List.all_eq_true.1 f3 l hl)]
end

/-! The executor -/
inductive Gd where
  | go
  | no
  | ask (d : Nat) (b : B)
  | bad
def gd (ops : Array Oper) (st : St) (o : Oper) : Gd :=
  match o.guard with
  | none => .go
  | some (j, want) => match (ops[j]?).bind (·.dst) with
    | none => .bad
    | some d => match st.lf (.tmp d) with
      | some (.bool (.lit v)) => if v = want then .go else .no
      | some (.bool b) => .ask d b
      | some (.cst v) => if isB v then .bad else .no
      | _ => .bad
def readsOnly (o : Oper) : Bool :=
  match o.op with
  | .move _ | .assign _ | .pick .. | .load .. | .binOp .. | .unOp .. | .fieldAddr .. | .field .. | .indexAddr .. | .build .. | .extract .. | .nilCheck _ | .lookup .. | .slice .. => true
  | .call c => match c.callee with
    | .builtin _ => true
    | _ => false
  | _ => false
/-! In whatever order: a condition on the world may end with the last operation, where that one waits for all others -/
def edgeTo (ops : Array Oper) (m a : Nat) : Bool :=
  match ops[m]? with
  | some o => o.after.any fun e => Region.binds .any e && Nat.beq e.on a
  | none => false
def waitsAll (ops : Array Oper) : List Nat → List Nat → Bool
  | _, [] => true
  | seen, a :: l => seen.any (fun m => edgeTo ops m a) && waitsAll ops (a :: seen) l
def waitedBy (ops : Array Oper) : List Nat → List Nat → Bool
  | _, [] => true
  | seen, j :: l => seen.any (fun m => edgeTo ops j m) && waitedBy ops (j :: seen) l
/-- All before it come before it, all behind it come behind it. -/
def cutAt (ops : Array Oper) (n : Nat) : Bool :=
  (match ops[n]? with
    | some o => !readsOnly o
    | none => false) && waitsAll ops [n] (List.range n).reverse && waitedBy ops [n] ((List.range ops.size).drop (n + 1))
/-- The first such one: with it a condition on the world may end. -/
def cutN (ops : Array Oper) : Nat := ((List.range ops.size).find? (cutAt ops)).getD ops.size
def Closed (ops : Array Oper) (L : Array Bool) : Prop := ∀ j o, ops[j]? = some o → L.getD j false = true → ∀ e ∈ o.after, Region.binds .any e = true → L.getD e.on false = true
section
variable {P : Program} {ops : Array Oper} {Q : Exit → Act → World → Prop} {S : Array Bool → World → Prop} {S0 : World → Prop}
theorem Closed.set {L : Array Bool} (h : Closed ops L) {j : Nat} (hj : j ∈ Region.ready .any ops L) : Closed ops (L.setIfInBounds j true) := by
  intro k o ho hk e he hb
  obtain ⟨-, oj, hoj, hw⟩ := mem_ready.1 hj
  by_cases hkj : j = k
  · subst hkj
    rw [hoj] at ho
    cases ho
    exact getD_set_true (hw e he hb)
  · rw [getD_set_ne false hkj] at hk
    exact getD_set_true (h k o ho hk e he hb)
theorem waitsAll_listed {L : Array Bool} (hc : Closed ops L) : ∀ (l seen : List Nat), (∀ m ∈ seen, L.getD m false = true) → waitsAll ops seen l = true → ∀ a ∈ l, L.getD a false = true
  | [], _, _, _, _, h => by cases h
  | b :: l, seen, hs, hw, a, ha => by
    simp only [waitsAll, Bool.and_eq_true] at hw
    have hb : L.getD b false = true := by
      obtain ⟨m, hm, he⟩ := List.any_eq_true.1 hw.1
      unfold edgeTo at he
      split at he
      · rename_i o ho
        obtain ⟨e, he1, he2⟩ := Array.any_eq_true'.1 he
        simp only [Bool.and_eq_true] at he2
        have := hc m o ho (hs m hm) e he1 he2.1
        rwa [Nat.eq_of_beq_eq_true he2.2] at this
      · cases he
    rcases List.mem_cons.1 ha with rfl | ha
    · exact hb
    · exact waitsAll_listed hc l (b :: seen) (fun m hm => (List.mem_cons.1 hm).elim (fun e => e ▸ hb) (hs m)) hw.2 a ha
theorem waitedBy_listed {L : Array Bool} (hc : Closed ops L) {n : Nat} : ∀ (l seen : List Nat), (∀ m ∈ seen, L.getD m false = true → L.getD n false = true) → waitedBy ops seen l = true → ∀ j ∈ l, L.getD j false = true → L.getD n false = true
  | [], _, _, _, _, h, _ => by cases h
  | b :: l, seen, hs, hw, j, hj, hL => by
    simp only [waitedBy, Bool.and_eq_true] at hw
    have hb : L.getD b false = true → L.getD n false = true := fun hLb => by
      obtain ⟨m, hm, he⟩ := List.any_eq_true.1 hw.1
      unfold edgeTo at he
      split at he
      · rename_i o ho
        obtain ⟨e, he1, he2⟩ := Array.any_eq_true'.1 he
        simp only [Bool.and_eq_true] at he2
        have := hc b o ho hLb e he1 he2.1
        rw [Nat.eq_of_beq_eq_true he2.2] at this
        exact hs m hm this
      · cases he
    rcases List.mem_cons.1 hj with rfl | hj
    · exact hb hL
    · exact waitedBy_listed hc l (b :: seen) (fun m hm => (List.mem_cons.1 hm).elim (fun e => e ▸ hb) (hs m)) hw.2 j hj hL
theorem cutN_spec (ops : Array Oper) : cutN ops = ops.size ∨ (cutAt ops (cutN ops) = true ∧ cutN ops < ops.size) := by
  unfold cutN
  cases h : (List.range ops.size).find? (cutAt ops) with
  | none => exact .inl rfl
  | some n => exact .inr ⟨List.find?_some h, by have := List.mem_of_find?_eq_some h; simpa using this⟩
def CutOK (ops : Array Oper) (c : Nat) : Prop := c = ops.size ∨ (cutAt ops c = true ∧ c < ops.size)
/-- A cut may be named ahead: by a block 4000000 + its number among what is hidden. -/
def cutH (ops : Array Oper) (h : St) : Nat :=
  match h.mem.findSome? fun p => if Nat.ble 4000000 p.1 then some (p.1 - 4000000) else none with
  | some c => if cutAt ops c && Nat.blt c ops.size then c else cutN ops
  | none => cutN ops
theorem cutH_ok (ops : Array Oper) (h : St) : CutOK ops (cutH ops h) := by
  unfold cutH
  split
  · split
    · rename_i hc
      simp only [Bool.and_eq_true] at hc
      exact .inr ⟨hc.1, Nat.le_of_ble_eq_true hc.2⟩
    · exact cutN_spec ops
  · exact cutN_spec ops
theorem getD_out {L : Array Bool} {i : Nat} (h : i < L.size → False) : L.getD i false = false := by
  simp [Array.getD_eq_getD_getElem?, Array.getElem?_eq_none (Nat.le_of_not_lt h)]
/-- One before it is not listed: it isn't, either. -/
theorem cut_not {L : Array Bool} {c i : Nat} (hk : CutOK ops c) (hc : Closed ops L) (hsz : L.size = ops.size) (hi : i < c) (hL : L.getD i false = false) : L.getD (c) false = false := by
  rcases hk with h | ⟨h, hlt⟩
  · rw [h]; exact getD_out (by omega)
  · cases hx : L.getD (c) false with
    | false => rfl
    | true =>
      unfold cutAt at h
      simp only [Bool.and_eq_true] at h
      have := waitsAll_listed hc _ _ (fun m hm => by simp at hm; rw [hm]; exact hx) h.1.2 i (by simp; omega)
      rw [hL] at this; cases this
/-- One behind it is listed: it is, too. -/
theorem cut_yes {L : Array Bool} {c i : Nat} (hk : CutOK ops c) (hc : Closed ops L) (hi : c ≤ i) (his : i < ops.size) (hL : L.getD i false = true) : L.getD (c) false = true := by
  rcases hk with h | ⟨h, hlt⟩
  · omega
  · by_cases e : i = c
    · rw [← e]; exact hL
    · unfold cutAt at h
      simp only [Bool.and_eq_true] at h
      refine waitedBy_listed hc _ [c] (fun m hm => by simp at hm; rw [hm]; exact id) h.2 i ?_ hL
      obtain ⟨k, hk⟩ : ∃ k, i = c + 1 + k := ⟨i - (c + 1), by omega⟩
      refine List.mem_of_getElem? (i := k) ?_
      rw [List.getElem?_drop, hk]
      exact List.getElem?_range (by omega)
/-- What is asked of the world until it has come. -/
def Until (c : Nat) (S0 : World → Prop) (L : Array Bool) (w : World) : Prop := L.getD (c) false = false → S0 w
/-- Whatever is picked, what is asked of the world holds. -/
def Picks (P : Program) (ops : Array Oper) (Q : Exit → Act → World → Prop) (S : Array Bool → World → Prop) : Nat → Array Bool → Act → World → Prop
  | 0, L, a, w => Region.ready .any ops L = [] ∧ Q .normal a w
  | n + 1, L, a, w => (Region.ready .any ops L = [] → Q .normal a w) ∧ ∀ i ∈ Region.ready .any ops L, wpOp P ops Q i (fun a' w' => S (L.setIfInBounds i true) w' ∧ Picks P ops Q S n (L.setIfInBounds i true) a' w') a w
theorem Picks.any : ∀ {n : Nat} {L : Array Bool} {a : Act} {w : World}, Picks P ops Q S n L a w → wpAny P .any ops Q n L a w
  | 0, _, _, _, h => h
  | _ + 1, _, _, _, h => ⟨h.1, fun i hi => wpOp_mono (fun _ _ h' => Picks.any h'.2) (h.2 i hi)⟩
theorem Picks.over {L : Array Bool} {a : Act} {w : World} (hr : Region.ready .any ops L = []) (h : Q .normal a w) : ∀ n, Picks P ops Q S n L a w
  | 0 => ⟨hr, h⟩
  | _ + 1 => ⟨fun _ => h, by rw [hr]; intro i hi; cases hi⟩
/-- One that yields its value in every such world may be taken ahead of all that are apart from it. -/
theorem Picks.first {c i : Nat} (hk : CutOK ops c) {o : Oper} {v : Value} (ho : ops[i]? = some o) (hro : readsOnly o = true) (hsel : Region.noSelect ops = true) (hQ : ∀ p a w, ¬ Q (.panic p) a w) (hcut : i < c) :
    ∀ (n : Nat) (L : Array Bool) (a : Act) (w : World), L.size = ops.size → Closed ops L → S0 w → YieldsIf P ops S0 o v a → i ∈ Region.ready .any ops L →
    (∀ j oj, ops[j]? = some oj → j ≠ i → L.getD j true = false → (∀ e ∈ oj.after, Region.binds .any e = true → e.on ≠ i) → o.apart ops oj = true) →
    Picks P ops Q (Until c S0) n (L.setIfInBounds i true) (a.put o.dst v) w → Picks P ops Q (Until c S0) (n + 1) L a w := by
  have ns := Region.noSelect_spec hsel
  have hisz : i < ops.size := (Array.getElem?_eq_some_iff.1 ho).1
  intro n
  induction n with
  | zero =>
    intro L a w hsz hc hS hy hr hap h
    refine ⟨fun e => absurd hr (by rw [e]; simp), fun j hj => ?_⟩
    rcases Decidable.em (j = i) with rfl | hne
    · exact hy.wpOp ho hS ⟨fun _ => hS, h⟩
    · have := ready_mono hj hne
      rw [h.1] at this
      cases this
  | succ n ih =>
    intro L a w hsz hc hS hy hr hap h
    refine ⟨fun e => absurd hr (by rw [e]; simp), fun j hj => ?_⟩
    rcases Decidable.em (j = i) with rfl | hne
    · exact hy.wpOp ho hS ⟨fun _ => hS, h⟩
    · obtain ⟨hjL, oj, hoj, hjw⟩ := mem_ready.1 hj
      obtain ⟨hiL, -⟩ := mem_ready.1 hr
      have hni : L.getD i false = false := getD_both hiL
      have hjap := hap j oj hoj hne hjL fun e he hb heq => by
        have := hjw e he hb
        rw [heq, hni] at this
        cases this
      have hc' := hc.set hj
      have hni' : (L.setIfInBounds j true).getD i false = false := by rw [getD_set_ne false hne]; exact hni
      refine wpOp_mono (fun a' w' hx => ?_) (wpOp_putIf hoj hjap (fun cs b => ns i o cs b ho) (fun cs b => ns j oj cs b hoj) (fun c a w hq => absurd hq (hQ c _ w)) hy (h.2 j (ready_mono hj hne)))
      obtain ⟨hy', hSx, hrest⟩ := hx
      rw [Array.setIfInBounds_comm _ _ (Ne.symm hne)] at hSx hrest
      have hsz' : (L.setIfInBounds j true).size = ops.size := by rw [Array.size_setIfInBounds]; exact hsz
      have hS' : S0 w' := hSx (by
        rw [getD_set_ne false (by omega)]
        exact cut_not hk hc' hsz' hcut hni')
      refine ⟨fun _ => hS', ih _ a' w' hsz' hc' hS' hy' (ready_mono hr (Ne.symm hne)) (fun k ok hk hki hun hno => hap k ok hk hki ?_ hno) hrest⟩
      by_cases hjk : j = k
      · rw [← hjk]; exact hjL
      · rw [getD_set_ne true hjk] at hun; exact hun
end

/-- Where an element lies that is one of a slice of one's own: whatever the world holds. -/
def pureAt (st : St) (o : Oper) : Bool :=
  match o.op with
  | .indexAddr _ x _ => match st.lf x with
    | some (.vec _ _) => true
    | _ => false
  | _ => false
theorem pureAt_ok {P : Program} {Γ : Env} {st : St} {ρ : Operand → Value} {w : World} {o : Oper} {obs : List B} {sv : SV} (hp : pureAt st o = true) (h : opVal P st o = some (obs, sv)) (hv : View P Γ st o.op.operands ρ w) (hob : Obs Γ.ρ obs) (w' : World) :
    (execOp ρ o).run P w' = .ok (.value (sv.den Γ)) w' := by
  have h0 := (opVal_ok h hv hob).1
  obtain ⟨dst, op, type, pos, after, guard⟩ := o
  cases op <;> simp only [pureAt] at hp <;> try (cases hp; done)
  rename_i t x ix
  split at hp
  rotate_left
  · cases hp
  rename_i te i hl
  have h1 := (hv.lf (by simp [Op.operands]) hl).1
  unfold opVal at h
  simp only [hl] at h
  split at h
  · rename_i l e hle he
    cases hle
    obtain ⟨h3, -⟩ := hv.lf (by simp [Op.operands]) he
    cases hr : idxLf P st.vec st.bds t (.vec te i) e with
    | none => simp [hr] at h
    | some r =>
      simp only [hr, Option.map, Option.some.injEq, Prod.mk.injEq] at h
      obtain ⟨h, rfl⟩ := h
      subst h
      simp only [idxLf] at hr
      split at hr
      · rename_i ve hve
        split at hr
        · rename_i hcc
          obtain ⟨-, hu'⟩ := hcc
          have hu := sliceOf_eq hu'
          have hel : P.elem t = te := by simp [Program.elem, hu]
          split at hr
          · rename_i sz hs
            cases hr
            obtain ⟨o1, o2⟩ := Obs.app hob
            have g1 := need_ok o1
            have g2 := need_ok o2
            rw [B.den_mkCmp hv.num] at g1 g2
            have g1' : 0 ≤ e.den Γ.ρ := of_decide_eq_true g1
            have g2' : e.den Γ.ρ < ((ve.2.ev Γ.ρ).rows.length : Int) := of_decide_eq_true g2
            obtain ⟨ks, us, -, -, -, -, ho⟩ := hv.vec _ _ hve
            rcases ho.2 with ⟨-, hn⟩ | ⟨g, cap, cur, hloc, -⟩
            · omega
            · have key : ∀ u : World, (execOp ρ ⟨dst, .indexAddr t x ix, type, pos, after, guard⟩).run P u = ((Instr.indexAt t (at_ Γ.ρ i).loc (.int .i64 (e.den Γ.ρ))).run P u).andThen fun v u => .ok (.value v) u := fun u => by
                simp only [execOp, h1, h3, Lf.den, Sem.run_bind]
                rfl
              rw [key, hloc, run_indexAt_slice w t _ _ _ _ _ (by rw [hel]; exact hu), if_pos ⟨g1', g2'⟩, hel, run_sizeOf' hs] at h0
              rw [key, hloc, run_indexAt_slice w' t _ _ _ _ _ (by rw [hel]; exact hu), if_pos ⟨g1', g2'⟩, hel, run_sizeOf' hs]
              simp only [Result.andThen_ok, Result.ok.injEq, and_true] at h0 ⊢
              exact h0
          · cases hr
        · cases hr
      · cases hr
  · cases h
def freeAt (cx : Cx) (ops : Array Oper) (h st : St) (listed : Array Bool) (i : Nat) : Bool :=
  match ops[i]? with
  | some o => readsOnly o && Region.free .any ops listed i && match gd ops st o with
    | .no => true
    | .go => (opVal cx.P (clsOf h st) o).isSome || (pureAt st o && (opVal cx.P st o).isSome)
    | _ => false
  | none => false
def askAt (ops : Array Oper) (st : St) (i : Nat) : Option (Nat × B) :=
  match ops[i]? with
  | some o => match gd ops st o with
    | .ask d b => some (d, b)
    | _ => none
  | none => none
def bothObs (a b : List B) : List B := if a = b then a else a ++ b
theorem bothObs_ok {ρ : List C} {a b : List B} (h : Obs ρ (bothObs a b)) : Obs ρ a ∧ Obs ρ b := by
  unfold bothObs at h
  split at h
  · rename_i e; subst e; exact ⟨h, h⟩
  · exact ⟨fun x hx => h x (by simp [hx]), fun x hx => h x (by simp [hx])⟩
def sameRs : List (List Lf) → List (List Lf) → Bool
  | [], [] => true
  | a :: l, b :: m => sameLs a b && sameRs l m
  | _, _ => false
theorem sameRs_eq : ∀ {a b : List (List Lf)}, sameRs a b = true → a = b
  | [], [], _ => rfl
  | [], _ :: _, h => by cases h
  | _ :: _, [], h => by cases h
  | a :: l, b :: m, h => by
    simp only [sameRs, Bool.and_eq_true] at h
    rw [sameLs_eq h.1, sameRs_eq h.2]
def sameT : Tree → Tree → Bool
  | .ret l, .ret m => sameLs l m
  | .split b t e, .split c u f => decide (b = c) && (sameT t u && sameT e f)
  | .ob b t, .ob c u => decide (b = c) && sameT t u
  | .call f l t, .call g m u => Nat.beq f g && (sameLs l m && sameT t u)
  | .loop ks l t, .loop js m u => decide (ks = js) && (sameLs l m && sameT t u)
  | .back n l, .back k m => Nat.beq n k && sameLs l m
  | .arr l t, .arr m u => sameRs l m && sameT t u
  | .dfn e t, .dfn f u => decide (e = f) && sameT t u
  | .mk e l t, .mk f m u => decide (e = f) && (sameLs l m && sameT t u)
  | .cat a b t, .cat c d u => decide (a = c) && (decide (b = d) && sameT t u)
  | .upd a x o l t, .upd b y p m u => decide (a = b) && (decide (x = y) && (Nat.beq o p && (sameLs l m && sameT t u)))
  | .fail n l, .fail k m => Nat.beq n k && decide (l = m)
  | .both a b, .both c d => sameT a c && sameT b d
  | .join ks a b, .join js c d => decide (ks = js) && (sameT a c && sameT b d)
  | _, _ => false
theorem sameT_eq : ∀ {a b : Tree}, sameT a b = true → a = b := by
  intro a
  induction a with
  | ret l => intro b h; cases b <;> first | (simp only [sameT] at h; rw [sameLs_eq h]) | cases h
  | split b t e iht ihe =>
    intro b h
    cases b <;> first | (simp only [sameT, Bool.and_eq_true, decide_eq_true_eq] at h; obtain ⟨h1, h2, h3⟩ := h; rw [h1, iht h2, ihe h3]) | cases h
  | ob b t ih => intro b h; cases b <;> first | (simp only [sameT, Bool.and_eq_true, decide_eq_true_eq] at h; obtain ⟨h1, h2⟩ := h; rw [h1, ih h2]) | cases h
  | call f l t ih => intro b h; cases b <;> first | (simp only [sameT, Bool.and_eq_true] at h; obtain ⟨h1, h2, h3⟩ := h; rw [Nat.eq_of_beq_eq_true h1, sameLs_eq h2, ih h3]) | cases h
  | loop ks l t ih => intro b h; cases b <;> first | (simp only [sameT, Bool.and_eq_true, decide_eq_true_eq] at h; obtain ⟨h1, h2, h3⟩ := h; rw [h1, sameLs_eq h2, ih h3]) | cases h
  | back n l => intro b h; cases b <;> first | (simp only [sameT, Bool.and_eq_true] at h; obtain ⟨h1, h2⟩ := h; rw [Nat.eq_of_beq_eq_true h1, sameLs_eq h2]) | cases h
  | arr l t ih => intro b h; cases b <;> first | (simp only [sameT, Bool.and_eq_true] at h; obtain ⟨h1, h2⟩ := h; rw [sameRs_eq h1, ih h2]) | cases h
  | dfn e t ih => intro b h; cases b <;> first | (simp only [sameT, Bool.and_eq_true, decide_eq_true_eq] at h; obtain ⟨h1, h2⟩ := h; rw [h1, ih h2]) | cases h
  | mk e l t ih => intro b h; cases b <;> first | (simp only [sameT, Bool.and_eq_true, decide_eq_true_eq] at h; obtain ⟨h1, h2, h3⟩ := h; rw [h1, sameLs_eq h2, ih h3]) | cases h
  | cat x y t ih => intro b h; cases b <;> first | (simp only [sameT, Bool.and_eq_true, decide_eq_true_eq] at h; obtain ⟨h1, h2, h3⟩ := h; rw [h1, h2, ih h3]) | cases h
  | upd x y o l t ih => intro b h; cases b <;> first | (simp only [sameT, Bool.and_eq_true, decide_eq_true_eq] at h; obtain ⟨h1, h2, h3, h4, h5⟩ := h; rw [h1, h2, Nat.eq_of_beq_eq_true h3, sameLs_eq h4, ih h5]) | cases h
  | fail n l => intro b h; cases b <;> first | (simp only [sameT, Bool.and_eq_true, decide_eq_true_eq] at h; obtain ⟨h1, h2⟩ := h; rw [Nat.eq_of_beq_eq_true h1, h2]) | cases h
  | both x y ihx ihy => intro b h; cases b <;> first | (simp only [sameT, Bool.and_eq_true] at h; rw [ihx h.1, ihy h.2]) | cases h
  | join ks x y ihx ihy => intro b h; cases b <;> first | (simp only [sameT, Bool.and_eq_true, decide_eq_true_eq] at h; obtain ⟨h1, h2, h3⟩ := h; rw [h1, ihx h2, ihy h3]) | cases h
def hasWay (a : Tree) : Tree → Bool
  | .both c d => hasWay a c || hasWay a d
  | c => sameT a c
def addWay : Tree → Tree → Tree
  | .both c d, b => addWay c (addWay d b)
  | a, b => if hasWay a b then b else .both a b
theorem hasWay_vc {cx : Cx} {R : List C → Prop} {ρ : List C} {Ls : List (List C → Prop)} {a : Tree} : ∀ {b : Tree}, hasWay a b = true → VC cx R b ρ Ls → VC cx R a ρ Ls := by
  intro b
  induction b with
  | both c d ihc ihd =>
    intro h hv
    simp only [hasWay, Bool.or_eq_true] at h
    rcases h with h | h
    · exact ihc h hv.1
    · exact ihd h hv.2
  | _ => intro h hv; simp only [hasWay] at h; rw [sameT_eq h]; exact hv
theorem addWay_vc {cx : Cx} {R : List C → Prop} {ρ : List C} {Ls : List (List C → Prop)} : ∀ {a b : Tree}, VC cx R (addWay a b) ρ Ls → VC cx R a ρ Ls ∧ VC cx R b ρ Ls := by
  intro a
  induction a with
  | both c d ihc ihd =>
    intro b h
    simp only [addWay] at h
    obtain ⟨h1, h2⟩ := ihc h
    obtain ⟨h3, h4⟩ := ihd h2
    exact ⟨⟨h1, h3⟩, h4⟩
  | _ =>
    intro b h
    simp only [addWay] at h
    split at h
    · rename_i hw; exact ⟨hasWay_vc hw h, h⟩
    · exact h
/-- What several ways come to: one and the same, or (mg) each by itself. -/
def merge (mg : Bool) : List (Option Tree) → Option Tree
  | [] => none
  | [x] => x
  | x :: y :: l => match x, merge mg (y :: l) with
    | some a, some b => if sameT a b then some b else if mg then some (addWay a b) else none
    | _, _ => none
theorem merge_mem {mg : Bool} : ∀ {l : List (Option Tree)} {T : Tree}, merge mg l = some T → ∀ x ∈ l, ∃ T', x = some T' ∧ ∀ {cx : Cx} {R : List C → Prop} {ρ : List C} {Ls : List (List C → Prop)}, VC cx R T ρ Ls → VC cx R T' ρ Ls
  | [], _, h, _, _ => by cases h
  | [x], T, h, y, hy => by
    simp only [List.mem_cons, List.not_mem_nil, or_false] at hy
    rw [hy]; exact ⟨T, h, fun h => h⟩
  | x :: y :: l, T, h, z, hz => by
    simp only [merge] at h
    split at h
    · rename_i a b hb
      split at h
      · rename_i hs
        cases h
        rcases List.mem_cons.1 hz with rfl | hz
        · exact ⟨a, rfl, fun hv => by rw [sameT_eq hs]; exact hv⟩
        · exact merge_mem hb z hz
      · split at h
        · cases h
          rcases List.mem_cons.1 hz with rfl | hz
          · exact ⟨a, rfl, fun hv => (addWay_vc hv).1⟩
          · obtain ⟨T', h1, h2⟩ := merge_mem hb z hz
            exact ⟨T', h1, fun hv => h2 (addWay_vc hv).2⟩
        · cases h
    · cases h
def execAny (cx : Cx) (ops : Array Oper) (mg : Bool) (h : St) (k : St → Option Tree) : Nat → Nat → Array Bool → St → Option Tree
  | 0, _, _, _ => none
  | f + 1, n, listed, st =>
    match Region.ready .any ops listed with
    | [] => k st
    | r :: rs => match (r :: rs).find? (fun i => Nat.blt i (cutH ops h) && freeAt cx ops h st listed i) with
      | some i => match ops[i]?, n with
        | some o, n + 1 => if Region.free .any ops listed i then match gd ops st o with
          | .no => (st.skip ops o).bind fun st' => execAny cx ops mg h k f n (listed.setIfInBounds i true) st'
          | .go => match opVal cx.P st o, opVal cx.P (clsOf h st) o with
            | some (obs, sv), some (obs', sv') => if sameS sv sv' then
                ((st.learnAll (bothObs obs obs')).put o.dst (some sv)).bind fun st' => (execAny cx ops mg h k f n (listed.setIfInBounds i true) st').map (obT (bothObs obs obs'))
              else none
            | some (obs, sv), none => if pureAt st o then ((st.learnAll obs).put o.dst (some sv)).bind fun st' => (execAny cx ops mg h k f n (listed.setIfInBounds i true) st').map (obT obs) else none
            | _, _ => none
          | _ => none
          else none
        | _, _ => none
      | none => match (r :: rs).findSome? (askAt ops st) with
        | some (d, b) => match st.lf (.tmp d) with
          | some (.bool b') => match execAny cx ops mg h k f n listed (st.know (some d) b' true), execAny cx ops mg h k f n listed (st.know (some d) b' false) with
            | some t, some e => some (.split b' t e)
            | _, _ => none
          | _ => none
        | none => match n with
          | n + 1 => merge mg ((r :: rs).map fun r => match ops[r]? with
            | some o => match gd ops st o with
              | .no => (st.skip ops o).bind fun st' => execAny cx ops mg h k f n (listed.setIfInBounds r true) st'
              | .go => doOpF cx st o fun st' => if Nat.ble (cutH ops h) r || covers h st' then execAny cx ops mg h k f n (listed.setIfInBounds r true) st' else none
              | _ => none
            | none => none)
          | _ => none
section
variable {cx : Cx} {R : List C → Prop} {F : Nat → Prop} {w0 : World}
theorem gd_go {ops : Array Oper} {st : St} {o : Oper} {Γ : Env} {a : Act} {w : World} (hs : Sat cx.P F w0 Γ st a w) (h : gd ops st o = .go) : Region.wanted o (yielded ops a.tmps) = true := by
  unfold gd at h
  split at h
  · rename_i hg; simp [Region.wanted, hg]
  · rename_i j want hg
    split at h
    · cases h
    · rename_i d hd
      split at h
      · rename_i v hl
        have hy : yielded ops a.tmps j = some v := yielded_of hd (hs.tmp (St.lf_ev hl)).1
        split at h
        · rename_i hvw; simp [Region.wanted, hg, hy, hvw]
        · cases h
      · cases h
      · split at h <;> cases h
      · cases h
theorem gd_no {ops : Array Oper} {st : St} {o : Oper} {Γ : Env} {a : Act} {w : World} (hs : Sat cx.P F w0 Γ st a w) (h : gd ops st o = .no) : Region.wanted o (yielded ops a.tmps) = false := by
  unfold gd at h
  split at h
  · cases h
  · rename_i j want hg
    split at h
    · cases h
    · rename_i d hd
      split at h
      · rename_i v hl
        have hy : yielded ops a.tmps j = some v := yielded_of hd (hs.tmp (St.lf_ev hl)).1
        split at h
        · cases h
        · rename_i hvw; simp [Region.wanted, hg, hy, hvw]
      · cases h
      · rename_i v hl
        split at h
        · cases h
        · rename_i hb
          have hy := yielded_cst (v := v) hd (hs.tmp (St.lf_ev hl)).1 (by simpa using hb)
          simp [Region.wanted, hg, hy]
      · cases h
theorem execAny_sound (hcx : CxOK cx) {ops : Array Oper} {mg : Bool} (hsel : Region.noSelect ops = true) {h : St} (hwf : h.wf = true) {k : St → Option Tree} {Γ0 : Env} {a0 : Act} {Ls0 : List (List C → Prop)} {Q : Act → World → Prop}
    (hk : Next cx R F w0 k Γ0 Ls0 Q) : ∀ (f n : Nat) (listed : Array Bool) (st : St) (T : Tree), execAny cx ops mg h k f n listed st = some T → ∀ (Γ : Env) (Ls : List (List C → Prop)) (a : Act) (w : World), Ext Γ0 Γ → Ls0 <+: Ls → Sat cx.P F w0 Γ st a w → listed.size = ops.size → Closed ops listed → Until (cutH ops h) (Kept cx.P F w0 Γ0 h a0) listed w → Ls.length = st.lvl → VC cx R T Γ.ρ Ls →
    Picks cx.P ops (fun e a w => e = .normal ∧ Q a w) (Until (cutH ops h) (Kept cx.P F w0 Γ0 h a0)) n listed a w := by
  intro f
  induction f with
  | zero => intro n listed st T hT; cases hT
  | succ f ih =>
    intro n listed st T hT Γ Ls a w he hpre hs hsz hcl hU hl hv
    simp only [execAny] at hT
    split at hT
    · rename_i hr
      exact Picks.over hr ⟨rfl, hk st T Γ Ls hT he hpre hl hv a w hs⟩ n
    · rename_i r rs hr
      split at hT
      · rename_i i hfind
        have hi : i ∈ Region.ready .any ops listed := by rw [hr]; exact List.mem_of_find?_eq_some hfind
        have hro : ∀ o, ops[i]? = some o → readsOnly o = true := fun o ho => by
          have := List.find?_some hfind
          simp only [Bool.and_eq_true] at this
          have := this.2
          unfold freeAt at this
          rw [ho] at this
          simp only [Bool.and_eq_true] at this
          exact this.1.1
        have hcut : i < cutH ops h := by
          have := List.find?_some hfind
          simp only [Bool.and_eq_true] at this
          exact Nat.le_of_ble_eq_true this.1
        have hS : Kept cx.P F w0 Γ0 h a0 w := by
          obtain ⟨hiL, o, ho, -⟩ := mem_ready.1 hi
          exact hU (cut_not (cutH_ok ops h) hcl hsz hcut (getD_both hiL))
        have hsz' : (listed.setIfInBounds i true).size = ops.size := by rw [Array.size_setIfInBounds]; exact hsz
        have hcl' := hcl.set hi
        split at hT
        · rename_i o n' ho
          split at hT
          · rename_i hfr
            split at hT
            · rename_i hg
              cases hp : st.skip ops o with
              | none => simp [hp] at hT
              | some st' =>
                simp [hp] at hT
                exact Picks.first (cutH_ok ops h) ho (hro o ho) hsel (fun c a w h => by cases h.1) hcut _ _ _ _ hsz hcl hS (.inr ⟨gd_no hs hg, rfl⟩) hi (Region.free_spec ho hfr)
                  (ih n' _ st' T hT Γ Ls _ w he hpre (hs.skip hp) hsz' hcl' (fun _ => hS) (by rw [St.skip_lvl hp]; exact hl) hv)
            · rename_i hg
              split at hT
              · rename_i obs sv obs' sv' h1 h2
                split at hT
                · rename_i hsame
                  have e := sameS_eq hsame
                  subst e
                  cases hp : (st.learnAll (bothObs obs obs')).put o.dst (some sv) with
                  | none => simp [hp] at hT
                  | some st' =>
                    cases hT' : execAny cx ops mg h k f n' (listed.setIfInBounds i true) st' with
                    | none => simp [hp, hT'] at hT
                    | some T' =>
                      simp [hp, hT'] at hT
                      subst hT
                      obtain ⟨hob, hv'⟩ := VC.obT hv
                      obtain ⟨o1, o2⟩ := bothObs_ok hob
                      have hok := (opVal_ok h1 (hs.view o.op.operands) o1).2
                      refine Picks.first (cutH_ok ops h) ho (hro o ho) hsel (fun c a w h => by cases h.1) hcut (v := sv.den Γ) _ _ _ _ hsz hcl hS (.inl ⟨gd_go hs hg, fun w' hw' => ?_⟩) hi (Region.free_spec ho hfr)
                        (ih n' _ st' T' hT' Γ Ls _ w he hpre ((hs.learn hob).put hp hok) hsz' hcl' (fun _ => hS) (by rw [St.put_lvl hp]; exact hl) hv')
                      have hup := Kept.up hw' hs he hwf
                      exact (opVal_ok h2 (hup.view o.op.operands) o2).1
                · cases hT
              · rename_i obs sv h1 h2
                split at hT
                · rename_i hpure
                  cases hp : (st.learnAll obs).put o.dst (some sv) with
                  | none => simp [hp] at hT
                  | some st' =>
                    cases hT' : execAny cx ops mg h k f n' (listed.setIfInBounds i true) st' with
                    | none => simp [hp, hT'] at hT
                    | some T' =>
                      simp [hp, hT'] at hT
                      subst hT
                      obtain ⟨hob, hv'⟩ := VC.obT hv
                      have hok := (opVal_ok h1 (hs.view o.op.operands) hob).2
                      exact Picks.first (cutH_ok ops h) ho (hro o ho) hsel (fun c a w h => by cases h.1) hcut (v := sv.den Γ) _ _ _ _ hsz hcl hS (.inl ⟨gd_go hs hg, fun w' hw' => pureAt_ok hpure h1 (hs.view o.op.operands) hob w'⟩) hi (Region.free_spec ho hfr)
                        (ih n' _ st' T' hT' Γ Ls _ w he hpre ((hs.learn hob).put hp hok) hsz' hcl' (fun _ => hS) (by rw [St.put_lvl hp]; exact hl) hv')
                · cases hT
              · cases hT
            · cases hT
          · cases hT
        · cases hT
      · split at hT
        · rename_i d b hask
          split at hT
          · rename_i b' hlf
            split at hT
            · rename_i t e ht he'
              cases hT
              by_cases hb : b'.den Γ.ρ = true
              · exact ih n listed _ t ht Γ Ls a w he hpre (hs.know hlf hb) hsz hcl hU hl (hv.1 hb)
              · have hb' : b'.den Γ.ρ = false := by simpa using hb
                exact ih n listed _ e he' Γ Ls a w he hpre (hs.know hlf hb') hsz hcl hU hl (hv.2 hb')
            · cases hT
          · cases hT
        · split at hT
          · rename_i n'
            refine ⟨fun e => (by rw [hr] at e; cases e), fun i hi => ?_⟩
            obtain ⟨T1, hT, hvT⟩ := merge_mem hT _ (List.mem_map_of_mem (by rw [← hr]; exact hi))
            replace hv := hvT hv
            clear hvT
            split at hT
            · rename_i o ho
              have hcl' := hcl.set hi
              have hlt : i < ops.size := by obtain ⟨-, o, ho, -⟩ := mem_ready.1 hi; exact (Array.getElem?_eq_some_iff.1 ho).1
              have hsz' : (listed.setIfInBounds i true).size = ops.size := by rw [Array.size_setIfInBounds]; exact hsz
              have hset : (listed.setIfInBounds i true).getD i false = true := by simp [Array.getD_eq_getD_getElem?, hsz, hlt]
              have hS : (listed.setIfInBounds i true).getD (cutH ops h) false = false → Kept cx.P F w0 Γ0 h a0 w ∧ i < cutH ops h := fun hnot => by
                rcases Nat.lt_or_ge i (cutH ops h) with hx | hx
                · exact ⟨hU (cut_not (cutH_ok ops h) hcl hsz hx (getD_both (mem_ready.1 hi).1)), hx⟩
                · have := cut_yes (cutH_ok ops h) hcl' hx hlt hset
                  rw [hnot] at this; cases this
              unfold wpOp
              rw [ho]
              simp only []
              split at hT
              · rename_i hg
                rw [if_neg (by rw [gd_no hs hg]; simp)]
                cases hp : st.skip ops o with
                | none => simp [hp] at hT
                | some st' =>
                  simp [hp] at hT
                  exact ⟨fun hn => (hS hn).1, ih n' _ st' _ hT Γ Ls _ w he hpre (hs.skip hp) hsz' hcl' (fun hn => (hS hn).1) (by rw [St.skip_lvl hp]; exact hl) hv⟩
              · rename_i hg
                rw [if_pos (gd_go hs hg)]
                refine .inl (doOpF_sound hcx hT hl hv hs fun st' T' Γ' Ls' hk' he' hpre' hl' hv' a' w' hs' => ?_)
                simp only [] at hk'
                split at hk'
                · rename_i hcov
                  have hS' : Until (cutH ops h) (Kept cx.P F w0 Γ0 h a0) (listed.setIfInBounds i true) w' := fun hnot => by
                    obtain ⟨hS, hx⟩ := hS hnot
                    simp only [Bool.or_eq_true] at hcov
                    rcases hcov with hc1 | hcov
                    · have := Nat.le_of_ble_eq_true hc1; omega
                    · exact Kept.down hS hs' (he.trans he') hwf hcov
                  exact ⟨hS', ih n' _ st' T' hk' Γ' Ls' a' w' (he.trans he') (hpre.trans hpre') hs' hsz' hcl' hS' hl' hv'⟩
                · cases hk'
              · cases hT
            · cases hT
          · cases hT
theorem any_sound (hcx : CxOK cx) {ops : Array Oper} {mg : Bool} {M : List Pl} {st : St} (hc : (Region.noSelect ops && (st.hide M).wf) = true) {k : St → Option Tree} {T : Tree} {f : Nat}
    (hT : execAny cx ops mg (st.hide M) k f ops.size (Array.replicate ops.size false) st = some T) {Γ : Env} {Ls : List (List C → Prop)} (hl : Ls.length = st.lvl) (hv : VC cx R T Γ.ρ Ls) {a : Act} {w : World} (hs : Sat cx.P F w0 Γ st a w)
    {Q : Exit → Act → World → Prop} (hk : Next cx R F w0 k Γ Ls (fun a w => Q .normal a w)) : wpAny cx.P .any ops (fun e a w => e = .normal ∧ Q .normal a w) ops.size (Array.replicate ops.size false) a { w with drawn := w.drawn + 1 } := by
  simp only [Bool.and_eq_true] at hc
  obtain ⟨c1, c2⟩ := hc
  have hw1 : Sat cx.P F w0 Γ st a { w with drawn := w.drawn + 1 } := hs.below ⟨rfl, rfl, rfl, Nat.le_refl _, fun _ _ => rfl⟩
  refine Picks.any (execAny_sound hcx c1 c2 hk f _ _ st T hT Γ Ls a _ (Ext.refl Γ) (List.prefix_refl _) hw1 (by simp) (fun j o ho hj => ?_) (fun _ => Kept.start hw1) hl hv)
  rw [getD_replicate_false] at hj; cases hj
end
end Go.Proofs.Ytbgofenplhdllaa
/- The engine, part 12: loops; the executor of a code; its soundness. -/
namespace Go.Proofs.Ytbgofenplhdllaa
open Go.RowKit
set_option linter.unusedSimpArgs false
set_option linter.unusedVariables false

/-! Loops -/
/-- The slots that a code writes. -/
def asg : Code → List Nat
  | .region _ ops _ => ops.toList.filterMap (·.dst)
  | .seq a b => asg a ++ asg b
  | .cond _ a b => asg a ++ asg b
  | .block _ c | .loop c | .scope c => asg c
  | _ => []
/-- The cells of a place; is it one cell by itself. -/
def St.cellsAt (st : St) : Pl → Option (Bool × List Lf)
  | .slot d => match look st.sl d with
    | some (.one (.lf l)) => some (true, [l])
    | some (.one (.agg l)) => some (false, l)
    | _ => none
  | .blk b => (look st.mem b).map fun mb => (false, mb.2)
  | .vec i => (look st.vec i).map fun e => (false, [.cnt e.1 e.2])
def St.setAt (st : St) (p : Pl) (one : Bool) (l : List Lf) : St :=
  match p with
  | .slot d => { st with sl := (d, if one then l.head?.map fun x => .one (.lf x) else some (.one (.agg l))) :: st.sl }
  | .blk b => match look st.mem b with
    | some mb => { st with mem := (b, some (mb.1, l)) :: st.mem }
    | none => st
  | .vec i => match l with
    | [.cnt te r] => { st with vec := (i, some (te, r)) :: st.vec }
    | _ => st
/-- Cells made unknown. -/
def hvL : List Lf → Nat → List Lf
  | [], _ => []
  | .cnt te _ :: ls, i => .cnt te (.var i) :: hvL ls (i + 1)
  | l :: ls, i => match l.kind with
    | some k => Lf.ofKind k i :: hvL ls (i + 1)
    | none => l :: hvL ls i
/-- The slices of one's own among them get new variables. -/
def hvV : List Lf → Nat → Vecs
  | [], _ => []
  | .vec te j :: ls, i => (i, some (te, .var i)) :: (j, none) :: hvV ls (i + 1)
  | l :: ls, i => match l.kind with
    | some _ => hvV ls (i + 1)
    | none => hvV ls i
def St.havoc (st : St) : List Pl → St
  | [] => st
  | p :: ps => match st.cellsAt p with
    | some cs => St.havoc { st.setAt p cs.1 (hvL cs.2 st.nx) with nx := st.nx + (cs.2.filter fun l => l.kind.isSome).length, vec := hvV cs.2 st.nx ++ (st.setAt p cs.1 (hvL cs.2 st.nx)).vec } ps
    | none => St.havoc st ps
/-- Slots that are written in a round and of which nothing is known at its head. -/
def St.forget (st : St) (l : List Nat) : St := { st with sl := l.foldl (fun sl d => (d, none) :: sl) st.sl }
/-- Of several places that hold one slice of one's own the first one. -/
def pickPs (st : St) : List Nat → List Nat → List Nat
  | _, [] => []
  | seen, d :: ds => match st.cellsAt (.slot d) with
    | some cs => if (vecsOf cs.2).all fun i => !seen.contains i && (look st.vec i).isSome then d :: pickPs st (vecsOf cs.2 ++ seen) ds else pickPs st seen ds
    | none => pickPs st seen ds
/-- The named slots that a code writes and of which something is known that can be made unknown. -/
def St.places (st : St) (w : List Nat) (seen : List Nat) : List Nat := pickPs st seen ((List.range st.nt).filter fun d => w.contains d && match look st.sl d with
  | some (.one s) => s.cells.all fun l => l.kind.isSome
  | _ => false)
/-- What the cells hold, where they were made unknown (from variable i on); all others are as they were. -/
def backL (vec : Vecs) : Nat → List Lf → List Lf → Option (List Lf)
  | _, [], [] => some []
  | i, l :: ls, m :: ms => match l with
    | .cnt te r => match m with
      | .cnt te' r' => if te = te' ∧ r = .var i then (backL vec (i + 1) ls ms).map (.cnt te r' :: ·) else none
      | _ => none
    | .vec te i' => if i' = i then match m with
      | .vec te' j => match look vec j with
        | some e => if te' = te ∧ e.1 = te then (backL vec (i + 1) ls ms).map (.cnt te (mkJoin j e.2) :: ·) else none
        | none => none
      | _ => none
      else none
    | l => match l.kind with
      | some k => if sameL l (Lf.ofKind k i) && decide (m.kind = some k) && k.noVec then (backL vec (i + 1) ls ms).map (m :: ·) else none
      | none => if sameL l m then backL vec i ls ms else none
  | _, _, _ => none
def backPs (st st' : St) : Nat → List Pl → Option (List Lf)
  | _, [] => some []
  | i, p :: ps => match st.cellsAt p, st'.cellsAt p with
    | some cs, some ds => if cs.1 = ds.1 then match backL st'.vec i cs.2 ds.2 with
        | some a => (backPs st st' (i + a.length) ps).map (a ++ ·)
        | none => none
      else none
    | _, _ => none
/-- Which slice stands at the end for which one at the head. -/
def vmapL : List Lf → List Lf → List (Nat × Nat)
  | .vec _ i :: cs, .vec _ j :: ds => (i, j) :: vmapL cs ds
  | _ :: cs, _ :: ds => vmapL cs ds
  | _, _ => []
def vmapPs (st st' : St) (ps : List Pl) : List (Nat × Nat) := ps.flatMap fun p => match st.cellsAt p, st'.cellsAt p with
  | some cs, some ds => vmapL cs.2 ds.2
  | _, _ => []
def keyOf : List (Nat × Nat) → Nat → Option Nat
  | [], _ => none
  | (k, j) :: l, i => if k = i then some j else keyOf l i
def curOf (vm : List (Nat × Nat)) (i : Nat) : Nat := (keyOf vm i).getD i
/-- All slices of one's own that are known at the head are known at the end, each one by itself. -/
def sameVec (st st' : St) (n : Nat) (ps : List Pl) (vm : List (Nat × Nat)) : Bool :=
  (st.vec.all fun p => match look st.vec p.1 with
    | none => true
    | some e => match look st'.vec (curOf vm p.1) with
      | some e' => Nat.beq e.1 e'.1 && (match keyOf vm p.1 with
        | some _ => Nat.ble n p.1 && decide (e.2 = .var p.1)
        | none => Nat.blt p.1 n && (ps.contains (.vec p.1) || (decide (e.2 = e'.2) && e.2.wf n)))
      | none => false) &&
  (st.vec.all fun p => st.vec.all fun q => Nat.beq p.1 q.1 || !Nat.beq (curOf vm p.1) (curOf vm q.1) || (look st.vec p.1).isNone || (look st.vec q.1).isNone)
def sameClo (st st' : St) (n : Nat) : Bool :=
  st.clo.all fun p => match look st.clo p.1 with
    | none => true
    | some e => match look st'.clo p.1 with
      | some e' => Nat.beq e.1 e'.1 && same0s e.2.1 e'.2.1 && sameLs e.2.2 e'.2.2 && wfC n st.nb p.1 (some e)
      | none => false
/-- All that is known at the head and is not among the places is known, alike, at the end. -/
def sameRest (st st' : St) (n : Nat) (ps : List Pl) : Bool :=
  (st.sl.all fun p => match look st.sl p.1 with
    | none => true
    | some sv => ps.contains (.slot p.1) || match look st'.sl p.1 with
      | some sv' => sameS sv sv'
      | none => false) &&
  (st.mem.all fun p => match look st.mem p.1 with
    | none => true
    | some mb => match look st'.mem p.1 with
      | some mb' => Nat.beq mb.1 mb'.1 && (ps.contains (.blk p.1) || sameLs mb.2 mb'.2)
      | none => false) &&
  sameVec st st' n ps (vmapPs st st' ps) && sameClo st st' n
/-- Of what was not made unknown nothing names the new variables. -/
def headWf (st : St) (n : Nat) (ps : List Pl) : Bool :=
  (st.sl.all fun p => ps.contains (.slot p.1) || match look st.sl p.1 with
    | none => true
    | some sv => sv.wf n st.nb) &&
  (st.mem.all fun p => Nat.blt p.1 st.nb && (ps.contains (.blk p.1) || match look st.mem p.1 with
    | none => true
    | some mb => mb.2.all (Lf.wf n st.nb))) &&
  (ps.all fun p => match st.cellsAt p with
    | some cs => cs.2.all fun l => l.kind.isSome || l.wf n st.nb
    | none => true) &&
  (st.bds.all fun p => Nat.blt p.1 n)
/-- What is not known any more at the end: its places. (For the reader of a tree.) -/
def diffs (st st' : St) (n : Nat) (ps : List Pl) : List Nat :=
  (st.sl.filterMap fun p => match look st.sl p.1 with
    | none => none
    | some sv => if ps.contains (.slot p.1) || (match look st'.sl p.1 with
      | some sv' => sameS sv sv'
      | none => false) then none else some (1000000 + p.1)) ++
  (st.mem.filterMap fun p => match look st.mem p.1 with
    | none => none
    | some mb => if (match look st'.mem p.1 with
      | some mb' => Nat.beq mb.1 mb'.1 && (ps.contains (.blk p.1) || sameLs mb.2 mb'.2)
      | none => false) then none else some (2000000 + p.1)) ++
  (st.vec.filterMap fun p => match look st.vec p.1 with
    | none => none
    | some e => match look st'.vec (curOf (vmapPs st st' ps) p.1) with
      | some e' => if Nat.beq e.1 e'.1 && (match keyOf (vmapPs st st' ps) p.1 with
        | some _ => Nat.ble n p.1 && decide (e.2 = .var p.1)
        | none => Nat.blt p.1 n && (ps.contains (.vec p.1) || (decide (e.2 = e'.2) && e.2.wf n))) then none else some (3000000 + p.1)
      | none => some (3000000 + p.1)) ++
  (if sameVec st st' n ps (vmapPs st st' ps) then [] else [4000000]) ++ (if sameClo st st' n then [] else [5000000]) ++
  (ps.zipIdx.filterMap fun q => match st.cellsAt q.1, st'.cellsAt q.1 with
    | some cs, some ds => if cs.1 = ds.1 && Nat.beq cs.2.length ds.2.length then none else some (6000000 + q.2)
    | _, _ => some (7000000 + q.2))
/-- The places of a loop; what is known before it; what is known at its head. -/
def loopPs (cx : Cx) (c : Code) (st : St) : List Pl :=
  (st.places (asg c) ((cx.hv (st.path * 100000 + (firstReg c).getD 0)).flatMap fun p => match st.cellsAt p with | some cs => vecsOf cs.2 | none => [])).map Pl.slot ++ cx.hv (st.path * 100000 + (firstReg c).getD 0)
def loopSt0 (cx : Cx) (c : Code) (st : St) : St := st.forget ((asg c).filter fun d => !(loopPs cx c st).contains (.slot d))
def loopSt1 (cx : Cx) (c : Code) (st : St) : St := { St.havoc (loopSt0 cx c st) (loopPs cx c st) with lvl := st.lvl + 1 }
/-! Ways that are led into one state -/
def St.newSl : List (Nat × Bool × List Lk) → St → St
  | [], st => st
  | (d, one, ks) :: l, st => St.newSl l { st with sl := (d, if one then (freshL ks st.nx).head?.map fun x => .one (.lf x) else some (.one (.agg (freshL ks st.nx)))) :: st.sl, nx := st.nx + ks.length, vec := freshV ks st.nx ++ st.vec }
/-- What is known where the ways have met. -/
def joinSt1 (j : List (Nat × Bool × List Lk) × List Pl) (ds : List Nat) (st : St) : St := { St.havoc (St.newSl j.1 (st.forget ds)) j.2 with lvl := st.lvl + 1 }
def joinPs (j : List (Nat × Bool × List Lk) × List Pl) : List Pl := j.1.map (fun x => .slot x.1) ++ j.2
def joinKs (j : List (Nat × Bool × List Lk) × List Pl) (st : St) : List Lk := j.1.flatMap (·.2.2) ++ j.2.flatMap fun p => match st.cellsAt p with
  | some cs => cs.2.filterMap Lf.kind
  | none => []
/-- The end of a way. -/
def joinEnd (st st1 : St) (ps : List Pl) (ks : List Lk) (id : Nat) (st' : St) : Option Tree :=
  if sameRest st1 st' st.nx ps && Nat.ble st1.nb st'.nb && Nat.beq st1.nt st'.nt then match backPs st1 st' st.nx ps with
    | some vals => if kindsL vals = some ks then some (obT (rngL st'.bds vals) (.back st.lvl vals)) else some (.fail 61004 [st.path, id])
    | none => some (.fail 61005 [st.path, id])
  else some (.fail 61003 ([st.path, id] ++ diffs st1 st' st.nx ps))
def joinOk (st st1 : St) (ps : List Pl) (ks : List Lk) : Bool :=
  headWf st1 st.nx ps && Nat.beq st1.nx (st.nx + ks.length) && Nat.ble st.nb st1.nb && Nat.beq st1.nt st.nt && decide (st1.bds = st.bds) && Nat.beq st1.lvl (st.lvl + 1)
def dstsOf (ops : Array Oper) : List Nat := ops.toList.filterMap (·.dst)
def joinT (cx : Cx) (id : Nat) (ops : Array Oper) (j : List (Nat × Bool × List Lk) × List Pl) (st : St) (k : St → Option Tree) : Option Tree :=
  if joinOk st (joinSt1 j (dstsOf ops) (st.hide ((cx.hv (st.path * 100000 + 50000 + id)).filter fun p => !j.2.contains p))) (joinPs j) (joinKs j st) && (Region.noSelect ops && (({ st with lvl := st.lvl + 1 } : St).hide (cx.hv (st.path * 100000 + 50000 + id))).wf) then
    match execAny cx ops true (({ st with lvl := st.lvl + 1 } : St).hide (cx.hv (st.path * 100000 + 50000 + id))) (joinEnd st (joinSt1 j (dstsOf ops) (st.hide ((cx.hv (st.path * 100000 + 50000 + id)).filter fun p => !j.2.contains p))) (joinPs j) (joinKs j st) id) (3 * ops.size + 8) ops.size (Array.replicate ops.size false) { st with lvl := st.lvl + 1 }, k (joinSt1 j (dstsOf ops) (st.hide ((cx.hv (st.path * 100000 + 50000 + id)).filter fun p => !j.2.contains p))) with
    | some ws, some t => some (.join (joinKs j st) ws t)
    | _, _ => none
  else some (.fail 61001 [st.path, id])
/-! A drawn region whose calls make new slices: its allocations are put off until all before the cut has come -/
/-- What an operation waits for. -/
def reach (ops : Array Oper) : List Nat → List Nat → List Nat
  | seen, [] => seen
  | seen, a :: l => if seen.any (fun m => edgeTo ops m a) then reach ops (a :: seen) l else reach ops seen l
def lcAt (ops : Array Oper) (n : Nat) : Bool :=
  (match ops[n]? with
    | some o => (match o.op with | .store .. => true | _ => false)
    | none => false) && waitedBy ops [n] ((List.range ops.size).drop (n + 1))
/-- The first store behind which all others come. -/
def lcN (ops : Array Oper) : Nat := ((List.range ops.size).find? (lcAt ops)).getD ops.size
def lcReach (ops : Array Oper) (i : Nat) : Bool := (reach ops [lcN ops] (List.range (lcN ops)).reverse).contains i || Nat.beq (lcN ops) ops.size
def lateAt (P : Program) (ops : Array Oper) (i : Nat) : Bool := Nat.blt i (lcN ops) && (match ops[i]? with | some o => allocOp P o | none => false)
def lateOps (P : Program) (ops : Array Oper) : List Oper := ((List.range (lcN ops)).filter (lateAt P ops)).filterMap fun i => ops[i]?
def lateDst (P : Program) (ops : Array Oper) : List Nat := (lateOps P ops).filterMap (·.dst)
def lateNone (P : Program) (ops : Array Oper) (st : St) : Bool := (lateDst P ops).all fun d => (look st.sl d).isNone && Nat.blt d st.nt && Nat.blt d 1000
/-- The others before the cut wait for no allocation, write no slot of one's, and stand under no guard. -/
def lateOk (P : Program) (ops : Array Oper) : Bool :=
  decide (lateDst P ops).Nodup && (Nat.ble (lcN ops) (cutN ops) && (List.range (lcN ops)).all fun i => !lateAt P ops i || lcReach ops i) && (List.range (lcN ops)).all fun i => lateAt P ops i || (match ops[i]? with
    | some o => o.guard.isNone && !((lateDst P ops).any fun d => decide (o.dst = some d)) && o.after.all fun e => !Region.binds .any e || !lateAt P ops e.on
    | none => false)
def earlyAt (P : Program) (ops : Array Oper) (i : Nat) : Bool := Nat.blt i (lcN ops) && !lateAt P ops i
/-- A field of a value: whatever the world holds. -/
def pureF (o : Oper) : Bool := match o.op with
  | .field .. => true
  | _ => false
def freeLate (cx : Cx) (ops : Array Oper) (h st : St) (L : Array Bool) (i : Nat) : Bool :=
  freeAt cx ops h st L i || (match ops[i]? with
    | some o => pureF o && Region.free .any ops L i && (opVal cx.P st o).isSome
    | none => false)
def execLate (cx : Cx) (ops : Array Oper) (h : St) (k : St → Option Tree) : Nat → Array Bool → St → Option Tree
  | 0, _, _ => none
  | f + 1, L, st =>
    match (Region.ready .any ops L).filter (earlyAt cx.P ops) with
    | [] => if (List.range (lcN ops)).all fun i => L.getD i false || lateAt cx.P ops i then k st else none
    | r :: rs => match (r :: rs).find? (fun i => freeLate cx ops h st L i) with
      | some i => match ops[i]? with
        | some o => if Region.free .any ops L i then match opVal cx.P st o, opVal cx.P (clsOf h st) o with
          | some (obs, sv), some (obs', sv') => if sameS sv sv' then
              ((st.learnAll (bothObs obs obs')).put o.dst (some sv)).bind fun st' => if lateNone cx.P ops st' then (execLate cx ops h k f (L.setIfInBounds i true) st').map (obT (bothObs obs obs')) else none
            else none
          | some (obs, sv), none => if pureF o then ((st.learnAll obs).put o.dst (some sv)).bind fun st' => if lateNone cx.P ops st' then (execLate cx ops h k f (L.setIfInBounds i true) st').map (obT obs) else none else none
          | _, _ => none
          else none
        | none => none
      | none => if !(r :: rs).all (lcReach ops) then none else merge true ((r :: rs).map fun r => match ops[r]? with
        | some o => doOpF cx st o fun st' => if covers h st' && lateNone cx.P ops st' then execLate cx ops h k f (L.setIfInBounds r true) st' else none
        | none => none)
def cutL (ops : Array Oper) : Array Bool := ((List.range ops.size).map fun i => Nat.blt i (lcN ops)).toArray
def isLate : Pl → Bool
  | .blk 3000000 => true
  | _ => false
/-- A slot (4000000 more) whose slice of one's own is given away first. -/
def frzSlot : Pl → Option Nat
  | .slot d => if 4000000 ≤ d then some (d - 4000000) else none
  | _ => none
def frzOf (j : List (Nat × Bool × List Lk) × List Pl) (st : St) : List Nat := (j.2.filterMap frzSlot).flatMap fun d => vecsOf (s0Cells st (.tmp d))
/-- The ways of the calls meet before the allocations. -/
def lateJ (j : List (Nat × Bool × List Lk) × List Pl) : List (Nat × Bool × List Lk) × List Pl := (j.1, j.2.filter fun p => !isLate p && (frzSlot p).isNone)
def lateT (cx : Cx) (id : Nat) (ops : Array Oper) (j : List (Nat × Bool × List Lk) × List Pl) (st : St) (k : St → Option Tree) : Option Tree :=
  if joinOk st (joinSt1 j (dstsOf ops) (st.hide ((cx.hv (st.path * 100000 + 50000 + id)).filter fun p => !j.2.contains p))) (joinPs j) (joinKs j st) && (Region.noSelect ops && (({ st with lvl := st.lvl + 1 } : St).hide (cx.hv (st.path * 100000 + 50000 + id))).wf) && (lateOk cx.P ops && (lateNone cx.P ops (({ st with lvl := st.lvl + 1 } : St).forget (lateDst cx.P ops)) && Nat.beq (cutH ops (({ st with lvl := st.lvl + 1 } : St).hide (cx.hv (st.path * 100000 + 50000 + id)))) (cutN ops))) then
    match execLate cx ops (({ st with lvl := st.lvl + 1 } : St).hide (cx.hv (st.path * 100000 + 50000 + id))) (joinEnd st (joinSt1 j (dstsOf ops) (st.hide ((cx.hv (st.path * 100000 + 50000 + id)).filter fun p => !j.2.contains p))) (joinPs j) (joinKs j st) id) (3 * ops.size + 8) (Array.replicate ops.size false) (({ st with lvl := st.lvl + 1 } : St).forget (lateDst cx.P ops)),
      execOps cx ops (lateOps cx.P ops) (joinSt1 j (dstsOf ops) (st.hide ((cx.hv (st.path * 100000 + 50000 + id)).filter fun p => !j.2.contains p))) (fun st2 => execAny cx ops false (({ st with lvl := st.lvl + 1 } : St).hide (cx.hv (st.path * 100000 + 50000 + id))) k (3 * ops.size + 8) (ops.size - lcN ops) (cutL ops) st2) with
    | some ws, some t => some (.join (joinKs j st) ws t)
    | _, _ => none
  else some (.fail 61001 [st.path, id])
/-- The number of an if: its first region's. -/
def condKey (st : St) (a b : Code) : Nat := st.path * 100000 + 90000 + ((firstReg a).getD ((firstReg b).getD 0))
def joinK (st st1 : St) (ps : List Pl) (ks : List Lk) (k : Ex → St → Option Tree) (x : Ex) (st' : St) : Option Tree :=
  match x with
  | .nrm => joinEnd st st1 ps ks 90000 st'
  | x => k x st'
/-- No deferred call. -/
def Oper.noDefer (o : Oper) : Bool := match o.op with
  | .defer _ => false
  | _ => true
/-- A loop carried out round by round, so many at most. -/
def unroll (e : St → (Ex → St → Option Tree) → Option Tree) (k : Ex → St → Option Tree) : Nat → St → Option Tree
  | 0, st => some (.fail 60009 [st.path])
  | n + 1, st => e st fun x st' => match x with
    | .nrm => unroll e k n st'
    | x => k x st'
def unN : List Pl → Nat
  | .blk b :: _ => b - 2000000
  | _ => 0
def exec (cx : Cx) : Code → St → (Ex → St → Option Tree) → Option Tree
  | .skip, st, k => k .nrm st
  | .label _, st, k => k .nrm st
  | .seq a b, st, k => exec cx a st fun x st => match x with
    | .nrm => exec cx b st k
    | x => k x st
  | .cond c a b, st, k => match st.lf c with
    | some (.bool (.lit t)) => if t then exec cx a st k else exec cx b st k
    | some (.bool e) => match cx.jn (condKey st a b) with
      | none => match exec cx a { st with bds := learn st.nx st.bds e true } k, exec cx b { st with bds := learn st.nx st.bds e false } k with
        | some t, some f => some (.split e t f)
        | _, _ => none
      | some j => if joinOk st (joinSt1 j (asg a ++ asg b) (st.hide (cx.hv (condKey st a b)))) (joinPs j) (joinKs j st) then
          match exec cx a { st with lvl := st.lvl + 1, bds := learn st.nx st.bds e true } (joinK st (joinSt1 j (asg a ++ asg b) (st.hide (cx.hv (condKey st a b)))) (joinPs j) (joinKs j st) k), exec cx b { st with lvl := st.lvl + 1, bds := learn st.nx st.bds e false } (joinK st (joinSt1 j (asg a ++ asg b) (st.hide (cx.hv (condKey st a b)))) (joinPs j) (joinKs j st) k), k .nrm (joinSt1 j (asg a ++ asg b) (st.hide (cx.hv (condKey st a b)))) with
          | some t, some f, some r => some (.join (joinKs j st) (.split e t f) r)
          | _, _, _ => none
        else some (.fail 61001 [st.path, condKey st a b])
    | _ => none
  | .block id c, st, k => exec cx c st fun x st => match x with
    | .ext i => if i = id then k .nrm st else k (.ext i) st
    | x => k x st
  | .scope c, st, k => exec cx c st k
  | .exit id, st, k => k (.ext id) st
  | .ret, st, k => k .ret st
  | .region id ops draw, st, k => if ops.toList.all Oper.noDefer then if !draw || drawOk cx ops then match cx.jn (st.path * 100000 + 50000 + id) with
      | none => execOps cx ops ops.toList st (k .nrm)
      | some j => if joinOk st (joinSt1 j (dstsOf ops) st) (joinPs j) (joinKs j st) then
          match execOps cx ops ops.toList { st with lvl := st.lvl + 1 } (joinEnd st (joinSt1 j (dstsOf ops) st) (joinPs j) (joinKs j st) id), k .nrm (joinSt1 j (dstsOf ops) st) with
          | some ws, some t => some (.join (joinKs j st) ws t)
          | _, _ => none
        else some (.fail 61001 [st.path, id])
    else match cx.jn (st.path * 100000 + 50000 + id) with
    | some j => orF (freezeAll (frzOf j st) st fun st => if j.2.any isLate then lateT cx id ops (lateJ j) st (k .nrm) else joinT cx id ops (lateJ j) st (k .nrm)) (51000 + id) [st.path]
    | none => orF (if Region.noSelect ops && (st.hide (cx.hv (st.path * 100000 + 50000 + id))).wf then
      execAny cx ops false (st.hide (cx.hv (st.path * 100000 + 50000 + id))) (k .nrm) (3 * ops.size + 8) ops.size (Array.replicate ops.size false) st
    else none) (50000 + id) [st.path]
    else none
  | .loop c, st, k =>
    if unN (cx.hv (st.path * 100000 + (firstReg c).getD 0)) ≠ 0 then unroll (fun st k => exec cx c st k) k (unN (cx.hv (st.path * 100000 + (firstReg c).getD 0))) st else
    match backPs (loopSt1 cx c st) (loopSt0 cx c st) st.nx (loopPs cx c st) with
    | none => some (.fail 60001 [st.path, (firstReg c).getD 0])
    | some init => match kindsL init with
      | none => some (.fail 60002 [st.path, (firstReg c).getD 0])
      | some ks =>
        if st.wf && headWf (loopSt1 cx c st) st.nx (loopPs cx c st) && sameRest (loopSt1 cx c st) (loopSt0 cx c st) st.nx (loopPs cx c st) && Nat.beq (loopSt1 cx c st).nx (st.nx + ks.length) && Nat.beq (loopSt1 cx c st).nb st.nb && Nat.beq (loopSt1 cx c st).nt st.nt && decide ((loopSt1 cx c st).bds = st.bds) then
          (exec cx c (loopSt1 cx c st) fun x st' => match x with
            | .nrm => if sameRest (loopSt1 cx c st) st' st.nx (loopPs cx c st) && Nat.ble (loopSt1 cx c st).nb st'.nb && Nat.beq (loopSt1 cx c st).nt st'.nt then match backPs (loopSt1 cx c st) st' st.nx (loopPs cx c st) with
                | some vals => if kindsL vals = some ks then some (obT (rngL st'.bds vals) (.back st.lvl vals)) else some (.fail 60004 [st.path, (firstReg c).getD 0])
                | none => some (.fail 60005 [st.path, (firstReg c).getD 0])
              else some (.fail 60003 ([st.path, (firstReg c).getD 0] ++ diffs (loopSt1 cx c st) st' st.nx (loopPs cx c st)))
            | x => k x st').map fun t => obT (rngL st.bds init) (.loop ks init t)
        else some (.fail 60006 ([st.path, (firstReg c).getD 0] ++ diffs (loopSt1 cx c st) (loopSt0 cx c st) st.nx (loopPs cx c st)))
  | _, _, _ => none

end Go.Proofs.Ytbgofenplhdllaa
/- The engine, part 13: a loop's head comes again. -/
namespace Go.Proofs.Ytbgofenplhdllaa
open Go.RowKit
set_option linter.unusedSimpArgs false
set_option linter.unusedVariables false

theorem look_forget {α : Type} : ∀ (l : List Nat) (sl : List (Nat × Option α)) (t : Nat) (v : α), look (l.foldl (fun sl d => (d, none) :: sl) sl) t = some v → look sl t = some v
  | [], _, _, _, h => h
  | d :: l, sl, t, v, h => by
    have := look_forget l _ t v h
    simp only [look] at this
    split at this
    · cases this
    · exact this
theorem Sat.forget {P : Program} {F : Nat → Prop} {w0 : World} {Γ : Env} {st : St} {a : Act} {w : World} (h : Sat P F w0 Γ st a w) (l : List Nat) : Sat P F w0 Γ (st.forget l) a w :=
  h.slots' (fun t sv hs => h.slots t sv (look_forget l _ t sv hs)) h.size h.defers h.num

theorem look_mem {α : Type} : ∀ {l : List (Nat × Option α)} {t : Nat} {v : α}, look l t = some v → ∃ p ∈ l, p.1 = t
  | [], _, _, h => by cases h
  | (k, u) :: l, t, v, h => by
    simp only [look] at h
    split at h
    · rename_i e; exact ⟨(k, u), by simp, e⟩
    · obtain ⟨p, hp, e⟩ := look_mem h; exact ⟨p, by simp [hp], e⟩

/-- Cells that were made unknown hold what their variables stand for. -/
theorem backL_spec {P : Program} {w : World} {O O' : Nat → Nat → Prop} {vec : Vecs} {Γ Γ0 Γ' : Env} (hvec : ∀ j e, look vec j = some e → VecOK P w O e.1 (at_ Γ.ρ j).loc (e.2.ev Γ.ρ)) (h0 : Ext Γ0 Γ) (h0' : Ext Γ0 Γ') (hO : ∀ b o, O' b o → O b o) : ∀ {cs ds vs : List Lf} {i : Nat}, backL vec i cs ds = some vs →
    (∀ l ∈ ds, l.ok P w O Γ) → (∀ l ∈ cs, (l.kind.isSome || l.wf Γ0.ρ.length Γ0.nb) = true) → (∀ j v, vs[j]? = some v → at_ Γ'.ρ (i + j) = v.c Γ.ρ) →
    cs.map (Lf.den Γ') = ds.map (Lf.den Γ) ∧ (∀ l ∈ cs, l.ok P w O' Γ') ∧ (∀ i' j', (i', j') ∈ vmapL cs ds → ∃ e, look vec j' = some e ∧ at_ Γ'.ρ i' = (mkJoin j' e.2).ev Γ.ρ) ∧
      (∀ (x : Nat) te r te' r', cs[x]? = some (.cnt te r) → ds[x]? = some (.cnt te' r') → te = te' ∧ r.ev Γ'.ρ = r'.ev Γ.ρ)
  | [], [], vs, i, h, _, _, _ => ⟨rfl, fun l hl => (by cases hl), fun i' j' hm => (by cases hm), fun x _ _ _ _ e => (by simp at e)⟩
  | l :: cs, m :: ds, vs, i, h, ho, hw, hv => by
    have step : ∀ {vs' : List Lf} {i1 : Nat}, backL vec i1 cs ds = some vs' → (∀ j v, vs'[j]? = some v → at_ Γ'.ρ (i1 + j) = v.c Γ.ρ) → l.den Γ' = m.den Γ → l.ok P w O' Γ' → (∀ te i' te' j', l = .vec te i' → m = .vec te' j' → ∃ e, look vec j' = some e ∧ at_ Γ'.ρ i' = (mkJoin j' e.2).ev Γ.ρ) → (∀ te r te' r', l = .cnt te r → m = .cnt te' r' → te = te' ∧ r.ev Γ'.ρ = r'.ev Γ.ρ) →
        (l :: cs).map (Lf.den Γ') = (m :: ds).map (Lf.den Γ) ∧ (∀ x ∈ l :: cs, x.ok P w O' Γ') ∧ (∀ i' j', (i', j') ∈ vmapL (l :: cs) (m :: ds) → ∃ e, look vec j' = some e ∧ at_ Γ'.ρ i' = (mkJoin j' e.2).ev Γ.ρ) ∧
          (∀ (x : Nat) te r te' r', (l :: cs)[x]? = some (.cnt te r) → (m :: ds)[x]? = some (.cnt te' r') → te = te' ∧ r.ev Γ'.ρ = r'.ev Γ.ρ) := by
      intro vs' i1 hb hv' hd hok hvm hcn
      obtain ⟨h1, h2, h3, h4⟩ := backL_spec hvec h0 h0' hO hb (fun x hx => ho x (by simp [hx])) (fun x hx => hw x (by simp [hx])) hv'
      refine ⟨by simp [hd, h1], fun x hx => ?_, fun i' j' hm => ?_, fun x te r te' r' hx hy => ?_⟩
      · rcases List.mem_cons.1 hx with rfl | hx
        · exact hok
        · exact h2 x hx
      · have hcase : (∃ te te', l = .vec te i' ∧ m = .vec te' j') ∨ (i', j') ∈ vmapL cs ds := by
          cases l <;> cases m <;> first
            | exact .inr hm
            | (simp only [vmapL, List.mem_cons, Prod.mk.injEq] at hm
               rcases hm with ⟨rfl, rfl⟩ | hm
               · exact .inl ⟨_, _, rfl, rfl⟩
               · exact .inr hm)
        rcases hcase with ⟨te, te', e1, e2⟩ | hm
        · exact hvm te i' te' j' e1 e2
        · exact h3 i' j' hm
      · cases x with
        | zero => simp at hx hy; exact hcn te r te' r' hx hy
        | succ x => exact h4 x te r te' r' (by simpa using hx) (by simpa using hy)
    have tail : ∀ {vs' : List Lf} {x : Lf}, vs = x :: vs' → (∀ j v, vs'[j]? = some v → at_ Γ'.ρ (i + 1 + j) = v.c Γ.ρ) ∧ at_ Γ'.ρ i = x.c Γ.ρ := fun {vs' x} e => by
      subst e
      exact ⟨fun j v hj => by have := hv (j + 1) v (by simpa using hj); rwa [show i + 1 + j = i + (j + 1) by omega], hv 0 x (by simp)⟩
    simp only [backL] at h
    split at h
    · rename_i te r
      split at h
      · rename_i te' r'
        split at h
        · rename_i hc
          obtain ⟨rfl, rfl⟩ := hc
          cases hb : backL vec (i + 1) cs ds with
          | none => simp [hb] at h
          | some vs' =>
            simp [hb] at h
            obtain ⟨t1, t2⟩ := tail h.symm
            have hev : (E.var i).ev Γ'.ρ = r'.ev Γ.ρ := t2
            have hmo := ho (.cnt te r') (by simp)
            refine step hb t1 (by simp only [Lf.den, hev]) (by simp only [Lf.ok, hev]; exact hmo) (fun _ _ _ _ e => (by cases e)) (fun te1 r1 te2 r2 e1 e2 => ?_)
            cases e1; cases e2; exact ⟨rfl, hev⟩
        · cases h
      · cases h
    · rename_i te i'
      split at h
      · rename_i e1
        subst e1
        split at h
        · rename_i te' j
          split at h
          · rename_i e he
            split at h
            · rename_i hc
              obtain ⟨rfl, hc2⟩ := hc
              cases hb : backL vec (i' + 1) cs ds with
              | none => simp [hb] at h
              | some vs' =>
                simp [hb] at h
                obtain ⟨t1, t2⟩ := tail h.symm
                simp only [Lf.c] at t2
                have hve := hvec j e he
                have hj := mkJoin_ev hve
                have hl : (at_ Γ'.ρ i').loc = (at_ Γ.ρ j).loc := by rw [t2, hj]; rfl
                obtain ⟨a, cap, hs⟩ := hve.slice
                refine step hb t1 (by simp only [Lf.den, hl]) ⟨a, _, cap, hl.trans hs⟩ (fun te1 i1 te2 j2 e1 e2 => ?_) (fun _ _ _ _ e => (by cases e))
                cases e1; cases e2; exact ⟨e, he, t2⟩
            · cases h
          · cases h
        · cases h
      · cases h
    · rename_i hn1 hn2
      split at h
      · rename_i k hk
        split at h
        · rename_i hc
          simp only [Bool.and_eq_true, decide_eq_true_eq] at hc
          obtain ⟨⟨c1, c2⟩, c3⟩ := hc
          cases hb : backL vec (i + 1) cs ds with
          | none => simp [hb] at h
          | some vs' =>
            simp [hb] at h
            obtain ⟨t1, t2⟩ := tail h.symm
            have hl := sameL_eq c1
            have hmo := ho m (by simp)
            have key : l.den Γ' = m.den Γ ∧ l.ok P w O' Γ' := by
              subst hl
              cases m with
              | int e => cases c2; exact ⟨by simp [Lf.ofKind, Lf.den, E.den_var, t2, Lf.c, C.int], trivial⟩
              | bool e => cases c2; exact ⟨by simp [Lf.ofKind, Lf.den, B.den, E.ev, t2, Lf.c, C.bool], trivial⟩
              | arr t e =>
                cases c2
                refine ⟨by simp [Lf.ofKind, Lf.den, E.ev, t2, Lf.c], ?_⟩
                simp only [Lf.ofKind, Lf.ok, E.ev, t2, Lf.c]
                exact ArrOK.anti hmo hO
              | vec t j => cases c2; cases c3
              | clo j =>
                cases c2
                obtain ⟨v, hv, h1⟩ := hmo
                rw [show (Lf.clo j).c Γ.ρ = at_ Γ.ρ j from rfl, hv] at t2
                exact ⟨by simp [Lf.ofKind, Lf.den, t2, hv], _, t2, h1⟩
              | cnt t j => cases c2; cases c3
              | _ => cases c2
            exact step hb t1 key.1 key.2 (fun te i' _ _ e _ => absurd e (hn2 te i')) (fun te r _ _ e _ => absurd e (hn1 te r))
        · cases h
      · rename_i hk
        split at h
        · rename_i hs
          have e := sameL_eq hs
          subst e
          have hwl := hw l (by simp)
          rw [hk] at hwl
          simp only [Option.isSome_none, Bool.false_or] at hwl
          have hd : l.den Γ' = l.den Γ := by rw [Lf.den_ext h0' l hwl, Lf.den_ext h0 l hwl]
          exact step h hv hd (Lf.ok_anti (Lf.ok_ext h0' hwl (Lf.ok_unext h0 hwl (ho _ (by simp)))) hO) (fun te i' _ _ e _ => absurd e (hn2 te i')) (fun te r _ _ e _ => absurd e (hn1 te r))
        · cases h
  | [], _ :: _, _, _, h, _, _, _ => by cases h
  | _ :: _, [], _, _, h, _, _, _ => by cases h
theorem backPs_spec {st st' : St} : ∀ {ps : List Pl} {i : Nat} {vals : List Lf}, backPs st st' i ps = some vals → ∀ p ∈ ps, ∃ f cs ds j vs, st.cellsAt p = some (f, cs) ∧ st'.cellsAt p = some (f, ds) ∧
    backL st'.vec (i + j) cs ds = some vs ∧ ∀ (x : Nat) v, vs[x]? = some v → vals[j + x]? = some v
  | [], _, _, _, p, hp => by cases hp
  | q :: ps, i, vals, h, p, hp => by
    simp only [backPs] at h
    split at h
    · rename_i cs ds h1 h2
      split at h
      · rename_i hf
        split at h
        · rename_i a ha
          cases hb : backPs st st' (i + a.length) ps with
          | none => simp [hb] at h
          | some b =>
            simp [hb] at h
            subst h
            rcases List.mem_cons.1 hp with rfl | hp
            · refine ⟨cs.1, cs.2, ds.2, 0, a, h1, by rw [h2, hf], by simpa using ha, fun x v hx => ?_⟩
              have : x < a.length := by
                rcases Nat.lt_or_ge x a.length with h' | h'
                · exact h'
                · rw [List.getElem?_eq_none h'] at hx; cases hx
              rw [Nat.zero_add, List.getElem?_append_left this]; exact hx
            · obtain ⟨f, cs', ds', j, vs, e1, e2, e3, e4⟩ := backPs_spec hb p hp
              refine ⟨f, cs', ds', a.length + j, vs, e1, e2, by rwa [Nat.add_assoc] at e3, fun x v hx => ?_⟩
              rw [List.getElem?_append_right (by omega)]
              have := e4 x v hx
              rwa [show a.length + j + x - a.length = j + x by omega]
        · cases h
      · cases h
    · cases h
theorem mkJoin_ty {P : Program} {w : World} {O : Nat → Nat → Prop} {ρ : List C} {te : TypeId} {i : Nat} {r : E} (h : VecOK P w O te (at_ ρ i).loc (r.ev ρ)) : ∃ v rows d, (mkJoin i r).ev ρ = .s v rows ∧ TyN P d te rows ∧ ∀ n, (C.s v rows).small n := by
  obtain ⟨v', rows, d, e, ht⟩ := h.tyN
  have hs := h.small
  rw [mkJoin_ev h]
  have hr : (r.ev ρ).rows = rows := by rw [e]; rfl
  rw [hr]
  exact ⟨_, _, d, rfl, ht, C.small_rows (.inl hs) (by rw [hr]; exact Nat.le_refl _) (fun x hx => by rw [hr]; exact hx) _⟩
theorem backL_kinds {P : Program} {w : World} {O : Nat → Nat → Prop} {vec : Vecs} {Γ : Env} (hvec : ∀ j e, look vec j = some e → VecOK P w O e.1 (at_ Γ.ρ j).loc (e.2.ev Γ.ρ)) : ∀ {cs ds vs : List Lf} {i : Nat}, backL vec i cs ds = some vs → (∀ l ∈ ds, l.ok P w O Γ) → ∀ l ∈ vs, l.ok P w O Γ ∧ l.isVec = false
  | [], [], vs, i, h, _ => by simp [backL] at h; subst h; exact fun l hl => by cases hl
  | l :: cs, m :: ds, vs, i, h, ho => by
    have step : ∀ {vs' : List Lf} {i1 : Nat} {x : Lf}, backL vec i1 cs ds = some vs' → vs = x :: vs' → x.ok P w O Γ → x.isVec = false → ∀ l ∈ vs, l.ok P w O Γ ∧ l.isVec = false := by
      intro vs' i1 x hb e h1 h2 y hy
      subst e
      rcases List.mem_cons.1 hy with rfl | hy
      · exact ⟨h1, h2⟩
      · exact backL_kinds hvec hb (fun x hx => ho x (by simp [hx])) y hy
    simp only [backL] at h
    split at h
    · split at h
      · rename_i te' r'
        split at h
        · cases hb : backL vec (i + 1) cs ds with
          | none => simp [hb] at h
          | some vs' => simp [hb] at h; exact step hb h.symm (by have := ho (.cnt te' r') (by simp); rename_i hc; rw [hc.1]; exact this) rfl
        · cases h
      · cases h
    · split at h
      · split at h
        · rename_i te' j
          split at h
          · rename_i e he
            split at h
            · rename_i hc
              cases hb : backL vec (i + 1) cs ds with
              | none => simp [hb] at h
              | some vs' =>
                simp [hb] at h
                refine step hb h.symm ?_ rfl
                have := mkJoin_ty (hvec j e he)
                rw [hc.2] at this
                exact this
            · cases h
          · cases h
        · cases h
      · cases h
    · split at h
      · split at h
        · rename_i hc
          simp only [Bool.and_eq_true, decide_eq_true_eq] at hc
          cases hb : backL vec (i + 1) cs ds with
          | none => simp [hb] at h
          | some vs' =>
            simp [hb] at h
            refine step hb h.symm (ho m (by simp)) ?_
            have h2 := hc.1.2
            have h3 := hc.2
            cases m with
            | vec t j => cases h2; cases h3
            | _ => rfl
        · cases h
      · split at h
        · exact backL_kinds hvec h (fun x hx => ho x (by simp [hx]))
        · cases h
  | [], _ :: _, _, _, h, _ => by cases h
  | _ :: _, [], _, _, h, _ => by cases h
theorem Sat.cellsAt_ok {P : Program} {F : Nat → Prop} {w0 : World} {Γ : Env} {st : St} {a : Act} {w : World} (h : Sat P F w0 Γ st a w) {p : Pl} {f : Bool} {cs : List Lf} (hc : st.cellsAt p = some (f, cs)) : ∀ l ∈ cs, l.ok P w (Own Γ st) Γ := by
  cases p with
  | slot d =>
    simp only [St.cellsAt] at hc
    split at hc
    · rename_i l hl
      cases hc
      have := (h.slots d _ hl).2
      exact fun x hx => this x (by simpa [S0.cells] using hx)
    · rename_i l hl
      cases hc
      exact (h.slots d _ hl).2
    · cases hc
  | blk b =>
    simp only [St.cellsAt, Option.map_eq_some_iff] at hc
    obtain ⟨mb, hm, e⟩ := hc
    cases e
    exact (h.mem b mb hm).2.1
  | vec i =>
    simp only [St.cellsAt, Option.map_eq_some_iff] at hc
    obtain ⟨e, hm, e'⟩ := hc
    cases e'
    intro l hl
    simp at hl
    subst hl
    obtain ⟨v, rows, d, e1, ht⟩ := (h.vec i e hm).1.tyN
    have hs := (h.vec i e hm).1.small
    simp only [Lf.ok]
    rw [e1] at hs ⊢
    exact ⟨v, rows, d, rfl, ht, hs⟩
theorem backPs_ok {P : Program} {F : Nat → Prop} {w0 : World} {Γ : Env} {st st' : St} {a : Act} {w : World} (h : Sat P F w0 Γ st' a w) : ∀ {ps : List Pl} {i : Nat} {vals : List Lf}, backPs st st' i ps = some vals →
    ∀ l ∈ vals, l.ok P w (Own Γ st') Γ ∧ l.isVec = false
  | [], _, vals, hb => by simp [backPs] at hb; subst hb; exact fun l hl => by cases hl
  | q :: ps, i, vals, hb => by
    simp only [backPs] at hb
    split at hb
    · rename_i cs ds h1 h2
      split at hb
      · split at hb
        · rename_i x hx
          cases hb2 : backPs st st' (i + x.length) ps with
          | none => simp [hb2] at hb
          | some b =>
            simp [hb2] at hb
            subst hb
            intro l hl
            rcases List.mem_append.1 hl with hl | hl
            · exact backL_kinds (fun j e he => (h.vec j e he).1) hx (h.cellsAt_ok h2) l hl
            · exact backPs_ok h hb2 l hl
        · cases hb
      · cases hb
    · cases hb

theorem keyOf_mem : ∀ {vm : List (Nat × Nat)} {i j : Nat}, keyOf vm i = some j → (i, j) ∈ vm
  | [], _, _, h => by cases h
  | (k, j') :: l, i, j, h => by
    simp only [keyOf] at h
    split at h
    · rename_i e; subst e; cases h; simp
    · simp [keyOf_mem h]
/-- THE HEAD COMES AGAIN: a state in which all places hold something stands for the head's, at the values that they hold. -/
theorem Sat.rebase {P : Program} {F : Nat → Prop} {w0 : World} {Γ : Env} {st1 st : St} {a : Act} {w : World} (h : Sat P F w0 Γ st a w) {ρ0 : List C} (hρ : ∃ l, Γ.ρ = ρ0 ++ l) {ps : List Pl}
    (hsame : sameRest st1 st ρ0.length ps = true) {vals : List Lf} (hb : backPs st1 st ρ0.length ps = some vals) {ks : List Lk} (hk : kindsL vals = some ks) (hob : Obs Γ.ρ (rngL st.bds vals)) (hwf : headWf st1 ρ0.length ps = true)
    (hnt : st1.nt = st.nt) (hnb : st1.nb ≤ st.nb) (hnx : st1.nx = ρ0.length + ks.length) (hnum : Num st1.bds ρ0) :
    CTy P ks (cs_ Γ.ρ vals) ∧ Sat P F w0 { Γ with ρ := ρ0 ++ cs_ Γ.ρ vals, nb := st1.nb } st1 a w := by
  obtain ⟨l, hl⟩ := hρ
  have hty : CTy P ks (cs_ Γ.ρ vals) := Ls_ty (P := P) (w := w) h.num hk (backPs_ok h hb) hob
  refine ⟨hty, ?_⟩
  let Γ0 : Env := { Γ with ρ := ρ0, nb := st1.nb }
  let Γ' : Env := { Γ with ρ := ρ0 ++ cs_ Γ.ρ vals, nb := st1.nb }
  have e0 : Ext Γ0 Γ := ⟨⟨l, hl⟩, fun _ _ => rfl, by simp only [Γ0]; rw [h.nb]; exact hnb, rfl, rfl⟩
  have e0' : Ext Γ0 Γ' := ⟨⟨_, rfl⟩, fun _ _ => rfl, Nat.le_refl _, rfl, rfl⟩
  simp only [sameRest, Bool.and_eq_true, List.all_eq_true] at hsame
  obtain ⟨⟨⟨s1, s2⟩, s3⟩, s4⟩ := hsame
  simp only [sameVec, Bool.and_eq_true, List.all_eq_true] at s3
  obtain ⟨s3a, s3b⟩ := s3
  generalize hvm : vmapPs st1 st ps = vm at *
  simp only [headWf, Bool.and_eq_true, List.all_eq_true] at hwf
  obtain ⟨⟨⟨w1, w2⟩, w3⟩, w4⟩ := hwf
  have mem' : ∀ b mb, look st1.mem b = some mb → ∃ mb', look st.mem b = some mb' ∧ mb.1 = mb'.1 ∧ (Pl.blk b ∈ ps ∨ mb.2 = mb'.2) := by
    intro b mb hm
    obtain ⟨p, hp, rfl⟩ := look_mem hm
    have := s2 p hp
    rw [hm] at this
    simp only [] at this
    split at this
    · rename_i mb' hm'
      simp only [Bool.and_eq_true, Bool.or_eq_true, List.contains_iff_mem] at this
      exact ⟨mb', hm', Nat.eq_of_beq_eq_true this.1, this.2.imp id sameLs_eq⟩
    · cases this
  -- a slice at the head and the one that stands for it
  have vec' : ∀ i e, look st1.vec i = some e → ∃ e', look st.vec (curOf vm i) = some e' ∧ e.1 = e'.1 ∧ ((∃ j, keyOf vm i = some j ∧ ρ0.length ≤ i ∧ e.2 = .var i) ∨ (keyOf vm i = none ∧ i < ρ0.length ∧ (Pl.vec i ∈ ps ∨ (e.2 = e'.2 ∧ e.2.wf ρ0.length = true)))) := by
    intro i e hi
    obtain ⟨p, hp, rfl⟩ := look_mem hi
    have := s3a p hp
    rw [hi] at this
    simp only [] at this
    split at this
    · rename_i e' he'
      simp only [Bool.and_eq_true] at this
      refine ⟨e', he', Nat.eq_of_beq_eq_true this.1, ?_⟩
      have h2 := this.2
      split at h2
      · rename_i j hj
        simp only [Bool.and_eq_true, decide_eq_true_eq] at h2
        exact .inl ⟨j, hj, Nat.le_of_ble_eq_true h2.1, h2.2⟩
      · rename_i hj
        simp only [Bool.and_eq_true, Bool.or_eq_true, List.contains_iff_mem, decide_eq_true_eq, Nat.blt_eq] at h2
        exact .inr ⟨hj, h2.1, h2.2⟩
    · cases this
  have vinj : ∀ i e i' e', look st1.vec i = some e → look st1.vec i' = some e' → curOf vm i = curOf vm i' → i = i' := by
    intro i e i' e' h1 h2 heq
    obtain ⟨p, hp, rfl⟩ := look_mem h1
    obtain ⟨q, hq, rfl⟩ := look_mem h2
    have := s3b p hp q hq
    rw [h1, h2, heq] at this
    simp only [Nat.beq_refl, Bool.not_true, Bool.or_false, Option.isNone_some] at this
    exact Nat.eq_of_beq_eq_true this
  -- the places
  have place0 : ∀ (O' : Nat → Nat → Prop), (∀ b o, O' b o → Own Γ st b o) → ∀ p ∈ ps, ∃ f cs ds, st1.cellsAt p = some (f, cs) ∧ st.cellsAt p = some (f, ds) ∧ cs.map (Lf.den Γ') = ds.map (Lf.den Γ) ∧ (∀ l ∈ cs, l.ok P w O' Γ') ∧
      (∀ i' j', (i', j') ∈ vmapL cs ds → ∃ e, look st.vec j' = some e ∧ at_ Γ'.ρ i' = (mkJoin j' e.2).ev Γ.ρ) ∧ (∀ (x : Nat) te r te' r', cs[x]? = some (.cnt te r) → ds[x]? = some (.cnt te' r') → te = te' ∧ r.ev Γ'.ρ = r'.ev Γ.ρ) := by
    intro O' hown p hp
    obtain ⟨f, cs, ds, j, vs, c1, c2, c3, c4⟩ := backPs_spec hb p hp
    have hcw := w3 p hp
    rw [c1] at hcw
    simp only [List.all_eq_true] at hcw
    obtain ⟨g1, g2, g3, g4⟩ := backL_spec (P := P) (w := w) (O := Own Γ st) (Γ := Γ) (Γ0 := Γ0) (Γ' := Γ') (fun j e he => (h.vec j e he).1) e0 e0' hown c3 (h.cellsAt_ok c2) hcw (fun x v hx => by
      have hx' := c4 x v hx
      have : (cs_ Γ.ρ vals)[j + x]? = some (v.c Γ.ρ) := by simp [cs_, hx']
      rw [Nat.add_assoc]
      exact at_app this)
    exact ⟨f, cs, ds, c1, c2, g1, g2, g3, g4⟩
  have vkey : ∀ i j, keyOf vm i = some j → ∃ e, look st.vec j = some e ∧ at_ Γ'.ρ i = (mkJoin j e.2).ev Γ.ρ := by
    intro i j hij
    have hm := keyOf_mem hij
    rw [← hvm] at hm
    obtain ⟨p, hp, hm⟩ := List.mem_flatMap.1 hm
    obtain ⟨f, cs, ds, c1, c2, -, -, g3, -⟩ := place0 (Own Γ st) (fun _ _ h => h) p hp
    rw [c1, c2] at hm
    exact g3 i j hm
  -- where it lies and what it holds
  have hvec : ∀ i e, look st1.vec i = some e → ∃ e', look st.vec (curOf vm i) = some e' ∧ e.1 = e'.1 ∧ (at_ Γ'.ρ i).loc = (at_ Γ.ρ (curOf vm i)).loc ∧ (e.2.ev Γ'.ρ).rows = (e'.2.ev Γ.ρ).rows ∧ (∃ v, e.2.ev Γ'.ρ = .s v (e'.2.ev Γ.ρ).rows) ∧ i < st1.nx := by
    intro i e hi
    obtain ⟨e', h1, h2, h3⟩ := vec' i e hi
    refine ⟨e', h1, h2, ?_⟩
    have hv' := (h.vec _ e' h1).1
    rcases h3 with ⟨j, hj, hge, he2⟩ | ⟨hj, hlt, h3⟩
    · obtain ⟨e'', k1, k2⟩ := vkey i j hj
      have hcur : curOf vm i = j := by unfold curOf; rw [hj]; rfl
      rw [hcur] at h1 hv' ⊢
      obtain rfl : e' = e'' := Option.some.inj (h1.symm.trans k1)
      have hjo := mkJoin_ev hv'
      rw [hjo] at k2
      rw [he2]
      simp only [E.ev, k2]
      refine ⟨rfl, rfl, ⟨_, rfl⟩, ?_⟩
      -- the variable is among the new ones
      rw [hnx]
      rcases Nat.lt_or_ge i (ρ0.length + ks.length) with h | h
      · exact h
      · exfalso
        have hlen : (ρ0 ++ cs_ Γ.ρ vals).length = ρ0.length + ks.length := by rw [List.length_append, hty.len]
        have : at_ (ρ0 ++ cs_ Γ.ρ vals) i = .i 0 := by unfold at_; rw [List.getD_eq_getElem?_getD, List.getElem?_eq_none (by omega)]; rfl
        rw [show at_ Γ'.ρ i = at_ (ρ0 ++ cs_ Γ.ρ vals) i from rfl, this] at k2
        cases k2
    · have hcur : curOf vm i = i := by unfold curOf; rw [hj]; rfl
      rw [hcur] at h1 hv' ⊢
      have hat : at_ Γ'.ρ i = at_ Γ.ρ i := by
        show at_ (ρ0 ++ cs_ Γ.ρ vals) i = _
        rw [at_ext hlt, hl, at_ext hlt]
      rw [hat]
      have hx : ∃ v, e.2.ev Γ'.ρ = .s v (e'.2.ev Γ.ρ).rows := by
        obtain ⟨ks', us, -, ⟨v', hv2⟩, -⟩ := hv'
        rcases h3 with hp | ⟨he, hwf'⟩
        · obtain ⟨f, cs, ds, c1, c2, -, -, -, g4⟩ := place0 (Own Γ st) (fun _ _ h => h) _ hp
          simp only [St.cellsAt, hi, h1, Option.map_some, Option.some.injEq, Prod.mk.injEq] at c1 c2
          obtain ⟨-, rfl⟩ := c1
          obtain ⟨-, rfl⟩ := c2
          obtain ⟨-, g⟩ := g4 0 e.1 e.2 e'.1 e'.2 rfl rfl
          rw [g]; exact ⟨v', hv2⟩
        · have : e.2.ev Γ'.ρ = e'.2.ev Γ.ρ := by
            rw [← he]
            show e.2.ev (ρ0 ++ cs_ Γ.ρ vals) = _
            rw [E.ev_ext _ hwf', hl, E.ev_ext _ hwf']
          rw [this]; exact ⟨v', hv2⟩
      obtain ⟨v, hv⟩ := hx
      exact ⟨rfl, by rw [hv]; rfl, ⟨v, hv⟩, by rw [hnx]; omega⟩
  have hold' : ∀ s j b, Hold Γ' st1 s j b → Hold Γ st s (if s then j else curOf vm j) b := by
    intro s j b hh
    rcases hh.inv with ⟨rfl, mb, hj, rfl⟩ | ⟨rfl, e, hj, hb⟩
    · obtain ⟨mb', hm', -⟩ := mem' j mb hj
      exact ⟨mb', hm', rfl⟩
    · obtain ⟨e', k1, k2, k3, -⟩ := hvec j e hj
      exact Hold.vec (Γ := Γ) (i := curOf vm j) k1 (k3 ▸ hb)
  have hown : ∀ b o, Own Γ' st1 b o → Own Γ st b o := fun b o hb => by
    rcases Own.iff.1 hb with hb | ⟨s, j, hh⟩
    · exact .inl hb
    · exact (hold' s j b hh).own o
  have place : ∀ p ∈ ps, ∃ f cs ds, st1.cellsAt p = some (f, cs) ∧ st.cellsAt p = some (f, ds) ∧ cs.map (Lf.den Γ') = ds.map (Lf.den Γ) ∧ ∀ l ∈ cs, l.ok P w (Own Γ' st1) Γ' := fun p hp => by
    obtain ⟨f, cs, ds, c1, c2, g1, g2, -⟩ := place0 _ hown p hp
    exact ⟨f, cs, ds, c1, c2, g1, g2⟩
  refine ⟨fun t sv hs => ?_, by rw [hnt]; exact h.size, fun b mb hm => ?_, fun i e hi => ?_, fun i e hi => ?_, fun s j s' j' b h1 h2 => ?_, h.keeps, h.fold, h.base, h.defers, by simp [hnx, hty.len], rfl,
    ⟨Bds.ok_ext hnum.bds, hnum.len.app fun c hc => hty.small c hc⟩⟩
  · obtain ⟨p, hp, rfl⟩ := look_mem hs
    have h1 := s1 p hp
    rw [hs] at h1
    simp only [Bool.or_eq_true, List.contains_iff_mem] at h1
    by_cases hpl : Pl.slot p.1 ∈ ps
    · obtain ⟨f, cs, ds, c1, c2, g1, g2⟩ := place _ hpl
      simp only [St.cellsAt, hs] at c1
      split at c1
      · rename_i x hx
        cases hx
        cases c1
        simp only [St.cellsAt] at c2
        split at c2
        · rename_i y hy
          cases c2
          have := (h.slots p.1 _ hy).1
          simp at g1
          exact ⟨(show slotV Γ' a p.1 = slotV Γ a p.1 from rfl).trans (this.trans g1.symm), fun z hz => by simp [S0.cells] at hz; subst hz; exact g2 _ (by simp)⟩
        · cases c2
        · cases c2
      · rename_i x hx
        cases hx
        cases c1
        simp only [St.cellsAt] at c2
        split at c2
        · cases c2
        · rename_i y hy
          cases c2
          have := (h.slots p.1 _ hy).1
          exact ⟨(show slotV Γ' a p.1 = slotV Γ a p.1 from rfl).trans (this.trans (by show _ = Value.agg (List.map (Lf.den Γ') cs).toArray; rw [g1]; rfl)), fun z hz => g2 z hz⟩
        · cases c2
      · cases c1
    · rcases h1 with h1 | h1
      · exact absurd h1 hpl
      · split at h1
        · rename_i sv' hsv'
          have e := sameS_eq h1
          subst e
          have hw' := w1 p hp
          rw [hs] at hw'
          simp only [Bool.or_eq_true, List.contains_iff_mem] at hw'
          have hw2 : sv.wf Γ0.ρ.length Γ0.nb = true := hw'.resolve_left hpl
          obtain ⟨g1, g2⟩ := h.slots p.1 _ hsv'
          exact ⟨(show slotV Γ' a p.1 = slotV Γ a p.1 from rfl).trans (g1.trans ((SV.den_ext e0 sv hw2).trans (SV.den_ext e0' sv hw2).symm)), SV.ok_anti (SV.ok_ext e0' hw2 (SV.ok_unext e0 hw2 g2)) hown⟩
        · cases h1
  · obtain ⟨mb', hm', ht, hor⟩ := mem' b mb hm
    obtain ⟨m1, m2, m3, m4⟩ := h.mem b mb' hm'
    have hb2 : b < st1.nb ∧ (Pl.blk b ∈ ps ∨ mb.2.all (Lf.wf ρ0.length st1.nb) = true) := by
      obtain ⟨p, hp, rfl⟩ := look_mem hm
      have := w2 p hp
      rw [hm] at this
      simp only [Bool.and_eq_true, Nat.blt_eq, Bool.or_eq_true, List.contains_iff_mem] at this
      exact this
    by_cases hpl : Pl.blk b ∈ ps
    · obtain ⟨f, cs, ds, c1, c2, g1, g2⟩ := place _ hpl
      simp only [St.cellsAt, hm, hm', Option.map_some, Option.some.injEq, Prod.mk.injEq] at c1 c2
      obtain ⟨-, rfl⟩ := c1
      obtain ⟨-, rfl⟩ := c2
      refine ⟨?_, g2, m3, hb2.1⟩
      rw [ht, show dens _ mb.2 = dens Γ mb'.2 from by unfold dens; exact congrArg _ g1]
      exact m1
    · have e := hor.resolve_left hpl
      have hwl := hb2.2.resolve_left hpl
      refine ⟨?_, fun l hl => ?_, m3, hb2.1⟩
      · rw [ht, show dens _ mb.2 = dens Γ mb'.2 from by rw [← e]; exact (dens_ext e0' mb.2 hwl).trans (dens_ext e0 mb.2 hwl).symm]
        exact m1
      · have hl' : l.wf Γ0.ρ.length Γ0.nb = true := List.all_eq_true.1 hwl l hl
        exact Lf.ok_anti (Lf.ok_ext e0' hl' (Lf.ok_unext e0 hl' (m2 l (by rw [← e]; exact hl)))) hown
  · obtain ⟨e', k1, k2, k3, k4, k5, k6⟩ := hvec i e hi
    obtain ⟨g1, g2, g3⟩ := h.vec _ e' k1
    refine ⟨?_, k6, fun b hb => g3 b (by rw [← k3]; exact hb)⟩
    show VecOK P w (Own Γ' st1) e.1 (at_ Γ'.ρ i).loc (e.2.ev Γ'.ρ)
    rw [k3, k2]
    obtain ⟨ks', us, f1, f2, f3, f4, f5⟩ := g1.anti hown
    obtain ⟨v, hv⟩ := k5
    exact ⟨ks', us, f1, ⟨v, by rw [k4]; exact hv⟩, by rw [k4]; exact f3, by rw [k4]; exact f4, by rw [k4]; exact f5⟩
  · obtain ⟨p, hp, rfl⟩ := look_mem hi
    have := List.all_eq_true.1 s4 p hp
    rw [hi] at this
    simp only [] at this
    split at this
    · rename_i e' he'
      simp only [Bool.and_eq_true] at this
      obtain ⟨⟨⟨q1, q2⟩, q3⟩, q4⟩ := this
      have ee : e = e' := Prod.ext (Nat.eq_of_beq_eq_true q1) (Prod.ext (same0s_eq q2) (sameLs_eq q3))
      subst ee
      simp only [wfC, Bool.and_eq_true, Nat.blt_eq] at q4
      obtain ⟨⟨r1, r2⟩, r3⟩ := q4
      obtain ⟨k1, k2, k3⟩ := h.clo p.1 e he'
      have hat : at_ Γ'.ρ p.1 = at_ Γ.ρ p.1 := by
        show at_ (ρ0 ++ cs_ Γ.ρ vals) p.1 = _
        rw [at_ext r1, hl, at_ext r1]
      refine ⟨?_, fun s hs l hl' => ?_, fun l hl' => ?_⟩
      · rw [show at_ _ p.1 = at_ Γ'.ρ p.1 from rfl, hat, k1]
        have a1 : e.2.1.map (S0.den Γ) = e.2.1.map (S0.den Γ') := List.map_congr_left fun s hs => by
          have hws : s.wf Γ0.ρ.length Γ0.nb = true := List.all_eq_true.1 r2 s hs
          exact (S0.den_ext e0 s hws).trans (S0.den_ext e0' s hws).symm
        have a2 : e.2.2.map (Lf.den Γ) = e.2.2.map (Lf.den Γ') := List.map_congr_left fun l hl' => by
          have hws : l.wf Γ0.ρ.length Γ0.nb = true := List.all_eq_true.1 r3 l hl'
          exact (Lf.den_ext e0 l hws).trans (Lf.den_ext e0' l hws).symm
        rw [a1, a2]
      · have hws : l.wf Γ0.ρ.length Γ0.nb = true := S0.wf_cells (n := Γ0.ρ.length) (nb := Γ0.nb) (List.all_eq_true.1 r2 s hs) l hl'
        exact Lf.ok_anti (Lf.ok_ext e0' hws (Lf.ok_unext e0 hws (k2 s hs l hl'))) hown
      · have hws : l.wf Γ0.ρ.length Γ0.nb = true := List.all_eq_true.1 r3 l hl'
        exact Lf.ok_anti (Lf.ok_ext e0' hws (Lf.ok_unext e0 hws (k3 l hl'))) hown
    · cases this
  · have g1 := hold' _ _ _ h1
    have g2 := hold' _ _ _ h2
    obtain ⟨q1, q2⟩ := h.inj _ _ _ _ _ g1 g2
    subst q1
    cases s with
    | true => exact ⟨rfl, q2⟩
    | false =>
      obtain ⟨e, hj, -⟩ := h1
      obtain ⟨e', hj', -⟩ := h2
      exact ⟨rfl, vinj j e j' e' hj hj' q2⟩
end Go.Proofs.Ytbgofenplhdllaa
/- A code in a frame of a function's own, or in one of a round's (range over a function): the laws of the walk for both. -/
namespace Go.Proofs.Ytbgofenplhdllaa
open Go.RowKit
set_option linter.unusedSimpArgs false
set_option linter.unusedVariables false

/-- The fence of a frame. -/
def rf : Option Nat → Fence
  | none => Fence.wide
  | some l => Fence.wide.inRound l
theorem rf_round (r : Option Nat) : (rf r).round = r := by cases r <;> rfl
theorem rf_fn (r : Option Nat) (f : FuncId) : (rf r).fn f := by cases r <;> trivial
theorem rf_depth (r : Option Nat) : (rf r).depth = none := by cases r <;> rfl
theorem rf_fenced (r : Option Nat) (P : Program) : Machine.fenced P (rf r) = Machine.fenced P Fence.wide := by cases r <;> rfl
theorem rf_steps {r : Option Nat} {P : Program} {m m' : Machine} : StepsIn (Machine.fenced P (rf r)) P m m' ↔ Steps P m m' := by rw [rf_fenced]; exact stepsIn_wide
abbrev wpR (r : Option Nat) (P : Program) (c : Code) (Q : Exit → Act → World → Prop) (a : Act) (w : World) : Prop := c.wpIn (rf r) 0 P Q a w
theorem wpR_none {P : Program} {c : Code} {Q : Exit → Act → World → Prop} {a : Act} {w : World} : wpR none P c Q a w ↔ c.wp P Q a w := wpIn_wide
theorem calls_rf {r : Option Nat} {n : Nat} {P : Program} {f : FuncId} {args : Array Value} {w : World} {R : Ending → World → Prop} : CallsIn (rf r) n P f args w R ↔ Calls P f args w R := by
  cases r with
  | none => exact callsIn_wide
  | some l => exact (show CallsIn (Fence.wide.inRound l) n P f args w R ↔ CallsIn Fence.wide n P f args w R from Iff.rfl).trans callsIn_wide
theorem rows_rf {r : Option Nat} {n : Nat} {P : Program} {row : String} {args : Array Value} {w : World} {R : Value → World → Prop} (h : Rows P row args w R) : RowsIn (rf r) n P row args w R :=
  fun c cs _ => let ⟨v, w', hr, hs⟩ := h c cs; ⟨v, w', hr, rf_steps.2 hs⟩
theorem Oper.noDefer_spec {o : Oper} (h : noDefer o = true) (c : Call) : o.op ≠ .defer c := fun e => by simp [noDefer, e] at h
section
variable {r : Option Nat} {P : Program} {ops : Array Oper} {Q : Exit → Act → World → Prop} {a : Act} {w : World}
theorem op_in {o : Oper} (hd : Oper.noDefer o = true) {K : Act → World → Prop} (h : o.wp P a w K Q) : o.wpIn (rf r) 0 P a w K Q := by
  refine ⟨fun f _ => rf_fn r f, ?_⟩
  rw [rf_round, Oper.semAt_eq r a.eval o (Oper.noDefer_spec hd)]
  unfold Oper.wp at h
  generalize (execOp a.eval o).run P w = res at *
  have hdep : (rf r).depth.isSome = true → 1 ≤ 0 := fun hx => by rw [rf_depth] at hx; cases hx
  cases res with
  | ok x w' =>
    cases x with
    | value v => exact h
    | skip => exact h
    | defer d => exact h
    | enter f args => exact ⟨hdep, calls_rf.2 h⟩
    | row row args => exact ⟨hdep, rows_rf h⟩
    | _ => exact h.elim
  | halt x w' => cases x <;> exact h
theorem list_in (hQ : ¬ LetsOut Q) : ∀ (l : List Oper), (∀ o ∈ l, Oper.noDefer o = true) → ∀ a w, wpList P ops Q l a w → wpListIn (rf r) 0 P ops Q l a w
  | [], _, a, w, h => h
  | o :: l, hd, a, w, h => by
    unfold wpList at h
    unfold wpListIn
    have hl := list_in hQ l fun o ho => hd o (List.mem_cons_of_mem _ ho)
    split at h
    · rename_i hw
      rw [if_pos hw]
      exact (h.resolve_right fun h => hQ h.2) |> op_in (hd o (List.mem_cons_self ..)) |> Oper.wpIn_mono hl
    · rename_i hw
      rw [if_neg hw]
      exact ⟨fun f _ => rf_fn r f, hl _ _ h⟩
theorem opAt_in (hQ : ¬ LetsOut Q) (hd : ∀ o ∈ ops.toList, Oper.noDefer o = true) {i : Nat} {K K' : Act → World → Prop} (hK : ∀ a w, K a w → K' a w) (h : wpOp P ops Q i K a w) : wpOpIn (rf r) 0 P ops Q i K' a w := by
  unfold wpOp at h
  unfold wpOpIn
  cases ho : ops[i]? with
  | none => simp only [ho] at h ⊢; exact hK _ _ h
  | some o =>
    simp only [ho] at h ⊢
    have hm : o ∈ ops.toList := Array.mem_toList_iff.2 (Array.mem_of_getElem? ho)
    split at h
    · rename_i hw
      rw [if_pos hw]
      exact (h.resolve_right fun h => hQ h.2) |> op_in (hd o hm) |> Oper.wpIn_mono hK
    · rename_i hw
      rw [if_neg hw]
      exact ⟨fun f _ => rf_fn r f, hK _ _ h⟩
theorem any_in {md : Region.Mode} (hQ : ¬ LetsOut Q) (hd : ∀ o ∈ ops.toList, Oper.noDefer o = true) : ∀ (n : Nat) (L : Array Bool) (a : Act) (w : World), wpAny P md ops Q n L a w → wpAnyIn (rf r) 0 P md ops Q n L a w
  | 0, L, a, w, h => h
  | n + 1, L, a, w, h => ⟨h.1, fun i hi => opAt_in hQ hd (fun a w h => any_in hQ hd n _ a w h) (h.2 i hi)⟩
/-- Ends normally. -/
def nrmQ (K : Act → World → Prop) : Exit → Act → World → Prop := fun e a w => e = .normal ∧ K a w
theorem nrmQ_out (K : Act → World → Prop) : ¬ LetsOut (nrmQ K) := fun ⟨_, _, h⟩ => by cases h.1
theorem nrmQ_mono {c : Code} (h : wpR r P c (nrmQ (Q .normal)) a w) : wpR r P c Q a w := wpIn_mono h fun e a w hq => by obtain ⟨rfl, hq⟩ := hq; exact hq
theorem region_list {id : Nat} (hd : ops.toList.all Oper.noDefer = true) (h : wpList P ops (nrmQ (Q .normal)) ops.toList a w) : wpR r P (.region id ops false) Q a w :=
  nrmQ_mono (wpIn_region_list (list_in (nrmQ_out _) _ (List.all_eq_true.1 hd) _ _ h))
theorem region_any {id : Nat} (hm : P.follows .mixedOrders = true) (hd : ops.toList.all Oper.noDefer = true) (h : wpAny P .any ops (nrmQ (Q .normal)) ops.size (Array.replicate ops.size false) a { w with drawn := w.drawn + 1 }) : wpR r P (.region id ops true) Q a w :=
  nrmQ_mono (wpIn_region_any hm (any_in (nrmQ_out _) (List.all_eq_true.1 hd) _ _ _ _ h))
theorem wpR_scope {c : Code} (h : wpR r P c (Exit.noGoto Q) a w) : wpR r P (.scope c) Q a w := by
  intro b k cs hro hb hr
  have s1 : StepsIn (Machine.fenced P (rf r)) P (lone (b.atR a (.code (.scope c) :: k)) cs w) (lone (b.atR a (.code c :: .inScope c :: k)) cs w) :=
    rf_steps.2 (.one (step_lone_go (by simp [stepG, stepG.exec, Frame.atR])))
  obtain ⟨e, a₁, w₁, hq, harr⟩ := h b (.inScope c :: k) cs hro hb hr
  cases e with
  | normal => exact ⟨.normal, a₁, w₁, hq, StepsIn.trans s1 (StepsIn.trans harr (rf_steps.2 (.one (step_lone_go (by simp [stepG, stepG.exec, Frame.atR])))))⟩
  | exit id =>
    have hx : exitTo id (.inScope c :: k) = exitTo id k := by simp [exitTo]
    exact ⟨.exit id, a₁, w₁, hq, fun k' hk => StepsIn.trans s1 (harr.1 k' (by rw [hx]; exact hk)), fun hr' hk => let ⟨k₁, h1, h2⟩ := harr.2 hr' (by rw [hx]; exact hk); ⟨k₁, h1, StepsIn.trans s1 h2⟩⟩
  | goto l => exact hq.elim
  | ret => exact ⟨_, a₁, w₁, hq, .of_steps s1 harr⟩
  | panic ch => exact ⟨_, a₁, w₁, hq, .of_steps s1 harr⟩
  | outgrown => exact ⟨_, a₁, w₁, hq, .of_steps (b := b) (k := k) (cs := cs) (e := .outgrown) s1 harr⟩
theorem wpR_loop_ghost {c : Code} (I : Nat → Act → World → Prop) (n : Nat) (h₀ : I n a w)
    (round : ∀ n a w, I n a w → wpR r P c (Exit.then (fun a' w' => ∃ m, m < n ∧ I m a' w') Q) a w) : wpR r P (.loop c) Q a w := by
  intro b k cs hro hb hr
  have key : ∀ n a w, I n a w →
      ∃ e a' w', Q e a' w' ∧ ArrivesIn (Machine.fenced P (rf r)) P (lone (b.atR a (.code c :: .inLoop c :: k)) cs w) b k cs e a' w' := by
    intro n
    induction n using Nat.strongRecOn with
    | _ n ih =>
      intro a w hI
      obtain ⟨e, a₁, w₁, hq, harr⟩ := round n a w hI b (.inLoop c :: k) cs hro hb hr
      cases e with
      | normal =>
        obtain ⟨m, hlt, hI₁⟩ := hq
        obtain ⟨e₂, a₂, w₂, hq₂, harr₂⟩ := ih m hlt a₁ w₁ hI₁
        exact ⟨e₂, a₂, w₂, hq₂, .of_steps (StepsIn.trans harr (.one (fenced_calm hb hr rfl) stepR_inLoop)) harr₂⟩
      | exit id => exact ⟨_, a₁, w₁, hq, .pass (x := .inLoop c) rfl (fun _ _ => .inl (by simp)) harr⟩
      | goto l => exact ⟨_, a₁, w₁, hq, .pass (x := .inLoop c) rfl (fun _ _ => .inl (by simp)) harr⟩
      | ret => exact ⟨_, a₁, w₁, hq, .pass (x := .inLoop c) rfl (fun _ _ => .inl (by simp)) harr⟩
      | panic ch => exact ⟨_, a₁, w₁, hq, .pass (x := .inLoop c) rfl (fun _ _ => .inl (by simp)) harr⟩
      | outgrown => exact ⟨_, a₁, w₁, hq, .pass (x := .inLoop c) rfl (fun _ _ => .inl (by simp)) harr⟩
  obtain ⟨e, a', w', hq, harr⟩ := key _ a w h₀
  exact ⟨e, a', w', hq, .of_steps (.one (fenced_calm hb hr rfl) stepR_loop) harr⟩
end
end Go.Proofs.Ytbgofenplhdllaa
