/- Texts laid into one: Ew El Em En Ez XS X5. -/
import Derived.Test.YtlbgcjpkegpmlaaLates2
import Derived.OrdersHeld
import Derived.Scope
import Derived.Test.YtlbgcjpkegpmlaaProg
/- The engine, part 11b: regions whose order is drawn, with calls and stores that turn the memory: the operations that only read come first, the others in the one order that there is. -/
namespace Go.Proofs.Ytlbgcjpkegpmlaa
open Go.RowKit
set_option linter.unusedSimpArgs false
set_option linter.unusedVariables false

def sameV : Value → Value → Bool
  | .slice none a b, .slice none c d => Nat.beq a c && Nat.beq b d
  | .pointer a, .pointer b => decide (a = b)
  | .nilFunc, .nilFunc => true
  | .nilIface, .nilIface => true
  | .func (.func f) x y, .func (.func g) z u => Nat.beq f g && x.isEmpty && y.isEmpty && z.isEmpty && u.isEmpty
  | _, _ => false
def sameL : Lf → Lf → Bool
  | .int a, .int b => decide (a = b)
  | .bool a, .bool b => decide (a = b)
  | .ptr a o, .ptr b p => Nat.beq a b && Nat.beq o p
  | .arr t a, .arr u b => Nat.beq t u && decide (a = b)
  | .elp t s a x o, .elp u r b y p => Nat.beq t u && Nat.beq s r && decide (a = b) && decide (x = y) && Nat.beq o p
  | .cst u, .cst v => sameV u v
  | .vec t i, .vec u j => Nat.beq t u && Nat.beq i j
  | .velp t s i x o, .velp u r j y p => Nat.beq t u && Nat.beq s r && Nat.beq i j && decide (x = y) && Nat.beq o p
  | .clo i, .clo j => Nat.beq i j
  | .cnt t a, .cnt u b => Nat.beq t u && decide (a = b)
  | _, _ => false
def sameLs : List Lf → List Lf → Bool
  | [], [] => true
  | a :: l, b :: m => sameL a b && sameLs l m
  | _, _ => false
def same0 : S0 → S0 → Bool
  | .lf a, .lf b => sameL a b
  | .agg a, .agg b => sameLs a b
  | _, _ => false
def same0s : List S0 → List S0 → Bool
  | [], [] => true
  | a :: l, b :: m => same0 a b && same0s l m
  | _, _ => false
def sameS : SV → SV → Bool
  | .one a, .one b => same0 a b
  | .tup a, .tup b => same0s a b
  | .fn f a, .fn g b => Nat.beq f g && sameLs a b
  | _, _ => false
theorem sameV_eq {a b : Value} (h : sameV a b = true) : a = b := by
  unfold sameV at h
  split at h
  · simp only [Bool.and_eq_true] at h; rw [Nat.eq_of_beq_eq_true h.1, Nat.eq_of_beq_eq_true h.2]
  · rw [of_decide_eq_true h]
  · rfl
  · rfl
  · simp only [Bool.and_eq_true, Array.isEmpty_iff] at h
    obtain ⟨⟨⟨⟨h1, h2⟩, h3⟩, h4⟩, h5⟩ := h
    rw [Nat.eq_of_beq_eq_true h1, h2, h3, h4, h5]
  · cases h
theorem sameL_eq {a b : Lf} (h : sameL a b = true) : a = b := by
  unfold sameL at h
  split at h
  · rw [of_decide_eq_true h]
  · rw [of_decide_eq_true h]
  · simp only [Bool.and_eq_true] at h; rw [Nat.eq_of_beq_eq_true h.1, Nat.eq_of_beq_eq_true h.2]
  · simp only [Bool.and_eq_true, decide_eq_true_eq] at h; rw [Nat.eq_of_beq_eq_true h.1, h.2]
  · simp only [Bool.and_eq_true, decide_eq_true_eq] at h
    obtain ⟨⟨⟨⟨h1, h2⟩, h3⟩, h4⟩, h5⟩ := h
    rw [Nat.eq_of_beq_eq_true h1, Nat.eq_of_beq_eq_true h2, h3, h4, Nat.eq_of_beq_eq_true h5]
  · rw [sameV_eq h]
  · simp only [Bool.and_eq_true] at h; rw [Nat.eq_of_beq_eq_true h.1, Nat.eq_of_beq_eq_true h.2]
  · simp only [Bool.and_eq_true, decide_eq_true_eq] at h
    obtain ⟨⟨⟨⟨h1, h2⟩, h3⟩, h4⟩, h5⟩ := h
    rw [Nat.eq_of_beq_eq_true h1, Nat.eq_of_beq_eq_true h2, Nat.eq_of_beq_eq_true h3, h4, Nat.eq_of_beq_eq_true h5]
  · rw [Nat.eq_of_beq_eq_true h]
  · simp only [Bool.and_eq_true, decide_eq_true_eq] at h; rw [Nat.eq_of_beq_eq_true h.1, h.2]
  · cases h
theorem sameLs_eq : ∀ {a b : List Lf}, sameLs a b = true → a = b
  | [], [], _ => rfl
  | x :: a, y :: b, h => by
    simp only [sameLs, Bool.and_eq_true] at h
    rw [sameL_eq h.1, sameLs_eq h.2]
  | [], _ :: _, h => by cases h
  | _ :: _, [], h => by cases h
theorem same0_eq {a b : S0} (h : same0 a b = true) : a = b := by
  cases a <;> cases b <;> simp only [same0] at h
  · rw [sameL_eq h]
  · cases h
  · cases h
  · rw [sameLs_eq h]
theorem same0s_eq : ∀ {a b : List S0}, same0s a b = true → a = b
  | [], [], _ => rfl
  | x :: a, y :: b, h => by
    simp only [same0s, Bool.and_eq_true] at h
    rw [same0_eq h.1, same0s_eq h.2]
  | [], _ :: _, h => by cases h
  | _ :: _, [], h => by cases h
theorem sameS_eq {a b : SV} (h : sameS a b = true) : a = b := by
  cases a <;> cases b <;> simp only [sameS] at h
  · rw [same0_eq h]
  · cases h
  · cases h
  · cases h
  · rw [same0s_eq h]
  · cases h
  · cases h
  · cases h
  · simp only [Bool.and_eq_true] at h
    rw [Nat.eq_of_beq_eq_true h.1, sameLs_eq h.2]
theorem Lf.ok_unext {P : Program} {w : World} {Own : Nat → Nat → Prop} {Γ Γ' : Env} (he : Ext Γ Γ') {l : Lf} (hw : l.wf Γ.ρ.length Γ.nb = true) (h : l.ok P w Own Γ') : l.ok P w Own Γ := by
  obtain ⟨m, e⟩ := he.ρ
  cases l with
  | arr te a => simp only [Lf.wf] at hw; simp only [Lf.ok, e, E.ev_ext _ hw] at h ⊢; exact h
  | elp te sz a x o =>
    simp only [Lf.wf, Bool.and_eq_true] at hw
    simp only [Lf.ok, e, E.ev_ext _ hw.1, E.den_ext _ hw.2] at h ⊢; exact h
  | vec te i => simp only [Lf.wf, Nat.blt_eq] at hw; simp only [Lf.ok, e, at_ext hw] at h ⊢; exact h
  | clo i => simp only [Lf.wf, Nat.blt_eq] at hw; simp only [Lf.ok, e, at_ext hw] at h ⊢; exact h
  | velp te sz i x o => simp only [Lf.wf, Bool.and_eq_true, Nat.blt_eq] at hw; simp only [Lf.ok, e, at_ext hw.1, E.den_ext _ hw.2] at h ⊢; exact h
  | cnt te r => simp only [Lf.wf] at hw; simp only [Lf.ok, e, E.ev_ext _ hw] at h ⊢; exact h
  | _ => trivial
theorem S0.wf_cells {n nb : Nat} {s : S0} (h : s.wf n nb = true) : ∀ l ∈ s.cells, l.wf n nb = true := by
  cases s with
  | lf x => intro l hl; simp [S0.cells] at hl; subst hl; exact h
  | agg ls => exact fun l hl => List.all_eq_true.1 h l hl
theorem SV.ok_unext {P : Program} {w : World} {Own : Nat → Nat → Prop} {Γ Γ' : Env} (he : Ext Γ Γ') {s : SV} (hw : s.wf Γ.ρ.length Γ.nb = true) (h : s.ok P w Own Γ') : s.ok P w Own Γ := by
  cases s with
  | one s => exact fun l hl => Lf.ok_unext he (S0.wf_cells hw l hl) (h l hl)
  | tup ss => exact fun s hs l hl => Lf.ok_unext he (S0.wf_cells (List.all_eq_true.1 hw s hs) l hl) (h s hs l hl)
  | fn f ls => exact fun l hl => Lf.ok_unext he (List.all_eq_true.1 hw l hl) (h l hl)
theorem SV.ok_anti {P : Program} {w : World} {O O' : Nat → Nat → Prop} {Γ : Env} {l : SV} (h : l.ok P w O Γ) (hh : ∀ b o, O' b o → O b o) : l.ok P w O' Γ := by
  cases l with
  | one s => exact fun l hl => Lf.ok_anti (h l hl) hh
  | tup ss => exact fun s hs' l hl => Lf.ok_anti (h s hs' l hl) hh
  | fn f ls => exact fun l hl => Lf.ok_anti (h l hl) hh


/-! What is known in every world that the region may come to -/
theorem SV.ok_iff {P : Program} {w : World} {O : Nat → Nat → Prop} {Γ : Env} {s : SV} : s.ok P w O Γ ↔ ∀ l ∈ s.cells, l.ok P w O Γ := by
  cases s with
  | one s => exact Iff.rfl
  | tup ss =>
    constructor
    · intro h l hl
      obtain ⟨s, hs, hl⟩ := List.mem_flatMap.1 hl
      exact h s hs l hl
    · intro h s hs l hl
      exact h l (List.mem_flatMap.2 ⟨s, hs, hl⟩)
  | fn f ls => exact Iff.rfl
theorem SV.wf_cells {n nb : Nat} {s : SV} (h : s.wf n nb = true) : ∀ l ∈ s.cells, l.wf n nb = true := by
  cases s with
  | one s => exact S0.wf_cells h
  | tup ss =>
    intro l hl
    obtain ⟨s, hs, hl⟩ := List.mem_flatMap.1 hl
    exact S0.wf_cells (List.all_eq_true.1 h s hs) l hl
  | fn f ls => exact fun l hl => List.all_eq_true.1 h l hl
def St.slLeaves (st : St) : List Lf := st.sl.flatMap fun p => match look st.sl p.1 with | some sv => sv.cells | none => []
def St.leaves (st : St) : List Lf := st.slLeaves ++ st.mem.flatMap fun p => match look st.mem p.1 with | some mb => mb.2 | none => []
def knows (L : List Lf) (l : Lf) : Bool :=
  match l with
  | .arr te a => L.any (sameL (.arr te a))
  | .elp te _ a _ _ => L.any (sameL (.arr te a))
  | _ => true
theorem knows_ok {P : Program} {w w' : World} {O O' : Nat → Nat → Prop} {Γ : Env} {L : List Lf} (hL : ∀ l ∈ L, l.ok P w O Γ) {l : Lf} (hk : knows L l = true) (h : l.ok P w' O' Γ) : l.ok P w O Γ := by
  cases l with
  | arr te a =>
    obtain ⟨m, hm, e⟩ := List.any_eq_true.1 hk
    rw [sameL_eq e]; exact hL m hm
  | elp te sz a x o =>
    obtain ⟨m, hm, e⟩ := List.any_eq_true.1 hk
    have := hL m hm
    rw [← sameL_eq e] at this
    exact ⟨this, h.2⟩
  | _ => exact h
theorem look_mem' {α : Type} : ∀ {l : List (Nat × Option α)} {t : Nat} {v : α}, look l t = some v → ∃ p ∈ l, p.1 = t
  | [], _, _, h => by cases h
  | (k, u) :: l, t, v, h => by
    simp only [look] at h
    split at h
    · rename_i e; exact ⟨(k, u), by simp, e⟩
    · obtain ⟨p, hp, e⟩ := look_mem' h; exact ⟨p, by simp [hp], e⟩
theorem St.slLeaves_mem {st : St} {t : Nat} {sv : SV} (h : look st.sl t = some sv) : ∀ l ∈ sv.cells, l ∈ st.slLeaves := fun l hl => by
  obtain ⟨p, hp, rfl⟩ := look_mem' h
  exact List.mem_flatMap.2 ⟨p, hp, by rw [h]; exact hl⟩
theorem Sat.slLeaves_ok {P : Program} {F : Nat → Prop} {w0 : World} {Γ : Env} {st : St} {a : Act} {w : World} (h : Sat P F w0 Γ st a w) : ∀ l ∈ st.slLeaves, l.ok P w (Own Γ st) Γ := fun l hl => by
  obtain ⟨p, hp, hl⟩ := List.mem_flatMap.1 hl
  split at hl
  · rename_i sv hsv; exact SV.ok_iff.1 (h.slots _ _ hsv).2 l hl
  · cases hl
theorem Sat.leaves_ok {P : Program} {F : Nat → Prop} {w0 : World} {Γ : Env} {st : St} {a : Act} {w : World} (h : Sat P F w0 Γ st a w) : ∀ l ∈ st.leaves, l.ok P w (Own Γ st) Γ := fun l hl => by
  rcases List.mem_append.1 hl with hl | hl
  · exact h.slLeaves_ok l hl
  · obtain ⟨p, hp, hl⟩ := List.mem_flatMap.1 hl
    split at hl
    · rename_i mb hmb; exact (h.mem _ _ hmb).2.1 l hl
    · cases hl
theorem Sat.leaves_wf {P : Program} {F : Nat → Prop} {w0 : World} {Γ : Env} {st : St} {a : Act} {w : World} (h : Sat P F w0 Γ st a w) (hw : st.wf = true) : ∀ l ∈ st.leaves, l.wf Γ.ρ.length Γ.nb = true := fun l hl => by
  rcases List.mem_append.1 hl with hl | hl
  · obtain ⟨p, hp, hl⟩ := List.mem_flatMap.1 hl
    split at hl
    · rename_i sv hsv; exact SV.wf_cells (h.wf_slot hw hsv) l hl
    · cases hl
  · obtain ⟨p, hp, hl⟩ := List.mem_flatMap.1 hl
    split at hl
    · rename_i mb hmb; exact List.all_eq_true.1 (h.wf_mem hw hmb) l hl
    · cases hl

/-- Without these blocks and slices. -/
def St.hide (st : St) (M : List Pl) : St :=
  { st with mem := M.foldl (fun m p => match p with | .blk b => (b, none) :: m | _ => m) st.mem, vec := M.foldl (fun m p => match p with | .vec b => (b, none) :: m | _ => m) st.vec }
theorem look_hideF {α : Type} {f : Pl → Option Nat} : ∀ (l : List Pl) (sl : List (Nat × Option α)) (t : Nat) (v : α), look (l.foldl (fun m p => match f p with | some b => (b, none) :: m | none => m) sl) t = some v → look sl t = some v
  | [], _, _, _, h => h
  | p :: l, sl, t, v, h => by
    have := look_hideF l _ t v h
    simp only [] at this
    split at this
    · simp only [look] at this
      split at this
      · cases this
      · exact this
    · exact this
theorem look_hideM {α : Type} (l : List Pl) (sl : List (Nat × Option α)) (t : Nat) (v : α) (h : look (l.foldl (fun m p => match p with | .blk b => (b, none) :: m | _ => m) sl) t = some v) : look sl t = some v := by
  refine look_hideF (f := fun p => match p with | .blk b => some b | _ => none) l sl t v ?_
  rw [← h]
  congr 1
  congr 1
  funext m p
  cases p <;> rfl
theorem look_hideV {α : Type} (l : List Pl) (sl : List (Nat × Option α)) (t : Nat) (v : α) (h : look (l.foldl (fun m p => match p with | .vec b => (b, none) :: m | _ => m) sl) t = some v) : look sl t = some v := by
  refine look_hideF (f := fun p => match p with | .vec b => some b | _ => none) l sl t v ?_
  rw [← h]
  congr 1
  congr 1
  funext m p
  cases p <;> rfl
/-- What of a state is known in each of the region's worlds. -/
def clsOf (h st : St) : St :=
  { st with sl := st.sl.map fun p => (p.1, match p.2 with | some sv => if sv.cells.all (knows h.leaves) then some sv else none | none => none), mem := h.mem, vec := h.vec, clo := h.clo }
theorem look_cls {L : List Lf} : ∀ {l : List (Nat × Option SV)} {t : Nat} {sv : SV}, look (l.map fun p => (p.1, match p.2 with | some sv => if sv.cells.all (knows L) then some sv else none | none => none)) t = some sv → look l t = some sv ∧ sv.cells.all (knows L) = true
  | [], _, _, h => by cases h
  | (k, u) :: l, t, sv, h => by
    simp only [List.map_cons, look] at h ⊢
    split at h
    · rename_i e
      rw [if_pos e]
      cases u with
      | none => cases h
      | some x =>
        simp only [] at h
        split at h
        · rename_i hx; cases h; exact ⟨rfl, hx⟩
        · cases h
    · rename_i e
      rw [if_neg e]
      exact look_cls h
/-- All slices of one's own, all function values are still known, alike. -/
def coversV (h st : St) : Bool :=
  (h.vec.all fun p => match look h.vec p.1 with
    | none => true
    | some e => match look st.vec p.1 with
      | some e' => Nat.beq e.1 e'.1 && decide (e.2 = e'.2)
      | none => false) &&
  (h.clo.all fun p => match look h.clo p.1 with
    | none => true
    | some e => match look st.clo p.1 with
      | some e' => Nat.beq e.1 e'.1 && same0s e.2.1 e'.2.1 && sameLs e.2.2 e'.2.2
      | none => false)
theorem coversV_vec {h st : St} (hc : coversV h st = true) {i : Nat} {e : TypeId × E} (hi : look h.vec i = some e) : look st.vec i = some e := by
  simp only [coversV, Bool.and_eq_true] at hc
  obtain ⟨p, hp, rfl⟩ := look_mem' hi
  have := List.all_eq_true.1 hc.1 p hp
  rw [hi] at this
  simp only [] at this
  split at this
  · rename_i e' he'
    simp only [Bool.and_eq_true, decide_eq_true_eq] at this
    rw [he']
    exact congrArg some (Prod.ext (Nat.eq_of_beq_eq_true this.1).symm this.2.symm)
  · cases this
theorem coversV_clo {h st : St} (hc : coversV h st = true) {i : Nat} {e : Nat × List S0 × List Lf} (hi : look h.clo i = some e) : look st.clo i = some e := by
  simp only [coversV, Bool.and_eq_true] at hc
  obtain ⟨p, hp, rfl⟩ := look_mem' hi
  have := List.all_eq_true.1 hc.2 p hp
  rw [hi] at this
  simp only [] at this
  split at this
  · rename_i e' he'
    simp only [Bool.and_eq_true] at this
    rw [he']
    exact congrArg some (Prod.ext (Nat.eq_of_beq_eq_true this.1.1).symm (Prod.ext (same0s_eq this.1.2).symm (sameLs_eq this.2).symm))
  · cases this
def covers (h st : St) : Bool :=
  (h.mem.all fun p => match look h.mem p.1 with
    | none => true
    | some mb => match look st.mem p.1 with
      | some mb' => Nat.beq mb.1 mb'.1 && sameLs mb.2 mb'.2
      | none => false) &&
  coversV h st && h.slLeaves.all (knows st.leaves)
/-- The class of worlds. -/
def Kept (P : Program) (F : Nat → Prop) (w0 : World) (Γ0 : Env) (h : St) (a0 : Act) (w : World) : Prop := Sat P F w0 Γ0 h a0 w
theorem Kept.start {P : Program} {F : Nat → Prop} {w0 : World} {Γ : Env} {st : St} {a : Act} {w : World} (h : Sat P F w0 Γ st a w) {M : List Pl} : Kept P F w0 Γ (st.hide M) a w := by
  have hhold : ∀ s j b, Hold Γ (st.hide M) s j b → Hold Γ st s j b := fun s j b hh =>
    Hold.congr (Γ := Γ) (st := st) (Γ' := Γ) (st' := st.hide M) (fun j mb hj => ⟨⟨mb, look_hideM M _ _ _ hj⟩, rfl⟩) (fun i e hi => ⟨⟨e, look_hideV M _ _ _ hi⟩, rfl⟩) hh
  have hown : ∀ x o, Own Γ (st.hide M) x o → Own Γ st x o := fun x o hx => by
    rcases Own.iff.1 hx with hx | ⟨s, j, hh⟩
    · exact .inl hx
    · exact (hhold s j x hh).own o
  have ht : Turn w w (Own Γ st) (Own Γ (st.hide M)) := ⟨Nat.le_refl _, fun b o _ hno => ⟨rfl, fun ho => hno (hown b o ho)⟩⟩
  refine ⟨h.slots_keep ht, h.size, fun b mb hb => ?_, fun i e hi => ?_, h.clo_keep ht, fun s j s' j' b h1 h2 => h.inj _ _ _ _ _ (hhold _ _ _ h1) (hhold _ _ _ h2), h.keeps, h.fold, h.base, h.defers, h.len, h.nb, h.num⟩
  · obtain ⟨h1, h2, h3, h4⟩ := h.mem b mb (look_hideM M _ _ _ hb)
    exact ⟨h1, fun l hl => Lf.ok_anti (h2 l hl) hown, h3, h4⟩
  · obtain ⟨h1, h2, h3⟩ := h.vec i e (look_hideV M _ _ _ hi)
    exact ⟨h1.anti hown, h2, h3⟩
section
variable {P : Program} {F : Nat → Prop} {w0 : World} {Γ0 Γ : Env} {h st : St} {a0 a : Act} {w w' : World}
theorem Kept.down (hS : Kept P F w0 Γ0 h a0 w') (hs : Sat P F w0 Γ st a w) (he : Ext Γ0 Γ) (hw : h.wf = true) (hc : covers h st = true) : Kept P F w0 Γ0 h a0 w := by
  simp only [covers, Bool.and_eq_true] at hc
  obtain ⟨⟨c1, c2⟩, c3⟩ := hc
  have hnb0 : Γ0.nb = h.nb := hS.nb
  have mem' : ∀ b mb, look h.mem b = some mb → look st.mem b = some mb := by
    intro b mb hb
    obtain ⟨p, hp, rfl⟩ := look_mem' hb
    have := List.all_eq_true.1 c1 p hp
    rw [hb] at this
    simp only [] at this
    split at this
    · rename_i mb' hmb'
      simp only [Bool.and_eq_true] at this
      rw [hmb']
      exact congrArg some (Prod.ext (Nat.eq_of_beq_eq_true this.1).symm (sameLs_eq this.2).symm)
    · cases this
  have hat : ∀ i e, look h.vec i = some e → at_ Γ.ρ i = at_ Γ0.ρ i := fun i e hi => hS.vec_at he hi
  have hown : ∀ x o, Own Γ0 h x o → Own Γ st x o := by
    intro x o hx
    rcases Own.iff.1 hx with hx | ⟨s, j, hh⟩
    · exact .inl (by rw [he.base]; exact hx)
    · rcases hh.inv with ⟨rfl, mb, hj, rfl⟩ | ⟨rfl, e, hj, hb⟩
      · have := (hS.mem j mb hj).2.2.2
        have e1 : Γ.blk j = Γ0.blk j := he.blk j (by omega)
        rw [← e1]
        exact (Hold.mem (Γ := Γ) (mem' j mb hj)).own o
      · exact (Hold.vec (Γ := Γ) (coversV_vec c2 hj) (by rw [hat j e hj]; exact hb)).own o
  have leaf : ∀ l : Lf, l.wf Γ0.ρ.length Γ0.nb = true → l.ok P w (Own Γ st) Γ → l.ok P w (Own Γ0 h) Γ0 := fun l hl ho => Lf.ok_anti (Lf.ok_unext he hl ho) hown
  refine ⟨fun t sv hsv => ?_, hS.size, fun b mb hb => ?_, fun i e hi => ?_, fun i e hi => ?_, hS.inj, hs.keeps, hS.fold, fun x o hx => hs.base x o (by rw [he.base]; exact hx), hS.defers, hS.len, hS.nb, hS.num⟩
  · obtain ⟨h1, h2⟩ := hS.slots t sv hsv
    have hwf := SV.wf_cells (hS.wf_slot hw hsv)
    refine ⟨h1, SV.ok_iff.2 fun l hl => leaf l (hwf l hl) ?_⟩
    refine knows_ok hs.leaves_ok (List.all_eq_true.1 c3 l (St.slLeaves_mem hsv l hl)) (w' := w') ?_ (O' := Own Γ0 h)
    exact Lf.ok_ext he (hwf l hl) (SV.ok_iff.1 h2 l hl)
  · obtain ⟨h1, h2, h3, h4⟩ := hS.mem b mb hb
    obtain ⟨k1, k2, k3, k4⟩ := hs.mem b mb (mem' b mb hb)
    have hwf := hS.wf_mem hw hb
    have hblk : Γ.blk b = Γ0.blk b := he.blk b (by omega)
    refine ⟨?_, fun l hl => leaf l (List.all_eq_true.1 hwf l hl) (k2 l hl), h3, h4⟩
    rw [← dens_ext he mb.2 hwf]
    rw [hblk] at k1
    exact k1
  · obtain ⟨h1, h2, h3⟩ := hS.vec i e hi
    obtain ⟨k1, k2, k3⟩ := hs.vec i e (coversV_vec c2 hi)
    refine ⟨?_, h2, h3⟩
    obtain ⟨m, hm⟩ := he.ρ
    rw [hat i e hi, hm, E.ev_ext _ (hS.wf_vec hw hi)] at k1
    exact k1.anti hown
  · obtain ⟨h1, h2, h3⟩ := hS.clo i e hi
    obtain ⟨k1, k2, k3⟩ := hs.clo i e (coversV_clo c2 hi)
    obtain ⟨f1, f2, f3⟩ := hS.wf_clo hw hi
    exact ⟨h1, fun s hs' l hl => leaf l (S0.wf_cells (List.all_eq_true.1 f2 s hs') l hl) (k2 s hs' l hl), fun l hl => leaf l (List.all_eq_true.1 f3 l hl) (k3 l hl)⟩
theorem Kept.up (hS : Kept P F w0 Γ0 h a0 w') (hs : Sat P F w0 Γ st a w) (he : Ext Γ0 Γ) (hw : h.wf = true) : Sat P F w0 Γ (clsOf h st) a w' := by
  have hnb0 : Γ0.nb = h.nb := hS.nb
  have hblk : ∀ b mb, look h.mem b = some mb → Γ.blk b = Γ0.blk b := fun b mb hb => he.blk b (by have := (hS.mem b mb hb).2.2.2; omega)
  have hat : ∀ i e, look h.vec i = some e → at_ Γ.ρ i = at_ Γ0.ρ i := fun i e hi => hS.vec_at he hi
  have hhold : ∀ s j b, Hold Γ (clsOf h st) s j b → Hold Γ0 h s j b := fun s j b hh =>
    Hold.congr (Γ := Γ0) (st := h) (Γ' := Γ) (st' := clsOf h st) (fun j mb hj => ⟨⟨mb, hj⟩, hblk j mb hj⟩) (fun i e hi => ⟨⟨e, hi⟩, hat i e hi⟩) hh
  have hown : ∀ x o, Own Γ (clsOf h st) x o → Own Γ0 h x o := fun x o hx => by
    rcases Own.iff.1 hx with hx | ⟨s, j, hh⟩
    · exact .inl (by rw [← he.base]; exact hx)
    · exact (hhold s j x hh).own o
  have hL : ∀ l ∈ h.leaves, l.ok P w' (Own Γ (clsOf h st)) Γ := fun l hl => Lf.ok_anti (Lf.ok_ext he (hS.leaves_wf hw l hl) (hS.leaves_ok l hl)) hown
  have hle : h.nx ≤ st.nx := by rw [← hs.len, ← hS.len]; exact he.len
  refine ⟨fun t sv hsv => ?_, hs.size, fun b mb hb => ?_, fun i e hi => ?_, fun i e hi => ?_, fun s j s' j' b h1 h2 => hS.inj _ _ _ _ _ (hhold _ _ _ h1) (hhold _ _ _ h2), hS.keeps, hS.fold, fun x o hx => hS.base x o (by rw [← he.base]; exact hx), hs.defers, hs.len, hs.nb, hs.num⟩
  · obtain ⟨h1, h2⟩ := look_cls hsv
    obtain ⟨h3, h4⟩ := hs.slots t sv h1
    exact ⟨h3, SV.ok_iff.2 fun l hl => knows_ok hL (List.all_eq_true.1 h2 l hl) (SV.ok_iff.1 h4 l hl)⟩
  · have hb' : look h.mem b = some mb := hb
    obtain ⟨h1, h2, h3, h4⟩ := hS.mem b mb hb'
    have hwf := hS.wf_mem hw hb'
    have e1 : Γ.blk b = Γ0.blk b := hblk b mb hb'
    refine ⟨?_, fun l hl => Lf.ok_anti (Lf.ok_ext he (List.all_eq_true.1 hwf l hl) (h2 l hl)) hown, ?_, ?_⟩
    · rw [e1, dens_ext he mb.2 hwf]; exact h1
    · rw [e1]; exact h3
    · have := he.nb
      have := hs.nb
      show b < st.nb
      omega
  · have hi' : look h.vec i = some e := hi
    obtain ⟨h1, h2, h3⟩ := hS.vec i e hi'
    obtain ⟨m, hm⟩ := he.ρ
    refine ⟨?_, Nat.lt_of_lt_of_le h2 hle, fun b hb => ?_⟩
    · rw [hat i e hi', hm, E.ev_ext _ (hS.wf_vec hw hi')]
      exact h1.anti hown
    · rw [hat i e hi'] at hb
      exact ⟨(h3 b hb).1, fun o ho => (h3 b hb).2 o (by rw [← he.base]; exact ho)⟩
  · have hi' : look h.clo i = some e := hi
    obtain ⟨h1, h2, h3⟩ := hS.clo i e hi'
    obtain ⟨f1, f2, f3⟩ := hS.wf_clo hw hi'
    obtain ⟨m, hm⟩ := he.ρ
    refine ⟨?_, fun s hs' l hl => Lf.ok_anti (S0.ok_ext he (List.all_eq_true.1 f2 s hs') (h2 s hs') l hl) hown, fun l hl => Lf.ok_anti (Lf.ok_ext he (List.all_eq_true.1 f3 l hl) (h3 l hl)) hown⟩
    rw [hm, at_ext f1, h1, List.map_congr_left fun s hs' => S0.den_ext he s (List.all_eq_true.1 f2 s hs'), List.map_congr_left fun l hl => Lf.den_ext he l (List.all_eq_true.1 f3 l hl)]
end

/-! The executor -/
inductive Gd where
  | go
  | no
  | ask (d : Nat) (b : B)
  | bad
def gd (ops : Array Oper) (st : St) (o : Oper) : Gd :=
  match o.guard with
  | none => .go
  | some (j, want) => match (ops[j]?).bind (·.dst) with
    | none => .bad
    | some d => match st.lf (.tmp d) with
      | some (.bool (.lit v)) => if v = want then .go else .no
      | some (.bool b) => .ask d b
      | some (.cst v) => if isB v then .bad else .no
      | _ => .bad
def readsOnly (o : Oper) : Bool :=
  match o.op with
  | .move _ | .assign _ | .pick .. | .load .. | .binOp .. | .unOp .. | .fieldAddr .. | .field .. | .indexAddr .. | .build .. | .extract .. | .nilCheck _ => true
  | .call c => match c.callee with
    | .builtin _ => true
    | _ => false
  | _ => false
/-! In whatever order: a condition on the world may end with the last operation, where that one waits for all others -/
def edgeTo (ops : Array Oper) (m a : Nat) : Bool :=
  match ops[m]? with
  | some o => o.after.any fun e => Region.binds .any e && Nat.beq e.on a
  | none => false
def waitsAll (ops : Array Oper) : List Nat → List Nat → Bool
  | _, [] => true
  | seen, a :: l => seen.any (fun m => edgeTo ops m a) && waitsAll ops (a :: seen) l
def sinkLast (ops : Array Oper) : Bool :=
  waitsAll ops [ops.size - 1] (List.range (ops.size - 1)).reverse && match ops[ops.size - 1]? with
    | some o => !readsOnly o
    | none => false
def Closed (ops : Array Oper) (L : Array Bool) : Prop := ∀ j o, ops[j]? = some o → L.getD j false = true → ∀ e ∈ o.after, Region.binds .any e = true → L.getD e.on false = true
section
variable {P : Program} {ops : Array Oper} {Q : Exit → Act → World → Prop} {S : Array Bool → World → Prop} {S0 : World → Prop}
theorem Closed.set {L : Array Bool} (h : Closed ops L) {j : Nat} (hj : j ∈ Region.ready .any ops L) : Closed ops (L.setIfInBounds j true) := by
  intro k o ho hk e he hb
  obtain ⟨-, oj, hoj, hw⟩ := mem_ready.1 hj
  by_cases hkj : j = k
  · subst hkj
    rw [hoj] at ho
    cases ho
    exact getD_set_true (hw e he hb)
  · rw [getD_set_ne false hkj] at hk
    exact getD_set_true (h k o ho hk e he hb)
theorem waitsAll_listed {L : Array Bool} (hc : Closed ops L) : ∀ (l seen : List Nat), (∀ m ∈ seen, L.getD m false = true) → waitsAll ops seen l = true → ∀ a ∈ l, L.getD a false = true
  | [], _, _, _, _, h => by cases h
  | b :: l, seen, hs, hw, a, ha => by
    simp only [waitsAll, Bool.and_eq_true] at hw
    have hb : L.getD b false = true := by
      obtain ⟨m, hm, he⟩ := List.any_eq_true.1 hw.1
      unfold edgeTo at he
      split at he
      · rename_i o ho
        obtain ⟨e, he1, he2⟩ := Array.any_eq_true'.1 he
        simp only [Bool.and_eq_true] at he2
        have := hc m o ho (hs m hm) e he1 he2.1
        rwa [Nat.eq_of_beq_eq_true he2.2] at this
      · cases he
    rcases List.mem_cons.1 ha with rfl | ha
    · exact hb
    · exact waitsAll_listed hc l (b :: seen) (fun m hm => (List.mem_cons.1 hm).elim (fun e => e ▸ hb) (hs m)) hw.2 a ha
theorem sinkLast_listed {L : Array Bool} (hc : Closed ops L) (hs : sinkLast ops = true) (hl : L.getD (ops.size - 1) false = true) {i : Nat} (hi : i < ops.size) : L.getD i false = true := by
  simp only [sinkLast, Bool.and_eq_true] at hs
  by_cases h : i = ops.size - 1
  · rw [h]; exact hl
  · exact waitsAll_listed hc _ _ (fun m hm => by simp at hm; rw [hm]; exact hl) hs.1 i (by simp; omega)
/-- What is asked of the world when these have come. -/
def Until (ops : Array Oper) (S0 : World → Prop) (L : Array Bool) (w : World) : Prop := (sinkLast ops = true → L.getD (ops.size - 1) false = false) → S0 w
theorem Until.of {L : Array Bool} {w : World} (h : Until ops S0 L w) (hc : Closed ops L) {i : Nat} (hi : i < ops.size) (hL : L.getD i false = false) : S0 w := h fun hs => by
  cases hx : L.getD (ops.size - 1) false with
  | false => rfl
  | true => have := sinkLast_listed hc hs hx hi; rw [hL] at this; cases this
/-- Whatever is picked, what is asked of the world holds. -/
def Picks (P : Program) (ops : Array Oper) (Q : Exit → Act → World → Prop) (S : Array Bool → World → Prop) : Nat → Array Bool → Act → World → Prop
  | 0, L, a, w => Region.ready .any ops L = [] ∧ Q .normal a w
  | n + 1, L, a, w => (Region.ready .any ops L = [] → Q .normal a w) ∧ ∀ i ∈ Region.ready .any ops L, wpOp P ops Q i (fun a' w' => S (L.setIfInBounds i true) w' ∧ Picks P ops Q S n (L.setIfInBounds i true) a' w') a w
theorem Picks.any : ∀ {n : Nat} {L : Array Bool} {a : Act} {w : World}, Picks P ops Q S n L a w → wpAny P .any ops Q n L a w
  | 0, _, _, _, h => h
  | _ + 1, _, _, _, h => ⟨h.1, fun i hi => wpOp_mono (fun _ _ h' => Picks.any h'.2) (h.2 i hi)⟩
theorem Picks.over {L : Array Bool} {a : Act} {w : World} (hr : Region.ready .any ops L = []) (h : Q .normal a w) : ∀ n, Picks P ops Q S n L a w
  | 0 => ⟨hr, h⟩
  | _ + 1 => ⟨fun _ => h, by rw [hr]; intro i hi; cases hi⟩
/-- One that yields its value in every such world may be taken ahead of all that are apart from it. -/
theorem Picks.first {i : Nat} {o : Oper} {v : Value} (ho : ops[i]? = some o) (hro : readsOnly o = true) (hsel : Region.noSelect ops = true) (hQ : ∀ c a w, ¬ Q (.panic c) a w) :
    ∀ (n : Nat) (L : Array Bool) (a : Act) (w : World), Closed ops L → S0 w → YieldsIf P ops S0 o v a → i ∈ Region.ready .any ops L →
    (∀ j oj, ops[j]? = some oj → j ≠ i → L.getD j true = false → (∀ e ∈ oj.after, Region.binds .any e = true → e.on ≠ i) → o.apart ops oj = true) →
    Picks P ops Q (Until ops S0) n (L.setIfInBounds i true) (a.put o.dst v) w → Picks P ops Q (Until ops S0) (n + 1) L a w := by
  have ns := Region.noSelect_spec hsel
  have hisz : i < ops.size := (Array.getElem?_eq_some_iff.1 ho).1
  have hlast : sinkLast ops = true → i ≠ ops.size - 1 := fun hs e => by
    simp only [sinkLast, Bool.and_eq_true] at hs
    rw [← e, ho] at hs
    simp [hro] at hs
  intro n
  induction n with
  | zero =>
    intro L a w hc hS hy hr hap h
    refine ⟨fun e => absurd hr (by rw [e]; simp), fun j hj => ?_⟩
    rcases Decidable.em (j = i) with rfl | hne
    · exact hy.wpOp ho hS ⟨fun _ => hS, h⟩
    · have := ready_mono hj hne
      rw [h.1] at this
      cases this
  | succ n ih =>
    intro L a w hc hS hy hr hap h
    refine ⟨fun e => absurd hr (by rw [e]; simp), fun j hj => ?_⟩
    rcases Decidable.em (j = i) with rfl | hne
    · exact hy.wpOp ho hS ⟨fun _ => hS, h⟩
    · obtain ⟨hjL, oj, hoj, hjw⟩ := mem_ready.1 hj
      obtain ⟨hiL, -⟩ := mem_ready.1 hr
      have hni : L.getD i false = false := getD_both hiL
      have hjap := hap j oj hoj hne hjL fun e he hb heq => by
        have := hjw e he hb
        rw [heq, hni] at this
        cases this
      have hc' := hc.set hj
      have hni' : (L.setIfInBounds j true).getD i false = false := by rw [getD_set_ne false hne]; exact hni
      refine wpOp_mono (fun a' w' hx => ?_) (wpOp_putIf hoj hjap (fun cs b => ns i o cs b ho) (fun cs b => ns j oj cs b hoj) (fun c a w hq => absurd hq (hQ c _ w)) hy (h.2 j (ready_mono hj hne)))
      obtain ⟨hy', hSx, hrest⟩ := hx
      rw [Array.setIfInBounds_comm _ _ (Ne.symm hne)] at hSx hrest
      have hS' : S0 w' := hSx fun hs => by
        rw [getD_set_ne false (hlast hs)]
        cases hx : (L.setIfInBounds j true).getD (ops.size - 1) false with
        | false => rfl
        | true => have := sinkLast_listed hc' hs hx hisz; rw [hni'] at this; cases this
      refine ⟨fun _ => hS', ih _ a' w' hc' hS' hy' (ready_mono hr (Ne.symm hne)) (fun k ok hk hki hun hno => hap k ok hk hki ?_ hno) hrest⟩
      by_cases hjk : j = k
      · rw [← hjk]; exact hjL
      · rw [getD_set_ne true hjk] at hun; exact hun
end

def freeAt (cx : Cx) (ops : Array Oper) (h st : St) (listed : Array Bool) (i : Nat) : Bool :=
  match ops[i]? with
  | some o => readsOnly o && Region.free .any ops listed i && match gd ops st o with
    | .no => true
    | .go => (opVal cx.P (clsOf h st) o).isSome
    | _ => false
  | none => false
def askAt (ops : Array Oper) (st : St) (i : Nat) : Option (Nat × B) :=
  match ops[i]? with
  | some o => match gd ops st o with
    | .ask d b => some (d, b)
    | _ => none
  | none => none
def bothObs (a b : List B) : List B := if a = b then a else a ++ b
theorem bothObs_ok {ρ : List C} {a b : List B} (h : Obs ρ (bothObs a b)) : Obs ρ a ∧ Obs ρ b := by
  unfold bothObs at h
  split at h
  · rename_i e; subst e; exact ⟨h, h⟩
  · exact ⟨fun x hx => h x (by simp [hx]), fun x hx => h x (by simp [hx])⟩
def sameRs : List (List Lf) → List (List Lf) → Bool
  | [], [] => true
  | a :: l, b :: m => sameLs a b && sameRs l m
  | _, _ => false
theorem sameRs_eq : ∀ {a b : List (List Lf)}, sameRs a b = true → a = b
  | [], [], _ => rfl
  | [], _ :: _, h => by cases h
  | _ :: _, [], h => by cases h
  | a :: l, b :: m, h => by
    simp only [sameRs, Bool.and_eq_true] at h
    rw [sameLs_eq h.1, sameRs_eq h.2]
def sameT : Tree → Tree → Bool
  | .ret l, .ret m => sameLs l m
  | .split b t e, .split c u f => decide (b = c) && (sameT t u && sameT e f)
  | .ob b t, .ob c u => decide (b = c) && sameT t u
  | .call f l t, .call g m u => Nat.beq f g && (sameLs l m && sameT t u)
  | .loop ks l t, .loop js m u => decide (ks = js) && (sameLs l m && sameT t u)
  | .back n l, .back k m => Nat.beq n k && sameLs l m
  | .arr l t, .arr m u => sameRs l m && sameT t u
  | .dfn e t, .dfn f u => decide (e = f) && sameT t u
  | .mk e l t, .mk f m u => decide (e = f) && (sameLs l m && sameT t u)
  | .cat a b t, .cat c d u => decide (a = c) && (decide (b = d) && sameT t u)
  | .upd a x o l t, .upd b y p m u => decide (a = b) && (decide (x = y) && (Nat.beq o p && (sameLs l m && sameT t u)))
  | .fail n l, .fail k m => Nat.beq n k && decide (l = m)
  | .both a b, .both c d => sameT a c && sameT b d
  | .join ks a b, .join js c d => decide (ks = js) && (sameT a c && sameT b d)
  | _, _ => false
theorem sameT_eq : ∀ {a b : Tree}, sameT a b = true → a = b := by
  intro a
  induction a with
  | ret l => intro b h; cases b <;> first | (simp only [sameT] at h; rw [sameLs_eq h]) | cases h
  | split b t e iht ihe =>
    intro b h
    cases b <;> first | (simp only [sameT, Bool.and_eq_true, decide_eq_true_eq] at h; obtain ⟨h1, h2, h3⟩ := h; rw [h1, iht h2, ihe h3]) | cases h
  | ob b t ih => intro b h; cases b <;> first | (simp only [sameT, Bool.and_eq_true, decide_eq_true_eq] at h; obtain ⟨h1, h2⟩ := h; rw [h1, ih h2]) | cases h
  | call f l t ih => intro b h; cases b <;> first | (simp only [sameT, Bool.and_eq_true] at h; obtain ⟨h1, h2, h3⟩ := h; rw [Nat.eq_of_beq_eq_true h1, sameLs_eq h2, ih h3]) | cases h
  | loop ks l t ih => intro b h; cases b <;> first | (simp only [sameT, Bool.and_eq_true, decide_eq_true_eq] at h; obtain ⟨h1, h2, h3⟩ := h; rw [h1, sameLs_eq h2, ih h3]) | cases h
  | back n l => intro b h; cases b <;> first | (simp only [sameT, Bool.and_eq_true] at h; obtain ⟨h1, h2⟩ := h; rw [Nat.eq_of_beq_eq_true h1, sameLs_eq h2]) | cases h
  | arr l t ih => intro b h; cases b <;> first | (simp only [sameT, Bool.and_eq_true] at h; obtain ⟨h1, h2⟩ := h; rw [sameRs_eq h1, ih h2]) | cases h
  | dfn e t ih => intro b h; cases b <;> first | (simp only [sameT, Bool.and_eq_true, decide_eq_true_eq] at h; obtain ⟨h1, h2⟩ := h; rw [h1, ih h2]) | cases h
  | mk e l t ih => intro b h; cases b <;> first | (simp only [sameT, Bool.and_eq_true, decide_eq_true_eq] at h; obtain ⟨h1, h2, h3⟩ := h; rw [h1, sameLs_eq h2, ih h3]) | cases h
  | cat x y t ih => intro b h; cases b <;> first | (simp only [sameT, Bool.and_eq_true, decide_eq_true_eq] at h; obtain ⟨h1, h2, h3⟩ := h; rw [h1, h2, ih h3]) | cases h
  | upd x y o l t ih => intro b h; cases b <;> first | (simp only [sameT, Bool.and_eq_true, decide_eq_true_eq] at h; obtain ⟨h1, h2, h3, h4, h5⟩ := h; rw [h1, h2, Nat.eq_of_beq_eq_true h3, sameLs_eq h4, ih h5]) | cases h
  | fail n l => intro b h; cases b <;> first | (simp only [sameT, Bool.and_eq_true, decide_eq_true_eq] at h; obtain ⟨h1, h2⟩ := h; rw [Nat.eq_of_beq_eq_true h1, h2]) | cases h
  | both x y ihx ihy => intro b h; cases b <;> first | (simp only [sameT, Bool.and_eq_true] at h; rw [ihx h.1, ihy h.2]) | cases h
  | join ks x y ihx ihy => intro b h; cases b <;> first | (simp only [sameT, Bool.and_eq_true, decide_eq_true_eq] at h; obtain ⟨h1, h2, h3⟩ := h; rw [h1, ihx h2, ihy h3]) | cases h
/-- What each of several ways comes to, where they come to one and the same. -/
def allSame : List (Option Tree) → Option Tree
  | [] => none
  | [x] => x
  | x :: y :: l => match x, allSame (y :: l) with
    | some a, some b => if sameT a b then some b else none
    | _, _ => none
theorem allSame_mem : ∀ {l : List (Option Tree)} {T : Tree}, allSame l = some T → ∀ x ∈ l, x = some T
  | [], _, h, _, _ => by cases h
  | [x], T, h, y, hy => by
    simp only [List.mem_cons, List.not_mem_nil, or_false] at hy
    rw [hy]; exact h
  | x :: y :: l, T, h, z, hz => by
    simp only [allSame] at h
    split at h
    · rename_i a b hb
      split at h
      · rename_i hs
        cases h
        rcases List.mem_cons.1 hz with rfl | hz
        · rw [sameT_eq hs]
        · exact allSame_mem hb z hz
      · cases h
    · cases h
def hasWay (a : Tree) : Tree → Bool
  | .both c d => hasWay a c || hasWay a d
  | c => sameT a c
def addWay : Tree → Tree → Tree
  | .both c d, b => addWay c (addWay d b)
  | a, b => if hasWay a b then b else .both a b
theorem hasWay_vc {cx : Cx} {R : List C → Prop} {ρ : List C} {Ls : List (List C → Prop)} {a : Tree} : ∀ {b : Tree}, hasWay a b = true → VC cx R b ρ Ls → VC cx R a ρ Ls := by
  intro b
  induction b with
  | both c d ihc ihd =>
    intro h hv
    simp only [hasWay, Bool.or_eq_true] at h
    rcases h with h | h
    · exact ihc h hv.1
    · exact ihd h hv.2
  | _ => intro h hv; simp only [hasWay] at h; rw [sameT_eq h]; exact hv
theorem addWay_vc {cx : Cx} {R : List C → Prop} {ρ : List C} {Ls : List (List C → Prop)} : ∀ {a b : Tree}, VC cx R (addWay a b) ρ Ls → VC cx R a ρ Ls ∧ VC cx R b ρ Ls := by
  intro a
  induction a with
  | both c d ihc ihd =>
    intro b h
    simp only [addWay] at h
    obtain ⟨h1, h2⟩ := ihc h
    obtain ⟨h3, h4⟩ := ihd h2
    exact ⟨⟨h1, h3⟩, h4⟩
  | _ =>
    intro b h
    simp only [addWay] at h
    split at h
    · rename_i hw; exact ⟨hasWay_vc hw h, h⟩
    · exact h
/-- What several ways come to: one and the same, or (mg) each by itself. -/
def merge (mg : Bool) : List (Option Tree) → Option Tree
  | [] => none
  | [x] => x
  | x :: y :: l => match x, merge mg (y :: l) with
    | some a, some b => if sameT a b then some b else if mg then some (addWay a b) else none
    | _, _ => none
theorem merge_mem {mg : Bool} : ∀ {l : List (Option Tree)} {T : Tree}, merge mg l = some T → ∀ x ∈ l, ∃ T', x = some T' ∧ ∀ {cx : Cx} {R : List C → Prop} {ρ : List C} {Ls : List (List C → Prop)}, VC cx R T ρ Ls → VC cx R T' ρ Ls
  | [], _, h, _, _ => by cases h
  | [x], T, h, y, hy => by
    simp only [List.mem_cons, List.not_mem_nil, or_false] at hy
    rw [hy]; exact ⟨T, h, fun h => h⟩
  | x :: y :: l, T, h, z, hz => by
    simp only [merge] at h
    split at h
    · rename_i a b hb
      split at h
      · rename_i hs
        cases h
        rcases List.mem_cons.1 hz with rfl | hz
        · exact ⟨a, rfl, fun hv => by rw [sameT_eq hs]; exact hv⟩
        · exact merge_mem hb z hz
      · split at h
        · cases h
          rcases List.mem_cons.1 hz with rfl | hz
          · exact ⟨a, rfl, fun hv => (addWay_vc hv).1⟩
          · obtain ⟨T', h1, h2⟩ := merge_mem hb z hz
            exact ⟨T', h1, fun hv => h2 (addWay_vc hv).2⟩
        · cases h
    · cases h
def execAny (cx : Cx) (ops : Array Oper) (mg : Bool) (h : St) (k : St → Option Tree) : Nat → Nat → Array Bool → St → Option Tree
  | 0, _, _, _ => none
  | f + 1, n, listed, st =>
    match Region.ready .any ops listed with
    | [] => k st
    | r :: rs => match (r :: rs).find? (freeAt cx ops h st listed) with
      | some i => match ops[i]?, n with
        | some o, n + 1 => if Region.free .any ops listed i then match gd ops st o with
          | .no => (st.skip ops o).bind fun st' => execAny cx ops mg h k f n (listed.setIfInBounds i true) st'
          | .go => match opVal cx.P st o, opVal cx.P (clsOf h st) o with
            | some (obs, sv), some (obs', sv') => if sameS sv sv' then
                ((st.learnAll (bothObs obs obs')).put o.dst (some sv)).bind fun st' => (execAny cx ops mg h k f n (listed.setIfInBounds i true) st').map (obT (bothObs obs obs'))
              else none
            | _, _ => none
          | _ => none
          else none
        | _, _ => none
      | none => match (r :: rs).findSome? (askAt ops st) with
        | some (d, b) => match st.lf (.tmp d) with
          | some (.bool b') => match execAny cx ops mg h k f n listed (st.know (some d) b' true), execAny cx ops mg h k f n listed (st.know (some d) b' false) with
            | some t, some e => some (.split b' t e)
            | _, _ => none
          | _ => none
        | none => match n with
          | n + 1 => merge mg ((r :: rs).map fun r => match ops[r]? with
            | some o => match gd ops st o with
              | .no => (st.skip ops o).bind fun st' => execAny cx ops mg h k f n (listed.setIfInBounds r true) st'
              | .go => doOpF cx st o fun st' => if (sinkLast ops && Nat.beq r (ops.size - 1)) || covers h st' then execAny cx ops mg h k f n (listed.setIfInBounds r true) st' else none
              | _ => none
            | none => none)
          | _ => none
section
variable {cx : Cx} {R : List C → Prop} {F : Nat → Prop} {w0 : World}
theorem gd_go {ops : Array Oper} {st : St} {o : Oper} {Γ : Env} {a : Act} {w : World} (hs : Sat cx.P F w0 Γ st a w) (h : gd ops st o = .go) : Region.wanted o (yielded ops a.tmps) = true := by
  unfold gd at h
  split at h
  · rename_i hg; simp [Region.wanted, hg]
  · rename_i j want hg
    split at h
    · cases h
    · rename_i d hd
      split at h
      · rename_i v hl
        have hy : yielded ops a.tmps j = some v := yielded_of hd (hs.tmp (St.lf_ev hl)).1
        split at h
        · rename_i hvw; simp [Region.wanted, hg, hy, hvw]
        · cases h
      · cases h
      · split at h <;> cases h
      · cases h
theorem gd_no {ops : Array Oper} {st : St} {o : Oper} {Γ : Env} {a : Act} {w : World} (hs : Sat cx.P F w0 Γ st a w) (h : gd ops st o = .no) : Region.wanted o (yielded ops a.tmps) = false := by
  unfold gd at h
  split at h
  · cases h
  · rename_i j want hg
    split at h
    · cases h
    · rename_i d hd
      split at h
      · rename_i v hl
        have hy : yielded ops a.tmps j = some v := yielded_of hd (hs.tmp (St.lf_ev hl)).1
        split at h
        · cases h
        · rename_i hvw; simp [Region.wanted, hg, hy, hvw]
      · cases h
      · rename_i v hl
        split at h
        · cases h
        · rename_i hb
          have hy := yielded_cst (v := v) hd (hs.tmp (St.lf_ev hl)).1 (by simpa using hb)
          simp [Region.wanted, hg, hy]
      · cases h
theorem execAny_sound (hcx : CxOK cx) {ops : Array Oper} {mg : Bool} (hsel : Region.noSelect ops = true) {h : St} (hwf : h.wf = true) {k : St → Option Tree} {Γ0 : Env} {a0 : Act} {Ls0 : List (List C → Prop)} {Q : Act → World → Prop}
    (hk : Next cx R F w0 k Γ0 Ls0 Q) : ∀ (f n : Nat) (listed : Array Bool) (st : St) (T : Tree), execAny cx ops mg h k f n listed st = some T → ∀ (Γ : Env) (Ls : List (List C → Prop)) (a : Act) (w : World), Ext Γ0 Γ → Ls0 <+: Ls → Sat cx.P F w0 Γ st a w → Closed ops listed → Until ops (Kept cx.P F w0 Γ0 h a0) listed w → Ls.length = st.lvl → VC cx R T Γ.ρ Ls →
    Picks cx.P ops (fun e a w => e = .normal ∧ Q a w) (Until ops (Kept cx.P F w0 Γ0 h a0)) n listed a w := by
  intro f
  induction f with
  | zero => intro n listed st T hT; cases hT
  | succ f ih =>
    intro n listed st T hT Γ Ls a w he hpre hs hcl hU hl hv
    simp only [execAny] at hT
    split at hT
    · rename_i hr
      exact Picks.over hr ⟨rfl, hk st T Γ Ls hT he hpre hl hv a w hs⟩ n
    · rename_i r rs hr
      split at hT
      · rename_i i hfind
        have hi : i ∈ Region.ready .any ops listed := by rw [hr]; exact List.mem_of_find?_eq_some hfind
        have hro : ∀ o, ops[i]? = some o → readsOnly o = true := fun o ho => by
          have := List.find?_some hfind
          unfold freeAt at this
          rw [ho] at this
          simp only [Bool.and_eq_true] at this
          exact this.1.1
        have hS : Kept cx.P F w0 Γ0 h a0 w := by
          obtain ⟨hiL, o, ho, -⟩ := mem_ready.1 hi
          exact hU.of hcl (Array.getElem?_eq_some_iff.1 ho).1 (getD_both hiL)
        have hcl' := hcl.set hi
        split at hT
        · rename_i o n' ho
          split at hT
          · rename_i hfr
            split at hT
            · rename_i hg
              cases hp : st.skip ops o with
              | none => simp [hp] at hT
              | some st' =>
                simp [hp] at hT
                exact Picks.first ho (hro o ho) hsel (fun c a w h => by cases h.1) _ _ _ _ hcl hS (.inr ⟨gd_no hs hg, rfl⟩) hi (Region.free_spec ho hfr)
                  (ih n' _ st' T hT Γ Ls _ w he hpre (hs.skip hp) hcl' (fun _ => hS) (by rw [St.skip_lvl hp]; exact hl) hv)
            · rename_i hg
              split at hT
              · rename_i obs sv obs' sv' h1 h2
                split at hT
                · rename_i hsame
                  have e := sameS_eq hsame
                  subst e
                  cases hp : (st.learnAll (bothObs obs obs')).put o.dst (some sv) with
                  | none => simp [hp] at hT
                  | some st' =>
                    cases hT' : execAny cx ops mg h k f n' (listed.setIfInBounds i true) st' with
                    | none => simp [hp, hT'] at hT
                    | some T' =>
                      simp [hp, hT'] at hT
                      subst hT
                      obtain ⟨hob, hv'⟩ := VC.obT hv
                      obtain ⟨o1, o2⟩ := bothObs_ok hob
                      have hok := (opVal_ok h1 (hs.view o.op.operands) o1).2
                      refine Picks.first ho (hro o ho) hsel (fun c a w h => by cases h.1) (v := sv.den Γ) _ _ _ _ hcl hS (.inl ⟨gd_go hs hg, fun w' hw' => ?_⟩) hi (Region.free_spec ho hfr)
                        (ih n' _ st' T' hT' Γ Ls _ w he hpre ((hs.learn hob).put hp hok) hcl' (fun _ => hS) (by rw [St.put_lvl hp]; exact hl) hv')
                      have hup := Kept.up hw' hs he hwf
                      exact (opVal_ok h2 (hup.view o.op.operands) o2).1
                · cases hT
              · cases hT
            · cases hT
          · cases hT
        · cases hT
      · split at hT
        · rename_i d b hask
          split at hT
          · rename_i b' hlf
            split at hT
            · rename_i t e ht he'
              cases hT
              by_cases hb : b'.den Γ.ρ = true
              · exact ih n listed _ t ht Γ Ls a w he hpre (hs.know hlf hb) hcl hU hl (hv.1 hb)
              · have hb' : b'.den Γ.ρ = false := by simpa using hb
                exact ih n listed _ e he' Γ Ls a w he hpre (hs.know hlf hb') hcl hU hl (hv.2 hb')
            · cases hT
          · cases hT
        · split at hT
          · rename_i n'
            refine ⟨fun e => (by rw [hr] at e; cases e), fun i hi => ?_⟩
            obtain ⟨T1, hT, hvT⟩ := merge_mem hT _ (List.mem_map_of_mem (by rw [← hr]; exact hi))
            replace hv := hvT hv
            clear hvT
            split at hT
            · rename_i o ho
              have hcl' := hcl.set hi
              have hlt : i < ops.size := by obtain ⟨-, o, ho, -⟩ := mem_ready.1 hi; exact (Array.getElem?_eq_some_iff.1 ho).1
              have hS : Kept cx.P F w0 Γ0 h a0 w := hU.of hcl hlt (getD_both (mem_ready.1 hi).1)
              unfold wpOp
              rw [ho]
              simp only []
              split at hT
              · rename_i hg
                rw [if_neg (by rw [gd_no hs hg]; simp)]
                cases hp : st.skip ops o with
                | none => simp [hp] at hT
                | some st' =>
                  simp [hp] at hT
                  exact ⟨fun _ => hS, ih n' _ st' _ hT Γ Ls _ w he hpre (hs.skip hp) hcl' (fun _ => hS) (by rw [St.skip_lvl hp]; exact hl) hv⟩
              · rename_i hg
                rw [if_pos (gd_go hs hg)]
                refine .inl (doOpF_sound hcx hT hl hv hs fun st' T' Γ' Ls' hk' he' hpre' hl' hv' a' w' hs' => ?_)
                simp only [] at hk'
                split at hk'
                · rename_i hcov
                  have hS' : Until ops (Kept cx.P F w0 Γ0 h a0) (listed.setIfInBounds i true) w' := fun hnot => by
                    simp only [Bool.or_eq_true, Bool.and_eq_true] at hcov
                    rcases hcov with ⟨hc1, hc2⟩ | hcov
                    · have hnot := hnot hc1
                      rw [← Nat.eq_of_beq_eq_true hc2] at hnot
                      have hsz := (mem_ready.1 hi).1
                      rcases Nat.lt_or_ge i listed.size with hb | hb
                      · simp [hb] at hnot
                      · simp [Array.getElem?_eq_none hb] at hsz
                    · exact Kept.down hS hs' (he.trans he') hwf hcov
                  exact ⟨hS', ih n' _ st' T' hk' Γ' Ls' a' w' (he.trans he') (hpre.trans hpre') hs' hcl' hS' hl' hv'⟩
                · cases hk'
              · cases hT
            · cases hT
          · cases hT
theorem any_sound (hcx : CxOK cx) {id : Nat} {ops : Array Oper} {mg : Bool} {M : List Pl} {st : St} (hc : (Region.noSelect ops && (st.hide M).wf) = true) {k : St → Option Tree} {T : Tree} {f : Nat}
    (hT : execAny cx ops mg (st.hide M) k f ops.size (Array.replicate ops.size false) st = some T) {Γ : Env} {Ls : List (List C → Prop)} (hl : Ls.length = st.lvl) (hv : VC cx R T Γ.ρ Ls) {a : Act} {w : World} (hs : Sat cx.P F w0 Γ st a w)
    {Q : Exit → Act → World → Prop} (hk : Next cx R F w0 k Γ Ls (fun a w => Q .normal a w)) : (Code.region id ops true).wp cx.P Q a w := by
  simp only [Bool.and_eq_true] at hc
  obtain ⟨c1, c2⟩ := hc
  have hw1 : Sat cx.P F w0 Γ st a { w with drawn := w.drawn + 1 } := hs.below ⟨rfl, rfl, rfl, Nat.le_refl _, fun _ _ => rfl⟩
  refine wp_mono (wp_region_any hcx.mixed (Picks.any (execAny_sound hcx c1 c2 hk f _ _ st T hT Γ Ls a _ (Ext.refl Γ) (List.prefix_refl _) hw1 (fun j o ho hj => ?_) (fun _ => Kept.start hw1) hl hv))) ?_
  · rw [getD_replicate_false] at hj; cases hj
  rintro e a w ⟨rfl, h⟩
  exact h
end
end Go.Proofs.Ytlbgcjpkegpmlaa
/- The engine, part 12: loops; the executor of a code; its soundness. -/
namespace Go.Proofs.Ytlbgcjpkegpmlaa
open Go.RowKit
set_option linter.unusedSimpArgs false
set_option linter.unusedVariables false

/-! Loops -/
/-- The slots that a code writes. -/
def asg : Code → List Nat
  | .region _ ops _ => ops.toList.filterMap (·.dst)
  | .seq a b => asg a ++ asg b
  | .cond _ a b => asg a ++ asg b
  | .block _ c | .loop c | .scope c => asg c
  | _ => []
/-- The cells of a place; is it one cell by itself. -/
def St.cellsAt (st : St) : Pl → Option (Bool × List Lf)
  | .slot d => match look st.sl d with
    | some (.one (.lf l)) => some (true, [l])
    | some (.one (.agg l)) => some (false, l)
    | _ => none
  | .blk b => (look st.mem b).map fun mb => (false, mb.2)
  | .vec i => (look st.vec i).map fun e => (false, [.cnt e.1 e.2])
def St.setAt (st : St) (p : Pl) (one : Bool) (l : List Lf) : St :=
  match p with
  | .slot d => { st with sl := (d, if one then l.head?.map fun x => .one (.lf x) else some (.one (.agg l))) :: st.sl }
  | .blk b => match look st.mem b with
    | some mb => { st with mem := (b, some (mb.1, l)) :: st.mem }
    | none => st
  | .vec i => match l with
    | [.cnt te r] => { st with vec := (i, some (te, r)) :: st.vec }
    | _ => st
/-- Cells made unknown. -/
def hvL : List Lf → Nat → List Lf
  | [], _ => []
  | .cnt te _ :: ls, i => .cnt te (.var i) :: hvL ls (i + 1)
  | l :: ls, i => match l.kind with
    | some k => Lf.ofKind k i :: hvL ls (i + 1)
    | none => l :: hvL ls i
/-- The slices of one's own among them get new variables. -/
def hvV : List Lf → Nat → Vecs
  | [], _ => []
  | .vec te j :: ls, i => (i, some (te, .var i)) :: (j, none) :: hvV ls (i + 1)
  | l :: ls, i => match l.kind with
    | some _ => hvV ls (i + 1)
    | none => hvV ls i
def St.havoc (st : St) : List Pl → St
  | [] => st
  | p :: ps => match st.cellsAt p with
    | some cs => St.havoc { st.setAt p cs.1 (hvL cs.2 st.nx) with nx := st.nx + (cs.2.filter fun l => l.kind.isSome).length, vec := hvV cs.2 st.nx ++ (st.setAt p cs.1 (hvL cs.2 st.nx)).vec } ps
    | none => St.havoc st ps
/-- Slots that are written in a round and of which nothing is known at its head. -/
def St.forget (st : St) (l : List Nat) : St := { st with sl := l.foldl (fun sl d => (d, none) :: sl) st.sl }
/-- Of several places that hold one slice of one's own the first one. -/
def pickPs (st : St) : List Nat → List Nat → List Nat
  | _, [] => []
  | seen, d :: ds => match st.cellsAt (.slot d) with
    | some cs => if (vecsOf cs.2).all fun i => !seen.contains i && (look st.vec i).isSome then d :: pickPs st (vecsOf cs.2 ++ seen) ds else pickPs st seen ds
    | none => pickPs st seen ds
/-- The named slots that a code writes and of which something is known that can be made unknown. -/
def St.places (st : St) (w : List Nat) (seen : List Nat) : List Nat := pickPs st seen ((List.range st.nt).filter fun d => w.contains d && match look st.sl d with
  | some (.one s) => s.cells.all fun l => l.kind.isSome
  | _ => false)
/-- What the cells hold, where they were made unknown (from variable i on); all others are as they were. -/
def backL (vec : Vecs) : Nat → List Lf → List Lf → Option (List Lf)
  | _, [], [] => some []
  | i, l :: ls, m :: ms => match l with
    | .cnt te r => match m with
      | .cnt te' r' => if te = te' ∧ r = .var i then (backL vec (i + 1) ls ms).map (.cnt te r' :: ·) else none
      | _ => none
    | .vec te i' => if i' = i then match m with
      | .vec te' j => match look vec j with
        | some e => if te' = te ∧ e.1 = te then (backL vec (i + 1) ls ms).map (.cnt te (mkJoin j e.2) :: ·) else none
        | none => none
      | _ => none
      else none
    | l => match l.kind with
      | some k => if sameL l (Lf.ofKind k i) && decide (m.kind = some k) && k.noVec then (backL vec (i + 1) ls ms).map (m :: ·) else none
      | none => if sameL l m then backL vec i ls ms else none
  | _, _, _ => none
def backPs (st st' : St) : Nat → List Pl → Option (List Lf)
  | _, [] => some []
  | i, p :: ps => match st.cellsAt p, st'.cellsAt p with
    | some cs, some ds => if cs.1 = ds.1 then match backL st'.vec i cs.2 ds.2 with
        | some a => (backPs st st' (i + a.length) ps).map (a ++ ·)
        | none => none
      else none
    | _, _ => none
/-- Which slice stands at the end for which one at the head. -/
def vmapL : List Lf → List Lf → List (Nat × Nat)
  | .vec _ i :: cs, .vec _ j :: ds => (i, j) :: vmapL cs ds
  | _ :: cs, _ :: ds => vmapL cs ds
  | _, _ => []
def vmapPs (st st' : St) (ps : List Pl) : List (Nat × Nat) := ps.flatMap fun p => match st.cellsAt p, st'.cellsAt p with
  | some cs, some ds => vmapL cs.2 ds.2
  | _, _ => []
def keyOf : List (Nat × Nat) → Nat → Option Nat
  | [], _ => none
  | (k, j) :: l, i => if k = i then some j else keyOf l i
def curOf (vm : List (Nat × Nat)) (i : Nat) : Nat := (keyOf vm i).getD i
/-- All slices of one's own that are known at the head are known at the end, each one by itself. -/
def sameVec (st st' : St) (n : Nat) (ps : List Pl) (vm : List (Nat × Nat)) : Bool :=
  (st.vec.all fun p => match look st.vec p.1 with
    | none => true
    | some e => match look st'.vec (curOf vm p.1) with
      | some e' => Nat.beq e.1 e'.1 && (match keyOf vm p.1 with
        | some _ => Nat.ble n p.1 && decide (e.2 = .var p.1)
        | none => Nat.blt p.1 n && (ps.contains (.vec p.1) || (decide (e.2 = e'.2) && e.2.wf n)))
      | none => false) &&
  (st.vec.all fun p => st.vec.all fun q => Nat.beq p.1 q.1 || !Nat.beq (curOf vm p.1) (curOf vm q.1) || (look st.vec p.1).isNone || (look st.vec q.1).isNone)
def sameClo (st st' : St) (n : Nat) : Bool :=
  st.clo.all fun p => match look st.clo p.1 with
    | none => true
    | some e => match look st'.clo p.1 with
      | some e' => Nat.beq e.1 e'.1 && same0s e.2.1 e'.2.1 && sameLs e.2.2 e'.2.2 && wfC n st.nb p.1 (some e)
      | none => false
/-- All that is known at the head and is not among the places is known, alike, at the end. -/
def sameRest (st st' : St) (n : Nat) (ps : List Pl) : Bool :=
  (st.sl.all fun p => match look st.sl p.1 with
    | none => true
    | some sv => ps.contains (.slot p.1) || match look st'.sl p.1 with
      | some sv' => sameS sv sv'
      | none => false) &&
  (st.mem.all fun p => match look st.mem p.1 with
    | none => true
    | some mb => match look st'.mem p.1 with
      | some mb' => Nat.beq mb.1 mb'.1 && (ps.contains (.blk p.1) || sameLs mb.2 mb'.2)
      | none => false) &&
  sameVec st st' n ps (vmapPs st st' ps) && sameClo st st' n
/-- Of what was not made unknown nothing names the new variables. -/
def headWf (st : St) (n : Nat) (ps : List Pl) : Bool :=
  (st.sl.all fun p => ps.contains (.slot p.1) || match look st.sl p.1 with
    | none => true
    | some sv => sv.wf n st.nb) &&
  (st.mem.all fun p => Nat.blt p.1 st.nb && (ps.contains (.blk p.1) || match look st.mem p.1 with
    | none => true
    | some mb => mb.2.all (Lf.wf n st.nb))) &&
  (ps.all fun p => match st.cellsAt p with
    | some cs => cs.2.all fun l => l.kind.isSome || l.wf n st.nb
    | none => true) &&
  (st.bds.all fun p => Nat.blt p.1 n)
/-- What is not known any more at the end: its places. (For the reader of a tree.) -/
def diffs (st st' : St) (n : Nat) (ps : List Pl) : List Nat :=
  (st.sl.filterMap fun p => match look st.sl p.1 with
    | none => none
    | some sv => if ps.contains (.slot p.1) || (match look st'.sl p.1 with
      | some sv' => sameS sv sv'
      | none => false) then none else some (1000000 + p.1)) ++
  (st.mem.filterMap fun p => match look st.mem p.1 with
    | none => none
    | some mb => if (match look st'.mem p.1 with
      | some mb' => Nat.beq mb.1 mb'.1 && (ps.contains (.blk p.1) || sameLs mb.2 mb'.2)
      | none => false) then none else some (2000000 + p.1)) ++
  (st.vec.filterMap fun p => match look st.vec p.1 with
    | none => none
    | some e => match look st'.vec (curOf (vmapPs st st' ps) p.1) with
      | some e' => if Nat.beq e.1 e'.1 && (match keyOf (vmapPs st st' ps) p.1 with
        | some _ => Nat.ble n p.1 && decide (e.2 = .var p.1)
        | none => Nat.blt p.1 n && (ps.contains (.vec p.1) || (decide (e.2 = e'.2) && e.2.wf n))) then none else some (3000000 + p.1)
      | none => some (3000000 + p.1)) ++
  (if sameVec st st' n ps (vmapPs st st' ps) then [] else [4000000]) ++ (if sameClo st st' n then [] else [5000000]) ++
  (ps.zipIdx.filterMap fun q => match st.cellsAt q.1, st'.cellsAt q.1 with
    | some cs, some ds => if cs.1 = ds.1 && Nat.beq cs.2.length ds.2.length then none else some (6000000 + q.2)
    | _, _ => some (7000000 + q.2))
/-- The places of a loop; what is known before it; what is known at its head. -/
def loopPs (cx : Cx) (c : Code) (st : St) : List Pl :=
  (st.places (asg c) ((cx.hv (st.path * 100000 + (firstReg c).getD 0)).flatMap fun p => match st.cellsAt p with | some cs => vecsOf cs.2 | none => [])).map Pl.slot ++ cx.hv (st.path * 100000 + (firstReg c).getD 0)
def loopSt0 (cx : Cx) (c : Code) (st : St) : St := st.forget ((asg c).filter fun d => !(loopPs cx c st).contains (.slot d))
def loopSt1 (cx : Cx) (c : Code) (st : St) : St := { St.havoc (loopSt0 cx c st) (loopPs cx c st) with lvl := st.lvl + 1 }
/-! Ways that are led into one state -/
def St.newSl : List (Nat × Bool × List Lk) → St → St
  | [], st => st
  | (d, one, ks) :: l, st => St.newSl l { st with sl := (d, if one then (freshL ks st.nx).head?.map fun x => .one (.lf x) else some (.one (.agg (freshL ks st.nx)))) :: st.sl, nx := st.nx + ks.length, vec := freshV ks st.nx ++ st.vec }
/-- What is known where the ways have met. -/
def joinSt1 (j : List (Nat × Bool × List Lk) × List Pl) (ds : List Nat) (st : St) : St := { St.havoc (St.newSl j.1 (st.forget ds)) j.2 with lvl := st.lvl + 1 }
def joinPs (j : List (Nat × Bool × List Lk) × List Pl) : List Pl := j.1.map (fun x => .slot x.1) ++ j.2
def joinKs (j : List (Nat × Bool × List Lk) × List Pl) (st : St) : List Lk := j.1.flatMap (·.2.2) ++ j.2.flatMap fun p => match st.cellsAt p with
  | some cs => cs.2.filterMap Lf.kind
  | none => []
/-- The end of a way. -/
def joinEnd (st st1 : St) (ps : List Pl) (ks : List Lk) (id : Nat) (st' : St) : Option Tree :=
  if sameRest st1 st' st.nx ps && Nat.ble st1.nb st'.nb && Nat.beq st1.nt st'.nt then match backPs st1 st' st.nx ps with
    | some vals => if kindsL vals = some ks then some (obT (rngL st'.bds vals) (.back st.lvl vals)) else some (.fail 61004 [st.path, id])
    | none => some (.fail 61005 [st.path, id])
  else some (.fail 61003 ([st.path, id] ++ diffs st1 st' st.nx ps))
def joinOk (st st1 : St) (ps : List Pl) (ks : List Lk) : Bool :=
  headWf st1 st.nx ps && Nat.beq st1.nx (st.nx + ks.length) && Nat.beq st1.nb st.nb && Nat.beq st1.nt st.nt && decide (st1.bds = st.bds) && Nat.beq st1.lvl (st.lvl + 1)
def dstsOf (ops : Array Oper) : List Nat := ops.toList.filterMap (·.dst)
def joinT (cx : Cx) (id : Nat) (ops : Array Oper) (j : List (Nat × Bool × List Lk) × List Pl) (st : St) (k : St → Option Tree) : Option Tree :=
  if joinOk st (joinSt1 j (dstsOf ops) st) (joinPs j) (joinKs j st) && (Region.noSelect ops && (({ st with lvl := st.lvl + 1 } : St).hide (cx.hv (st.path * 100000 + 50000 + id))).wf) then
    match execAny cx ops true (({ st with lvl := st.lvl + 1 } : St).hide (cx.hv (st.path * 100000 + 50000 + id))) (joinEnd st (joinSt1 j (dstsOf ops) st) (joinPs j) (joinKs j st) id) (3 * ops.size + 8) ops.size (Array.replicate ops.size false) { st with lvl := st.lvl + 1 }, k (joinSt1 j (dstsOf ops) st) with
    | some ws, some t => some (.join (joinKs j st) ws t)
    | _, _ => none
  else some (.fail 61001 [st.path, id])
def exec (cx : Cx) : Code → St → (Ex → St → Option Tree) → Option Tree
  | .skip, st, k => k .nrm st
  | .label _, st, k => k .nrm st
  | .seq a b, st, k => exec cx a st fun x st => match x with
    | .nrm => exec cx b st k
    | x => k x st
  | .cond c a b, st, k => match st.lf c with
    | some (.bool (.lit t)) => if t then exec cx a st k else exec cx b st k
    | some (.bool e) => match exec cx a { st with bds := learn st.nx st.bds e true } k, exec cx b { st with bds := learn st.nx st.bds e false } k with
      | some t, some f => some (.split e t f)
      | _, _ => none
    | _ => none
  | .block id c, st, k => exec cx c st fun x st => match x with
    | .ext i => if i = id then k .nrm st else k (.ext i) st
    | x => k x st
  | .scope c, st, k => exec cx c st k
  | .exit id, st, k => k (.ext id) st
  | .ret, st, k => k .ret st
  | .region id ops draw, st, k => if !draw || drawOk cx ops then execOps cx ops ops.toList st (k .nrm)
    else match cx.jn (st.path * 100000 + 50000 + id) with
    | some j => orF (joinT cx id ops j st (k .nrm)) (51000 + id) [st.path]
    | none => orF (if Region.noSelect ops && (st.hide (cx.hv (st.path * 100000 + 50000 + id))).wf then
      execAny cx ops false (st.hide (cx.hv (st.path * 100000 + 50000 + id))) (k .nrm) (3 * ops.size + 8) ops.size (Array.replicate ops.size false) st
    else none) (50000 + id) [st.path]
  | .loop c, st, k =>
    match backPs (loopSt1 cx c st) (loopSt0 cx c st) st.nx (loopPs cx c st) with
    | none => some (.fail 60001 [st.path, (firstReg c).getD 0])
    | some init => match kindsL init with
      | none => some (.fail 60002 [st.path, (firstReg c).getD 0])
      | some ks =>
        if st.wf && headWf (loopSt1 cx c st) st.nx (loopPs cx c st) && sameRest (loopSt1 cx c st) (loopSt0 cx c st) st.nx (loopPs cx c st) && Nat.beq (loopSt1 cx c st).nx (st.nx + ks.length) && Nat.beq (loopSt1 cx c st).nb st.nb && Nat.beq (loopSt1 cx c st).nt st.nt && decide ((loopSt1 cx c st).bds = st.bds) then
          (exec cx c (loopSt1 cx c st) fun x st' => match x with
            | .nrm => if sameRest (loopSt1 cx c st) st' st.nx (loopPs cx c st) && Nat.ble (loopSt1 cx c st).nb st'.nb && Nat.beq (loopSt1 cx c st).nt st'.nt then match backPs (loopSt1 cx c st) st' st.nx (loopPs cx c st) with
                | some vals => if kindsL vals = some ks then some (obT (rngL st'.bds vals) (.back st.lvl vals)) else some (.fail 60004 [st.path, (firstReg c).getD 0])
                | none => some (.fail 60005 [st.path, (firstReg c).getD 0])
              else some (.fail 60003 ([st.path, (firstReg c).getD 0] ++ diffs (loopSt1 cx c st) st' st.nx (loopPs cx c st)))
            | x => k x st').map fun t => obT (rngL st.bds init) (.loop ks init t)
        else some (.fail 60006 ([st.path, (firstReg c).getD 0] ++ diffs (loopSt1 cx c st) (loopSt0 cx c st) st.nx (loopPs cx c st)))
  | _, _, _ => none

end Go.Proofs.Ytlbgcjpkegpmlaa
/- The engine, part 13: a loop's head comes again. -/
namespace Go.Proofs.Ytlbgcjpkegpmlaa
open Go.RowKit
set_option linter.unusedSimpArgs false
set_option linter.unusedVariables false

theorem look_forget {α : Type} : ∀ (l : List Nat) (sl : List (Nat × Option α)) (t : Nat) (v : α), look (l.foldl (fun sl d => (d, none) :: sl) sl) t = some v → look sl t = some v
  | [], _, _, _, h => h
  | d :: l, sl, t, v, h => by
    have := look_forget l _ t v h
    simp only [look] at this
    split at this
    · cases this
    · exact this
theorem Sat.forget {P : Program} {F : Nat → Prop} {w0 : World} {Γ : Env} {st : St} {a : Act} {w : World} (h : Sat P F w0 Γ st a w) (l : List Nat) : Sat P F w0 Γ (st.forget l) a w :=
  h.slots' (fun t sv hs => h.slots t sv (look_forget l _ t sv hs)) h.size h.defers h.num

theorem look_mem {α : Type} : ∀ {l : List (Nat × Option α)} {t : Nat} {v : α}, look l t = some v → ∃ p ∈ l, p.1 = t
  | [], _, _, h => by cases h
  | (k, u) :: l, t, v, h => by
    simp only [look] at h
    split at h
    · rename_i e; exact ⟨(k, u), by simp, e⟩
    · obtain ⟨p, hp, e⟩ := look_mem h; exact ⟨p, by simp [hp], e⟩

/-- Cells that were made unknown hold what their variables stand for. -/
theorem backL_spec {P : Program} {w : World} {O O' : Nat → Nat → Prop} {vec : Vecs} {Γ Γ0 Γ' : Env} (hvec : ∀ j e, look vec j = some e → VecOK P w O e.1 (at_ Γ.ρ j).loc (e.2.ev Γ.ρ)) (h0 : Ext Γ0 Γ) (h0' : Ext Γ0 Γ') (hO : ∀ b o, O' b o → O b o) : ∀ {cs ds vs : List Lf} {i : Nat}, backL vec i cs ds = some vs →
    (∀ l ∈ ds, l.ok P w O Γ) → (∀ l ∈ cs, (l.kind.isSome || l.wf Γ0.ρ.length Γ0.nb) = true) → (∀ j v, vs[j]? = some v → at_ Γ'.ρ (i + j) = v.c Γ.ρ) →
    cs.map (Lf.den Γ') = ds.map (Lf.den Γ) ∧ (∀ l ∈ cs, l.ok P w O' Γ') ∧ (∀ i' j', (i', j') ∈ vmapL cs ds → ∃ e, look vec j' = some e ∧ at_ Γ'.ρ i' = (mkJoin j' e.2).ev Γ.ρ) ∧
      (∀ (x : Nat) te r te' r', cs[x]? = some (.cnt te r) → ds[x]? = some (.cnt te' r') → te = te' ∧ r.ev Γ'.ρ = r'.ev Γ.ρ)
  | [], [], vs, i, h, _, _, _ => ⟨rfl, fun l hl => (by cases hl), fun i' j' hm => (by cases hm), fun x _ _ _ _ e => (by simp at e)⟩
  | l :: cs, m :: ds, vs, i, h, ho, hw, hv => by
    have step : ∀ {vs' : List Lf} {i1 : Nat}, backL vec i1 cs ds = some vs' → (∀ j v, vs'[j]? = some v → at_ Γ'.ρ (i1 + j) = v.c Γ.ρ) → l.den Γ' = m.den Γ → l.ok P w O' Γ' → (∀ te i' te' j', l = .vec te i' → m = .vec te' j' → ∃ e, look vec j' = some e ∧ at_ Γ'.ρ i' = (mkJoin j' e.2).ev Γ.ρ) → (∀ te r te' r', l = .cnt te r → m = .cnt te' r' → te = te' ∧ r.ev Γ'.ρ = r'.ev Γ.ρ) →
        (l :: cs).map (Lf.den Γ') = (m :: ds).map (Lf.den Γ) ∧ (∀ x ∈ l :: cs, x.ok P w O' Γ') ∧ (∀ i' j', (i', j') ∈ vmapL (l :: cs) (m :: ds) → ∃ e, look vec j' = some e ∧ at_ Γ'.ρ i' = (mkJoin j' e.2).ev Γ.ρ) ∧
          (∀ (x : Nat) te r te' r', (l :: cs)[x]? = some (.cnt te r) → (m :: ds)[x]? = some (.cnt te' r') → te = te' ∧ r.ev Γ'.ρ = r'.ev Γ.ρ) := by
      intro vs' i1 hb hv' hd hok hvm hcn
      obtain ⟨h1, h2, h3, h4⟩ := backL_spec hvec h0 h0' hO hb (fun x hx => ho x (by simp [hx])) (fun x hx => hw x (by simp [hx])) hv'
      refine ⟨by simp [hd, h1], fun x hx => ?_, fun i' j' hm => ?_, fun x te r te' r' hx hy => ?_⟩
      · rcases List.mem_cons.1 hx with rfl | hx
        · exact hok
        · exact h2 x hx
      · have hcase : (∃ te te', l = .vec te i' ∧ m = .vec te' j') ∨ (i', j') ∈ vmapL cs ds := by
          cases l <;> cases m <;> first
            | exact .inr hm
            | (simp only [vmapL, List.mem_cons, Prod.mk.injEq] at hm
               rcases hm with ⟨rfl, rfl⟩ | hm
               · exact .inl ⟨_, _, rfl, rfl⟩
               · exact .inr hm)
        rcases hcase with ⟨te, te', e1, e2⟩ | hm
        · exact hvm te i' te' j' e1 e2
        · exact h3 i' j' hm
      · cases x with
        | zero => simp at hx hy; exact hcn te r te' r' hx hy
        | succ x => exact h4 x te r te' r' (by simpa using hx) (by simpa using hy)
    have tail : ∀ {vs' : List Lf} {x : Lf}, vs = x :: vs' → (∀ j v, vs'[j]? = some v → at_ Γ'.ρ (i + 1 + j) = v.c Γ.ρ) ∧ at_ Γ'.ρ i = x.c Γ.ρ := fun {vs' x} e => by
      subst e
      exact ⟨fun j v hj => by have := hv (j + 1) v (by simpa using hj); rwa [show i + 1 + j = i + (j + 1) by omega], hv 0 x (by simp)⟩
    simp only [backL] at h
    split at h
    · rename_i te r
      split at h
      · rename_i te' r'
        split at h
        · rename_i hc
          obtain ⟨rfl, rfl⟩ := hc
          cases hb : backL vec (i + 1) cs ds with
          | none => simp [hb] at h
          | some vs' =>
            simp [hb] at h
            obtain ⟨t1, t2⟩ := tail h.symm
            have hev : (E.var i).ev Γ'.ρ = r'.ev Γ.ρ := t2
            have hmo := ho (.cnt te r') (by simp)
            refine step hb t1 (by simp only [Lf.den, hev]) (by simp only [Lf.ok, hev]; exact hmo) (fun _ _ _ _ e => (by cases e)) (fun te1 r1 te2 r2 e1 e2 => ?_)
            cases e1; cases e2; exact ⟨rfl, hev⟩
        · cases h
      · cases h
    · rename_i te i'
      split at h
      · rename_i e1
        subst e1
        split at h
        · rename_i te' j
          split at h
          · rename_i e he
            split at h
            · rename_i hc
              obtain ⟨rfl, hc2⟩ := hc
              cases hb : backL vec (i' + 1) cs ds with
              | none => simp [hb] at h
              | some vs' =>
                simp [hb] at h
                obtain ⟨t1, t2⟩ := tail h.symm
                simp only [Lf.c] at t2
                have hve := hvec j e he
                have hj := mkJoin_ev hve
                have hl : (at_ Γ'.ρ i').loc = (at_ Γ.ρ j).loc := by rw [t2, hj]; rfl
                obtain ⟨a, cap, hs⟩ := hve.slice
                refine step hb t1 (by simp only [Lf.den, hl]) ⟨a, _, cap, hl.trans hs⟩ (fun te1 i1 te2 j2 e1 e2 => ?_) (fun _ _ _ _ e => (by cases e))
                cases e1; cases e2; exact ⟨e, he, t2⟩
            · cases h
          · cases h
        · cases h
      · cases h
    · rename_i hn1 hn2
      split at h
      · rename_i k hk
        split at h
        · rename_i hc
          simp only [Bool.and_eq_true, decide_eq_true_eq] at hc
          obtain ⟨⟨c1, c2⟩, c3⟩ := hc
          cases hb : backL vec (i + 1) cs ds with
          | none => simp [hb] at h
          | some vs' =>
            simp [hb] at h
            obtain ⟨t1, t2⟩ := tail h.symm
            have hl := sameL_eq c1
            have hmo := ho m (by simp)
            have key : l.den Γ' = m.den Γ ∧ l.ok P w O' Γ' := by
              subst hl
              cases m with
              | int e => cases c2; exact ⟨by simp [Lf.ofKind, Lf.den, E.den_var, t2, Lf.c, C.int], trivial⟩
              | bool e => cases c2; exact ⟨by simp [Lf.ofKind, Lf.den, B.den, E.ev, t2, Lf.c, C.bool], trivial⟩
              | arr t e =>
                cases c2
                refine ⟨by simp [Lf.ofKind, Lf.den, E.ev, t2, Lf.c], ?_⟩
                simp only [Lf.ofKind, Lf.ok, E.ev, t2, Lf.c]
                exact ArrOK.anti hmo hO
              | vec t j => cases c2; cases c3
              | cnt t j => cases c2; cases c3
              | _ => cases c2
            exact step hb t1 key.1 key.2 (fun te i' _ _ e _ => absurd e (hn2 te i')) (fun te r _ _ e _ => absurd e (hn1 te r))
        · cases h
      · rename_i hk
        split at h
        · rename_i hs
          have e := sameL_eq hs
          subst e
          have hwl := hw l (by simp)
          rw [hk] at hwl
          simp only [Option.isSome_none, Bool.false_or] at hwl
          have hd : l.den Γ' = l.den Γ := by rw [Lf.den_ext h0' l hwl, Lf.den_ext h0 l hwl]
          exact step h hv hd (Lf.ok_anti (Lf.ok_ext h0' hwl (Lf.ok_unext h0 hwl (ho _ (by simp)))) hO) (fun te i' _ _ e _ => absurd e (hn2 te i')) (fun te r _ _ e _ => absurd e (hn1 te r))
        · cases h
  | [], _ :: _, _, _, h, _, _, _ => by cases h
  | _ :: _, [], _, _, h, _, _, _ => by cases h
theorem backPs_spec {st st' : St} : ∀ {ps : List Pl} {i : Nat} {vals : List Lf}, backPs st st' i ps = some vals → ∀ p ∈ ps, ∃ f cs ds j vs, st.cellsAt p = some (f, cs) ∧ st'.cellsAt p = some (f, ds) ∧
    backL st'.vec (i + j) cs ds = some vs ∧ ∀ (x : Nat) v, vs[x]? = some v → vals[j + x]? = some v
  | [], _, _, _, p, hp => by cases hp
  | q :: ps, i, vals, h, p, hp => by
    simp only [backPs] at h
    split at h
    · rename_i cs ds h1 h2
      split at h
      · rename_i hf
        split at h
        · rename_i a ha
          cases hb : backPs st st' (i + a.length) ps with
          | none => simp [hb] at h
          | some b =>
            simp [hb] at h
            subst h
            rcases List.mem_cons.1 hp with rfl | hp
            · refine ⟨cs.1, cs.2, ds.2, 0, a, h1, by rw [h2, hf], by simpa using ha, fun x v hx => ?_⟩
              have : x < a.length := by
                rcases Nat.lt_or_ge x a.length with h' | h'
                · exact h'
                · rw [List.getElem?_eq_none h'] at hx; cases hx
              rw [Nat.zero_add, List.getElem?_append_left this]; exact hx
            · obtain ⟨f, cs', ds', j, vs, e1, e2, e3, e4⟩ := backPs_spec hb p hp
              refine ⟨f, cs', ds', a.length + j, vs, e1, e2, by rwa [Nat.add_assoc] at e3, fun x v hx => ?_⟩
              rw [List.getElem?_append_right (by omega)]
              have := e4 x v hx
              rwa [show a.length + j + x - a.length = j + x by omega]
        · cases h
      · cases h
    · cases h
theorem mkJoin_ty {P : Program} {w : World} {O : Nat → Nat → Prop} {ρ : List C} {te : TypeId} {i : Nat} {r : E} (h : VecOK P w O te (at_ ρ i).loc (r.ev ρ)) : ∃ v rows d, (mkJoin i r).ev ρ = .s v rows ∧ TyN P d te rows ∧ ∀ n, (C.s v rows).small n := by
  obtain ⟨v', rows, d, e, ht⟩ := h.tyN
  have hs := h.small
  rw [mkJoin_ev h]
  have hr : (r.ev ρ).rows = rows := by rw [e]; rfl
  rw [hr]
  exact ⟨_, _, d, rfl, ht, C.small_rows (.inl hs) (by rw [hr]; exact Nat.le_refl _) (fun x hx => by rw [hr]; exact hx) _⟩
theorem backL_kinds {P : Program} {w : World} {O : Nat → Nat → Prop} {vec : Vecs} {Γ : Env} (hvec : ∀ j e, look vec j = some e → VecOK P w O e.1 (at_ Γ.ρ j).loc (e.2.ev Γ.ρ)) : ∀ {cs ds vs : List Lf} {i : Nat}, backL vec i cs ds = some vs → (∀ l ∈ ds, l.ok P w O Γ) → ∀ l ∈ vs, l.ok P w O Γ ∧ l.isVec = false
  | [], [], vs, i, h, _ => by simp [backL] at h; subst h; exact fun l hl => by cases hl
  | l :: cs, m :: ds, vs, i, h, ho => by
    have step : ∀ {vs' : List Lf} {i1 : Nat} {x : Lf}, backL vec i1 cs ds = some vs' → vs = x :: vs' → x.ok P w O Γ → x.isVec = false → ∀ l ∈ vs, l.ok P w O Γ ∧ l.isVec = false := by
      intro vs' i1 x hb e h1 h2 y hy
      subst e
      rcases List.mem_cons.1 hy with rfl | hy
      · exact ⟨h1, h2⟩
      · exact backL_kinds hvec hb (fun x hx => ho x (by simp [hx])) y hy
    simp only [backL] at h
    split at h
    · split at h
      · rename_i te' r'
        split at h
        · cases hb : backL vec (i + 1) cs ds with
          | none => simp [hb] at h
          | some vs' => simp [hb] at h; exact step hb h.symm (by have := ho (.cnt te' r') (by simp); rename_i hc; rw [hc.1]; exact this) rfl
        · cases h
      · cases h
    · split at h
      · split at h
        · rename_i te' j
          split at h
          · rename_i e he
            split at h
            · rename_i hc
              cases hb : backL vec (i + 1) cs ds with
              | none => simp [hb] at h
              | some vs' =>
                simp [hb] at h
                refine step hb h.symm ?_ rfl
                have := mkJoin_ty (hvec j e he)
                rw [hc.2] at this
                exact this
            · cases h
          · cases h
        · cases h
      · cases h
    · split at h
      · split at h
        · rename_i hc
          simp only [Bool.and_eq_true, decide_eq_true_eq] at hc
          cases hb : backL vec (i + 1) cs ds with
          | none => simp [hb] at h
          | some vs' =>
            simp [hb] at h
            refine step hb h.symm (ho m (by simp)) ?_
            have h2 := hc.1.2
            have h3 := hc.2
            cases m with
            | vec t j => cases h2; cases h3
            | _ => rfl
        · cases h
      · split at h
        · exact backL_kinds hvec h (fun x hx => ho x (by simp [hx]))
        · cases h
  | [], _ :: _, _, _, h, _ => by cases h
  | _ :: _, [], _, _, h, _ => by cases h
theorem Sat.cellsAt_ok {P : Program} {F : Nat → Prop} {w0 : World} {Γ : Env} {st : St} {a : Act} {w : World} (h : Sat P F w0 Γ st a w) {p : Pl} {f : Bool} {cs : List Lf} (hc : st.cellsAt p = some (f, cs)) : ∀ l ∈ cs, l.ok P w (Own Γ st) Γ := by
  cases p with
  | slot d =>
    simp only [St.cellsAt] at hc
    split at hc
    · rename_i l hl
      cases hc
      have := (h.slots d _ hl).2
      exact fun x hx => this x (by simpa [S0.cells] using hx)
    · rename_i l hl
      cases hc
      exact (h.slots d _ hl).2
    · cases hc
  | blk b =>
    simp only [St.cellsAt, Option.map_eq_some_iff] at hc
    obtain ⟨mb, hm, e⟩ := hc
    cases e
    exact (h.mem b mb hm).2.1
  | vec i =>
    simp only [St.cellsAt, Option.map_eq_some_iff] at hc
    obtain ⟨e, hm, e'⟩ := hc
    cases e'
    intro l hl
    simp at hl
    subst hl
    obtain ⟨v, rows, d, e1, ht⟩ := (h.vec i e hm).1.tyN
    have hs := (h.vec i e hm).1.small
    simp only [Lf.ok]
    rw [e1] at hs ⊢
    exact ⟨v, rows, d, rfl, ht, hs⟩
theorem backPs_ok {P : Program} {F : Nat → Prop} {w0 : World} {Γ : Env} {st st' : St} {a : Act} {w : World} (h : Sat P F w0 Γ st' a w) : ∀ {ps : List Pl} {i : Nat} {vals : List Lf}, backPs st st' i ps = some vals →
    ∀ l ∈ vals, l.ok P w (Own Γ st') Γ ∧ l.isVec = false
  | [], _, vals, hb => by simp [backPs] at hb; subst hb; exact fun l hl => by cases hl
  | q :: ps, i, vals, hb => by
    simp only [backPs] at hb
    split at hb
    · rename_i cs ds h1 h2
      split at hb
      · split at hb
        · rename_i x hx
          cases hb2 : backPs st st' (i + x.length) ps with
          | none => simp [hb2] at hb
          | some b =>
            simp [hb2] at hb
            subst hb
            intro l hl
            rcases List.mem_append.1 hl with hl | hl
            · exact backL_kinds (fun j e he => (h.vec j e he).1) hx (h.cellsAt_ok h2) l hl
            · exact backPs_ok h hb2 l hl
        · cases hb
      · cases hb
    · cases hb

theorem keyOf_mem : ∀ {vm : List (Nat × Nat)} {i j : Nat}, keyOf vm i = some j → (i, j) ∈ vm
  | [], _, _, h => by cases h
  | (k, j') :: l, i, j, h => by
    simp only [keyOf] at h
    split at h
    · rename_i e; subst e; cases h; simp
    · simp [keyOf_mem h]
/-- THE HEAD COMES AGAIN: a state in which all places hold something stands for the head's, at the values that they hold. -/
theorem Sat.rebase {P : Program} {F : Nat → Prop} {w0 : World} {Γ : Env} {st1 st : St} {a : Act} {w : World} (h : Sat P F w0 Γ st a w) {ρ0 : List C} (hρ : ∃ l, Γ.ρ = ρ0 ++ l) {ps : List Pl}
    (hsame : sameRest st1 st ρ0.length ps = true) {vals : List Lf} (hb : backPs st1 st ρ0.length ps = some vals) {ks : List Lk} (hk : kindsL vals = some ks) (hob : Obs Γ.ρ (rngL st.bds vals)) (hwf : headWf st1 ρ0.length ps = true)
    (hnt : st1.nt = st.nt) (hnb : st1.nb ≤ st.nb) (hnx : st1.nx = ρ0.length + ks.length) (hnum : Num st1.bds ρ0) :
    CTy P ks (cs_ Γ.ρ vals) ∧ Sat P F w0 { Γ with ρ := ρ0 ++ cs_ Γ.ρ vals, nb := st1.nb } st1 a w := by
  obtain ⟨l, hl⟩ := hρ
  have hty : CTy P ks (cs_ Γ.ρ vals) := Ls_ty (P := P) (w := w) h.num hk (backPs_ok h hb) hob
  refine ⟨hty, ?_⟩
  let Γ0 : Env := { Γ with ρ := ρ0, nb := st1.nb }
  let Γ' : Env := { Γ with ρ := ρ0 ++ cs_ Γ.ρ vals, nb := st1.nb }
  have e0 : Ext Γ0 Γ := ⟨⟨l, hl⟩, fun _ _ => rfl, by simp only [Γ0]; rw [h.nb]; exact hnb, rfl, rfl⟩
  have e0' : Ext Γ0 Γ' := ⟨⟨_, rfl⟩, fun _ _ => rfl, Nat.le_refl _, rfl, rfl⟩
  simp only [sameRest, Bool.and_eq_true, List.all_eq_true] at hsame
  obtain ⟨⟨⟨s1, s2⟩, s3⟩, s4⟩ := hsame
  simp only [sameVec, Bool.and_eq_true, List.all_eq_true] at s3
  obtain ⟨s3a, s3b⟩ := s3
  generalize hvm : vmapPs st1 st ps = vm at *
  simp only [headWf, Bool.and_eq_true, List.all_eq_true] at hwf
  obtain ⟨⟨⟨w1, w2⟩, w3⟩, w4⟩ := hwf
  have mem' : ∀ b mb, look st1.mem b = some mb → ∃ mb', look st.mem b = some mb' ∧ mb.1 = mb'.1 ∧ (Pl.blk b ∈ ps ∨ mb.2 = mb'.2) := by
    intro b mb hm
    obtain ⟨p, hp, rfl⟩ := look_mem hm
    have := s2 p hp
    rw [hm] at this
    simp only [] at this
    split at this
    · rename_i mb' hm'
      simp only [Bool.and_eq_true, Bool.or_eq_true, List.contains_iff_mem] at this
      exact ⟨mb', hm', Nat.eq_of_beq_eq_true this.1, this.2.imp id sameLs_eq⟩
    · cases this
  -- a slice at the head and the one that stands for it
  have vec' : ∀ i e, look st1.vec i = some e → ∃ e', look st.vec (curOf vm i) = some e' ∧ e.1 = e'.1 ∧ ((∃ j, keyOf vm i = some j ∧ ρ0.length ≤ i ∧ e.2 = .var i) ∨ (keyOf vm i = none ∧ i < ρ0.length ∧ (Pl.vec i ∈ ps ∨ (e.2 = e'.2 ∧ e.2.wf ρ0.length = true)))) := by
    intro i e hi
    obtain ⟨p, hp, rfl⟩ := look_mem hi
    have := s3a p hp
    rw [hi] at this
    simp only [] at this
    split at this
    · rename_i e' he'
      simp only [Bool.and_eq_true] at this
      refine ⟨e', he', Nat.eq_of_beq_eq_true this.1, ?_⟩
      have h2 := this.2
      split at h2
      · rename_i j hj
        simp only [Bool.and_eq_true, decide_eq_true_eq] at h2
        exact .inl ⟨j, hj, Nat.le_of_ble_eq_true h2.1, h2.2⟩
      · rename_i hj
        simp only [Bool.and_eq_true, Bool.or_eq_true, List.contains_iff_mem, decide_eq_true_eq, Nat.blt_eq] at h2
        exact .inr ⟨hj, h2.1, h2.2⟩
    · cases this
  have vinj : ∀ i e i' e', look st1.vec i = some e → look st1.vec i' = some e' → curOf vm i = curOf vm i' → i = i' := by
    intro i e i' e' h1 h2 heq
    obtain ⟨p, hp, rfl⟩ := look_mem h1
    obtain ⟨q, hq, rfl⟩ := look_mem h2
    have := s3b p hp q hq
    rw [h1, h2, heq] at this
    simp only [Nat.beq_refl, Bool.not_true, Bool.or_false, Option.isNone_some] at this
    exact Nat.eq_of_beq_eq_true this
  -- the places
  have place0 : ∀ (O' : Nat → Nat → Prop), (∀ b o, O' b o → Own Γ st b o) → ∀ p ∈ ps, ∃ f cs ds, st1.cellsAt p = some (f, cs) ∧ st.cellsAt p = some (f, ds) ∧ cs.map (Lf.den Γ') = ds.map (Lf.den Γ) ∧ (∀ l ∈ cs, l.ok P w O' Γ') ∧
      (∀ i' j', (i', j') ∈ vmapL cs ds → ∃ e, look st.vec j' = some e ∧ at_ Γ'.ρ i' = (mkJoin j' e.2).ev Γ.ρ) ∧ (∀ (x : Nat) te r te' r', cs[x]? = some (.cnt te r) → ds[x]? = some (.cnt te' r') → te = te' ∧ r.ev Γ'.ρ = r'.ev Γ.ρ) := by
    intro O' hown p hp
    obtain ⟨f, cs, ds, j, vs, c1, c2, c3, c4⟩ := backPs_spec hb p hp
    have hcw := w3 p hp
    rw [c1] at hcw
    simp only [List.all_eq_true] at hcw
    obtain ⟨g1, g2, g3, g4⟩ := backL_spec (P := P) (w := w) (O := Own Γ st) (Γ := Γ) (Γ0 := Γ0) (Γ' := Γ') (fun j e he => (h.vec j e he).1) e0 e0' hown c3 (h.cellsAt_ok c2) hcw (fun x v hx => by
      have hx' := c4 x v hx
      have : (cs_ Γ.ρ vals)[j + x]? = some (v.c Γ.ρ) := by simp [cs_, hx']
      rw [Nat.add_assoc]
      exact at_app this)
    exact ⟨f, cs, ds, c1, c2, g1, g2, g3, g4⟩
  have vkey : ∀ i j, keyOf vm i = some j → ∃ e, look st.vec j = some e ∧ at_ Γ'.ρ i = (mkJoin j e.2).ev Γ.ρ := by
    intro i j hij
    have hm := keyOf_mem hij
    rw [← hvm] at hm
    obtain ⟨p, hp, hm⟩ := List.mem_flatMap.1 hm
    obtain ⟨f, cs, ds, c1, c2, -, -, g3, -⟩ := place0 (Own Γ st) (fun _ _ h => h) p hp
    rw [c1, c2] at hm
    exact g3 i j hm
  -- where it lies and what it holds
  have hvec : ∀ i e, look st1.vec i = some e → ∃ e', look st.vec (curOf vm i) = some e' ∧ e.1 = e'.1 ∧ (at_ Γ'.ρ i).loc = (at_ Γ.ρ (curOf vm i)).loc ∧ (e.2.ev Γ'.ρ).rows = (e'.2.ev Γ.ρ).rows ∧ (∃ v, e.2.ev Γ'.ρ = .s v (e'.2.ev Γ.ρ).rows) ∧ i < st1.nx := by
    intro i e hi
    obtain ⟨e', h1, h2, h3⟩ := vec' i e hi
    refine ⟨e', h1, h2, ?_⟩
    have hv' := (h.vec _ e' h1).1
    rcases h3 with ⟨j, hj, hge, he2⟩ | ⟨hj, hlt, h3⟩
    · obtain ⟨e'', k1, k2⟩ := vkey i j hj
      have hcur : curOf vm i = j := by unfold curOf; rw [hj]; rfl
      rw [hcur] at h1 hv' ⊢
      obtain rfl : e' = e'' := Option.some.inj (h1.symm.trans k1)
      have hjo := mkJoin_ev hv'
      rw [hjo] at k2
      rw [he2]
      simp only [E.ev, k2]
      refine ⟨rfl, rfl, ⟨_, rfl⟩, ?_⟩
      -- the variable is among the new ones
      rw [hnx]
      rcases Nat.lt_or_ge i (ρ0.length + ks.length) with h | h
      · exact h
      · exfalso
        have hlen : (ρ0 ++ cs_ Γ.ρ vals).length = ρ0.length + ks.length := by rw [List.length_append, hty.len]
        have : at_ (ρ0 ++ cs_ Γ.ρ vals) i = .i 0 := by unfold at_; rw [List.getD_eq_getElem?_getD, List.getElem?_eq_none (by omega)]; rfl
        rw [show at_ Γ'.ρ i = at_ (ρ0 ++ cs_ Γ.ρ vals) i from rfl, this] at k2
        cases k2
    · have hcur : curOf vm i = i := by unfold curOf; rw [hj]; rfl
      rw [hcur] at h1 hv' ⊢
      have hat : at_ Γ'.ρ i = at_ Γ.ρ i := by
        show at_ (ρ0 ++ cs_ Γ.ρ vals) i = _
        rw [at_ext hlt, hl, at_ext hlt]
      rw [hat]
      have hx : ∃ v, e.2.ev Γ'.ρ = .s v (e'.2.ev Γ.ρ).rows := by
        obtain ⟨ks', us, -, ⟨v', hv2⟩, -⟩ := hv'
        rcases h3 with hp | ⟨he, hwf'⟩
        · obtain ⟨f, cs, ds, c1, c2, -, -, -, g4⟩ := place0 (Own Γ st) (fun _ _ h => h) _ hp
          simp only [St.cellsAt, hi, h1, Option.map_some, Option.some.injEq, Prod.mk.injEq] at c1 c2
          obtain ⟨-, rfl⟩ := c1
          obtain ⟨-, rfl⟩ := c2
          obtain ⟨-, g⟩ := g4 0 e.1 e.2 e'.1 e'.2 rfl rfl
          rw [g]; exact ⟨v', hv2⟩
        · have : e.2.ev Γ'.ρ = e'.2.ev Γ.ρ := by
            rw [← he]
            show e.2.ev (ρ0 ++ cs_ Γ.ρ vals) = _
            rw [E.ev_ext _ hwf', hl, E.ev_ext _ hwf']
          rw [this]; exact ⟨v', hv2⟩
      obtain ⟨v, hv⟩ := hx
      exact ⟨rfl, by rw [hv]; rfl, ⟨v, hv⟩, by rw [hnx]; omega⟩
  have hold' : ∀ s j b, Hold Γ' st1 s j b → Hold Γ st s (if s then j else curOf vm j) b := by
    intro s j b hh
    rcases hh.inv with ⟨rfl, mb, hj, rfl⟩ | ⟨rfl, e, hj, hb⟩
    · obtain ⟨mb', hm', -⟩ := mem' j mb hj
      exact ⟨mb', hm', rfl⟩
    · obtain ⟨e', k1, k2, k3, -⟩ := hvec j e hj
      exact Hold.vec (Γ := Γ) (i := curOf vm j) k1 (k3 ▸ hb)
  have hown : ∀ b o, Own Γ' st1 b o → Own Γ st b o := fun b o hb => by
    rcases Own.iff.1 hb with hb | ⟨s, j, hh⟩
    · exact .inl hb
    · exact (hold' s j b hh).own o
  have place : ∀ p ∈ ps, ∃ f cs ds, st1.cellsAt p = some (f, cs) ∧ st.cellsAt p = some (f, ds) ∧ cs.map (Lf.den Γ') = ds.map (Lf.den Γ) ∧ ∀ l ∈ cs, l.ok P w (Own Γ' st1) Γ' := fun p hp => by
    obtain ⟨f, cs, ds, c1, c2, g1, g2, -⟩ := place0 _ hown p hp
    exact ⟨f, cs, ds, c1, c2, g1, g2⟩
  refine ⟨fun t sv hs => ?_, by rw [hnt]; exact h.size, fun b mb hm => ?_, fun i e hi => ?_, fun i e hi => ?_, fun s j s' j' b h1 h2 => ?_, h.keeps, h.fold, h.base, h.defers, by simp [hnx, hty.len], rfl,
    ⟨Bds.ok_ext hnum.bds, hnum.len.app fun c hc => hty.small c hc⟩⟩
  · obtain ⟨p, hp, rfl⟩ := look_mem hs
    have h1 := s1 p hp
    rw [hs] at h1
    simp only [Bool.or_eq_true, List.contains_iff_mem] at h1
    by_cases hpl : Pl.slot p.1 ∈ ps
    · obtain ⟨f, cs, ds, c1, c2, g1, g2⟩ := place _ hpl
      simp only [St.cellsAt, hs] at c1
      split at c1
      · rename_i x hx
        cases hx
        cases c1
        simp only [St.cellsAt] at c2
        split at c2
        · rename_i y hy
          cases c2
          have := (h.slots p.1 _ hy).1
          simp at g1
          exact ⟨(show slotV Γ' a p.1 = slotV Γ a p.1 from rfl).trans (this.trans g1.symm), fun z hz => by simp [S0.cells] at hz; subst hz; exact g2 _ (by simp)⟩
        · cases c2
        · cases c2
      · rename_i x hx
        cases hx
        cases c1
        simp only [St.cellsAt] at c2
        split at c2
        · cases c2
        · rename_i y hy
          cases c2
          have := (h.slots p.1 _ hy).1
          exact ⟨(show slotV Γ' a p.1 = slotV Γ a p.1 from rfl).trans (this.trans (by show _ = Value.agg (List.map (Lf.den Γ') cs).toArray; rw [g1]; rfl)), fun z hz => g2 z hz⟩
        · cases c2
      · cases c1
    · rcases h1 with h1 | h1
      · exact absurd h1 hpl
      · split at h1
        · rename_i sv' hsv'
          have e := sameS_eq h1
          subst e
          have hw' := w1 p hp
          rw [hs] at hw'
          simp only [Bool.or_eq_true, List.contains_iff_mem] at hw'
          have hw2 : sv.wf Γ0.ρ.length Γ0.nb = true := hw'.resolve_left hpl
          obtain ⟨g1, g2⟩ := h.slots p.1 _ hsv'
          exact ⟨(show slotV Γ' a p.1 = slotV Γ a p.1 from rfl).trans (g1.trans ((SV.den_ext e0 sv hw2).trans (SV.den_ext e0' sv hw2).symm)), SV.ok_anti (SV.ok_ext e0' hw2 (SV.ok_unext e0 hw2 g2)) hown⟩
        · cases h1
  · obtain ⟨mb', hm', ht, hor⟩ := mem' b mb hm
    obtain ⟨m1, m2, m3, m4⟩ := h.mem b mb' hm'
    have hb2 : b < st1.nb ∧ (Pl.blk b ∈ ps ∨ mb.2.all (Lf.wf ρ0.length st1.nb) = true) := by
      obtain ⟨p, hp, rfl⟩ := look_mem hm
      have := w2 p hp
      rw [hm] at this
      simp only [Bool.and_eq_true, Nat.blt_eq, Bool.or_eq_true, List.contains_iff_mem] at this
      exact this
    by_cases hpl : Pl.blk b ∈ ps
    · obtain ⟨f, cs, ds, c1, c2, g1, g2⟩ := place _ hpl
      simp only [St.cellsAt, hm, hm', Option.map_some, Option.some.injEq, Prod.mk.injEq] at c1 c2
      obtain ⟨-, rfl⟩ := c1
      obtain ⟨-, rfl⟩ := c2
      refine ⟨?_, g2, m3, hb2.1⟩
      rw [ht, show dens _ mb.2 = dens Γ mb'.2 from by unfold dens; exact congrArg _ g1]
      exact m1
    · have e := hor.resolve_left hpl
      have hwl := hb2.2.resolve_left hpl
      refine ⟨?_, fun l hl => ?_, m3, hb2.1⟩
      · rw [ht, show dens _ mb.2 = dens Γ mb'.2 from by rw [← e]; exact (dens_ext e0' mb.2 hwl).trans (dens_ext e0 mb.2 hwl).symm]
        exact m1
      · have hl' : l.wf Γ0.ρ.length Γ0.nb = true := List.all_eq_true.1 hwl l hl
        exact Lf.ok_anti (Lf.ok_ext e0' hl' (Lf.ok_unext e0 hl' (m2 l (by rw [← e]; exact hl)))) hown
  · obtain ⟨e', k1, k2, k3, k4, k5, k6⟩ := hvec i e hi
    obtain ⟨g1, g2, g3⟩ := h.vec _ e' k1
    refine ⟨?_, k6, fun b hb => g3 b (by rw [← k3]; exact hb)⟩
    show VecOK P w (Own Γ' st1) e.1 (at_ Γ'.ρ i).loc (e.2.ev Γ'.ρ)
    rw [k3, k2]
    obtain ⟨ks', us, f1, f2, f3, f4, f5⟩ := g1.anti hown
    obtain ⟨v, hv⟩ := k5
    exact ⟨ks', us, f1, ⟨v, by rw [k4]; exact hv⟩, by rw [k4]; exact f3, by rw [k4]; exact f4, by rw [k4]; exact f5⟩
  · obtain ⟨p, hp, rfl⟩ := look_mem hi
    have := List.all_eq_true.1 s4 p hp
    rw [hi] at this
    simp only [] at this
    split at this
    · rename_i e' he'
      simp only [Bool.and_eq_true] at this
      obtain ⟨⟨⟨q1, q2⟩, q3⟩, q4⟩ := this
      have ee : e = e' := Prod.ext (Nat.eq_of_beq_eq_true q1) (Prod.ext (same0s_eq q2) (sameLs_eq q3))
      subst ee
      simp only [wfC, Bool.and_eq_true, Nat.blt_eq] at q4
      obtain ⟨⟨r1, r2⟩, r3⟩ := q4
      obtain ⟨k1, k2, k3⟩ := h.clo p.1 e he'
      have hat : at_ Γ'.ρ p.1 = at_ Γ.ρ p.1 := by
        show at_ (ρ0 ++ cs_ Γ.ρ vals) p.1 = _
        rw [at_ext r1, hl, at_ext r1]
      refine ⟨?_, fun s hs l hl' => ?_, fun l hl' => ?_⟩
      · rw [show at_ _ p.1 = at_ Γ'.ρ p.1 from rfl, hat, k1]
        have a1 : e.2.1.map (S0.den Γ) = e.2.1.map (S0.den Γ') := List.map_congr_left fun s hs => by
          have hws : s.wf Γ0.ρ.length Γ0.nb = true := List.all_eq_true.1 r2 s hs
          exact (S0.den_ext e0 s hws).trans (S0.den_ext e0' s hws).symm
        have a2 : e.2.2.map (Lf.den Γ) = e.2.2.map (Lf.den Γ') := List.map_congr_left fun l hl' => by
          have hws : l.wf Γ0.ρ.length Γ0.nb = true := List.all_eq_true.1 r3 l hl'
          exact (Lf.den_ext e0 l hws).trans (Lf.den_ext e0' l hws).symm
        rw [a1, a2]
      · have hws : l.wf Γ0.ρ.length Γ0.nb = true := S0.wf_cells (n := Γ0.ρ.length) (nb := Γ0.nb) (List.all_eq_true.1 r2 s hs) l hl'
        exact Lf.ok_anti (Lf.ok_ext e0' hws (Lf.ok_unext e0 hws (k2 s hs l hl'))) hown
      · have hws : l.wf Γ0.ρ.length Γ0.nb = true := List.all_eq_true.1 r3 l hl'
        exact Lf.ok_anti (Lf.ok_ext e0' hws (Lf.ok_unext e0 hws (k3 l hl'))) hown
    · cases this
  · have g1 := hold' _ _ _ h1
    have g2 := hold' _ _ _ h2
    obtain ⟨q1, q2⟩ := h.inj _ _ _ _ _ g1 g2
    subst q1
    cases s with
    | true => exact ⟨rfl, q2⟩
    | false =>
      obtain ⟨e, hj, -⟩ := h1
      obtain ⟨e', hj', -⟩ := h2
      exact ⟨rfl, vinj j e j' e' hj hj' q2⟩
end Go.Proofs.Ytlbgcjpkegpmlaa
/- The engine, part 14: a code carried out by symbols; a function's contract. -/
namespace Go.Proofs.Ytlbgcjpkegpmlaa
open Go.RowKit
set_option linter.unusedSimpArgs false
set_option linter.unusedVariables false

def Ex.out : Ex → Exit
  | .nrm => .normal
  | .ext id => .exit id
  | .ret => .ret
section
variable {cx : Cx} {R : List C → Prop} {F : Nat → Prop} {w0 : World}
/-- What follows a code. -/
def KOK (cx : Cx) (R : List C → Prop) (F : Nat → Prop) (w0 : World) (k : Ex → St → Option Tree) (Γ : Env) (Ls : List (List C → Prop)) (Q : Exit → Act → World → Prop) : Prop :=
  ∀ x st' T' Γ' Ls', k x st' = some T' → Ext Γ Γ' → Ls <+: Ls' → Ls'.length = st'.lvl → VC cx R T' Γ'.ρ Ls' → ∀ a w, Sat cx.P F w0 Γ' st' a w → Q x.out a w
theorem KOK.mono {k : Ex → St → Option Tree} {Γ Γ1 : Env} {Ls Ls1 : List (List C → Prop)} {Q : Exit → Act → World → Prop} (h : KOK cx R F w0 k Γ Ls Q) (he : Ext Γ Γ1) (hl : Ls <+: Ls1) : KOK cx R F w0 k Γ1 Ls1 Q :=
  fun x st' T' Γ' Ls' hk he' hl' => h x st' T' Γ' Ls' hk (he.trans he') (hl.trans hl')
theorem Sat.learn1 {P : Program} {Γ : Env} {st : St} {a : Act} {w : World} (hs : Sat P F w0 Γ st a w) {b : B} {t : Bool} (hb : b.den Γ.ρ = t) : Sat P F w0 Γ { st with bds := Go.Proofs.Ytlbgcjpkegpmlaa.learn st.nx st.bds b t } a w :=
  hs.slots' hs.slots hs.size hs.defers ⟨learn_ok hs.num.len (by rw [hs.len]; exact Nat.le_refl _) b st.bds t hs.num.bds hb, hs.num.len⟩

theorem take_free {α : Type} (p : α → Bool) : ∀ (l : List α), ∀ x ∈ l.take (l.takeWhile p).length, p x = true
  | [], x, h => by simp at h
  | y :: l, x, h => by
    by_cases hp : p y = true
    · simp only [List.takeWhile_cons, hp, if_true, List.length_cons, List.take_succ_cons] at h
      rcases List.mem_cons.1 h with rfl | h
      · exact hp
      · exact take_free p l x h
    · simp [List.takeWhile_cons, hp] at h
theorem zero_dens {P : Program} {t : TypeId} {cs : List Lf} (h : zeroLf P t = some cs) (Γ Γ' : Env) : dens Γ cs = dens Γ' cs := by
  obtain ⟨it, z, h1, h2, h3⟩ := zeroLf_spec h Γ
  obtain ⟨it', z', h1', h2', h3'⟩ := zeroLf_spec h Γ'
  rw [h1] at h1'
  cases h1'
  rw [h2] at h2'
  cases h2'
  rw [← h3, h3']
theorem zero_ok {P : Program} {t : TypeId} {cs : List Lf} (h : zeroLf P t = some cs) (w : World) (O : Nat → Nat → Prop) (Γ : Env) : ∀ l ∈ cs, l.ok P w O Γ := fun l hl => by
  unfold zeroLf at h
  split at h
  · rename_i it hi
    cases hzz : it.zero with
    | none => simp [hzz] at h
    | some zv =>
      simp [hzz] at h
      subst h
      obtain ⟨v, -, rfl⟩ := List.mem_map.1 hl
      unfold Lf.ofValue
      split <;> trivial
  · cases h
theorem run_alloc {P : Program} {o : Oper} {t : TypeId} (ho : o.op = .alloc t) {cs : List Lf} (hz : zeroLf P t = some cs) (Γ : Env) (a : Act) (w : World) :
    (execOp a.eval o).run P w = .ok (.value (.pointer (some ⟨w.heap.size, 0, none⟩))) (w.alloc (.cells (dens Γ cs) t)) := by
  obtain ⟨it, z, hi, hzz, hc⟩ := zeroLf_spec hz Γ
  unfold execOp
  rw [ho]
  simp [Instr.alloc, zeroValue, run_typeInfo' hi, hzz, newVar, newRow, hc]
theorem draw_sound (hcx : CxOK cx) {id : Nat} {ops : Array Oper} (hcond : drawOk cx ops = true) {Γ : Env} {st : St} {a : Act} {w : World} (hs : Sat cx.P F w0 Γ st a w) {k : St → Option Tree} {T : Tree}
    (h : execOps cx ops ops.toList st k = some T) {Ls : List (List C → Prop)} (hl : Ls.length = st.lvl) (hv : VC cx R T Γ.ρ Ls) {Q : Exit → Act → World → Prop} (hk : Next cx R F w0 k Γ Ls (fun a w => Q .normal a w)) :
    (Code.region id ops true).wp cx.P Q a w := by
  simp only [drawOk, Bool.and_eq_true] at hcond
  obtain ⟨hh, ht⟩ := hcond
  generalize hn : headLen cx ops = n
  have hfree : ∀ o ∈ ops.toList.take n, freeOp cx o = true := by rw [← hn]; exact take_free _ _
  have hw1 : Sat cx.P F w0 Γ st a { w with drawn := w.drawn + 1 } := hs.below ⟨rfl, rfl, rfl, Nat.le_refl _, fun _ _ => rfl⟩
  have hsplit : ops.toList = ops.toList.take n ++ ops.toList.drop n := (List.take_append_drop n _).symm
  rw [hsplit] at h
  generalize hta : (match ops[n]? with | some o => (match o.op with | .alloc t => t | _ => 0) | none => 0) = ta
  generalize hca : (zeroLf cx.P ta).getD [] = ca
  let Cl : Option Nat → World → Prop := fun ob w => Sat cx.P F w0 (Γ.addO ob) st a w ∧ ∀ b, ob = some b → Blk w b ta (dens Γ ca) ∧ w0.heap.size ≤ b ∧ ∃ w1, Sat cx.P F w0 Γ st a w1 ∧ w1.heap.size ≤ b
  have hcl1 : Cl none { w with drawn := w.drawn + 1 } := ⟨by rw [Env.addO_none]; exact hw1, fun b hb => by cases hb⟩
  obtain ⟨vs, st', T', Γ', g1, g2, g3, g4, g5, g6, g7, g8⟩ := head_lex (R := R) (F := F) (w0 := w0) hcx (Cl := Cl) hcl1 (ops.toList.take n) hfree st T h Γ Ls hv a
    ⟨fun ob w hw => hw.1, fun ob w w' hw hb => ⟨hw.1.below hb, fun b hb' => ⟨((hw.2 b hb').1).below hb, (hw.2 b hb').2⟩⟩⟩
  have hle : drawLen cx ops ≤ ops.size := by
    simp only [tailOk, Bool.and_eq_true, decide_eq_true_eq] at ht
    exact ht.1.1.1
  have start : ∀ m, m = drawLen cx ops → n ≤ m → Head cx.P ops Cl n m vs a none (Array.replicate ops.size false) a { w with drawn := w.drawn + 1 } := by
    intro m hm hnm
    refine ⟨hcl1, ⟨by simp, fun j oj _ hj => ?_, fun t _ ht => ?_⟩, rfl, rfl, fun _ => ?_, fun _ => rfl, fun t hall => ?_⟩
    · rw [getD_replicate_false] at hj; cases hj
    · exact getD_in (by simpa using ht) (getD_replicate_false _ _)
    · rw [getD_replicate_false]; rfl
    · refine (putAll_other _ _ _ t fun x hx hxd => ?_).symm
      obtain ⟨j, hj⟩ := List.getElem?_of_mem hx
      rw [List.getElem?_take] at hj
      split at hj
      · rename_i hjn
        have := hall j (by omega) (by unfold dstOf; simp at hj; rw [hj]; exact hxd)
        rw [getD_replicate_false] at this
        cases this
      · cases hj
  have hcount : ∀ m, m ≤ ops.size → ops.size = (List.range m).countP (fun j => !(Array.replicate ops.size false).getD j false) + (ops.size - m) := by
    intro m hm
    have : (List.range m).countP (fun j => !(Array.replicate ops.size false).getD j false) = m := by
      rw [List.countP_eq_length.2 (fun j _ => by rw [getD_replicate_false]; rfl)]
      simp
    omega
  by_cases hal : allocAt ops n = true
  · have hm : drawLen cx ops = n + 1 := by unfold drawLen; rw [hn, if_pos hal]
    rw [hm] at hh ht hle
    unfold allocAt at hal
    split at hal
    · rename_i o ho
      simp only [Bool.and_eq_true, Option.isNone_iff_eq_none] at hal
      obtain ⟨⟨⟨hop, hg⟩, hdst⟩, -⟩ := hal
      split at hop
      · rename_i t hopeq
        have hta' : ta = t := by rw [← hta, ho]; simp only [hopeq]
        subst hta'
        have hdrop : ops.toList.drop n = o :: ops.toList.drop (n + 1) := by
          have hlt : n < ops.toList.length := by simp; omega
          rw [List.drop_eq_getElem_cons hlt]
          congr 1
          have : ops.toList[n]? = some o := by simp [ho]
          rw [List.getElem?_eq_getElem hlt] at this
          exact Option.some.inj this
        rw [hdrop] at g2
        simp only [execOps, hg] at g2
        have g2 := orF_some g2 g5
        have hfz : toFreeze cx st' o = [] := by unfold toFreeze; rw [hopeq]
        have hov : opVal cx.P st' o = none := by unfold opVal; rw [hopeq]
        simp only [doOpF, hfz, freezeAll, doOp, hov, hopeq] at g2
        split at g2
        · rename_i cs hz
          have hcs : ca = cs := by rw [← hca, hz]; rfl
          subst hcs
          have hfirst : ∀ (ob : Option Nat) (w1 : World), True := fun _ _ => trivial
          have hact : ∀ b, endAct ops n vs a (some b) = (putAll (ops.toList.take n) vs a).put o.dst (.pointer (some ⟨b, 0, none⟩)) := fun b => by
            unfold endAct
            rw [show dstOf ops n = o.dst by unfold dstOf; rw [ho]; rfl]
          have halloc : ∀ a1 w1, Cl none w1 → ∀ K Q1, (∀ w', Cl (some w1.heap.size) w' → K (a1.put o.dst (.pointer (some ⟨w1.heap.size, 0, none⟩))) w') → o.wp cx.P a1 w1 K Q1 := fun a1 w1 hw1 K Q1 hK => by
            unfold Oper.wp
            rw [run_alloc hopeq hz Γ]
            have hsw := hw1.1
            rw [Env.addO_none] at hsw
            have hbel := below_alloc w1 (.cells (dens Γ ca) ta)
            refine hK _ ⟨hsw.belowO hbel (Nat.le_refl _) (by simp), fun b hb => ?_⟩
            cases hb
            exact ⟨Blk.new w1 ta _, hsw.keeps.size, w1, hsw, Nat.le_refl _⟩
          refine wp_region_any hcx.mixed (any_order g1 hh ht (Nat.le_succ n) (Nat.le_refl _) (fun _ => ⟨o, ho, hg, halloc⟩) (fun ob w1 hw1 hsome _ => ?_) ops.size _ a _ none (start (n + 1) hm.symm (Nat.le_succ n)) (hcount (n + 1) hle))
          cases ob with
          | none => have := hsome (Nat.lt_succ_self n); cases this
          | some b =>
            obtain ⟨hb1, hb2, hb3⟩ := hw1.2 b rfl
            have hsat := g6.sat (some b) w1 hw1
            obtain ⟨w2, hw2, hge2⟩ := hb3
            have hsat0 := g6.sat none w2 ⟨by rw [Env.addO_none]; exact hw2, fun b hb => by cases hb⟩
            rw [Env.addO_none] at hsat0
            have hnb : ∀ s j, ¬ Hold Γ' st' s j b := fun s j hh => by have := hsat0.hold_lt hh; omega
            have hz' : dens Γ' ca = dens Γ ca := zero_dens hz Γ' Γ
            split at g2
            · rename_i s' st0 m hn
              obtain ⟨f1, f2, f3, f4, f5, f6, f7, f8, f9⟩ := hsat.nils hn (s := .agg ca) (zero_ok hz _ _ _)
              cases hf : st0.fresh ta s'.cells with
              | none => simp [hf] at g2
              | some st1 =>
                cases hp : st1.put o.dst (some (.one (.lf (.ptr st'.nb 0)))) with
                | none => simp [hf, hp] at g2
                | some st2 =>
                  cases hk2 : execOps cx ops (ops.toList.drop (n + 1)) st2 k with
                  | none => simp [hf, hp, hk2] at g2
                  | some T2 =>
                    simp [hf, hp, hk2] at g2
                    subst g2
                    have hvc2 := VC.dfnN g5
                    have hd : dens { Γ' with ρ := Γ'.ρ ++ List.replicate m nilC } s'.cells = dens Γ ca := by
                      rw [← hz']
                      unfold dens
                      have := f9
                      rw [show ({ (Γ'.addO (some b)) with ρ := (Γ'.addO (some b)).ρ ++ List.replicate m nilC } : Env) = ({ Γ' with ρ := Γ'.ρ ++ List.replicate m nilC } : Env).addO (some b) from rfl] at this
                      rw [List.map_congr_left fun l _ => Lf.den_addO _ (some b) l, List.map_congr_left fun l _ => Lf.den_addO Γ' (some b) l] at this
                      rw [this]; rfl
                    have hsat2 : Sat cx.P F w0 (({ Γ' with ρ := Γ'.ρ ++ List.replicate m nilC } : Env).addO (some b)) st0 (putAll (ops.toList.take n) vs a) w1 := f2
                    obtain ⟨Γ2, e1, e2, e3, e4, e5⟩ := hsat2.adopt hf (by rw [hd]; exact hb1) hb2 (fun s j hh => by have := (hsat0.nils hn (s := .agg ca) (zero_ok hz _ _ _)).2.1.hold_lt hh; omega) (fun l hl => Lf.ok_addO.1 (f4 l hl))
                    have hput := e4.put hp (one_ok trivial)
                    simp only [SV.den, S0.den, Lf.den] at hput
                    rw [← f6, e3] at hput
                    rw [hact]
                    have hext : Ext Γ' { Γ' with ρ := Γ'.ρ ++ List.replicate m nilC } := ⟨⟨_, rfl⟩, fun _ _ => rfl, Nat.le_refl _, rfl, rfl⟩
                    exact execOps_sound hcx (ops.toList.drop (n + 1)) st2 T2 hk2 Γ2 Ls (by rw [St.put_lvl hp, e5, f5, g4]; exact hl) (by rw [e2]; exact hvc2) _ w1 hput (hk.mono ((g3.trans hext).trans e1) (List.prefix_refl _))
            · cases hf : st'.fresh ta ca with
              | none => simp [hf] at g2
              | some st1 =>
                cases hp : st1.put o.dst (some (.one (.lf (.ptr st'.nb 0)))) with
                | none => simp [hf, hp] at g2
                | some st2 =>
                  simp [hf, hp] at g2
                  obtain ⟨Γ2, e1, e2, e3, e4, e5⟩ := hsat.adopt hf (by rw [hz']; exact hb1) hb2 hnb (fun l hl => zero_ok hz _ _ _ l hl)
                  have hput := e4.put hp (one_ok trivial)
                  simp only [SV.den, S0.den, Lf.den, e3] at hput
                  rw [hact]
                  exact execOps_sound hcx (ops.toList.drop (n + 1)) st2 T' g2 Γ2 Ls (by rw [St.put_lvl hp, e5, g4]; exact hl) (by rw [e2]; exact g5) _ w1 hput (hk.mono (g3.trans e1) (List.prefix_refl _))
        · cases g2
      · cases hop
    · cases hal
  · have hm : drawLen cx ops = n := by unfold drawLen; rw [hn, if_neg hal]
    rw [hm] at hh ht hle
    refine wp_region_any hcx.mixed (any_order g1 hh ht (Nat.le_refl n) (Nat.le_succ n) (fun h => by omega) (fun ob w1 hw1 _ hnone => ?_) ops.size _ a _ none (start n hm.symm (Nat.le_refl n)) (hcount n hle))
    have := hnone rfl
    subst this
    have hsat := g6.sat none w1 hw1
    rw [Env.addO_none] at hsat
    exact execOps_sound hcx (ops.toList.drop n) st' T' g2 Γ' Ls (by rw [g4]; exact hl) g5 _ w1 hsat (hk.mono g3 (List.prefix_refl _))
theorem join_sound (hcx : CxOK cx) {id : Nat} {ops : Array Oper} {j : List (Nat × Bool × List Lk) × List Pl} {st : St} {k : St → Option Tree} {T : Tree} (h : joinT cx id ops j st k = some T) {Γ : Env} {Ls : List (List C → Prop)} (hl : Ls.length = st.lvl) (hv : VC cx R T Γ.ρ Ls) {a : Act} {w : World} (hs : Sat cx.P F w0 Γ st a w)
    {Q : Exit → Act → World → Prop} (hk : Next cx R F w0 k Γ Ls (fun a w => Q .normal a w)) : (Code.region id ops true).wp cx.P Q a w := by
  unfold joinT at h
  split at h
  rotate_left
  · cases h; exact hv.elim
  rename_i hcond
  simp only [Bool.and_eq_true] at hcond
  obtain ⟨hc, hsel, hwf⟩ := hcond
  simp only [joinOk, Bool.and_eq_true, decide_eq_true_eq] at hc
  obtain ⟨⟨⟨⟨⟨c2, c4⟩, c5⟩, c6⟩, c7⟩, c8⟩ := hc
  have c4 := Nat.eq_of_beq_eq_true c4
  have c5 := Nat.eq_of_beq_eq_true c5
  have c6 := Nat.eq_of_beq_eq_true c6
  have c8 := Nat.eq_of_beq_eq_true c8
  generalize joinSt1 j (dstsOf ops) st = st1 at *
  generalize joinPs j = ps at *
  generalize joinKs j st = ks at *
  split at h
  · rename_i ws t hws ht
    cases h
    obtain ⟨I, hvw, hall⟩ := hv
    have hlen : Γ.ρ.length = st.nx := hs.len
    have hnum1 : Num st1.bds Γ.ρ := by rw [c7]; exact hs.num
    have hs' : Sat cx.P F w0 Γ { st with lvl := st.lvl + 1 } a w := hs.relvl _
    refine any_sound (R := R) hcx (by simp only [Bool.and_eq_true]; exact ⟨hsel, hwf⟩) hws (Ls := Ls ++ [I]) (by simp [hl]) hvw hs' ?_
    intro st' T' Γ' Ls' hk' he' hl' hlen' hv' a' w' hs'
    unfold joinEnd at hk'
    split at hk'
    · rename_i hc
      simp only [Bool.and_eq_true] at hc
      obtain ⟨⟨d1, d2⟩, d3⟩ := hc
      split at hk'
      · rename_i vals hvals
        split at hk'
        · rename_i hks'
          cases hk'
          obtain ⟨hob', hback⟩ := VC.obT hv'
          obtain ⟨l, hl2⟩ := he'.ρ
          obtain ⟨hty', hsat'⟩ := hs'.rebase (st1 := st1) (ρ0 := Γ.ρ) ⟨l, hl2⟩ (by rw [hlen]; exact d1) (by rw [hlen]; exact hvals) hks' hob' (by rw [hlen]; exact c2) (Nat.eq_of_beq_eq_true d3) (Nat.le_of_ble_eq_true d2) (by rw [hlen]; exact c4) hnum1
          have hget : Ls'[st.lvl]? = some I := by
            obtain ⟨m, rfl⟩ := hl'
            rw [List.append_assoc, List.getElem?_append_right (by omega), hl]
            simp
          simp only [VC, hget] at hback
          have hvx := allC_elim hall _ hty' hback
          refine hk st1 t { Γ' with ρ := Γ.ρ ++ cs_ Γ'.ρ vals, nb := st1.nb } (Ls ++ [I]) ht ⟨⟨_, rfl⟩, fun b hb => he'.blk b hb, by simp only [c5]; rw [hs.nb]; exact Nat.le_refl _, he'.base, he'.up⟩ (List.prefix_append _ _) (by simp [hl, c8]) hvx a' w' hsat'
        · cases hk'; exact hv'.elim
      · cases hk'; exact hv'.elim
    · cases hk'; exact hv'.elim
  · cases h
theorem exec_sound (hcx : CxOK cx) : ∀ (c : Code) (st : St) (k : Ex → St → Option Tree) (T : Tree), exec cx c st k = some T →
    ∀ (Γ : Env) (Ls : List (List C → Prop)) (Q : Exit → Act → World → Prop), KOK cx R F w0 k Γ Ls Q → Ls.length = st.lvl → VC cx R T Γ.ρ Ls → ∀ a w, Sat cx.P F w0 Γ st a w → c.wp cx.P Q a w := by
  intro c
  induction c with
  | skip => intro st k T h Γ Ls Q hk hl hv a w hs; exact wp_skip (hk .nrm st T Γ Ls h (Ext.refl _) (List.prefix_refl _) hl hv a w hs)
  | label l => intro st k T h Γ Ls Q hk hl hv a w hs; exact wp_label (hk .nrm st T Γ Ls h (Ext.refl _) (List.prefix_refl _) hl hv a w hs)
  | exit id => intro st k T h Γ Ls Q hk hl hv a w hs; exact wp_exit (hk (.ext id) st T Γ Ls h (Ext.refl _) (List.prefix_refl _) hl hv a w hs)
  | ret => intro st k T h Γ Ls Q hk hl hv a w hs; exact wp_ret (hk .ret st T Γ Ls h (Ext.refl _) (List.prefix_refl _) hl hv a w hs)
  | goto l => intro st k T h; cases h
  | refuse y => intro st k T h; cases h
  | rangeFunc f ps x y => intro st k T h; cases h
  | scope c ih =>
    intro st k T h Γ Ls Q hk hl hv a w hs
    simp only [exec] at h
    refine wp_scope_straight (ih st k T h Γ Ls _ ?_ hl hv a w hs)
    intro e st' T' Γ' Ls' hk' he' hl' hlen hv' a' w' hs'
    cases e with
    | nrm => exact hk .nrm st' T' Γ' Ls' hk' he' hl' hlen hv' a' w' hs'
    | ext id => exact hk (.ext id) st' T' Γ' Ls' hk' he' hl' hlen hv' a' w' hs'
    | ret => exact hk .ret st' T' Γ' Ls' hk' he' hl' hlen hv' a' w' hs'
  | seq x y ihx ihy =>
    intro st k T h Γ Ls Q hk hl hv a w hs
    simp only [exec] at h
    refine wp_seq (ihx st _ T h Γ Ls _ ?_ hl hv a w hs)
    intro e st' T' Γ' Ls' hk' he' hl' hlen hv' a' w' hs'
    cases e with
    | nrm => exact ihy st' k T' hk' Γ' Ls' Q (hk.mono he' hl') hlen hv' a' w' hs'
    | ext id => exact hk (.ext id) st' T' Γ' Ls' hk' he' hl' hlen hv' a' w' hs'
    | ret => exact hk .ret st' T' Γ' Ls' hk' he' hl' hlen hv' a' w' hs'
  | cond c x y ihx ihy =>
    intro st k T h Γ Ls Q hk hl hv a w hs
    simp only [exec] at h
    split at h
    · rename_i t hc
      have he := ((hs.view #[c]).lf (by simp) hc).1
      simp only [Lf.den, B.den] at he
      refine wp_cond he ?_
      cases t
      · simp at h ⊢; exact ihy st k T h Γ Ls Q hk hl hv a w hs
      · simp at h ⊢; exact ihx st k T h Γ Ls Q hk hl hv a w hs
    · rename_i b hlit hc
      have he := ((hs.view #[c]).lf (by simp) hc).1
      simp only [Lf.den] at he
      split at h
      · rename_i t f h1 h2
        cases h
        refine wp_cond_split he (fun hb => ?_) (fun hb => ?_)
        · exact ihx _ k t h1 Γ Ls Q hk hl (hv.1 hb) a w (hs.learn1 hb)
        · exact ihy _ k f h2 Γ Ls Q hk hl (hv.2 hb) a w (hs.learn1 hb)
      · cases h
    · cases h
  | block id c ih =>
    intro st k T h Γ Ls Q hk hl hv a w hs
    simp only [exec] at h
    refine wp_block (ih st _ T h Γ Ls _ ?_ hl hv a w hs)
    intro e st' T' Γ' Ls' hk' he' hl' hlen hv' a' w' hs'
    cases e with
    | nrm => exact hk .nrm st' T' Γ' Ls' hk' he' hl' hlen hv' a' w' hs'
    | ret => exact hk .ret st' T' Γ' Ls' hk' he' hl' hlen hv' a' w' hs'
    | ext i =>
      simp only [Ex.out, Exit.inBlock]
      simp only [] at hk'
      by_cases hi : i = id
      · rw [if_pos hi] at hk' ⊢; exact hk .nrm st' T' Γ' Ls' hk' he' hl' hlen hv' a' w' hs'
      · rw [if_neg hi] at hk' ⊢; exact hk (.ext i) st' T' Γ' Ls' hk' he' hl' hlen hv' a' w' hs'
  | region id ops draw =>
    intro st k T h Γ Ls Q hk hl hv a w hs
    simp only [exec] at h
    have hnext : Next cx R F w0 (k .nrm) Γ Ls (fun a w => Q .normal a w) := fun st' T' Γ' Ls' hk' he' hp' hlen hv' a' w' hs' =>
      hk .nrm st' T' Γ' Ls' hk' he' hp' hlen hv' a' w' hs'
    split at h
    · rename_i hcond
      cases draw with
      | false => exact wp_region_list (execOps_sound hcx ops.toList st T h Γ Ls hl hv a w hs hnext)
      | true =>
        simp only [Bool.not_true, Bool.false_or] at hcond
        exact draw_sound hcx hcond hs h hl hv hnext
    · rename_i hcond
      cases draw with
      | false => simp at hcond
      | true =>
        split at h
        · rename_i j hj
          have h := orF_some h hv
          exact join_sound hcx h hl hv hs hnext
        · have h := orF_some h hv
          split at h
          · rename_i hc; exact any_sound hcx hc h hl hv hs hnext
          · cases h
  | loop c ih =>
    intro st k T h Γ Ls Q hk hl hv a w hs
    simp only [exec] at h
    have hs0 : Sat cx.P F w0 Γ (loopSt0 cx c st) a w := hs.forget _
    have hl1 : (loopSt1 cx c st).lvl = st.lvl + 1 := rfl
    have e1 : (loopSt0 cx c st).nb = st.nb := rfl
    have e2 : (loopSt0 cx c st).nt = st.nt := rfl
    have e3 : (loopSt0 cx c st).bds = st.bds := rfl
    generalize loopSt1 cx c st = st1 at *
    generalize loopSt0 cx c st = st0 at *
    generalize loopPs cx c st = ps at *
    split at h
    · cases h; exact hv.elim
    · rename_i init hinit
      split at h
      · cases h; exact hv.elim
      · rename_i ks hks
        split at h
        rotate_left
        · cases h; exact hv.elim
        · rename_i hcond
          simp only [Bool.and_eq_true, decide_eq_true_eq] at hcond
          obtain ⟨⟨⟨⟨⟨⟨c1, c2⟩, c3⟩, c4⟩, c5⟩, c6⟩, c7⟩ := hcond
          have c4 := Nat.eq_of_beq_eq_true c4
          have c5 := Nat.eq_of_beq_eq_true c5
          have c6 := Nat.eq_of_beq_eq_true c6
          generalize hkl : (fun (x : Ex) (st' : St) => match x with
            | .nrm => if sameRest st1 st' st.nx ps && Nat.ble st1.nb st'.nb && Nat.beq st1.nt st'.nt then match backPs st1 st' st.nx ps with
                | some vals => if kindsL vals = some ks then some (obT (rngL st'.bds vals) (.back st.lvl vals)) else some (.fail 60004 [st.path, (firstReg c).getD 0])
                | none => some (.fail 60005 [st.path, (firstReg c).getD 0])
              else some (.fail 60003 ([st.path, (firstReg c).getD 0] ++ diffs st1 st' st.nx ps))
            | x => k x st' : Ex → St → Option Tree) = kl at h
          cases hb : exec cx c st1 kl with
          | none => simp [hb] at h
          | some t =>
            simp [hb] at h
            subst h
            obtain ⟨hob, I, μ, hI0, hall⟩ := VC.obT hv
            have hlen : Γ.ρ.length = st.nx := hs.len
            have hnum1 : Num st1.bds Γ.ρ := by rw [c7]; exact hs.num
            obtain ⟨hty0, hsat0⟩ := hs0.rebase (st1 := st1) (ρ0 := Γ.ρ) ⟨[], by simp⟩ (by rw [hlen]; exact c3) (by rw [hlen]; exact hinit) hks (by rw [e3]; exact hob) (by rw [hlen]; exact c2) (by rw [c6, e2]) (by rw [c5, e1]; exact Nat.le_refl _) (by rw [hlen]; exact c4) hnum1
            refine wp_loop_ghost (fun n a w => ∃ xs Γx, CTy cx.P ks xs ∧ I xs ∧ μ xs = n ∧ Γx.ρ = Γ.ρ ++ xs ∧ Ext Γ Γx ∧ Sat cx.P F w0 Γx st1 a w) (μ (cs_ Γ.ρ init))
              ⟨cs_ Γ.ρ init, { Γ with ρ := Γ.ρ ++ cs_ Γ.ρ init, nb := st1.nb }, hty0, hI0, rfl, rfl, ⟨⟨_, rfl⟩, fun _ _ => rfl, by simp only [c5]; rw [hs.nb]; exact Nat.le_refl _, rfl, rfl⟩, hsat0⟩ ?_
            rintro n a1 w1 ⟨xs, Γx, hty, hI, hn, hρ, he, hsx⟩
            have hvx := allC_elim hall xs hty hI
            rw [← hρ] at hvx
            refine ih st1 kl t hb Γx (Ls ++ [fun ys => I ys ∧ μ ys < μ xs]) _ ?_ (by simp [hl, hl1]) hvx a1 w1 hsx
            intro e st' T' Γ' Ls' hk' he' hl' hlen' hv' a' w' hs'
            subst hkl
            cases e with
            | ext i => exact hk (.ext i) st' T' Γ' Ls' hk' (he.trans he') ((List.prefix_append _ _).trans hl') hlen' hv' a' w' hs'
            | ret => exact hk .ret st' T' Γ' Ls' hk' (he.trans he') ((List.prefix_append _ _).trans hl') hlen' hv' a' w' hs'
            | nrm =>
              simp only [] at hk'
              split at hk'
              · rename_i hc
                simp only [Bool.and_eq_true] at hc
                obtain ⟨⟨d1, d2⟩, d3⟩ := hc
                split at hk'
                · rename_i vals hvals
                  split at hk'
                  · rename_i hks'
                    cases hk'
                    obtain ⟨hob', hback⟩ := VC.obT hv'
                    obtain ⟨l, hl2⟩ := (he.trans he').ρ
                    obtain ⟨hty', hsat'⟩ := hs'.rebase (st1 := st1) (ρ0 := Γ.ρ) ⟨l, hl2⟩ (by rw [hlen]; exact d1) (by rw [hlen]; exact hvals) hks' hob' (by rw [hlen]; exact c2) (Nat.eq_of_beq_eq_true d3) (Nat.le_of_ble_eq_true d2) (by rw [hlen]; exact c4) hnum1
                    have hget : Ls'[st.lvl]? = some (fun ys => I ys ∧ μ ys < μ xs) := by
                      obtain ⟨m, rfl⟩ := hl'
                      rw [List.append_assoc, List.getElem?_append_right (by omega), hl]
                      simp
                    simp only [VC, hget] at hback
                    simp only [Ex.out, Exit.then]
                    refine ⟨μ (cs_ Γ'.ρ vals), by rw [← hn]; exact hback.2, cs_ Γ'.ρ vals, { Γ' with ρ := Γ.ρ ++ cs_ Γ'.ρ vals, nb := st1.nb }, hty', hback.1, rfl, rfl, ⟨⟨_, rfl⟩, fun b hb => ?_, by simp only [c5]; rw [hs.nb]; exact Nat.le_refl _, (he.trans he').base, (he.trans he').up⟩, hsat'⟩
                    exact (he.trans he').blk b hb
                  · cases hk'; exact hv'.elim
                · cases hk'; exact hv'.elim
              · cases hk'; exact hv'.elim
end

/-! A function's beginning and end -/
def retOne (P : Program) (st : St) : ResultVar → Option S0
  | .tmp t => st.s0 (.tmp t)
  | .cell a t => match st.lf (.tmp a) with
    | some l => loadLf P st.mem st.vec t l
    | none => none
def retAll (P : Program) (st : St) : List ResultVar → Option (List S0)
  | [] => some []
  | r :: rs => match retOne P st r, retAll P st rs with
    | some s, some l => some (s :: l)
    | _, _ => none
def argSl : Nat → List S0 → List (Nat × Option SV)
  | _, [] => []
  | i, s :: l => (i, some (.one s)) :: argSl (i + 1) l
/-- The pointer among the arguments. -/
def boxArg : List Sh0 → Option (TypeId × List Lk)
  | [] => none
  | .box t l :: _ => some (t, l)
  | _ :: ss => boxArg ss
/-- What lies behind the pointer at the end. -/
def outL (st : St) (ct : Ct) : Option (List Lf) :=
  match boxArg ct.args with
  | none => some []
  | some (t, ks) => match look st.mem 0 with
    | some mb => if mb.1 = t ∧ kindsL mb.2 = some ks then some mb.2 else none
    | none => none
/-- Slices of one's own are handed on with what they hold. -/
def giveL (P : Program) (vec : Vecs) : List Lk → List Lf → List Lf
  | k :: ks, l :: ls => (match k with | .vec _ => l.give P vec k | _ => l.adapt P [] k) :: giveL P vec ks ls
  | _, ls => ls
def S0.give (P : Program) (vec : Vecs) (sh : Sh0) (s : S0) : S0 :=
  match sh, s with
  | .lf k, .lf l => .lf (match k with | .vec _ => l.give P vec k | _ => l.adapt P [] k)
  | .agg ks, .agg ls => .agg (giveL P vec ks ls)
  | _, s => s
def gives (P : Program) (vec : Vecs) : List Sh0 → List S0 → List S0
  | sh :: shs, s :: ss => s.give P vec sh :: gives P vec shs ss
  | _, ss => ss
/-- The variable of a slice that is handed on. -/
def cntIdx (vec : Vecs) : Lf → Option Nat
  | .cnt te r => match (match r with | .var i => some i | .join (.var i) _ => some i | _ => none : Option Nat) with
    | some i => match look vec i with
      | some e => if e.1 = te ∧ mkJoin i e.2 = r then some i else none
      | none => none
    | none => none
  | _ => none
def Lf.isCnt : Lf → Bool
  | .cnt _ _ => true
  | _ => false
def nodupI (vec : Vecs) : List Lf → Bool
  | [] => true
  | l :: ls => !l.isVec && (match cntIdx vec l with | some i => ls.all fun m => !decide (cntIdx vec m = some i) | none => !l.isCnt) && nodupI vec ls
def resOf (cx : Cx) (ct : Ct) (st : St) (l : List S0) : List S0 := if (kindsOf ct.res).all Lk.noVec then adapts cx.P st.vec ct.res l else gives cx.P st.vec ct.res l
def endOf (cx : Cx) (fn : Func) (ct : Ct) (st : St) : Option Tree :=
  match retAll cx.P st fn.results.toList, outL st ct with
  | some l, some o => if shapes st.mem (resOf cx ct st l) = some ct.res ∧ nodupI st.vec (cellsOf st.mem (resOf cx ct st l)) = true ∧ (l.all fun s => s.cells.all fun x => !x.isCnt) = true then
      some (obT (rngL st.bds (cellsOf st.mem (resOf cx ct st l) ++ o)) (.ret (cellsOf st.mem (resOf cx ct st l) ++ o)))
    else some (.fail 70001 [])
  | none, _ => some (.fail 70002 [])
  | _, none => some (.fail 70003 [])
def startOf (fn : Func) (ct : Ct) (bds : Bds) (wr : List Nat) : St :=
  { sl := argSl 0 (freshS 0 ct.args 0), mem := freshMem 0 ct.args 0, nt := fn.ntmps, nb := (freshMem 0 ct.args 0).length, nx := (kindsOf ct.args).length, lvl := 0, bds := bds, wr := wr }
def execFn (cx : Cx) (fn : Func) (ct : Ct) (bds : Bds) : Option Tree :=
  match fn.body with
  | none => none
  | some c =>
    if ct.args.length ≤ fn.ntmps ∧ ct.args.length ≤ 1000 ∧ boxOk ct = true then
      exec cx c (startOf fn ct bds cx.wr) fun x st => match x with
        | .ext _ => none
        | _ => endOf cx fn ct st
    else none

def resSem (tmps : Array Value) : ResultVar → Sem Value
  | .tmp t => pure (tmps.getD t undef)
  | .cell x t => do loadVar t (← asAddr (tmps.getD x undef))
theorem results_eq (fn : Func) (tmps : Array Value) : results fn tmps = (fn.results.mapM (resSem tmps) >>= fun vs => pure (if h : vs.size = 1 then vs[0] else .tuple vs)) := by
  unfold results
  congr 1
theorem run_one {P : Program} {F : Nat → Prop} {w0 : World} {Γ : Env} {st : St} {a : Act} {w : World} (hs : Sat P F w0 Γ st a w) {r : ResultVar} {s : S0} (h1 : retOne P st r = some s) :
    (resSem a.tmps r).run P w = .ok (s.den Γ) w ∧ s.ok P w (Own Γ st) Γ := by
  have hv := hs.view (P := P) #[.tmp 0]
  cases r with
  | tmp t =>
    simp only [retOne] at h1
    obtain ⟨g1, g2⟩ := hs.tmp (St.s0_ev h1)
    refine ⟨?_, g2⟩
    simp only [resSem, g1, Sem.run_pure]
    rfl
  | cell x t =>
    simp only [retOne] at h1
    split at h1
    · rename_i lf hlf
      obtain ⟨g1, g2⟩ := hs.tmp (St.lf_ev hlf)
      have hlo := g2 lf (by simp [S0.cells])
      obtain ⟨g3, g4⟩ := run_loadLf hv h1 hlo
      refine ⟨?_, g4⟩
      rw [show (SV.one (S0.lf lf)).den Γ = lf.den Γ from rfl] at g1
      have hp : ∃ ad, lf.den Γ = .pointer (some ad) := by
        cases lf with
        | ptr b o => exact ⟨_, rfl⟩
        | elp te sz e y o =>
          obtain ⟨b, p, he, -⟩ := hlo.1.addr hlo.2.1 hlo.2.2.1
          exact ⟨_, he _⟩
        | velp te sz i y o =>
          obtain ⟨b, n, cap, hl, -⟩ := hlo
          exact ⟨(⟨b, 0, none⟩ : Addr).add ((E.den Γ.ρ y).toNat * sz + o), by simp only [Lf.den, hl, elemAt]⟩
        | _ => simp [loadLf] at h1
      obtain ⟨ad, had⟩ := hp
      rw [had] at g1 g3
      simp only [resSem, g1, asAddr, pure_bind]
      simpa only [Instr.loadAt, Instr.sureAddr, pure_bind] using g3
    · cases h1
theorem run_all {P : Program} {F : Nat → Prop} {w0 : World} {Γ : Env} {st : St} {a : Act} {w : World} (hs : Sat P F w0 Γ st a w) : ∀ (rs : List ResultVar) (l : List S0), retAll P st rs = some l →
    (rs.mapM (resSem a.tmps)).run P w = .ok (l.map (S0.den Γ)) w ∧ ∀ s ∈ l, s.ok P w (Own Γ st) Γ
  | [], l, h => by simp [retAll] at h; subst h; simp
  | r :: rs, l, h => by
    simp only [retAll] at h
    split at h
    · rename_i s l' h1 h2
      cases h
      obtain ⟨i1, i2⟩ := run_all hs rs l' h2
      obtain ⟨j1, j2⟩ := run_one hs h1
      refine ⟨?_, fun x hx => ?_⟩
      · simp only [List.mapM_cons, Sem.run_bind, i1, j1, Result.andThen_ok, Sem.run_pure, List.map_cons]
      · rcases List.mem_cons.1 hx with rfl | hx
        · exact j2
        · exact i2 x hx
    · cases h
theorem run_results {P : Program} {fn : Func} {F : Nat → Prop} {w0 : World} {Γ : Env} {st : St} {a : Act} {w : World} (hs : Sat P F w0 Γ st a w) {l : List S0} (h : retAll P st fn.results.toList = some l) :
    (results fn a.tmps).run P w = .ok (match l.map (S0.den Γ) with | [x] => x | _ => .tuple (l.map (S0.den Γ)).toArray) w ∧ ∀ s ∈ l, s.ok P w (Own Γ st) Γ := by
  obtain ⟨k1, k2⟩ := run_all hs _ _ h
  refine ⟨?_, k2⟩
  rw [results_eq]
  simp only [Array.mapM_eq_mapM_toList, Sem.run_bind, Sem.run_map, k1, Result.andThen_ok, Sem.run_pure]
  congr 1
  match l.map (S0.den Γ) with
  | [] => simp
  | [x] => simp
  | x :: y :: l => simp

/-- A FUNCTION'S CONTRACT, out of its tree. -/
theorem look_argSl : ∀ (l : List S0) (i t : Nat) (sv : SV), look (argSl i l) t = some sv → ∃ j s, t = i + j ∧ l[j]? = some s ∧ sv = .one s
  | [], _, _, _, h => by cases h
  | s :: l, i, t, sv, h => by
    simp only [argSl, look] at h
    split at h
    · rename_i e; cases h; exact ⟨0, s, by omega, rfl, rfl⟩
    · obtain ⟨j, s', e, hj, hsv⟩ := look_argSl l (i + 1) t sv h
      exact ⟨j + 1, s', by omega, by simpa using hj, hsv⟩
theorem freshS_len (nb : Nat) : ∀ (l : List Sh0) (i : Nat), (freshS nb l i).length = l.length
  | [], _ => rfl
  | s :: l, i => by simp [freshS, freshS_len nb l]
theorem boxArg_none : ∀ {ss : List Sh0}, boxArg ss = none → ss.all (fun s => !s.isBox) = true
  | [], _ => rfl
  | .box t l :: _, h => by cases h
  | .lf k :: ss, h => by simp only [List.all_cons, Bool.and_eq_true]; exact ⟨rfl, boxArg_none (ss := ss) h⟩
  | .agg k :: ss, h => by simp only [List.all_cons, Bool.and_eq_true]; exact ⟨rfl, boxArg_none (ss := ss) h⟩
theorem boxArg_some : ∀ {ss : List Sh0} {p : TypeId × List Lk}, boxArg ss = some p → ss.all (fun s => !s.isBox) = false
  | [], _, h => by cases h
  | .box t l :: _, _, _ => rfl
  | .lf k :: ss, _, h => by have := boxArg_some (ss := ss) h; simpa [Sh0.isBox] using this
  | .agg k :: ss, _, h => by have := boxArg_some (ss := ss) h; simpa [Sh0.isBox] using this
theorem filter_noBox {ss : List Sh0} (h : (ss.filter Sh0.isBox).length ≤ 0) : ss.all (fun s => !s.isBox) = true := by
  have h0 : (ss.filter Sh0.isBox) = [] := List.eq_nil_of_length_eq_zero (by omega)
  rw [List.all_eq_true]
  intro x hx
  cases hxb : x.isBox with
  | false => rfl
  | true => have := List.mem_filter.2 ⟨hx, hxb⟩; rw [h0] at this; cases this
theorem outs_none {P : Program} {w : World} {O : Nat → Nat → Prop} : ∀ {ss : List Sh0} {vs : List Value}, ss.all (fun s => !s.isBox) = true → Outs P w O ss vs []
  | [], vs, _ => by cases vs <;> rfl
  | s :: ss, [], _ => by cases s <;> rfl
  | s :: ss, v :: vs, hb => by
    simp only [List.all_cons, Bool.and_eq_true] at hb
    cases s with
    | box t l => cases hb.1
    | lf k => exact outs_none (ss := ss) (vs := vs) hb.2
    | agg l => exact outs_none (ss := ss) (vs := vs) hb.2
theorem box_start {P : Program} {w : World} {O : Nat → Nat → Prop} {ρ : List C} {t : TypeId} {ks : List Lk} : ∀ {ss : List Sh0} {vs : List Value} {cs : List C}, Reps P w O none ss vs cs → (ss.filter Sh0.isBox).length ≤ 1 → boxArg ss = some (t, ks) → ∀ i, (∀ j c, cs[j]? = some c → at_ ρ (i + j) = c) →
    ∃ (b : Nat) (us : List Value) (c1 : List C) (n : Nat), (∀ x, IsBox ss vs x ↔ x = b) ∧ Blk w b t us.toArray ∧ (∀ o, O b o) ∧ LReps P w (fun x o => O x o ∨ some b = some x) ks us c1 ∧ freshMem 0 ss i = [(0, some (t, freshL ks n))] ∧ (∀ j c, c1[j]? = some c → at_ ρ (n + j) = c) ∧
      ∀ w' O' us' c', Blk w' b t us'.toArray → LReps P w' O' ks us' c' → Outs P w' O' ss vs c'
  | [], _, _, _, _, hb, _, _ => by cases hb
  | s :: ss, [], _, h, _, _, _, _ => h.elim
  | s :: ss, v :: vs, cs, h, hl, hb, i, hi => by
    obtain ⟨c1, c2, rfl, h1, h2⟩ := h
    have hlen : c1.length = s.kinds.length := h1.ty.len
    have hi2 : ∀ j c, c2[j]? = some c → at_ ρ (i + s.kinds.length + j) = c := fun j c hj => by
      have := hi (c1.length + j) c (by rw [List.getElem?_append_right (by omega)]; simpa using hj)
      rwa [← hlen, Nat.add_assoc]
    have hi1 : ∀ j c, c1[j]? = some c → at_ ρ (i + j) = c := fun j c hj => hi j c (by
      have : j < c1.length := by
        rcases Nat.lt_or_ge j c1.length with h' | h'
        · exact h'
        · rw [List.getElem?_eq_none h'] at hj; cases hj
      rw [List.getElem?_append_left this]; exact hj)
    cases s with
    | box t' l =>
      cases hb
      have hno : ss.all (fun s => !s.isBox) = true := filter_noBox (by simp only [List.filter_cons, Sh0.isBox, if_true, List.length_cons] at hl; omega)
      obtain ⟨b, us, rfl, g1, g2, g3⟩ := h1
      refine ⟨b, us, c1, i, fun x => ⟨?_, fun e => .inl (by rw [e])⟩, g1, g2, g3, ?_, hi1, fun w' O' us' c' k1 k2 => ⟨c', [], b, us', by simp, rfl, k1, k2, outs_none hno⟩⟩
      · rintro (hx | hx)
        · cases hx; rfl
        · exact absurd hx (isBox_noBox hno)
      · simp only [freshMem]
        rw [freshMem_noBox 0 ss _ hno]
    | lf k =>
      obtain ⟨b, us, c, n, r1, r2, r3, r4, r5, r6, r7⟩ := box_start h2 hl hb _ hi2
      exact ⟨b, us, c, n, r1, r2, r3, r4, r5, r6, r7⟩
    | agg l =>
      obtain ⟨b, us, c, n, r1, r2, r3, r4, r5, r6, r7⟩ := box_start h2 hl hb _ hi2
      exact ⟨b, us, c, n, r1, r2, r3, r4, r5, r6, r7⟩
theorem St.look_one {t : TypeId} {l : List Lf} {j : Nat} {mb : TypeId × List Lf} (h : look [(0, some (t, l))] j = some mb) : j = 0 ∧ mb = (t, l) := by
  simp only [look] at h
  split at h
  · rename_i e; cases h; exact ⟨e.symm, rfl⟩
  · cases h
/-! What is handed on at the end -/
section
variable {P : Program} {F : Nat → Prop} {w0 : World} {Γ : Env} {st : St} {a : Act} {w : World}
theorem cntIdx_spec (h : Sat P F w0 Γ st a w) {l : Lf} {i : Nat} (hi : cntIdx st.vec l = some i) : ∃ te e, look st.vec i = some e ∧ l = .cnt te (mkJoin i e.2) ∧ e.1 = te ∧ (l.c Γ.ρ).loc = (at_ Γ.ρ i).loc := by
  unfold cntIdx at hi
  split at hi
  · rename_i te r
    split at hi
    · rename_i i' hi'
      split at hi
      · rename_i e he
        split at hi
        · rename_i hc
          cases hi
          refine ⟨te, e, he, by rw [hc.2], hc.1, ?_⟩
          simp only [Lf.c]
          rw [← hc.2, mkJoin_ev (h.vec _ e he).1]
          rfl
        · cases hi
      · cases hi
    · cases hi
  · cases hi
theorem nodupI_spec {vec : Vecs} : ∀ {ls : List Lf}, nodupI vec ls = true → ∀ l ∈ ls, l.isVec = false ∧ (l.isCnt = true → ∃ i, cntIdx vec l = some i)
  | [], _, l, hl => by cases hl
  | x :: ls, h, l, hl => by
    simp only [nodupI, Bool.and_eq_true, Bool.not_eq_true'] at h
    obtain ⟨⟨h1, h2⟩, h3⟩ := h
    rcases List.mem_cons.1 hl with rfl | hl
    · refine ⟨h1, fun hc => ?_⟩
      split at h2
      · rename_i i hi; exact ⟨i, hi⟩
      · rw [hc] at h2; cases h2
    · exact nodupI_spec h3 l hl
theorem kind_vec {l : Lf} {t : TypeId} (hk : l.kind = some (.vec t)) (hv : l.isVec = false) : l.isCnt = true := by
  cases l with
  | vec te i => cases hv
  | cnt te r => rfl
  | _ => cases hk
theorem vecB_cells (h : Sat P F w0 Γ st a w) : ∀ {ls : List Lf} {ks : List Lk}, kindsL ls = some ks → nodupI st.vec ls = true → (vecB ks (cs_ Γ.ρ ls)).Nodup ∧ ∀ b ∈ vecB ks (cs_ Γ.ρ ls), ∃ l ∈ ls, ∃ i, cntIdx st.vec l = some i ∧ Hold Γ st false i b
  | [], ks, hk, _ => by simp [kindsL] at hk; subst hk; simp [vecB, cs_]
  | l :: ls, ks, hk, hn => by
    have hn0 := hn
    simp only [nodupI, Bool.and_eq_true, Bool.not_eq_true'] at hn
    obtain ⟨⟨h1, h2⟩, h3⟩ := hn
    simp only [kindsL] at hk
    split at hk
    · rename_i k ks' hk1 hk2
      cases hk
      obtain ⟨i1, i2⟩ := vecB_cells h hk2 h3
      have tail : vecB (k :: ks') (cs_ Γ.ρ (l :: ls)) = vecB ks' (cs_ Γ.ρ ls) → (vecB (k :: ks') (cs_ Γ.ρ (l :: ls))).Nodup ∧ ∀ b ∈ vecB (k :: ks') (cs_ Γ.ρ (l :: ls)), ∃ x ∈ l :: ls, ∃ i, cntIdx st.vec x = some i ∧ Hold Γ st false i b := fun e => by
        rw [e]
        exact ⟨i1, fun b hb => by obtain ⟨x, hx, r⟩ := i2 b hb; exact ⟨x, by simp [hx], r⟩⟩
      cases k with
      | vec t =>
        have hc := kind_vec hk1 h1
        obtain ⟨i, hi⟩ := (nodupI_spec hn0 l (by simp)).2 hc
        obtain ⟨te, e, q1, q2, q3, q4⟩ := cntIdx_spec h hi
        rw [hi] at h2
        simp only [List.all_eq_true, Bool.not_eq_true', decide_eq_false_iff_not] at h2
        cases hob : (l.c Γ.ρ).loc.ownBlock with
        | none => exact tail (by simp [cs_, vecB, hob])
        | some b =>
          have hh : Hold Γ st false i b := .vec (Γ := Γ) q1 (by rw [← q4]; exact hob)
          have e' : vecB (.vec t :: ks') (cs_ Γ.ρ (l :: ls)) = b :: vecB ks' (cs_ Γ.ρ ls) := by simp [cs_, vecB, hob]
          rw [e']
          refine ⟨List.nodup_cons.2 ⟨fun hb => ?_, i1⟩, fun x hx => ?_⟩
          · obtain ⟨m, hm, j, hj, hhj⟩ := i2 b hb
            have := (h.inj _ _ _ _ _ hh hhj).2
            subst this
            exact h2 m hm hj
          · rcases List.mem_cons.1 hx with rfl | hx
            · exact ⟨l, by simp, i, hi, hh⟩
            · obtain ⟨m, hm, r⟩ := i2 x hx; exact ⟨m, by simp [hm], r⟩
      | int => exact tail rfl
      | bool => exact tail rfl
      | arr t => exact tail rfl
    · cases hk
theorem Lf.give_spec (h : Sat P F w0 Γ st a w) {O : Nat → Nat → Prop} (hO : ∀ b o, O b o → Own Γ st b o) {k : Lk} {l : Lf} (ho : l.ok P w (Own Γ st) Γ) (hnc : l.isCnt = false) :
    ((match k with | .vec _ => l.give P st.vec k | _ => l.adapt P [] k) : Lf).den Γ = l.den Γ ∧ (((match k with | .vec _ => l.give P st.vec k | _ => l.adapt P [] k) : Lf).isVec = false → ((match k with | .vec _ => l.give P st.vec k | _ => l.adapt P [] k) : Lf).okR P w O Γ) := by
  have plain : ∀ x : Lf, x.ok P w (Own Γ st) Γ → x.isCnt = false → x.isVec = false → x.okR P w O Γ := fun x hx hc hv => by
    cases x with
    | cnt te r => cases hc
    | vec te i => cases hv
    | _ => exact Lf.ok_anti hx hO
  have other : (l.adapt P [] k).den Γ = l.den Γ ∧ ((l.adapt P [] k).isVec = false → (l.adapt P [] k).okR P w O Γ) := by
    refine ⟨adapt_den0 P Γ k l, fun hv => plain _ (S0.adaptOk ho) ?_ hv⟩
    unfold Lf.adapt
    split
    · rfl
    · split <;> rfl
    · exact hnc
  cases k with
  | vec t =>
    by_cases hvv : ∃ te i, l = .vec te i
    · obtain ⟨te, i, rfl⟩ := hvv
      show (Lf.give P st.vec (.vec t) (.vec te i)).den Γ = _ ∧ ((Lf.give P st.vec (.vec t) (.vec te i)).isVec = false → (Lf.give P st.vec (.vec t) (.vec te i)).okR P w O Γ)
      simp only [Lf.give]
      split
      · rename_i e he
        split
        · rename_i hc
          have hj := mkJoin_ev (h.vec i e he).1
          refine ⟨by simp only [Lf.den, hj, C.loc], fun _ => ?_⟩
          obtain ⟨ks, us, k1, k2, k3, k4, k5⟩ := (h.vec i e he).1.anti hO
          simp only [Lf.okR, hj]
          rw [← hc]
          exact ⟨ks, us, k1, ⟨_, rfl⟩, k3, k4, k5⟩
        · exact ⟨rfl, fun hv => by cases hv⟩
      · exact ⟨rfl, fun hv => by cases hv⟩
    · have hg : Lf.give P st.vec (.vec t) l = l := by
        cases l with
        | vec te i => exact absurd ⟨te, i, rfl⟩ hvv
        | _ => rfl
      show (Lf.give P st.vec (.vec t) l).den Γ = _ ∧ ((Lf.give P st.vec (.vec t) l).isVec = false → (Lf.give P st.vec (.vec t) l).okR P w O Γ)
      rw [hg]
      exact ⟨rfl, plain l ho hnc⟩
  | int => exact other
  | bool => exact other
  | arr t => exact other
theorem gives_spec (h : Sat P F w0 Γ st a w) {O : Nat → Nat → Prop} (hO : ∀ b o, O b o → Own Γ st b o) : ∀ {shs : List Sh0} {ss : List S0}, (∀ s ∈ ss, s.ok P w (Own Γ st) Γ) → (ss.all fun s => s.cells.all fun x => !x.isCnt) = true →
    (gives P st.vec shs ss).map (S0.den Γ) = ss.map (S0.den Γ) ∧ ∀ s ∈ gives P st.vec shs ss, ∀ l ∈ s.cells, l.isVec = false → l.okR P w O Γ
  | [], ss, h1, h2 => by
    have key : ∀ s ∈ ss, ∀ l ∈ s.cells, l.isVec = false → l.okR P w O Γ := fun s hs l hl hv => by
      have hc := List.all_eq_true.1 (List.all_eq_true.1 h2 s hs) l hl
      have ho := h1 s hs l hl
      cases l with
      | cnt te r => cases hc
      | vec te i => cases hv
      | _ => exact Lf.ok_anti ho hO
    cases ss <;> exact ⟨rfl, key⟩
  | _ :: _, [], _, _ => ⟨rfl, fun l hl => by cases hl⟩
  | sh :: shs, s :: ss, h1, h2 => by
    simp only [List.all_cons, Bool.and_eq_true] at h2
    obtain ⟨g1, g2⟩ := gives_spec h hO (shs := shs) (ss := ss) (fun x hx => h1 x (by simp [hx])) h2.2
    have hcn : ∀ l ∈ s.cells, l.isCnt = false := fun l hl => by have := List.all_eq_true.1 h2.1 l hl; simpa using this
    have hso := h1 s (by simp)
    have hL : ∀ (ks : List Lk) (ls : List Lf), (∀ l ∈ ls, l.isCnt = false) → (∀ l ∈ ls, l.ok P w (Own Γ st) Γ) → (giveL P st.vec ks ls).map (Lf.den Γ) = ls.map (Lf.den Γ) ∧ ∀ l ∈ giveL P st.vec ks ls, l.isVec = false → l.okR P w O Γ := by
      intro ks
      induction ks with
      | nil =>
        intro ls k1 k2
        have key : ∀ l ∈ ls, l.isVec = false → l.okR P w O Γ := fun l hl hv => by
          have hc := k1 l hl
          have ho := k2 l hl
          cases l with
          | cnt te r => cases hc
          | vec te i => cases hv
          | _ => exact Lf.ok_anti ho hO
        cases ls <;> exact ⟨rfl, key⟩
      | cons k ks ih =>
        intro ls k1 k2
        cases ls with
        | nil => exact ⟨rfl, fun l hl => by cases hl⟩
        | cons l ls =>
          obtain ⟨q1, q2⟩ := ih ls (fun x hx => k1 x (by simp [hx])) (fun x hx => k2 x (by simp [hx]))
          obtain ⟨q3, q4⟩ := Lf.give_spec h hO (k := k) (k2 l (by simp)) (k1 l (by simp))
          refine ⟨by simp only [giveL, List.map_cons, q1, q3], fun x hx => ?_⟩
          rcases List.mem_cons.1 hx with rfl | hx
          · exact q4
          · exact q2 x hx
    have one : (s.give P st.vec sh).den Γ = s.den Γ ∧ ∀ l ∈ (s.give P st.vec sh).cells, l.isVec = false → l.okR P w O Γ := by
      unfold S0.give
      split
      · rename_i k l
        obtain ⟨q3, q4⟩ := Lf.give_spec h hO (k := k) (hso l (by simp [S0.cells])) (hcn l (by simp [S0.cells]))
        exact ⟨q3, fun x hx => by simp only [S0.cells, List.mem_singleton] at hx; subst hx; exact q4⟩
      · rename_i ks ls
        obtain ⟨q1, q2⟩ := hL ks ls hcn hso
        exact ⟨by simp only [S0.den, dens, q1], q2⟩
      · refine ⟨rfl, fun l hl hv => ?_⟩
        have hc := hcn l hl
        have ho := hso l hl
        cases l with
        | cnt te r => cases hc
        | vec te i => cases hv
        | _ => exact Lf.ok_anti ho hO
    refine ⟨by simp [gives, g1, one.1], fun x hx => ?_⟩
    rcases List.mem_cons.1 hx with rfl | hx
    · exact one.2
    · exact g2 x hx
theorem shapes_kindsL {mem : Mem} : ∀ {args : List S0} {ss : List Sh0}, shapes mem args = some ss → kindsL (cellsOf mem args) = some (kindsOf ss)
  | [], ss, h => by simp [shapes] at h; subst h; rfl
  | s :: args, ss, h => by
    simp only [shapes] at h
    split at h
    · rename_i sh hss h1 h2
      cases h
      have hc : cellsOf mem (s :: args) = s.cellsM mem ++ cellsOf mem args := by simp [cellsOf]
      have hk : kindsOf (sh :: hss) = sh.kinds ++ kindsOf hss := by simp [kindsOf]
      rw [hc, hk]
      have app : ∀ {l m : List Lf} {k n : List Lk}, kindsL l = some k → kindsL m = some n → kindsL (l ++ m) = some (k ++ n) := by
        intro l
        induction l with
        | nil => intro m k n h1 h2; simp [kindsL] at h1; subst h1; exact h2
        | cons x l ih =>
          intro m k n h1 h2
          simp only [kindsL] at h1
          split at h1
          · rename_i k' ks' e1 e2
            cases h1
            simp only [List.cons_append, kindsL, e1, ih e2 h2]
          · cases h1
      refine app ?_ (shapes_kindsL h2)
      have plain : s.shapeM mem = s.shape → s.cellsM mem = s.cells → kindsL (s.cellsM mem) = some sh.kinds := by
        intro e1 e2
        rw [e1] at h1
        rw [e2]
        cases s with
        | lf l =>
          simp only [S0.shape, Option.map_eq_some_iff] at h1
          obtain ⟨k, hk', rfl⟩ := h1
          simp [S0.cells, kindsL, hk', Sh0.kinds]
        | agg ls =>
          simp only [S0.shape, Option.map_eq_some_iff] at h1
          obtain ⟨k, hk', rfl⟩ := h1
          exact hk'
      by_cases hp : ∃ b, s = .lf (.ptr b 0)
      · obtain ⟨b, rfl⟩ := hp
        simp only [S0.shapeM] at h1
        split at h1
        · rename_i mb hmb
          simp only [Option.map_eq_some_iff] at h1
          obtain ⟨ks, hks, rfl⟩ := h1
          simp only [S0.cellsM, hmb]
          exact hks
        · cases h1
      · refine plain ?_ ?_
        · unfold S0.shapeM; split
          · exact absurd ⟨_, rfl⟩ hp
          · rfl
        · unfold S0.cellsM; split
          · exact absurd ⟨_, rfl⟩ hp
          · rfl
    · cases h
end
theorem cellsOf_box {mem : Mem} {args : List S0} {b : Nat} {mb : TypeId × List Lf} (hin : S0.lf (.ptr b 0) ∈ args) (hmb : look mem b = some mb) : ∀ l ∈ mb.2, l ∈ cellsOf mem args := fun l hl =>
  List.mem_flatMap.2 ⟨_, hin, by simp only [S0.cellsM, hmb]; exact hl⟩
theorem cellsOf_plain {mem : Mem} {args : List S0} {s : S0} (hs : s ∈ args) (hp : ¬ ∃ b, s = .lf (.ptr b 0)) : ∀ l ∈ s.cells, l ∈ cellsOf mem args := fun l hl =>
  List.mem_flatMap.2 ⟨s, hs, by
    unfold S0.cellsM; split
    · exact absurd ⟨_, rfl⟩ hp
    · exact hl⟩
theorem ct_ok {cx : Cx} (hcx : CxOK cx) {f : FuncId} {fn : Func} (hf : cx.P.funcs[f]? = some fn) {ct : Ct} {bds : Bds} {T : Tree} (hT : execFn cx fn ct bds = some T)
    (hvc : allC cx.P (kindsOf ct.args) fun cs => ct.pre cs → bds.ok cs ∧ VC cx (ct.post cs) T cs []) : CtOK cx.P f ct := by
  intro Base w vs cs hBase hreps hpre
  have hty := hreps.ty
  obtain ⟨hb, hv⟩ := allC_elim hvc cs hty hpre
  unfold execFn at hT
  split at hT
  · cases hT
  · rename_i c hbody
    split at hT
    · rename_i hle'
      obtain ⟨hle, hle2, hbx⟩ := hle'
      refine calls_of_wp hf hbody ?_
      have hat : ∀ j c, cs[j]? = some c → at_ cs (0 + j) = c := fun j c hj => by rw [Nat.zero_add]; simp [at_, List.getD_eq_getElem?_getD, hj]
      have hbx' := hbx
      simp only [boxOk, Bool.and_eq_true, Bool.or_eq_true] at hbx'
      obtain ⟨⟨hb1, hb2⟩, hb3⟩ := hbx'
      have hb1 := Nat.le_of_ble_eq_true hb1
      have hbkn : (boxKinds ct.args).all Lk.noVec = true := by
        have : ∀ {ss : List Sh0}, (kindsOf ss).all Lk.noVec = true → (boxKinds ss).all Lk.noVec = true := by
          intro ss
          induction ss with
          | nil => intro _; rfl
          | cons s ss ih =>
            intro h
            have hk : kindsOf (s :: ss) = s.kinds ++ kindsOf ss := by simp [kindsOf]
            rw [hk, List.all_append, Bool.and_eq_true] at h
            cases s with
            | box t l => show (l ++ boxKinds ss).all Lk.noVec = true; rw [List.all_append, Bool.and_eq_true]; exact ⟨h.1, ih h.2⟩
            | _ => exact ih h.2
        exact this hb3
      have hsm : Smalls cs := by
        have := Smalls.nil.app (cs := cs) fun c hc => hty.small c hc
        simpa using this
      -- where the argument's block lies
      obtain ⟨B, hB1, hB2, hB3⟩ : ∃ B : Nat, (∀ x, IsBox ct.args vs x → x = B ∧ ∃ p, boxArg ct.args = some p) ∧
          (∀ Γ : Env, Γ.ρ = cs → Γ.blk 0 = B → Γ.base = Base → ∀ j mb, look (freshMem 0 ct.args 0) j = some mb → Blk w (Γ.blk j) mb.1 (dens Γ mb.2) ∧ (∀ l ∈ mb.2, l.ok cx.P w (fun x o => Base x o ∨ x = B) Γ) ∧ IsBox ct.args vs (Γ.blk j) ∧ j < (freshMem 0 ct.args 0).length ∧ j = 0 ∧ ∀ o, Base B o) ∧
          (∀ (st' : St) (o : List Lf) (w' : World) (Γ' : Env) (O' : Nat → Nat → Prop), outL st' ct = some o → Γ'.blk 0 = (if (freshMem 0 ct.args 0).length = 0 then Γ'.blk 0 else B) → (∀ mb, look st'.mem 0 = some mb → Blk w' (Γ'.blk 0) mb.1 (dens Γ' mb.2) ∧ ∀ l ∈ mb.2, l.ok cx.P w' O' Γ') → Num st'.bds Γ'.ρ → Obs Γ'.ρ (rngL st'.bds o) → Outs cx.P w' O' ct.args vs (cs_ Γ'.ρ o) ∧ ((∃ p, boxArg ct.args = some p) → ∃ mb, look st'.mem 0 = some mb ∧ Γ'.blk 0 = B)) := by
        cases hba : boxArg ct.args with
        | none =>
          have hno := boxArg_none hba
          refine ⟨0, fun x hx => absurd hx (isBox_noBox hno), fun Γ _ _ _ j mb hj => ?_, fun st' o w' Γ' O' ho _ _ _ _ => ?_⟩
          · rw [freshMem_noBox 0 ct.args 0 hno] at hj; cases hj
          · simp only [outL, hba, Option.some.injEq] at ho; subst ho; exact ⟨outs_none hno, fun ⟨p, hp⟩ => by cases hp⟩
        | some p =>
          obtain ⟨t, ks⟩ := p
          obtain ⟨b, us, c1, n, r1, r2, r3, r4, r5, r6, r7⟩ := box_start hreps hb1 hba 0 hat
          have hksn : ks.all Lk.noVec = true := by
            have : ∀ {ss : List Sh0}, boxArg ss = some (t, ks) → (boxKinds ss).all Lk.noVec = true → ks.all Lk.noVec = true := by
              intro ss
              induction ss with
              | nil => intro h _; cases h
              | cons s ss ih =>
                intro h hn
                cases s with
                | box t' l =>
                  cases h
                  have : (ks ++ boxKinds ss).all Lk.noVec = true := hn
                  rw [List.all_append, Bool.and_eq_true] at this
                  exact this.1
                | lf k => exact ih h hn
                | agg k => exact ih h hn
            exact this hba hbkn
          refine ⟨b, fun x hx => ⟨(r1 x).1 hx, _, rfl⟩, fun Γ hρ hblk hbase j mb hj => ?_, fun st' o w' Γ' O' ho hbl hm hn hob => ?_⟩
          · rw [r5] at hj
            obtain ⟨rfl, rfl⟩ := St.look_one hj
            obtain ⟨f1, f2⟩ := freshL_rep (Γ := Γ) r4 n (fun j c hj => by rw [hρ]; exact r6 j c hj)
            refine ⟨by rw [hblk]; unfold dens; rw [f1]; exact r2, fun l hl => Lf.ok_anti (f2 l hl) fun x o hx => hx.imp id fun e => by rw [e], by rw [hblk]; exact (r1 b).2 rfl, by rw [r5]; exact Nat.succ_pos _, rfl, r3⟩
          · rw [r5] at hbl
            simp only [List.length_cons, List.length_nil, Nat.zero_add, Nat.one_ne_zero, if_false] at hbl
            simp only [outL, hba] at ho
            split at ho
            · rename_i mb hmb
              split at ho
              · rename_i hc
                cases ho
                obtain ⟨m1, m2⟩ := hm mb hmb
                refine ⟨?_, fun _ => ⟨mb, hmb, hbl⟩⟩
                rw [hbl, hc.1] at m1
                exact r7 w' O' _ _ m1 (Ls_rep hn hc.2 (kindsL_noVec hc.2 hksn m2) hob)
              · cases ho
            · cases ho
      let Γ : Env := { ρ := cs, blk := fun _ => B, nb := (freshMem 0 ct.args 0).length, base := Base }
      obtain ⟨f1, f2⟩ := freshS_rep (Γ := Γ) (nb := 0) hreps (fun b hb => ((hB1 b hb).1).symm) 0 hat
      have hvl : vs.length = ct.args.length := by rw [← f1, List.length_map, freshS_len]
      have hmemB : ∀ j mb, look (freshMem 0 ct.args 0) j = some mb → ∀ o, Base (Γ.blk j) o := fun j mb hj o => (hB2 Γ rfl rfl rfl j mb hj).2.2.2.2.2 o
      have hown : ∀ b o, Own Γ (startOf fn ct bds cx.wr) b o → Base b o := by
        rintro b o (hb | ⟨j, mb, hj, rfl⟩ | ⟨i, e, hi, -⟩)
        · exact hb
        · exact hmemB j mb hj o
        · cases hi
      have hs : Sat cx.P (fun i => i < w.heap.size ∧ ¬ IsBox ct.args vs i) w Γ (startOf fn ct bds cx.wr) { tmps := vs.toArray ++ Array.replicate (fn.ntmps - vs.toArray.size) undef, defers := [] } w := by
        refine ⟨fun t sv ht => ?_, by simp [startOf]; omega, fun b mb hm => ?_, fun i e hi => (by cases hi), fun i e hi => (by cases hi), fun s j s' j' b h1 h2 => ?_, Keeps.refl _ _, fun i hi => hi.1, hBase, rfl, hty.len, rfl, ⟨hb, hsm⟩⟩
        · obtain ⟨j, s, e, hj, rfl⟩ := look_argSl _ _ _ _ ht
          have hjl : j < vs.length := by
            rw [hvl, ← freshS_len 0 ct.args 0]
            rcases Nat.lt_or_ge j (freshS 0 ct.args 0).length with h' | h'
            · exact h'
            · rw [List.getElem?_eq_none h'] at hj; cases hj
          have hmem := List.mem_of_getElem? hj
          refine ⟨?_, fun l hl => Lf.ok_anti (f2 s hmem l hl) hown⟩
          have : vs[j]? = some (s.den Γ) := by rw [← f1]; simp [hj]
          subst e
          unfold slotV
          rw [if_pos (by omega)]
          simp only [Nat.zero_add, Array.getD_eq_getD_getElem?]
          rw [Array.getElem?_append_left (by simpa using hjl)]
          simp [this, SV.den]
        · obtain ⟨m1, m2, m3, m4, m5, m6⟩ := hB2 Γ rfl rfl rfl b mb hm
          refine ⟨m1, fun l hl => Lf.ok_anti (m2 l hl) fun x o hx => .inl (hown x o hx), fun hn => hn.2 m3, m4⟩
        · rcases h1.inv with ⟨rfl, mb, hm, rfl⟩ | ⟨rfl, e, hm, -⟩
          · rcases h2.inv with ⟨rfl, mc, hm', -⟩ | ⟨rfl, e, hm', -⟩
            · have h1 := (hB2 Γ rfl rfl rfl j mb hm).2.2.2.2.1
              have h2 := (hB2 Γ rfl rfl rfl j' mc hm').2.2.2.2.1
              exact ⟨rfl, by rw [h1, h2]⟩
            · cases hm'
          · cases hm
      refine exec_sound (R := ct.post cs) hcx c _ _ T hT Γ [] _ ?_ rfl hv _ w hs
      intro x st' T' Γ' Ls' hk he hl hlen hv' a' w' hs'
      have fin : endOf cx fn ct st' = some T' → a'.defers = [] ∧ ∃ v, (results fn a'.tmps).run cx.P w' = .ok v w' ∧ ∃ v' rs outs, Ending.returned v = .returned v' ∧ Res cx.P w' Base w.heap.size ct.res v' rs ∧ Outs cx.P w' (fun b o => Base b o ∨ b ∈ vecB (kindsOf ct.res) rs) ct.args vs outs ∧ ct.post cs (rs ++ outs) ∧ Keeps (fun i => i < w.heap.size ∧ ¬ IsBox ct.args vs i) w w' := by
        intro hend
        unfold endOf at hend
        split at hend
        · rename_i l o hl' ho
          split at hend
          rotate_left
          · cases hend; exact hv'.elim
          · rename_i hcc
            obtain ⟨hsh, hnd, hnc⟩ := hcc
            cases hend
            obtain ⟨hob, hret⟩ := VC.obT hv'
            obtain ⟨ob1, ob2⟩ := rngL_app hob
            obtain ⟨r1, r2⟩ := run_results hs' hl'
            generalize hl'' : resOf cx ct st' l = l' at *
            have hbase : ∀ b o, Base b o → Own Γ' st' b o := fun b o hb => .inl (by rw [he.base]; exact hb)
            obtain ⟨v1, v2⟩ := vecB_cells hs' (shapes_kindsL hsh) hnd
            generalize hrs : cs_ Γ'.ρ (cellsOf st'.mem l') = rs at *
            have hO : ∀ b o, (Base b o ∨ b ∈ vecB (kindsOf ct.res) rs) → Own Γ' st' b o := fun b o hb => hb.elim (hbase b o) fun hb => by
              obtain ⟨x, -, i, -, hh⟩ := v2 b hb; exact hh.own o
            -- the results' cells
            obtain ⟨hden, hokR⟩ : l'.map (S0.den Γ') = l.map (S0.den Γ') ∧ ∀ s ∈ l', ∀ x ∈ s.cells, x.isVec = false → x.okR cx.P w' (fun b o => Base b o ∨ b ∈ vecB (kindsOf ct.res) rs) Γ' := by
              unfold resOf at hl''
              split at hl''
              · rename_i hnv
                have hvb : vecB (kindsOf ct.res) rs = [] := vecB_noVec hnv
                obtain ⟨g1, g2⟩ := adapts_spec hs' (O' := fun b o => Base b o ∨ b ∈ vecB (kindsOf ct.res) rs) hO (shs := ct.res) (ss := l) (fun s _ l _ _ i e hi b hb o ho => by
                  rw [hvb] at ho
                  rcases ho with ho | ho
                  · exact ((hs'.vec i e hi).2.2 b hb).2 o (by rw [he.base]; exact ho)
                  · cases ho) r2
                rw [hl''] at g1 g2
                obtain ⟨q1, q2⟩ := shapes_okR (Γ := Γ') hsh hnv g2
                exact ⟨g1, fun s hs x hx _ => q1 s hs x hx⟩
              · obtain ⟨g1, g2⟩ := gives_spec hs' hO (shs := ct.res) (ss := l) r2 hnc
                rw [hl''] at g1 g2
                exact ⟨g1, g2⟩
            have hcv : ∀ x ∈ cellsOf st'.mem l', x.isVec = false := fun x hx => (nodupI_spec hnd x hx).1
            have hrep := cells_rep (P := cx.P) (w := w') (O := fun b o => Base b o ∨ b ∈ vecB (kindsOf ct.res) rs) (old := some w.heap.size) hs'.num hsh (fun s hs2 x hx => by
              by_cases hp : ∃ b, s = .lf (.ptr b 0)
              · obtain ⟨b, rfl⟩ := hp
                simp [S0.cells] at hx; subst hx; trivial
              · exact hokR s hs2 x hx (hcv x (cellsOf_plain hs2 hp x hx))) (fun b mb hin hmb => by
              obtain ⟨m1, m2, m3, m4⟩ := hs'.mem b mb hmb
              refine ⟨m1, fun x hx => ?_, ?_⟩
              · have hxv := hcv x (cellsOf_box hin hmb x hx)
                have hxc : x.isCnt = false ∨ ∃ i, cntIdx st'.vec x = some i := by
                  cases hxc : x.isCnt with
                  | false => exact .inl rfl
                  | true => exact .inr ((nodupI_spec hnd x (cellsOf_box hin hmb x hx)).2 hxc)
                have hmo := m2 x hx
                have hO2 : ∀ y o, ((Base y o ∨ y ∈ vecB (kindsOf ct.res) rs) ∨ some (Γ'.blk b) = some y) → Own Γ' st' y o := fun y o hy => hy.elim (hO y o) fun e => by cases e; exact (Hold.mem (Γ := Γ') hmb).own o
                cases x with
                | vec te i => cases hxv
                | cnt te r =>
                  rcases hxc with hxc | ⟨i, hi⟩
                  · cases hxc
                  · obtain ⟨te', e, k1, k2, k3, k4⟩ := cntIdx_spec hs' hi
                    cases k2
                    have hve := (hs'.vec i e k1).1
                    obtain ⟨ks, us, p1, p2, p3, p4, p5⟩ := hve.anti hO2
                    simp only [Lf.okR, mkJoin_ev hve]
                    rw [← k3]
                    exact ⟨ks, us, p1, ⟨_, rfl⟩, p3, p4, p5⟩
                | _ => exact Lf.ok_anti hmo hO2
              · rcases hb2 with h | h
                · exact absurd hin ((shapes_noBox hsh h).2.2.2 b)
                · rcases Nat.lt_or_ge (Γ'.blk b) w.heap.size with hlt | hge
                  · exact absurd ⟨hlt, isBox_noBox h.1.2⟩ m3
                  · exact hge) ob1
            rw [hrs] at hrep
            obtain ⟨houts, hboxm⟩ := hB3 st' o w' Γ' (fun b o => Base b o ∨ b ∈ vecB (kindsOf ct.res) rs) ho (by
              split
              · rfl
              · rename_i hne
                rw [he.blk 0 (show 0 < (freshMem 0 ct.args 0).length by omega)]) (fun mb hmb => ⟨(hs'.mem 0 mb hmb).1, fun l hl => Lf.ok_anti ((hs'.mem 0 mb hmb).2.1 l hl) hO⟩) hs'.num ob2
            refine ⟨hs'.defers, _, r1, _, rs, cs_ Γ'.ρ o, rfl, ⟨_, rfl, ?_, v1, fun b hb => ?_⟩, houts, ?_, hs'.keeps⟩
            · rw [← hden]; exact hrep
            · obtain ⟨x, hx, i, hi, hh⟩ := v2 b hb
              obtain ⟨e, he1, he2⟩ := hh
              have hnF := ((hs'.vec i e he1).2.2 b he2).1
              rcases Nat.lt_or_ge b w.heap.size with hlt | hge
              · exfalso
                refine hnF ⟨hlt, fun hbx => ?_⟩
                obtain ⟨e1, hp⟩ := hB1 b hbx
                obtain ⟨mb, hmb, hbl⟩ := hboxm hp
                have := (hs'.inj _ _ _ _ _ (Hold.mem (Γ := Γ') hmb) (show Hold Γ' st' false i (Γ'.blk 0) from ⟨e, he1, by rw [he2, e1, hbl]⟩)).1
                cases this
              · exact hge
            · have : rs ++ cs_ Γ'.ρ o = cs_ Γ'.ρ (cellsOf st'.mem l' ++ o) := by rw [← hrs]; simp [cs_]
              rw [this]; exact hret
        · cases hend; exact hv'.elim
        · cases hend; exact hv'.elim
      cases x with
      | nrm => exact fin hk
      | ret => exact fin hk
      | ext i => cases hk
    · cases hT

theorem allC_mono {P : Program} : ∀ {ks : List Lk} {p q : List C → Prop}, allC P ks p → (∀ cs, p cs → q cs) → allC P ks q
  | [], p, q, h, hh => hh _ h
  | .int :: ks, p, q, h, hh => fun n h1 h2 => allC_mono (h n h1 h2) fun cs hc => hh _ hc
  | .bool :: ks, p, q, h, hh => fun t => allC_mono (h t) fun cs hc => hh _ hc
  | .arr t :: ks, p, q, h, hh => fun v rows d h1 h2 => allC_mono (h v rows d h1 h2) fun cs hc => hh _ hc
  | .vec t :: ks, p, q, h, hh => fun v rows d h1 h2 => allC_mono (h v rows d h1 h2) fun cs hc => hh _ hc
/-! Functions carried out in place -/
def enterSt (fn : Func) (args : List S0) (st : St) : St := { st with sl := argSl 0 args ++ st.sl.map fun p => (p.1 + 1000, p.2), nt := fn.ntmps }
def leaveSl : List (Nat × Option SV) → List (Nat × Option SV)
  | [] => []
  | (k, v) :: l => if 1000 ≤ k then (k - 1000, v) :: leaveSl l else leaveSl l
def leaveSt (st st' : St) : St := { st' with sl := leaveSl st'.sl, nt := st.nt }
def hand (cx : Cx) (fns : Nat → Option Func) : Hd := fun f args st k =>
  match fns f with
  | some fn => match fn.body with
    | some c => if args.length ≤ fn.ntmps ∧ fn.ntmps ≤ 1000 then
        exec cx c (enterSt fn args st) fun x st' => match x with
          | .ext _ => none
          | _ => match retAll cx.P st' fn.results.toList with
            | some l => k l (leaveSt st st')
            | none => some (.fail 80001 [f, st'.path])
      else none
    | none => none
  | none => none
theorem look_leave : ∀ (l : List (Nat × Option SV)) (t : Nat), look (leaveSl l) t = look l (t + 1000)
  | [], _ => rfl
  | (k, v) :: l, t => by
    simp only [leaveSl]
    split
    · rename_i h
      simp only [look]
      by_cases hk : k - 1000 = t
      · rw [if_pos hk, if_pos (by omega)]
      · rw [if_neg hk, if_neg (by omega)]; exact look_leave l t
    · rename_i h
      simp only [look]
      rw [if_neg (by omega)]; exact look_leave l t
theorem look_shift : ∀ (l : List (Nat × Option SV)) (t : Nat), look (l.map fun p => (p.1 + 1000, p.2)) t = if 1000 ≤ t then look l (t - 1000) else none
  | [], t => by simp [look]
  | (k, v) :: l, t => by
    simp only [List.map_cons, look, look_shift l t]
    by_cases h : 1000 ≤ t
    · simp only [h, if_true]
      by_cases hk : k = t - 1000
      · rw [if_pos (by omega), if_pos hk]
      · rw [if_neg (by omega), if_neg hk]
    · rw [if_neg (by omega)]; simp [h]
theorem look_enter : ∀ (args : List S0) (i : Nat) (m : List (Nat × Option SV)) (t : Nat) (sv : SV), look (argSl i args ++ m) t = some sv → (∃ j s, t = i + j ∧ args[j]? = some s ∧ sv = .one s) ∨ look m t = some sv
  | [], _, _, _, _, h => .inr h
  | s :: l, i, m, t, sv, h => by
    simp only [argSl, List.cons_append, look] at h
    split at h
    · rename_i e; cases h; exact .inl ⟨0, s, by omega, rfl, rfl⟩
    · rcases look_enter l (i + 1) m t sv h with ⟨j, s', e, hj, hsv⟩ | h
      · exact .inl ⟨j + 1, s', by omega, by simpa using hj, hsv⟩
      · exact .inr h
theorem Lf.den_up (Γ : Env) (u : Nat → Value) (l : Lf) : l.den { Γ with up := u } = l.den Γ := by cases l <;> rfl
theorem dens_up (Γ : Env) (u : Nat → Value) (l : List Lf) : dens { Γ with up := u } l = dens Γ l := by
  unfold dens; rw [List.map_congr_left fun x _ => Lf.den_up Γ u x]
theorem S0.den_up (Γ : Env) (u : Nat → Value) (s : S0) : s.den { Γ with up := u } = s.den Γ := by
  cases s with
  | lf l => exact Lf.den_up Γ u l
  | agg l => simp only [S0.den, dens_up]
theorem SV.den_up (Γ : Env) (u : Nat → Value) (s : SV) : s.den { Γ with up := u } = s.den Γ := by
  cases s with
  | one s => exact S0.den_up Γ u s
  | tup l => simp only [SV.den]; rw [List.map_congr_left fun x _ => S0.den_up Γ u x]
  | fn f l => simp only [SV.den, dens_up]
theorem Lf.ok_up {P : Program} {w : World} {O : Nat → Nat → Prop} {Γ : Env} {u : Nat → Value} {l : Lf} : l.ok P w O { Γ with up := u } ↔ l.ok P w O Γ := by cases l <;> exact Iff.rfl
theorem S0.ok_up {P : Program} {w : World} {O : Nat → Nat → Prop} {Γ : Env} {u : Nat → Value} {s : S0} : s.ok P w O { Γ with up := u } ↔ s.ok P w O Γ := ⟨fun h l hl => Lf.ok_up.1 (h l hl), fun h l hl => Lf.ok_up.2 (h l hl)⟩
theorem SV.ok_up {P : Program} {w : World} {O : Nat → Nat → Prop} {Γ : Env} {u : Nat → Value} {s : SV} : s.ok P w O { Γ with up := u } ↔ s.ok P w O Γ := by
  cases s with
  | one s => exact S0.ok_up
  | tup l => exact ⟨fun h s hs => S0.ok_up.1 (h s hs), fun h s hs => S0.ok_up.2 (h s hs)⟩
  | fn f l => exact ⟨fun h l hl => Lf.ok_up.1 (h l hl), fun h l hl => Lf.ok_up.2 (h l hl)⟩
/-- Another frame. -/
theorem Sat.frame {P : Program} {F : Nat → Prop} {w0 : World} {Γ : Env} {st : St} {a : Act} {w : World} (h : Sat P F w0 Γ st a w) {u : Nat → Value} {sl : List (Nat × Option SV)} {nt : Nat} {a' : Act} (hsz : a'.tmps.size = nt) (hd : a'.defers = [])
    (hs : ∀ t sv, look sl t = some sv → slotV { Γ with up := u } a' t = sv.den Γ ∧ sv.ok P w (Own Γ st) Γ) : Sat P F w0 { Γ with up := u } { st with sl := sl, nt := nt } a' w := by
  have hown : ∀ b o, Own { Γ with up := u } { st with sl := sl, nt := nt } b o → Own Γ st b o := fun b o h => h
  refine ⟨fun t sv ht => ?_, hsz, fun b mb hm => ?_, h.vec, fun i e hi => ?_, h.inj, h.keeps, h.fold, h.base, hd, h.len, h.nb, h.num⟩
  · obtain ⟨h1, h2⟩ := hs t sv ht
    exact ⟨by rw [SV.den_up]; exact h1, SV.ok_up.2 h2⟩
  · obtain ⟨h1, h2, h3, h4⟩ := h.mem b mb hm
    exact ⟨by rw [dens_up]; exact h1, fun l hl => Lf.ok_up.2 (h2 l hl), h3, h4⟩
  · obtain ⟨h1, h2, h3⟩ := h.clo i e hi
    refine ⟨?_, fun s hs => S0.ok_up.2 (h2 s hs), fun l hl => Lf.ok_up.2 (h3 l hl)⟩
    rw [List.map_congr_left fun s _ => S0.den_up Γ u s, List.map_congr_left fun l _ => Lf.den_up Γ u l]
    exact h1
theorem VC_congr {cx cx' : Cx} (hP : cx.P = cx'.P) (hct : cx.ct = cx'.ct) {R : List C → Prop} : ∀ {T : Tree} {ρ : List C} {Ls : List (List C → Prop)}, VC cx R T ρ Ls → VC cx' R T ρ Ls
  | .ret l, ρ, Ls, h => h
  | .split b t e, ρ, Ls, h => ⟨fun hb => VC_congr hP hct (h.1 hb), fun hb => VC_congr hP hct (h.2 hb)⟩
  | .ob b t, ρ, Ls, h => ⟨h.1, VC_congr hP hct h.2⟩
  | .call f args t, ρ, Ls, h => by
    simp only [VC] at h ⊢
    rw [← hct, ← hP]
    cases hc : cx.ct f with
    | none => rw [hc] at h; exact h.elim
    | some ct =>
      rw [hc] at h
      exact ⟨h.1, allC_mono h.2 fun rs hr hp => VC_congr hP hct (hr hp)⟩
  | .loop ks init t, ρ, Ls, h => by
    obtain ⟨I, μ, h0, h1⟩ := h
    refine ⟨I, μ, h0, ?_⟩
    rw [← hP]
    exact allC_mono h1 fun xs hx hi => VC_congr hP hct (hx hi)
  | .arr rows t, ρ, Ls, h => fun v => VC_congr hP hct (h v)
  | .dfn e t, ρ, Ls, h => VC_congr hP hct (T := t) h
  | .mk n row t, ρ, Ls, h => fun v => VC_congr hP hct (h v)
  | .cat a b t, ρ, Ls, h => fun v => VC_congr hP hct (h v)
  | .upd a x o l t, ρ, Ls, h => fun v => VC_congr hP hct (h v)
  | .both a b, ρ, Ls, h => ⟨VC_congr hP hct h.1, VC_congr hP hct h.2⟩
  | .join ks ws t, ρ, Ls, h => by
    obtain ⟨I, h0, h1⟩ := h
    refine ⟨I, VC_congr hP hct h0, ?_⟩
    rw [← hP]
    exact allC_mono h1 fun xs hx hi => VC_congr hP hct (hx hi)
  | .fail _ _, _, _, h => h
  | .back lvl vals, ρ, Ls, h => h
theorem hand_ok {cx cx' : Cx} (hcx : CxOK cx) {fns : Nat → Option Func} (hP : cx'.P = cx.P) (hct : cx'.ct = cx.ct) (hH : cx'.H = hand cx fns) (hf : ∀ f fn, fns f = some fn → cx.P.funcs[f]? = some fn ∧ Callable cx.P f) : HOK cx' := by
  intro f args st k T h
  rw [hH] at h
  rw [hP]
  unfold hand at h
  split at h
  · rename_i fn hfn
    obtain ⟨hfn1, hfn2⟩ := hf f fn hfn
    split at h
    · rename_i c hbody
      split at h
      · rename_i hle
        refine ⟨hfn2, fun R F w0 Γ Ls a w K hl hv hs hwf hargs hok hk => ?_⟩
        have hv := VC_congr hP hct hv
        have hlenA : (args.map (S0.den Γ)).toArray.size = args.length := by simp
        refine calls_of_wp hfn1 hbody ?_
        let ae : Act := { tmps := (args.map (S0.den Γ)).toArray ++ Array.replicate (fn.ntmps - (args.map (S0.den Γ)).toArray.size) undef, defers := [] }
        have hse : Sat cx.P F w0 { Γ with up := slotV Γ a } (enterSt fn args st) ae w := by
          refine hs.frame (by simp [ae]; omega) rfl fun t sv ht => ?_
          rcases look_enter _ _ _ _ _ ht with ⟨j, s, rfl, hj, rfl⟩ | ht
          · have hjl : j < args.length := by
              rcases Nat.lt_or_ge j args.length with h' | h'
              · exact h'
              · rw [List.getElem?_eq_none h'] at hj; cases hj
            refine ⟨?_, hok s (List.mem_of_getElem? hj)⟩
            unfold slotV
            rw [if_pos (by omega)]
            simp only [ae, Nat.zero_add, Array.getD_eq_getD_getElem?]
            rw [Array.getElem?_append_left (by simpa using hjl)]
            simp [hj, SV.den]
          · rw [look_shift] at ht
            split at ht
            · rename_i hge
              obtain ⟨g1, g2⟩ := hs.slots _ _ ht
              refine ⟨?_, g2⟩
              unfold slotV
              rw [if_neg (by omega)]
              dsimp only
              exact g1
            · cases ht
        have hlv : Ls.length = (enterSt fn args st).lvl := hl
        generalize enterSt fn args st = ste at *
        refine exec_sound (R := R) (F := F) (w0 := w0) hcx c ste _ T h { Γ with up := slotV Γ a } Ls _ ?_ hlv hv ae w hse
        intro x st' T' Γ' Ls' hk' he hl' hlen' hv' a' w' hs'
        have fin : (match retAll cx.P st' fn.results.toList with | some l => k l (leaveSt st st') | none => some (.fail 80001 [f, st'.path])) = some T' → a'.defers = [] ∧ ∃ v, (results fn a'.tmps).run cx.P w' = .ok v w' ∧ ∃ v', Ending.returned v = .returned v' ∧ K v' w' := by
          intro hend
          split at hend
          · rename_i l hl2
            obtain ⟨r1, r2⟩ := run_results hs' hl2
            refine ⟨hs'.defers, _, r1, _, rfl, ?_⟩
            have hleave : Sat cx.P F w0 { Γ' with up := Γ.up } (leaveSt st st') a w' := by
              refine hs'.frame hs.size hs.defers fun t sv ht => ?_
              rw [look_leave] at ht
              obtain ⟨g1, g2⟩ := hs'.slots _ _ ht
              refine ⟨?_, g2⟩
              rw [← g1]
              unfold slotV
              rw [if_neg (show ¬ t + 1000 < 1000 by omega), Nat.add_sub_cancel, he.up]
              rfl
            have := hk l (leaveSt st st') T' { Γ' with up := Γ.up } Ls' hend ⟨he.ρ, he.blk, he.nb, he.base, rfl⟩ hl' hlen' (VC_congr hP.symm hct.symm hv') w' hleave (fun s hs2 => S0.ok_up.2 (r2 s hs2))
            rw [List.map_congr_left fun s _ => S0.den_up Γ' Γ.up s] at this
            have hval : ∀ L : List Value, valOf L = (match L with | [x] => x | _ => .tuple L.toArray) := fun L => by
              match L with
              | [] => rfl
              | [x] => rfl
              | x :: y :: l => rfl
            rw [hval] at this
            exact this
          · cases hend; exact hv'.elim
        cases x with
        | nrm => exact fin hk'
        | ret => exact fin hk'
        | ext i => cases hk'
      · cases h
    · cases h
  · cases h
/-- So deep functions are carried out in place. -/
def Cx.deep (fns : Nat → Option Func) (cx : Cx) : Nat → Cx
  | 0 => { cx with H := fun _ _ _ _ => none }
  | n + 1 => { cx with H := hand (Cx.deep fns cx n) fns }
theorem Cx.deep_same (fns : Nat → Option Func) (cx : Cx) : ∀ n, (Cx.deep fns cx n).P = cx.P ∧ (Cx.deep fns cx n).ct = cx.ct ∧ (Cx.deep fns cx n).inl = cx.inl ∧ (Cx.deep fns cx n).sel = cx.sel
  | 0 => ⟨rfl, rfl, rfl, rfl⟩
  | _ + 1 => ⟨rfl, rfl, rfl, rfl⟩
theorem Cx.deep_ok {fns : Nat → Option Func} {cx : Cx} (hct : ∀ f ct, cx.ct f = some ct → Callable cx.P f ∧ CtOK cx.P f ct ∧ (ct.det = true → ∀ cs rs rs', ct.post cs rs → ct.post cs rs' → rs = rs')) (hm : cx.P.follows .mixedOrders = true) (hi : ∀ f g, cx.inl f = some g → Callable cx.P f ∧ InlOK cx.P f g) (hs : ∀ f g, cx.sel f = some g → Callable cx.P f ∧ SelOK cx.P f g)
    (hf : ∀ f fn, fns f = some fn → cx.P.funcs[f]? = some fn ∧ Callable cx.P f) : ∀ n, CxOK (Cx.deep fns cx n)
  | 0 => ⟨hct, hm, hi, hs, fun f args st k T h => by cases h⟩
  | n + 1 => ⟨hct, hm, hi, hs, by
      obtain ⟨h1, h2, -⟩ := Cx.deep_same fns cx n
      exact hand_ok (Cx.deep_ok hct hm hi hs hf n) (h1.symm) (h2.symm) rfl (by rw [h1]; exact hf)⟩
end Go.Proofs.Ytlbgcjpkegpmlaa
/- The engine's last part: tables of contracts. -/
namespace Go.Proofs.Ytlbgcjpkegpmlaa
open Go.RowKit
set_option linter.unusedSimpArgs false
set_option linter.unusedVariables false

/-- A contract whose result is a function of the arguments. -/
def ctF (args res : List Sh0) (pre : List C → Prop) (g : List C → List C) : Ct := ⟨args, res, pre, fun cs rs => rs = g cs, true⟩
/-- A statement: it returns true. -/
def ctLaw (args : List Sh0) : Ct := ⟨args, [.lf .bool], fun _ => True, fun _ rs => rs = [.b true], false⟩
theorem ctF_det {args res : List Sh0} {pre : List C → Prop} {g : List C → List C} : (ctF args res pre g).det = true → ∀ cs rs rs', (ctF args res pre g).post cs rs → (ctF args res pre g).post cs rs' → rs = rs' :=
  fun _ _ _ _ h h' => h.trans h'.symm
/-- What the program's tables hold of a function. -/
structure Tab where
  ct : Nat → Option Ct
  inl : Nat → Option Inl
  sel : Nat → Option Sel := fun _ => none
/-- Functions that are carried out in place. -/
def fnsOf : List (Nat × Func) → Nat → Option Func
  | [], _ => none
  | (k, fn) :: l, f => if k = f then some fn else fnsOf l f
def FnOK (p : Nat × Func) : Prop := Try.prog.funcs[p.1]? = some p.2 ∧ Callable Try.prog p.1
noncomputable def Tab.only (t : Tab) (l : List Nat) (hv : Nat → List Pl) (fns : List (Nat × Func) := []) (n : Nat := 0) (wr : List Nat := []) (jn : Nat → Option (List (Nat × Bool × List Lk) × List Pl) := fun _ => none) : Cx :=
  Cx.deep (fnsOf fns) { P := Try.prog, ct := fun f => if l.contains f then t.ct f else none, inl := fun f => if l.contains f then t.inl f else none, sel := fun f => if l.contains f then t.sel f else none, hv := hv, H := fun _ _ _ _ => none, wr := wr, jn := jn } n
/-- What is shown of one function of a table. -/
def Tab.ok (t : Tab) (f : Nat) : Prop := Callable Try.prog f ∧ (∀ ct, t.ct f = some ct → CtOK Try.prog f ct ∧ (ct.det = true → ∀ cs rs rs', ct.post cs rs → ct.post cs rs' → rs = rs')) ∧ (∀ g, t.inl f = some g → InlOK Try.prog f g) ∧ ∀ g, t.sel f = some g → SelOK Try.prog f g
theorem mixedOrders : Try.prog.follows .mixedOrders = true := by kernel_rfl
theorem fns_nil : ∀ p ∈ ([] : List (Nat × Func)), FnOK p := fun p hp => by cases hp
theorem fns_cons {p : Nat × Func} {l : List (Nat × Func)} (h : FnOK p) (h' : ∀ q ∈ l, FnOK q) : ∀ q ∈ p :: l, FnOK q := fun q hq => by
  rcases List.mem_cons.1 hq with rfl | hq
  · exact h
  · exact h' q hq
theorem fnsOf_ok : ∀ {l : List (Nat × Func)}, (∀ p ∈ l, FnOK p) → ∀ f fn, fnsOf l f = some fn → Try.prog.funcs[f]? = some fn ∧ Callable Try.prog f
  | [], _, f, fn, h => by cases h
  | (k, g) :: l, hl, f, fn, h => by
    simp only [fnsOf] at h
    split at h
    · rename_i e; subst e; cases h; exact hl (k, g) (by simp)
    · exact fnsOf_ok (fun p hp => hl p (by simp [hp])) f fn h
theorem Tab.cx_ok {t : Tab} {l : List Nat} {hv : Nat → List Pl} {fns : List (Nat × Func)} {n : Nat} {wr : List Nat} {jn : Nat → Option (List (Nat × Bool × List Lk) × List Pl)} (h : ∀ f ∈ l, t.ok f) (hf : ∀ p ∈ fns, FnOK p := by exact fns_nil) : CxOK (t.only l hv fns n wr jn) := by
  refine Cx.deep_ok (fun f ct hf => ?_) mixedOrders (fun f g hf => ?_) (fun f g hf => ?_) (fnsOf_ok hf) n
  · simp only [] at hf
    split at hf
    · rename_i hc
      obtain ⟨h1, h2, h3⟩ := h f (by simpa using hc)
      exact ⟨h1, h2 ct hf⟩
    · cases hf
  · simp only [] at hf
    split at hf
    · rename_i hc
      obtain ⟨h1, h2, h3, h4⟩ := h f (by simpa using hc)
      exact ⟨h1, h3 g hf⟩
    · cases hf
  · simp only [] at hf
    split at hf
    · rename_i hc
      obtain ⟨h1, h2, h3, h4⟩ := h f (by simpa using hc)
      exact ⟨h1, h4 g hf⟩
    · cases hf
theorem Tab.of_ct {t : Tab} {f : Nat} {ct : Ct} (h1 : t.ct f = some ct) (h2 : t.inl f = none) (hc : Callable Try.prog f) (hok : CtOK Try.prog f ct) (hdet : ct.det = true → ∀ cs rs rs', ct.post cs rs → ct.post cs rs' → rs = rs') (h3 : t.sel f = none := by rfl) : t.ok f :=
  ⟨hc, fun c h => (by rw [h1] at h; cases h; exact ⟨hok, hdet⟩), fun g h => (by rw [h2] at h; cases h), fun g h => (by rw [h3] at h; cases h)⟩
theorem Tab.of_inl {t : Tab} {f : Nat} {g : Inl} (h1 : t.ct f = none) (h2 : t.inl f = some g) (hc : Callable Try.prog f) (hok : InlOK Try.prog f g) (h3 : t.sel f = none := by rfl) : t.ok f :=
  ⟨hc, fun c h => (by rw [h1] at h; cases h), fun g' h => (by rw [h2] at h; cases h; exact hok), fun g h => (by rw [h3] at h; cases h)⟩
theorem Tab.of_sel {t : Tab} {f : Nat} {g : Sel} (h1 : t.ct f = none) (h2 : t.inl f = none) (hc : Callable Try.prog f) (h3 : t.sel f = some g) (hok : SelOK Try.prog f g) : t.ok f :=
  ⟨hc, fun c h => (by rw [h1] at h; cases h), fun g h => (by rw [h2] at h; cases h), fun g' h => (by rw [h3] at h; cases h; exact hok)⟩
theorem all_nil {p : Nat → Prop} : ∀ f ∈ ([] : List Nat), p f := fun f h => by cases h
theorem all_cons {p : Nat → Prop} {a : Nat} {l : List Nat} (h : p a) (h' : ∀ f ∈ l, p f) : ∀ f ∈ a :: l, p f := fun f hf => by
  rcases List.mem_cons.1 hf with rfl | hf
  · exact h
  · exact h' f hf

/-! A function written out in place, out of its contract -/
theorem LReps.plain {P : Program} {w : World} {O : Nat → Nat → Prop} {Γ : Env} : ∀ {ls : List Lf} {ks : List Lk} {us : List Value}, kindsL ls = some ks → ls.all Lf.plain = true → LReps P w O ks us (cs_ Γ.ρ ls) → us = ls.map (Lf.den Γ)
  | [], ks, us, hk, _, h => by simp [kindsL] at hk; subst hk; cases us with | nil => rfl | cons u us => exact h.elim
  | l :: ls, ks, us, hk, hp, h => by
    simp only [kindsL] at hk
    split at hk
    · rename_i k ks' h1 h2
      cases hk
      simp only [List.all_cons, Bool.and_eq_true] at hp
      cases us with
      | nil => exact h.elim
      | cons u us =>
        obtain ⟨h3, h4⟩ := h
        rw [LReps.plain h2 hp.2 h4]
        have : u = l.den Γ := by
          cases l with
          | int e => cases h1; obtain ⟨n, rfl, hn⟩ := h3.2; cases hn; rfl
          | bool e => cases h1; obtain ⟨n, rfl, hn⟩ := h3.2; cases hn; rfl
          | _ => cases hp.1
        rw [this]; rfl
    · cases hk
theorem Rep0.plain {P : Program} {w : World} {O : Nat → Nat → Prop} {old : Option Nat} {Γ : Env} {s : S0} {sh : Sh0} {v : Value} (hs : s.shape = some sh) (hp : s.plain = true) (h : Rep0 P w O old sh v (cs_ Γ.ρ s.cells)) : v = s.den Γ := by
  cases s with
  | lf l =>
    simp only [S0.shape, Option.map_eq_some_iff] at hs
    obtain ⟨k, hk, rfl⟩ := hs
    obtain ⟨c, hc, hr⟩ := h
    have := LReps.plain (P := P) (w := w) (O := O) (Γ := Γ) (ls := [l]) (ks := [k]) (us := [v]) (by simp [kindsL, hk]) hp (by
      have e : cs_ Γ.ρ (S0.lf l).cells = [c] := hc
      show LReps P w O [k] [v] (cs_ Γ.ρ (S0.lf l).cells)
      rw [e]; exact ⟨hr, trivial⟩)
    simpa [S0.den] using this
  | agg ls =>
    simp only [S0.shape, Option.map_eq_some_iff] at hs
    obtain ⟨k, hk, rfl⟩ := hs
    obtain ⟨us, rfl, hr⟩ := h
    rw [LReps.plain hk hp hr]
    rfl
theorem shapes_nil_noBox : ∀ {args : List S0} {ss : List Sh0}, shapes [] args = some ss → ss.all (fun s => !s.isBox) = true
  | [], ss, h => by simp [shapes] at h; subst h; rfl
  | s :: args, ss, h => by
    simp only [shapes] at h
    split at h
    · rename_i sh hss h1 h2
      cases h
      simp only [List.all_cons, Bool.and_eq_true]
      refine ⟨?_, shapes_nil_noBox h2⟩
      unfold S0.shapeM at h1
      split at h1
      · cases h1
      · cases s with
        | lf l => simp only [S0.shape, Option.map_eq_some_iff] at h1; obtain ⟨k, -, rfl⟩ := h1; rfl
        | agg l => simp only [S0.shape, Option.map_eq_some_iff] at h1; obtain ⟨k, -, rfl⟩ := h1; rfl
    · cases h
theorem Keeps.noBox {ss : List Sh0} {vs : List Value} {w w' : World} (hn : ss.all (fun s => !s.isBox) = true) (h : Keeps (fun i => i < w.heap.size ∧ ¬ IsBox ss vs i) w w') : Below w.heap.size w w' :=
  ⟨h.os, h.tape, h.output, h.size, fun i hi => h.block i ⟨hi, isBox_noBox hn⟩⟩
theorem Inl.of_ct {f : Nat} {g : Inl} {args : List Sh0} {r : Sh0} {pre : List C → Prop} {fn : List C → List C} (hf : CtOK Try.prog f (ctF args [r] pre fn))
    (h : ∀ bd ρ l obs s, g bd l = some (obs, s) → Num bd ρ → Obs ρ obs → shapes [] l = some args ∧ l.all S0.plain = true ∧ Obs ρ (rngL bd (cellsOf [] l)) ∧ pre (cs_ ρ (cellsOf [] l)) ∧ s.plain = true ∧ s.shape = some r ∧ fn (cs_ ρ (cellsOf [] l)) = cs_ ρ s.cells) : InlOK Try.prog f g := by
  intro Γ bd l obs s hn hg ho
  obtain ⟨h1, h2, h3, h4, h5, h6, h7⟩ := h bd Γ.ρ l obs s hg hn ho
  refine ⟨h5, fun w => ?_⟩
  have hno := shapes_nil_noBox h1
  have hreps := cells_rep (P := Try.prog) (w := w) (O := fun _ _ => False) (Γ := Γ) (old := none) hn h1 (fun s hs l hl => by
    have := List.all_eq_true.1 (List.all_eq_true.1 h2 s hs) l hl
    cases l <;> first | trivial | cases this) (fun b mb _ hb => by cases hb) h3
  refine (hf (fun _ _ => False) w _ _ (fun b o hb => hb.elim) hreps h4).mono ?_
  rintro e w' ⟨v, rs, outs, rfl, ⟨vs, rfl, hr, -⟩, hout, hpost, hb⟩
  refine ⟨?_, hb.noBox hno⟩
  have ho := outs_noBox hno hout
  subst ho
  have hrs : rs = cs_ Γ.ρ s.cells := by have := hpost.trans h7; rwa [List.append_nil] at this
  subst hrs
  match vs, hr with
  | [v], hr =>
    obtain ⟨c1, c2, hc, hr1, hr2⟩ := hr
    cases hr2
    rw [List.append_nil] at hc
    subst hc
    rw [Rep0.plain h6 h5 hr1]

/-! A statement's call -/
theorem law_walk {f : Nat} {ss : List Sh0} (h : CtOK Try.prog f (ctLaw ss)) (hno : ss.all (fun s => !s.isBox) = true) {W : World} {vs : List Value} {cs : List C} (hr : Reps Try.prog W (fun _ _ => False) none ss vs cs) :
    Calls Try.prog f vs.toArray W fun e w' => e = .returned (.bool true) ∧ Below W.heap.size W w' := by
  refine (h (fun _ _ => False) W vs cs (fun _ _ hb => hb.elim) hr trivial).mono ?_
  rintro e w' ⟨v, rs, outs, rfl, ⟨us, rfl, hres, -⟩, hout, hpost, hb⟩
  refine ⟨?_, hb.noBox hno⟩
  have ho := outs_noBox hno hout
  subst ho
  have hrs : rs = [.b true] := by have : rs ++ [] = [.b true] := hpost; rwa [List.append_nil] at this
  subst hrs
  match us, hres with
  | [v], hres =>
    obtain ⟨c1, c2, hc, ⟨c, rfl, hr1⟩, hr2⟩ := hres
    cases hr2
    cases hc
    obtain ⟨t, rfl, ht⟩ := hr1.2
    cases ht
    rfl
theorem rep_int {W : World} {O : Nat → Nat → Prop} {n : Int} (h : -9223372036854775808 ≤ n ∧ n ≤ 9223372036854775807) : LRep Try.prog W O .int (.int .i64 n) (.i n) :=
  ⟨fun m => by cases m <;> exact h, n, rfl, rfl⟩
theorem reps_ints {W : World} {O : Nat → Nat → Prop} : ∀ (ns : List Int), (∀ n ∈ ns, -9223372036854775808 ≤ n ∧ n ≤ 9223372036854775807) → LReps Try.prog W O (List.replicate ns.length .int) (ns.map (Value.int .i64)) (ns.map .i)
  | [], _ => trivial
  | n :: ns, h => ⟨rep_int (h n (by simp)), reps_ints ns fun m hm => h m (by simp [hm])⟩
theorem rep_agg {W : World} {O : Nat → Nat → Prop} {ss : List Sh0} {vs : List Value} {cs : List C} (ns : List Int) (h : ∀ n ∈ ns, -9223372036854775808 ≤ n ∧ n ≤ 9223372036854775807) {old : Option Nat} (hr : Reps Try.prog W O old ss vs cs) :
    Reps Try.prog W O old (.agg (List.replicate ns.length .int) :: ss) (.agg (ns.map (Value.int .i64)).toArray :: vs) (ns.map .i ++ cs) :=
  ⟨_, _, rfl, ⟨_, rfl, reps_ints ns h⟩, hr⟩
theorem rep_lf {W : World} {O : Nat → Nat → Prop} {ss : List Sh0} {vs : List Value} {cs : List C} {n : Int} (h : -9223372036854775808 ≤ n ∧ n ≤ 9223372036854775807) {old : Option Nat} (hr : Reps Try.prog W O old ss vs cs) :
    Reps Try.prog W O old (.lf .int :: ss) (.int .i64 n :: vs) (.i n :: cs) :=
  ⟨[_], _, rfl, ⟨_, rfl, rep_int h⟩, hr⟩

/-! Reading a tree -/
theorem den_cmp_le (ρ : List C) (a b : E) : ((B.cmp .le a b).den ρ = true) = (a.den ρ ≤ b.den ρ) := by simp [B.den, Cmp.den]
theorem den_cmp_lt (ρ : List C) (a b : E) : ((B.cmp .lt a b).den ρ = true) = (a.den ρ < b.den ρ) := by simp [B.den, Cmp.den]
theorem den_cmp_eq (ρ : List C) (a b : E) : ((B.cmp .eq a b).den ρ = true) = (a.den ρ = b.den ρ) := by simp [B.den, Cmp.den]
theorem den_cmp_ne (ρ : List C) (a b : E) : ((B.cmp .ne a b).den ρ = true) = (a.den ρ ≠ b.den ρ) := by simp [B.den, Cmp.den]
theorem den_cmp_le' (ρ : List C) (a b : E) : ((B.cmp .le a b).den ρ = false) = (b.den ρ < a.den ρ) := by simp [B.den, Cmp.den]
theorem den_cmp_lt' (ρ : List C) (a b : E) : ((B.cmp .lt a b).den ρ = false) = (b.den ρ ≤ a.den ρ) := by simp [B.den, Cmp.den]
theorem den_cmp_eq' (ρ : List C) (a b : E) : ((B.cmp .eq a b).den ρ = false) = (a.den ρ ≠ b.den ρ) := by simp [B.den, Cmp.den]
theorem den_cmp_ne' (ρ : List C) (a b : E) : ((B.cmp .ne a b).den ρ = false) = (a.den ρ = b.den ρ) := by simp [B.den, Cmp.den]
theorem den_and (ρ : List C) (a b : B) : ((B.and a b).den ρ = true) = (a.den ρ = true ∧ b.den ρ = true) := by simp [B.den]
theorem den_and' (ρ : List C) (a b : B) : ((B.and a b).den ρ = false) = (a.den ρ = true → b.den ρ = false) := by
  simp only [B.den]; cases a.den ρ <;> cases b.den ρ <;> simp
theorem den_or (ρ : List C) (a b : B) : ((B.or a b).den ρ = true) = (a.den ρ = true ∨ b.den ρ = true) := by simp [B.den]
theorem den_or' (ρ : List C) (a b : B) : ((B.or a b).den ρ = false) = (a.den ρ = false ∧ b.den ρ = false) := by simp [B.den]
theorem den_not (ρ : List C) (a : B) : ((B.not a).den ρ = true) = (a.den ρ = false) := by simp [B.den]
theorem den_not' (ρ : List C) (a : B) : ((B.not a).den ρ = false) = (a.den ρ = true) := by simp [B.den]
theorem den_blit (ρ : List C) (t : Bool) : (B.lit t).den ρ = t := rfl
theorem den_of (ρ : List C) (e : E) : (B.of e).den ρ = (e.ev ρ).bool := rfl
theorem ev_var (ρ : List C) (i : Nat) : (E.var i).ev ρ = at_ ρ i := rfl
theorem at_nil (i : Nat) : at_ [] i = .i 0 := rfl
theorem at_zero (c : C) (l : List C) : at_ (c :: l) 0 = c := rfl
theorem at_succ (c : C) (l : List C) (i : Nat) : at_ (c :: l) (i + 1) = at_ l i := rfl
theorem at_0 (a : C) (l : List C) : at_ (a :: l) 0 = a := rfl
theorem at_1 (a b : C) (l : List C) : at_ (a :: b :: l) 1 = b := rfl
theorem at_2 (a b c : C) (l : List C) : at_ (a :: b :: c :: l) 2 = c := rfl
theorem at_3 (a b c d : C) (l : List C) : at_ (a :: b :: c :: d :: l) 3 = d := rfl
theorem at_4 (a b c d e : C) (l : List C) : at_ (a :: b :: c :: d :: e :: l) 4 = e := rfl
theorem at_5 (a b c d e f : C) (l : List C) : at_ (a :: b :: c :: d :: e :: f :: l) 5 = f := rfl
theorem at_6 (a b c d e f g : C) (l : List C) : at_ (a :: b :: c :: d :: e :: f :: g :: l) 6 = g := rfl
theorem at_7 (a b c d e f g h : C) (l : List C) : at_ (a :: b :: c :: d :: e :: f :: g :: h :: l) 7 = h := rfl
theorem at_skip (a b c d e f g h : C) (l : List C) (i : Nat) : at_ (a :: b :: c :: d :: e :: f :: g :: h :: l) (i + 8) = at_ l i := rfl
theorem c_int (ρ : List C) (e : E) : (Lf.int e).c ρ = .i (e.den ρ) := rfl
theorem c_bool (ρ : List C) (b : B) : (Lf.bool b).c ρ = .b (b.den ρ) := rfl
theorem c_arr (ρ : List C) (t : TypeId) (e : E) : (Lf.arr t e).c ρ = e.ev ρ := rfl
theorem c_cnt (ρ : List C) (t : TypeId) (e : E) : (Lf.cnt t e).c ρ = e.ev ρ := rfl
theorem c_vec (ρ : List C) (t : TypeId) (i : Nat) : (Lf.vec t i).c ρ = at_ ρ i := rfl
theorem ev_nil (ρ : List C) : E.nil.ev ρ = .s (.slice none 0 0) [] := rfl
theorem ev_join (ρ : List C) (l r : E) : (E.join l r).ev ρ = .s (l.ev ρ).loc (r.ev ρ).rows := rfl
theorem ev_sub3 (ρ : List C) (a lo hi : E) (sz : Nat) : (E.sub3 a lo hi sz).ev ρ = .s (partLoc (a.ev ρ).loc (lo.den ρ).toNat (hi.den ρ).toNat sz) (((a.ev ρ).rows.take (hi.den ρ).toNat).drop (lo.den ρ).toNat) := rfl
theorem ev_cell (ρ : List C) (a x : E) (o : Nat) : (E.cell a x o).ev ρ = (a.ev ρ).at (x.den ρ).toNat o := rfl
theorem loc_s (v : Value) (r : List (List C)) : (C.s v r).loc = v := rfl
theorem int_i (n : Int) : (C.i n).int = n := rfl
theorem bool_b (t : Bool) : (C.b t).bool = t := rfl
theorem rows_s (v : Value) (r : List (List C)) : (C.s v r).rows = r := rfl
theorem cs_nil (ρ : List C) : cs_ ρ [] = [] := rfl
theorem cs_cons (ρ : List C) (l : Lf) (ls : List Lf) : cs_ ρ (l :: ls) = l.c ρ :: cs_ ρ ls := rfl
theorem vc_both {cx : Cx} {R : List C → Prop} {a b : Tree} {ρ : List C} {Ls : List (List C → Prop)} : VC cx R (.both a b) ρ Ls = (VC cx R a ρ Ls ∧ VC cx R b ρ Ls) := rfl
theorem kindsOf_nil : kindsOf [] = [] := rfl
theorem kindsOf_lf (k : Lk) (l : List Sh0) : kindsOf (.lf k :: l) = k :: kindsOf l := rfl
theorem kindsOf_box (t : TypeId) (ks : List Lk) (l : List Sh0) : kindsOf (.box t ks :: l) = ks ++ kindsOf l := rfl
theorem boxKinds_nil : boxKinds [] = [] := rfl
theorem boxKinds_lf (k : Lk) (l : List Sh0) : boxKinds (.lf k :: l) = boxKinds l := rfl
theorem boxKinds_agg (k : List Lk) (l : List Sh0) : boxKinds (.agg k :: l) = boxKinds l := rfl
theorem boxKinds_box (t : TypeId) (k : List Lk) (l : List Sh0) : boxKinds (.box t k :: l) = k ++ boxKinds l := rfl
theorem kindsOf_agg (ks : List Lk) (l : List Sh0) : kindsOf (.agg ks :: l) = ks ++ kindsOf l := rfl
theorem bds_nil (ρ : List C) : Bds.ok [] ρ := fun x lo hi h => by cases h
theorem cell_at (v : Value) (rows : List (List C)) (i o : Nat) : (C.s v rows).at i o = (rows.getD i []).getD o (.i 0) := rfl
end Go.Proofs.Ytlbgcjpkegpmlaa
/- What each function of the program computes: the table. -/
namespace Go.Proofs.Ytlbgcjpkegpmlaa
set_option linter.unusedVariables false

def withinI : Inl := fun bd l => match l with
  | [.lf (.int n), .lf (.int a), .lf (.int b)] => some (rngL bd (cellsOf [] l), .lf (.bool (.and (B.mkCmp bd .le a n) (B.mkCmp bd .le n b))))
  | _ => none
def fairI : Inl := fun bd l => match l with
  | [.agg [.int lo, .int hi], .lf (.int a), .lf (.int b)] => some (rngL bd (cellsOf [] l), .lf (.bool (.and (B.mkCmp bd .le a lo) (.and (B.mkCmp bd .le lo hi) (B.mkCmp bd .le hi b)))))
  | _ => none
def ctWithin : Ct := ctF [.lf .int, .lf .int, .lf .int] [.lf .bool] (fun _ => True) (fun cs => match cs with | [.i n, .i a, .i b] => [.b (decide (a ≤ n) && decide (n ≤ b))] | _ => [])
def ctFair : Ct := ctF [.agg [.int, .int], .lf .int, .lf .int] [.lf .bool] (fun _ => True) (fun cs => match cs with | [.i lo, .i hi, .i a, .i b] => [.b (decide (a ≤ lo) && (decide (lo ≤ hi) && decide (hi ≤ b)))] | _ => [])
def ctFloor : Ct := ctF [.lf .int, .lf .int] [.lf .int] (fun cs => match cs with | [.i _, .i b] => 0 < b | _ => False) (fun cs => match cs with | [.i a, .i b] => [.i (a / b)] | _ => [])

def ShutOK (pl ph cl ch gl gh we de ar : Int) : Prop :=
  0 ≤ pl ∧ pl ≤ ph ∧ ph ≤ 68719476736 ∧ 0 ≤ cl ∧ cl ≤ ch ∧ ch ≤ 68719476736 ∧ 1 ≤ we ∧ we ≤ 40000 ∧ 1 ≤ de ∧ de ≤ 1048576 ∧ 1 ≤ ar ∧ ar ≤ 5000 ∧ ar ≤ gl ∧ gl ≤ gh ∧ gh ≤ 1073741824
instance {pl ph cl ch gl gh we de ar : Int} : Decidable (ShutOK pl ph cl ch gl gh we de ar) := by unfold ShutOK; infer_instance
def shutE (pl ph cl ch gl gh we de ar : Int) : Int := if ShutOK pl ph cl ch gl gh we de ar then (if cl < ph then 11 else 0) else 2
def kindW (lo hi : Int) : Int := if hi ≤ 3500 then 1 else if 9000 ≤ lo then 3 else if 3500 < lo ∧ hi < 9000 then 2 else 4
def identL (pl ph cl ch gl gh we de ar : Int) : List C :=
  if shutE pl ph cl ch gl gh we de ar = 0 then
    let hl := gl / ar
    let hh := (gh + ar - 1) / ar
    let wl := we + (pl - ch) / hl
    let wh := we - (cl - ph) / hh
    [.i (pl + we * de), .i (ph + we * de), .i hl, .i hh, .i wl, .i wh, .i (kindW wl wh), .i 0]
  else [.i 0, .i 0, .i 0, .i 0, .i 0, .i 0, .i 0, .i (shutE pl ph cl ch gl gh we de ar)]
def shutSh : Sh0 := .agg [.int, .int, .int, .int, .int, .int, .int, .int, .int]
def ingSh : Sh0 := .agg [.int, .int, .int, .int, .int, .int, .int]
def ctShut : Ct := ctF [shutSh] [.lf .int] (fun _ => True) (fun cs => match cs with | [.i a, .i b, .i c, .i d, .i e, .i f, .i g, .i h, .i i] => [.i (shutE a b c d e f g h i)] | _ => [])
def ctIdent : Ct := ctF [shutSh] [ingSh, .lf .int] (fun _ => True) (fun cs => match cs with | [.i a, .i b, .i c, .i d, .i e, .i f, .i g, .i h, .i i] => identL a b c d e f g h i | _ => [])
def ctAwake : Ct := ctF [] [.lf .bool] (fun _ => True) (fun _ => [.b true])

/-! The ring of numbers -/
def ringSh : Sh0 := .box 99 [.arr 3, .int]
def ctMod : Ct := ctF [.lf .int, .lf .int] [.lf .int] (fun cs => match cs with | [.i _, .i m] => 1 ≤ m ∧ m ≤ 4611686018427387904 | _ => False) (fun cs => match cs with | [.i n, .i m] => [.i (n % m)] | _ => [])
def ctNewRing : Ct := ctF [.lf (.arr 3)] [ringSh] (fun _ => True) (fun cs => match cs with | [c] => [c, .i 0] | _ => [])
def ctNext : Ct := ⟨[ringSh, .lf .int], [.lf .int], fun cs => match cs with | [.s _ _, .i at_, .i n] => 0 ≤ at_ ∧ at_ ≤ 1000000 ∧ 1 ≤ n | _ => False,
  fun cs rs => match cs, rs with | [.s v rows, .i at_, .i n], [.i x, .s v' rows', .i at'] => 0 ≤ x ∧ x < n ∧ v' = v ∧ rows' = rows ∧ at' = at_ + 1 | _, _ => False, false⟩
def atPre (n : Int) (cs : List C) : Prop := match cs with | [.s _ _, .i at_] => 0 ≤ at_ ∧ at_ ≤ n | _ => False
def ctKickOf : Ct := ⟨[ringSh], [.agg [.int, .int]], atPre 100000,
  fun cs rs => match cs, rs with | [.s v rows, .i at_], [.i a, .i b, .s v' rows', .i at'] => 0 ≤ a ∧ a ≤ 9998 ∧ 0 ≤ b ∧ b ≤ 299 ∧ v' = v ∧ rows' = rows ∧ at' = at_ + 4 | _, _ => False, false⟩
def ShutGood (pl ph cl ch gl gh we de ar : Int) : Prop :=
  9000 ≤ we ∧ we < 21000 ∧ 1 ≤ de ∧ de ≤ 400000 ∧ 1 ≤ ar ∧ ar ≤ 500 ∧ 0 ≤ pl ∧ pl < 1048576 ∧ pl ≤ ph ∧ ph ≤ pl + 524288 ∧ ph ≤ cl ∧ cl ≤ ph + 209715200 ∧ cl ≤ ch ∧ ch ≤ cl + 524288 ∧ ar ≤ gl ∧ gl < ar + 1048576 ∧ gl ≤ gh ∧ gh ≤ gl + 32768
def ctShutOf : Ct := ⟨[ringSh], [shutSh], atPre 100000,
  fun cs rs => match rs with | [.i a, .i b, .i c, .i d, .i e, .i f, .i g, .i h, .i i, .s _ _, .i _] => ShutGood a b c d e f g h i | _ => False, false⟩
def ctLWithin : Ct := ctF [.agg [.int, .int], .lf .int] [.agg [.int, .int]] (fun cs => match cs with | [.i lo, .i hi, .i _] => 0 ≤ lo ∧ lo ≤ hi ∧ hi ≤ 1099511627776 | _ => False)
  (fun cs => match cs with | [.i lo, .i hi, .i n] => [.i (lo + n % (hi - lo + 1)), .i (lo + n % (hi - lo + 1))] | _ => [])
def inI : Inl := fun bd l => match l with
  | [.agg [.int a, .int b], .agg [.int c, .int d]] => some (rngL bd (cellsOf [] l), .lf (.bool (.and (B.mkCmp bd .le c a) (B.mkCmp bd .le b d))))
  | _ => none
def ctIn : Ct := ctF [.agg [.int, .int], .agg [.int, .int]] [.lf .bool] (fun _ => True) (fun cs => match cs with | [.i a, .i b, .i c, .i d] => [.b (decide (c ≤ a) && decide (b ≤ d))] | _ => [])

/-! Kicks and sensors -/
def KOk (r g : Int) : Prop := 0 ≤ r ∧ r ≤ 16777216 ∧ 0 ≤ g ∧ g ≤ 4096
instance {r g : Int} : Decidable (KOk r g) := by unfold KOk; infer_instance
def kickE (r g : Int) : Int := if KOk r g then 0 else 2
def kicksE (rl rh gl gh : Int) : Int := if rl ≤ rh ∧ gl ≤ gh ∧ KOk rl gl ∧ KOk rh gh then 0 else 2
def SOk (pe de no st lo li ho : Int) : Prop := 1 ≤ pe ∧ pe ≤ 60 ∧ 0 ≤ de ∧ de ≤ 600 ∧ 0 ≤ no ∧ no ≤ 15 ∧ 1 ≤ st ∧ st ≤ 1048576 ∧ 0 ≤ lo ∧ lo ≤ 5 ∧ 1 ≤ li ∧ li ≤ 1099511627776 ∧ 1 ≤ ho ∧ ho ≤ 8
instance {pe de no st lo li ho : Int} : Decidable (SOk pe de no st lo li ho) := by unfold SOk; infer_instance
def sensE (ch pe de no st lo li ho : Int) : Int := if ch = 1 ∨ ch = 2 then (if SOk pe de no st lo li ho then 0 else 2) else 4
def sensRow (r : List C) : Int := sensE (r.getD 0 (.i 0)).int (r.getD 1 (.i 0)).int (r.getD 2 (.i 0)).int (r.getD 3 (.i 0)).int (r.getD 4 (.i 0)).int (r.getD 5 (.i 0)).int (r.getD 6 (.i 0)).int (r.getD 7 (.i 0)).int
def firstE : List (List C) → Int
  | [] => 0
  | r :: l => if sensRow r = 0 then firstE l else sensRow r
def sensorsE (rows : List (List C)) : Int := if rows.length = 0 then 6 else if 4 < rows.length then 8 else firstE rows
def flowV (r g n : Int) : Int := if KOk r g ∧ 0 ≤ n ∧ n ≤ 20000 then r + n * g else 0
def gainV (r g n : Int) : Int := if KOk r g ∧ 0 ≤ n ∧ n ≤ 20000 then n * r + g * (n * (n - 1) / 2) else 0
def saysV (ch r g n : Int) : Int := if ch = 1 then gainV r g n else flowV r g n
def valueV (ch pe de no st lo li ho r g n e : Int) : Int := if sensE ch pe de no st lo li ho = 0 ∧ KOk r g ∧ -no ≤ e ∧ e ≤ no ∧ n ≤ 20000 then saysV ch r g n + e * st else 0
def kickSh : Sh0 := .agg [.int, .int]
def kicksSh : Sh0 := .agg [.int, .int, .int, .int]
def sensSh : Sh0 := .agg [.int, .int, .int, .int, .int, .int, .int, .int]
def ctKick : Ct := ctF [kickSh] [.lf .int] (fun _ => True) (fun cs => match cs with | [.i r, .i g] => [.i (kickE r g)] | _ => [])
def ctLeast : Ct := ctF [kicksSh] [kickSh] (fun _ => True) (fun cs => match cs with | [.i a, .i _, .i c, .i _] => [.i a, .i c] | _ => [])
def ctKicks : Ct := ctF [kicksSh] [.lf .int] (fun _ => True) (fun cs => match cs with | [.i a, .i b, .i c, .i d] => [.i (kicksE a b c d)] | _ => [])
def ctSens : Ct := ctF [sensSh] [.lf .int] (fun _ => True) (fun cs => match cs with | [.i a, .i b, .i c, .i d, .i e, .i f, .i g, .i h] => [.i (sensE a b c d e f g h)] | _ => [])
def ctSensors : Ct := ctF [.lf (.arr 23)] [.lf .int] (fun _ => True) (fun cs => match cs with | [.s _ rows] => [.i (sensorsE rows)] | _ => [])
def ctFlow : Ct := ctF [kickSh, .lf .int] [.lf .int] (fun _ => True) (fun cs => match cs with | [.i r, .i g, .i n] => [.i (flowV r g n)] | _ => [])
def ctGain : Ct := ctF [kickSh, .lf .int] [.lf .int] (fun _ => True) (fun cs => match cs with | [.i r, .i g, .i n] => [.i (gainV r g n)] | _ => [])
def ctFlow1 : Ct := ctF [kickSh, .lf .int] [.lf .int] (fun cs => match cs with | [.i r, .i g, .i n] => KOk r g ∧ n ≤ 20000 | _ => False) (fun cs => match cs with | [.i r, .i g, .i n] => [.i (flowV r g n)] | _ => [])
def ctGain1 : Ct := ctF [kickSh, .lf .int] [.lf .int] (fun cs => match cs with | [.i r, .i g, .i n] => KOk r g ∧ n ≤ 20000 | _ => False) (fun cs => match cs with | [.i r, .i g, .i n] => [.i (gainV r g n)] | _ => [])
def ctSays : Ct := ctF [sensSh, kickSh, .lf .int] [.lf .int] (fun _ => True) (fun cs => match cs with | [.i ch, .i _, .i _, .i _, .i _, .i _, .i _, .i _, .i r, .i g, .i n] => [.i (saysV ch r g n)] | _ => [])
def ctValue : Ct := ctF [sensSh, kickSh, .lf .int, .lf .int] [.lf .int] (fun _ => True) (fun cs => match cs with | [.i a, .i b, .i c, .i d, .i e, .i f, .i g, .i h, .i r, .i q, .i n, .i x] => [.i (valueV a b c d e f g h r q n x)] | _ => [])

def saysS : Sel := fun bd l => match l with
  | [.agg [.int ch, .int _, .int _, .int _, .int _, .int _, .int _, .int _], .agg [.int r, .int g]] => some ([], B.mkCmp bd .eq ch (.lit 2), .fn 67 [.int r, .int g], .fn 66 [.int r, .int g])
  | _ => none

/-! Samples: rows of a sensor's number, a tick and a value -/
def measV (no st ch r g n v : Int) : Prop := n ≤ 20000 ∧ (v - saysV ch r g n).tmod st = 0 ∧ -no ≤ (v - saysV ch r g n).tdiv st ∧ (v - saysV ch r g n).tdiv st ≤ no
instance {no st ch r g n v : Int} : Decidable (measV no st ch r g n v) := by unfold measV; infer_instance
def cell_ (r : List C) (k : Nat) : Int := (r.getD k (.i 0)).int
/-- A sensor and a kick, as numbers. -/
structure SK where
  ch : Int
  pe : Int
  de : Int
  no : Int
  st : Int
  lo : Int
  li : Int
  ho : Int
  r : Int
  g : Int
def stepV (x : SK) (begin se ph last : Int) (row : List C) : Prop :=
  0 ≤ cell_ row 1 ∧ cell_ row 1 ≤ 40000 ∧ cell_ row 0 = se ∧ (cell_ row 1).tmod x.pe = ph ∧ 1 ≤ (cell_ row 1).tdiv x.pe - last ∧ (cell_ row 1).tdiv x.pe - last ≤ x.lo + 1 ∧ measV x.no x.st x.ch x.r x.g (cell_ row 1 - begin) (cell_ row 2)
instance {x : SK} {begin se ph last : Int} {row : List C} : Decidable (stepV x begin se ph last row) := by unfold stepV; infer_instance
def possL (x : SK) (begin se ph : Int) : Int → List (List C) → Bool
  | _, [] => true
  | last, row :: l => decide (stepV x begin se ph last row) && possL x begin se ph ((cell_ row 1).tdiv x.pe) l
def SKOk (x : SK) : Prop := sensE x.ch x.pe x.de x.no x.st x.lo x.li x.ho = 0 ∧ KOk x.r x.g
instance {x : SK} : Decidable (SKOk x) := by unfold SKOk; infer_instance
def possV (x : SK) (begin : Int) (rows : List (List C)) : Bool :=
  decide (SKOk x) && (decide (0 ≤ begin ∧ begin ≤ 20000 ∧ rows.length ≤ 200) && possL x begin (cell_ (rows.getD 0 []) 0) ((cell_ (rows.getD 0 []) 1).tmod x.pe) (-1) rows)
def ctPoss : Ct := ctF [sensSh, kickSh, .lf .int, .lf (.arr 40)] [.lf .bool] (fun _ => True) (fun cs => match cs with | [.i a, .i b, .i c, .i d, .i e, .i f, .i g, .i h, .i r, .i q, .i n, .s _ rows] => [.b (possV ⟨a, b, c, d, e, f, g, h, r, q⟩ n rows)] | _ => [])
def ctMeas : Ct := ctF [sensSh, kickSh, .lf .int, .lf .int] [.lf .bool] (fun cs => match cs with | [.i a, .i b, .i c, .i d, .i e, .i f, .i g, .i h, .i r, .i q, .i n, .i _] => SKOk ⟨a, b, c, d, e, f, g, h, r, q⟩ ∧ -20000 ≤ n ∧ n ≤ 40000 | _ => False) (fun cs => match cs with | [.i a, .i b, .i c, .i d, .i e, .i f, .i g, .i h, .i r, .i q, .i n, .i v] => [.b (decide (measV d e a r q n v))] | _ => [])
def SensGood (ch pe de no st lo li ho : Int) : Prop := (ch = 1 ∨ ch = 2) ∧ 1 ≤ pe ∧ pe ≤ 12 ∧ 0 ≤ de ∧ de ≤ 38 ∧ 0 ≤ no ∧ no ≤ 3 ∧ 1 ≤ st ∧ st ≤ 500 ∧ 0 ≤ lo ∧ lo ≤ 3 ∧ 1 ≤ li ∧ li ≤ 180000 ∧ 1 ≤ ho ∧ ho ≤ 4
def ctSensorOf : Ct := ⟨[ringSh], [sensSh], atPre 100000,
  fun cs rs => match cs, rs with | [.s v rows, .i at_], [.i a, .i b, .i c, .i d, .i e, .i f, .i g, .i h, .s v' rows', .i at'] => SensGood a b c d e f g h ∧ v' = v ∧ rows' = rows ∧ at' = at_ + 9 | _, _ => False, false⟩
def endL (pe : Int) : Int → List (List C) → Int
  | last, [] => last
  | _, row :: l => endL pe ((cell_ row 1).tdiv pe) l
def SampsOf (x : SK) (begin se last : Int) (rows : List (List C)) : Prop :=
  rows.length ≤ 190 ∧ ∃ ph, 0 ≤ ph ∧ ph < x.pe ∧ possL x begin se ph (-1) rows = true ∧ (∀ row ∈ rows, cell_ row 1 ≤ last) ∧ (rows.length < 190 → last < ph + (endL x.pe (-1) rows + 1 + x.lo) * x.pe)
def ctSamples : Ct := ⟨[ringSh, .lf .int, sensSh, kickSh, .lf .int, .lf .int], [.lf (.vec 40)],
  fun cs => match cs with | [.s _ _, .i at_, .i _, .i a, .i b, .i c, .i d, .i e, .i f, .i g, .i h, .i r, .i q, .i begin, .i last] => 0 ≤ at_ ∧ at_ ≤ 100000 ∧ SKOk ⟨a, b, c, d, e, f, g, h, r, q⟩ ∧ 0 ≤ begin ∧ begin ≤ 20000 ∧ 0 ≤ last ∧ last ≤ 20000 | _ => False,
  fun cs rs => match cs, rs with | [.s v rows, .i at_, .i se, .i a, .i b, .i c, .i d, .i e, .i f, .i g, .i h, .i r, .i q, .i begin, .i last], [.s _ out, .s v' rows', .i at'] => SampsOf ⟨a, b, c, d, e, f, g, h, r, q⟩ begin se last out ∧ v' = v ∧ rows' = rows ∧ at_ ≤ at' ∧ at' ≤ at_ + 4 + 3 * last | _, _ => False, false⟩

/-! The latest alarm -/
def firA (x : SK) (f : Int) : Nat → Int → Option Int
  | 0, _ => none
  | n + 1, a => if f + a * x.pe ≤ 10000 then (if x.li ≤ saysV x.ch x.r x.g (f + a * x.pe) - x.no * x.st then some a else firA x f n (a + 1)) else none
def tickV (x : SK) (f a : Int) : Int := f + (a + x.ho * (x.lo + 1) - 1) * x.pe + x.de
def latL (x : SK) : Nat → Int → Int → Int → Int → Option (Int × Int × Int)
  | 0, _, o, p, q => some (o, p, q)
  | k + 1, f, o, p, q => match firA x f 10001 0 with
    | none => none
    | some a => if 10000 < tickV x f a then none else if o < tickV x f a then latL x k (f + 1) (tickV x f a) f a else latL x k (f + 1) o p q
def latV (x : SK) : Option (Int × Int × Int) := latL x x.pe.toNat 0 (-1) 0 0
def latC : Option (Int × Int × Int) → List C
  | some (o, p, q) => [.i o, .i p, .i q, .b true]
  | none => [.i 0, .i 0, .i 0, .b false]
def atO : Option (Int × Int × Int) → Option Int
  | some (o, _, _) => some o
  | none => none
def latE (x : SK) : List C := if SKOk x then (match atO (latV x) with | some o => [.i o, .b true] | none => [.i 0, .b false]) else [.i 0, .b false]
def skR (r g : Int) (row : List C) : SK := ⟨cell_ row 0, cell_ row 1, cell_ row 2, cell_ row 3, cell_ row 4, cell_ row 5, cell_ row 6, cell_ row 7, r, g⟩
/-- The latest alarms of sensors, as rows. -/
def atsL (r g : Int) : List (List C) → List (List C)
  | [] => []
  | row :: l => match atO (latV (skR r g row)) with
    | some o => [.i o] :: atsL r g l
    | none => atsL r g l
def minL : Int → List (List C) → Int
  | m, [] => m
  | m, row :: l => minL (min m (cell_ row 0)) l
def minR (l : List (List C)) : Int := minL (cell_ (l.getD 0 []) 0) (l.drop 1)
def earlC (r g : Int) (rows : List (List C)) : List C := if atsL r g rows = [] then [.i 0, .i 13] else [.i (minR (atsL r g rows)), .i 0]
def latestC (rows : List (List C)) (rl rh gl gh : Int) : List C := if sensorsE rows = 0 then (if kicksE rl rh gl gh = 0 then earlC rl gl rows else [.i 0, .i (kicksE rl rh gl gh)]) else [.i 0, .i (sensorsE rows)]
def caughtC (rows : List (List C)) (r g : Int) : List C :=
  if sensorsE rows = 0 then (if kickE r g = 0 then (if atsL r g rows = [] then [.i 0, .i 0, .i 13] else [.i (minR (atsL r g rows)), .i (gainV r g (minR (atsL r g rows))), .i 0]) else [.i 0, .i 0, .i (kickE r g)]) else [.i 0, .i 0, .i (sensorsE rows)]
def skOf (cs : List C) : SK := ⟨cell_ cs 0, cell_ cs 1, cell_ cs 2, cell_ cs 3, cell_ cs 4, cell_ cs 5, cell_ cs 6, cell_ cs 7, cell_ cs 8, cell_ cs 9⟩
def firC : Option Int → List C
  | some a => [.i a, .b true]
  | none => [.i 0, .b false]
def lat1C (x : SK) (f : Int) : Option Int → List C
  | some a => [.i (tickV x f a), .i a, .b (decide (tickV x f a ≤ 10000))]
  | none => [.i (tickV x f 0), .i 0, .b false]
def ctFirst : Ct := ctF [sensSh, kickSh, .lf .int] [.lf .int, .lf .bool] (fun cs => SKOk (skOf cs) ∧ 0 ≤ cell_ cs 10 ∧ cell_ cs 10 ≤ 60) (fun cs => firC (firA (skOf cs) (cell_ cs 10) 10001 0))
def ctLate1 : Ct := ctF [sensSh, kickSh, .lf .int] [.lf .int, .lf .int, .lf .bool] (fun cs => SKOk (skOf cs) ∧ 0 ≤ cell_ cs 10 ∧ cell_ cs 10 ≤ 60) (fun cs => lat1C (skOf cs) (cell_ cs 10) (firA (skOf cs) (cell_ cs 10) 10001 0))
def ctWorst : Ct := ctF [sensSh, kickSh] [.lf .int, .lf .int, .lf .int, .lf .bool] (fun cs => SKOk (skOf cs)) (fun cs => latC (latV (skOf cs)))
def ctLatek : Ct := ctF [sensSh, kickSh] [.agg [.int, .int, .int], .lf .bool] (fun cs => SKOk (skOf cs)) (fun cs => latC (latV (skOf cs)))
def ctLate : Ct := ctF [sensSh, kickSh] [.lf .int, .lf .bool] (fun _ => True) (fun cs => latE (skOf cs))
def ctMin : Ct := ctF [.lf (.arr 2)] [.lf .int] (fun cs => match cs with | [.s _ rows] => rows ≠ [] | _ => False) (fun cs => match cs with | [.s _ rows] => [.i (minR rows)] | _ => [])
def ctEarl : Ct := ctF [.lf (.arr 23), kickSh] [.lf .int, .lf .int] (fun cs => match cs with | [.s _ rows, .i r, .i g] => rows.length ≤ 6 ∧ firstE rows = 0 ∧ KOk r g | _ => False) (fun cs => match cs with | [.s _ rows, .i r, .i g] => earlC r g rows | _ => [])
def ctLatest : Ct := ctF [.lf (.arr 23), kicksSh] [.lf .int, .lf .int] (fun _ => True) (fun cs => match cs with | [.s _ rows, .i a, .i b, .i c, .i d] => latestC rows a b c d | _ => [])
def ctCaught : Ct := ctF [.lf (.arr 23), kickSh] [.lf .int, .lf .int, .lf .int] (fun _ => True) (fun cs => match cs with | [.s _ rows, .i r, .i g] => caughtC rows r g | _ => [])
def ctKicksOf : Ct := ⟨[ringSh], [kicksSh], atPre 100000,
  fun cs rs => match cs, rs with | [.s v rows, .i at_], [.i a, .i b, .i c, .i d, .s v' rows', .i at'] => 0 ≤ a ∧ a ≤ b ∧ b ≤ 12998 ∧ 0 ≤ c ∧ c ≤ d ∧ d ≤ 499 ∧ v' = v ∧ rows' = rows ∧ at' = at_ + 6 | _, _ => False, false⟩

def tab : Tab where
  ct := fun f => match f with
    | 72 => some ctFloor
    | 74 => some ctFloor
    | 73 => some ctShut
    | 31 => some ctIdent
    | 32 => some ctIdent
    | 19 => some ctAwake
    | 36 => some ctKick
    | 37 => some ctKick
    | 75 => some ctLeast
    | 76 => some ctLeast
    | 38 => some ctKicks
    | 39 => some ctKicks
    | 40 => some ctSens
    | 41 => some ctSens
    | 42 => some ctSensors
    | 43 => some ctSensors
    | 24 => some ctFlow
    | 44 => some ctFlow
    | 23 => some ctGain
    | 45 => some ctGain
    | 67 => some ctFlow1
    | 66 => some ctGain1
    | 78 => some ctSays
    | 47 => some ctValue
    | 46 => some ctValue
    | 28 => some ctMod
    | 22 => some ctMod
    | 21 => some ctNewRing
    | 26 => some ctNext
    | 20 => some ctKickOf
    | 25 => some ctSensorOf
    | 48 => some ctKicksOf
    | 97 => some ctFirst
    | 95 => some ctLate1
    | 87 => some ctWorst
    | 79 => some ctLatek
    | 49 => some ctLate
    | 58 => some ctLate
    | 91 => some ctMin
    | 80 => some ctEarl
    | 90 => some ctEarl
    | 50 => some ctLatest
    | 61 => some ctLatest
    | 51 => some ctCaught
    | 62 => some ctCaught
    | 27 => some ctSamples
    | 29 => some ctPoss
    | 30 => some ctPoss
    | 70 => some ctMeas
    | 33 => some ctShutOf
    | 34 => some ctLWithin
    | _ => none
  inl := fun f => match f with
    | 68 => some withinI
    | 69 => some withinI
    | 71 => some fairI
    | 35 => some inI
    | _ => none
  sel := fun f => match f with
    | 77 => some saysS
    | _ => none
end Go.Proofs.Ytlbgcjpkegpmlaa
/- What is to be shown of each function, as the executor has it. Printed by trees.py. -/
namespace Go.Proofs.Ytlbgcjpkegpmlaa
noncomputable def ckicksof : Cx := tab.only [26, 20] (fun r => match r with
  | 50002 => [.blk 0]
  | _ => []) [] 0 []
def tkicksof_1 : Tree :=
  (.ob (.and (.cmp .le (.lit (-9223372036854775808)) (.add (.var 3) (.var 9))) (.cmp .le (.add (.var 3) (.var 9)) (.lit 9223372036854775807))) (.ob (.and (.cmp .le (.lit (-9223372036854775808)) (.add (.var 2) (.var 6))) (.cmp .le (.add (.var 2) (.var 6)) (.lit 9223372036854775807))) (.ob (.and (.cmp .le (.lit (-9223372036854775808)) (.add (.var 3) (.var 9))) (.cmp .le (.add (.var 3) (.var 9)) (.lit 9223372036854775807))) (.ret [(.int (.var 2)), (.int (.add (.var 2) (.var 6))), (.int (.var 3)), (.int (.add (.var 3) (.var 9))), (.arr 3 (.var 10)), (.int (.var 11))]))))
def tkicksof_2 : Tree :=
  (.ob (.and (.cmp .le (.lit (-9223372036854775808)) (.add (.var 2) (.var 6))) (.cmp .le (.add (.var 2) (.var 6)) (.lit 9223372036854775807))) (.call 26 [(.arr 3 (.var 7)), (.int (.var 8)), (.int (.lit 200))] tkicksof_1))
def tkicksof : Tree :=
  (.call 20 [(.arr 3 (.var 0)), (.int (.var 1))] (.call 26 [(.arr 3 (.var 4)), (.int (.var 5)), (.int (.lit 3000))] tkicksof_2))
noncomputable def clatek : Cx := tab.only [77, 67, 66] (fun r => match r with
  | 4 => [.blk 3]
  | _ => []) [] 0 []
def tlatek : Tree :=
  (.split (.cmp .eq (.var 0) (.lit 2)) (.loop [.bool, .int, .int, .int, .int] [(.bool (.lit false)), (.int (.lit 0)), (.int (.lit (-1))), (.int (.lit 0)), (.int (.lit 0))] (.split (.cmp .lt (.var 11) (.var 1)) (.loop [.bool, .int] [(.bool (.of (.var 10))), (.int (.lit 0))] (.ob (.and (.cmp .le (.lit (-9223372036854775808)) (.mul (.var 16) (.var 1))) (.cmp .le (.mul (.var 16) (.var 1)) (.lit 9223372036854775807))) (.ob (.and (.cmp .le (.lit (-9223372036854775808)) (.add (.var 11) (.mul (.var 16) (.var 1)))) (.cmp .le (.add (.var 11) (.mul (.var 16) (.var 1))) (.lit 9223372036854775807))) (.split (.cmp .le (.add (.var 11) (.mul (.var 16) (.var 1))) (.lit 10000)) (.ob (.and (.cmp .le (.lit (-9223372036854775808)) (.mul (.var 16) (.var 1))) (.cmp .le (.mul (.var 16) (.var 1)) (.lit 9223372036854775807))) (.ob (.and (.cmp .le (.lit (-9223372036854775808)) (.add (.var 11) (.mul (.var 16) (.var 1)))) (.cmp .le (.add (.var 11) (.mul (.var 16) (.var 1))) (.lit 9223372036854775807))) (.ob (.and (.cmp .le (.lit (-9223372036854775808)) (.mul (.var 3) (.var 4))) (.cmp .le (.mul (.var 3) (.var 4)) (.lit 9223372036854775807))) (.ob (.and (.cmp .le (.lit (-9223372036854775808)) (.add (.var 11) (.mul (.var 16) (.var 1)))) (.cmp .le (.add (.var 11) (.mul (.var 16) (.var 1))) (.lit 9223372036854775807))) (.call 67 [(.int (.var 8)), (.int (.var 9)), (.int (.add (.var 11) (.mul (.var 16) (.var 1))))] (.ob (.and (.cmp .le (.lit (-9223372036854775808)) (.sub (.var 17) (.mul (.var 3) (.var 4)))) (.cmp .le (.sub (.var 17) (.mul (.var 3) (.var 4))) (.lit 9223372036854775807))) (.split (.cmp .lt (.sub (.var 17) (.mul (.var 3) (.var 4))) (.var 6)) (.ob (.and (.cmp .le (.lit (-9223372036854775808)) (.add (.var 16) (.lit 1))) (.cmp .le (.add (.var 16) (.lit 1)) (.lit 9223372036854775807))) (.ob (.and (.cmp .le (.lit (-9223372036854775808)) (.add (.var 16) (.lit 1))) (.cmp .le (.add (.var 16) (.lit 1)) (.lit 9223372036854775807))) (.back 1 [(.bool (.of (.var 15))), (.int (.add (.var 16) (.lit 1)))]))) (.ob (.and (.cmp .le (.lit (-9223372036854775808)) (.add (.var 5) (.lit 1))) (.cmp .le (.add (.var 5) (.lit 1)) (.lit 9223372036854775807))) (.ob (.and (.cmp .le (.lit (-9223372036854775808)) (.mul (.var 7) (.add (.var 5) (.lit 1)))) (.cmp .le (.mul (.var 7) (.add (.var 5) (.lit 1))) (.lit 9223372036854775807))) (.ob (.and (.cmp .le (.lit (-9223372036854775808)) (.add (.var 16) (.mul (.var 7) (.add (.var 5) (.lit 1))))) (.cmp .le (.add (.var 16) (.mul (.var 7) (.add (.var 5) (.lit 1)))) (.lit 9223372036854775807))) (.ob (.and (.cmp .le (.lit (-9223372036854775808)) (.sub (.add (.var 16) (.mul (.var 7) (.add (.var 5) (.lit 1)))) (.lit 1))) (.cmp .le (.sub (.add (.var 16) (.mul (.var 7) (.add (.var 5) (.lit 1)))) (.lit 1)) (.lit 9223372036854775807))) (.ob (.and (.cmp .le (.lit (-9223372036854775808)) (.mul (.sub (.add (.var 16) (.mul (.var 7) (.add (.var 5) (.lit 1)))) (.lit 1)) (.var 1))) (.cmp .le (.mul (.sub (.add (.var 16) (.mul (.var 7) (.add (.var 5) (.lit 1)))) (.lit 1)) (.var 1)) (.lit 9223372036854775807))) (.ob (.and (.cmp .le (.lit (-9223372036854775808)) (.add (.var 11) (.mul (.sub (.add (.var 16) (.mul (.var 7) (.add (.var 5) (.lit 1)))) (.lit 1)) (.var 1)))) (.cmp .le (.add (.var 11) (.mul (.sub (.add (.var 16) (.mul (.var 7) (.add (.var 5) (.lit 1)))) (.lit 1)) (.var 1))) (.lit 9223372036854775807))) (.ob (.and (.cmp .le (.lit (-9223372036854775808)) (.add (.add (.var 11) (.mul (.sub (.add (.var 16) (.mul (.var 7) (.add (.var 5) (.lit 1)))) (.lit 1)) (.var 1))) (.var 2))) (.cmp .le (.add (.add (.var 11) (.mul (.sub (.add (.var 16) (.mul (.var 7) (.add (.var 5) (.lit 1)))) (.lit 1)) (.var 1))) (.var 2)) (.lit 9223372036854775807))) (.split (.cmp .lt (.lit 10000) (.add (.add (.var 11) (.mul (.sub (.add (.var 16) (.mul (.var 7) (.add (.var 5) (.lit 1)))) (.lit 1)) (.var 1))) (.var 2))) (.ret [(.int (.lit 0)), (.int (.lit 0)), (.int (.lit 0)), (.bool (.lit false))]) (.split (.cmp .lt (.var 12) (.add (.add (.var 11) (.mul (.sub (.add (.var 16) (.mul (.var 7) (.add (.var 5) (.lit 1)))) (.lit 1)) (.var 1))) (.var 2))) (.ob (.and (.cmp .le (.lit (-9223372036854775808)) (.add (.add (.var 11) (.mul (.sub (.add (.var 16) (.mul (.var 7) (.add (.var 5) (.lit 1)))) (.lit 1)) (.var 1))) (.var 2))) (.cmp .le (.add (.add (.var 11) (.mul (.sub (.add (.var 16) (.mul (.var 7) (.add (.var 5) (.lit 1)))) (.lit 1)) (.var 1))) (.var 2)) (.lit 9223372036854775807))) (.back 0 [(.bool (.of (.var 15))), (.int (.add (.var 11) (.lit 1))), (.int (.add (.add (.var 11) (.mul (.sub (.add (.var 16) (.mul (.var 7) (.add (.var 5) (.lit 1)))) (.lit 1)) (.var 1))) (.var 2))), (.int (.var 11)), (.int (.var 16))])) (.back 0 [(.bool (.of (.var 15))), (.int (.add (.var 11) (.lit 1))), (.int (.var 12)), (.int (.var 13)), (.int (.var 14))]))))))))))))))))) (.ret [(.int (.lit 0)), (.int (.lit 0)), (.int (.lit 0)), (.bool (.lit false))]))))) (.ret [(.int (.var 12)), (.int (.var 13)), (.int (.var 14)), (.bool (.lit true))]))) (.loop [.bool, .int, .int, .int, .int] [(.bool (.lit false)), (.int (.lit 0)), (.int (.lit (-1))), (.int (.lit 0)), (.int (.lit 0))] (.split (.cmp .lt (.var 11) (.var 1)) (.loop [.bool, .int] [(.bool (.of (.var 10))), (.int (.lit 0))] (.ob (.and (.cmp .le (.lit (-9223372036854775808)) (.mul (.var 16) (.var 1))) (.cmp .le (.mul (.var 16) (.var 1)) (.lit 9223372036854775807))) (.ob (.and (.cmp .le (.lit (-9223372036854775808)) (.add (.var 11) (.mul (.var 16) (.var 1)))) (.cmp .le (.add (.var 11) (.mul (.var 16) (.var 1))) (.lit 9223372036854775807))) (.split (.cmp .le (.add (.var 11) (.mul (.var 16) (.var 1))) (.lit 10000)) (.ob (.and (.cmp .le (.lit (-9223372036854775808)) (.mul (.var 16) (.var 1))) (.cmp .le (.mul (.var 16) (.var 1)) (.lit 9223372036854775807))) (.ob (.and (.cmp .le (.lit (-9223372036854775808)) (.add (.var 11) (.mul (.var 16) (.var 1)))) (.cmp .le (.add (.var 11) (.mul (.var 16) (.var 1))) (.lit 9223372036854775807))) (.ob (.and (.cmp .le (.lit (-9223372036854775808)) (.mul (.var 3) (.var 4))) (.cmp .le (.mul (.var 3) (.var 4)) (.lit 9223372036854775807))) (.ob (.and (.cmp .le (.lit (-9223372036854775808)) (.add (.var 11) (.mul (.var 16) (.var 1)))) (.cmp .le (.add (.var 11) (.mul (.var 16) (.var 1))) (.lit 9223372036854775807))) (.call 66 [(.int (.var 8)), (.int (.var 9)), (.int (.add (.var 11) (.mul (.var 16) (.var 1))))] (.ob (.and (.cmp .le (.lit (-9223372036854775808)) (.sub (.var 17) (.mul (.var 3) (.var 4)))) (.cmp .le (.sub (.var 17) (.mul (.var 3) (.var 4))) (.lit 9223372036854775807))) (.split (.cmp .lt (.sub (.var 17) (.mul (.var 3) (.var 4))) (.var 6)) (.ob (.and (.cmp .le (.lit (-9223372036854775808)) (.add (.var 16) (.lit 1))) (.cmp .le (.add (.var 16) (.lit 1)) (.lit 9223372036854775807))) (.ob (.and (.cmp .le (.lit (-9223372036854775808)) (.add (.var 16) (.lit 1))) (.cmp .le (.add (.var 16) (.lit 1)) (.lit 9223372036854775807))) (.back 1 [(.bool (.of (.var 15))), (.int (.add (.var 16) (.lit 1)))]))) (.ob (.and (.cmp .le (.lit (-9223372036854775808)) (.add (.var 5) (.lit 1))) (.cmp .le (.add (.var 5) (.lit 1)) (.lit 9223372036854775807))) (.ob (.and (.cmp .le (.lit (-9223372036854775808)) (.mul (.var 7) (.add (.var 5) (.lit 1)))) (.cmp .le (.mul (.var 7) (.add (.var 5) (.lit 1))) (.lit 9223372036854775807))) (.ob (.and (.cmp .le (.lit (-9223372036854775808)) (.add (.var 16) (.mul (.var 7) (.add (.var 5) (.lit 1))))) (.cmp .le (.add (.var 16) (.mul (.var 7) (.add (.var 5) (.lit 1)))) (.lit 9223372036854775807))) (.ob (.and (.cmp .le (.lit (-9223372036854775808)) (.sub (.add (.var 16) (.mul (.var 7) (.add (.var 5) (.lit 1)))) (.lit 1))) (.cmp .le (.sub (.add (.var 16) (.mul (.var 7) (.add (.var 5) (.lit 1)))) (.lit 1)) (.lit 9223372036854775807))) (.ob (.and (.cmp .le (.lit (-9223372036854775808)) (.mul (.sub (.add (.var 16) (.mul (.var 7) (.add (.var 5) (.lit 1)))) (.lit 1)) (.var 1))) (.cmp .le (.mul (.sub (.add (.var 16) (.mul (.var 7) (.add (.var 5) (.lit 1)))) (.lit 1)) (.var 1)) (.lit 9223372036854775807))) (.ob (.and (.cmp .le (.lit (-9223372036854775808)) (.add (.var 11) (.mul (.sub (.add (.var 16) (.mul (.var 7) (.add (.var 5) (.lit 1)))) (.lit 1)) (.var 1)))) (.cmp .le (.add (.var 11) (.mul (.sub (.add (.var 16) (.mul (.var 7) (.add (.var 5) (.lit 1)))) (.lit 1)) (.var 1))) (.lit 9223372036854775807))) (.ob (.and (.cmp .le (.lit (-9223372036854775808)) (.add (.add (.var 11) (.mul (.sub (.add (.var 16) (.mul (.var 7) (.add (.var 5) (.lit 1)))) (.lit 1)) (.var 1))) (.var 2))) (.cmp .le (.add (.add (.var 11) (.mul (.sub (.add (.var 16) (.mul (.var 7) (.add (.var 5) (.lit 1)))) (.lit 1)) (.var 1))) (.var 2)) (.lit 9223372036854775807))) (.split (.cmp .lt (.lit 10000) (.add (.add (.var 11) (.mul (.sub (.add (.var 16) (.mul (.var 7) (.add (.var 5) (.lit 1)))) (.lit 1)) (.var 1))) (.var 2))) (.ret [(.int (.lit 0)), (.int (.lit 0)), (.int (.lit 0)), (.bool (.lit false))]) (.split (.cmp .lt (.var 12) (.add (.add (.var 11) (.mul (.sub (.add (.var 16) (.mul (.var 7) (.add (.var 5) (.lit 1)))) (.lit 1)) (.var 1))) (.var 2))) (.ob (.and (.cmp .le (.lit (-9223372036854775808)) (.add (.add (.var 11) (.mul (.sub (.add (.var 16) (.mul (.var 7) (.add (.var 5) (.lit 1)))) (.lit 1)) (.var 1))) (.var 2))) (.cmp .le (.add (.add (.var 11) (.mul (.sub (.add (.var 16) (.mul (.var 7) (.add (.var 5) (.lit 1)))) (.lit 1)) (.var 1))) (.var 2)) (.lit 9223372036854775807))) (.back 0 [(.bool (.of (.var 15))), (.int (.add (.var 11) (.lit 1))), (.int (.add (.add (.var 11) (.mul (.sub (.add (.var 16) (.mul (.var 7) (.add (.var 5) (.lit 1)))) (.lit 1)) (.var 1))) (.var 2))), (.int (.var 11)), (.int (.var 16))])) (.back 0 [(.bool (.of (.var 15))), (.int (.add (.var 11) (.lit 1))), (.int (.var 12)), (.int (.var 13)), (.int (.var 14))]))))))))))))))))) (.ret [(.int (.lit 0)), (.int (.lit 0)), (.int (.lit 0)), (.bool (.lit false))]))))) (.ret [(.int (.var 12)), (.int (.var 13)), (.int (.var 14)), (.bool (.lit true))]))))
noncomputable def clate : Cx := tab.only [40, 36, 79] (fun _ => []) [] 0 []
def tlate : Tree :=
  (.call 40 [(.int (.var 0)), (.int (.var 1)), (.int (.var 2)), (.int (.var 3)), (.int (.var 4)), (.int (.var 5)), (.int (.var 6)), (.int (.var 7))] (.split (.cmp .ne (.var 10) (.lit 0)) (.ret [(.int (.lit 0)), (.bool (.lit false))]) (.call 36 [(.int (.var 8)), (.int (.var 9))] (.split (.cmp .ne (.var 11) (.lit 0)) (.ret [(.int (.lit 0)), (.bool (.lit false))]) (.call 79 [(.int (.var 0)), (.int (.var 1)), (.int (.var 2)), (.int (.var 3)), (.int (.var 4)), (.int (.var 5)), (.int (.var 6)), (.int (.var 7)), (.int (.var 8)), (.int (.var 9))] (.ret [(.int (.var 12)), (.bool (.of (.var 15)))]))))))
noncomputable def cmin : Cx := tab.only [] (fun _ => []) [] 0 []
def tmin : Tree :=
  (.split (.cmp .lt (.len (.var 0)) (.lit 1)) (.fail 8 [0]) (.ob (.cmp .lt (.lit 0) (.len (.var 0))) (.loop [.int, .int] [(.int (.cell (.var 0) (.lit 0) 0)), (.int (.lit 1))] (.split (.cmp .lt (.var 2) (.len (.var 0))) (.ob (.cmp .le (.lit 0) (.var 2)) (.ob (.cmp .lt (.var 2) (.len (.var 0))) (.back 0 [(.int (.min (.var 1) (.cell (.var 0) (.var 2) 0))), (.int (.add (.var 2) (.lit 1)))]))) (.ret [(.int (.var 1))])))))
noncomputable def cearl : Cx := tab.only [79, 91] (fun _ => []) [] 0 []
def tearl : Tree :=
  (.dfn .nil (.loop [(.vec 2), .int] [(.cnt 2 (.var 3)), (.int (.lit 0))] (.split (.cmp .lt (.var 5) (.len (.var 0))) (.ob (.cmp .le (.lit 0) (.var 5)) (.ob (.cmp .lt (.var 5) (.len (.var 0))) (.call 79 [(.int (.cell (.var 0) (.var 5) 0)), (.int (.cell (.var 0) (.var 5) 1)), (.int (.cell (.var 0) (.var 5) 2)), (.int (.cell (.var 0) (.var 5) 3)), (.int (.cell (.var 0) (.var 5) 4)), (.int (.cell (.var 0) (.var 5) 5)), (.int (.cell (.var 0) (.var 5) 6)), (.int (.cell (.var 0) (.var 5) 7)), (.int (.var 1)), (.int (.var 2))] (.split (.of (.var 9)) (.arr [[(.int (.var 6))]] (.ob (.cmp .le (.mul (.add (.len (.var 4)) (.len (.var 10))) (.lit 8)) (.lit 140737488355328)) (.cat (.var 4) (.var 10) (.back 0 [(.cnt 2 (.var 11)), (.int (.add (.var 5) (.lit 1)))])))) (.back 0 [(.cnt 2 (.var 4)), (.int (.add (.var 5) (.lit 1)))]))))) (.split (.cmp .eq (.len (.var 4)) (.lit 0)) (.ret [(.int (.lit 0)), (.int (.lit 13))]) (.call 91 [(.arr 2 (.var 4))] (.ret [(.int (.var 6)), (.int (.lit 0))]))))))
noncomputable def clatest : Cx := tab.only [42, 38, 75, 80] (fun _ => []) [] 0 []
def tlatest : Tree :=
  (.call 42 [(.arr 23 (.var 0))] (.split (.cmp .ne (.var 5) (.lit 0)) (.ret [(.int (.lit 0)), (.int (.var 5))]) (.call 38 [(.int (.var 1)), (.int (.var 2)), (.int (.var 3)), (.int (.var 4))] (.split (.cmp .ne (.var 6) (.lit 0)) (.ret [(.int (.lit 0)), (.int (.var 6))]) (.call 75 [(.int (.var 1)), (.int (.var 2)), (.int (.var 3)), (.int (.var 4))] (.call 80 [(.arr 23 (.var 0)), (.int (.var 7)), (.int (.var 8))] (.ret [(.int (.var 9)), (.int (.var 10))])))))))
noncomputable def ccaught : Cx := tab.only [42, 36, 23, 80] (fun _ => []) [] 0 []
def tcaught : Tree :=
  (.call 42 [(.arr 23 (.var 0))] (.split (.cmp .ne (.var 3) (.lit 0)) (.ret [(.int (.lit 0)), (.int (.lit 0)), (.int (.var 3))]) (.call 36 [(.int (.var 1)), (.int (.var 2))] (.split (.cmp .ne (.var 4) (.lit 0)) (.ret [(.int (.lit 0)), (.int (.lit 0)), (.int (.var 4))]) (.call 80 [(.arr 23 (.var 0)), (.int (.var 1)), (.int (.var 2))] (.split (.cmp .ne (.var 6) (.lit 0)) (.ret [(.int (.lit 0)), (.int (.lit 0)), (.int (.var 6))]) (.call 23 [(.int (.var 1)), (.int (.var 2)), (.int (.var 5))] (.ret [(.int (.var 5)), (.int (.var 7)), (.int (.lit 0))]))))))))
noncomputable def corder : Cx := tab.only [21, 48, 25, 28, 49, 50, 51, 23, 19] (fun _ => []) [] 0 []
def torder_1 : Tree :=
  (.split (.cmp .eq (.var 33) (.lit 0)) (.split (.cmp .eq (.var 31) (.var 28)) (.call 23 [(.int (.var 4)), (.int (.var 6)), (.int (.var 28))] (.split (.cmp .eq (.var 32) (.var 34)) (.call 19 [] (.ret [(.bool (.of (.var 35)))])) (.ret [(.bool (.lit false))]))) (.ret [(.bool (.lit false))])) (.ret [(.bool (.lit false))]))
def torder_2 : Tree :=
  (.split (.not (.of (.var 21))) (.split (.not (.of (.var 26))) (.split (.cmp .eq (.var 29) (.lit 13)) (.call 19 [] (.ret [(.bool (.of (.var 30)))])) (.ret [(.bool (.lit false))])) (.split (.cmp .ne (.var 29) (.lit 0)) (.ret [(.bool (.lit false))]) (.split (.cmp .ne (.var 28) (.var 25)) (.ret [(.bool (.lit false))]) (.arr [[(.int (.var 10)), (.int (.var 11)), (.int (.var 12)), (.int (.var 13)), (.int (.var 14)), (.int (.var 15)), (.int (.var 16)), (.int (.var 17))], [(.int (.var 10)), (.int (.var 11)), (.int (.var 12)), (.int (.var 13)), (.int (.var 14)), (.int (.var 15)), (.int (.max (.lit 1) (.sub (.var 16) (.lit 100)))), (.int (.var 17))]] (.call 51 [(.arr 23 (.var 30)), (.int (.var 4)), (.int (.var 6))] torder_1))))) (.split (.cmp .ne (.var 29) (.lit 0)) (.ret [(.bool (.lit false))]) (.split (.cmp .ne (.var 28) (.var 25)) (.ret [(.bool (.lit false))]) (.arr [[(.int (.var 10)), (.int (.var 11)), (.int (.var 12)), (.int (.var 13)), (.int (.var 14)), (.int (.var 15)), (.int (.var 16)), (.int (.var 17))], [(.int (.var 10)), (.int (.var 11)), (.int (.var 12)), (.int (.var 13)), (.int (.var 14)), (.int (.var 15)), (.int (.max (.lit 1) (.sub (.var 16) (.lit 100)))), (.int (.var 17))]] (.call 51 [(.arr 23 (.var 30)), (.int (.var 4)), (.int (.var 6))] torder_1)))))
def torder_3 : Tree :=
  (.split (.of (.var 21)) (.split (.not (.of (.var 26))) (.ret [(.bool (.lit false))]) (.split (.cmp .lt (.var 20) (.var 25)) (.ret [(.bool (.lit false))]) (.arr [[(.int (.var 10)), (.int (.var 11)), (.int (.var 12)), (.int (.var 13)), (.int (.var 14)), (.int (.var 15)), (.int (.var 16)), (.int (.var 17))], [(.int (.var 10)), (.int (.var 11)), (.int (.var 12)), (.int (.var 13)), (.int (.var 14)), (.int (.var 15)), (.int (.max (.lit 1) (.sub (.var 16) (.lit 100)))), (.int (.var 17))]] (.call 50 [(.arr 23 (.var 27)), (.int (.var 4)), (.int (.var 5)), (.int (.var 6)), (.int (.var 7))] torder_2)))) (.arr [[(.int (.var 10)), (.int (.var 11)), (.int (.var 12)), (.int (.var 13)), (.int (.var 14)), (.int (.var 15)), (.int (.var 16)), (.int (.var 17))], [(.int (.var 10)), (.int (.var 11)), (.int (.var 12)), (.int (.var 13)), (.int (.var 14)), (.int (.var 15)), (.int (.max (.lit 1) (.sub (.var 16) (.lit 100)))), (.int (.var 17))]] (.call 50 [(.arr 23 (.var 27)), (.int (.var 4)), (.int (.var 5)), (.int (.var 6)), (.int (.var 7))] torder_2)))
def torder_4 : Tree :=
  (.split (.not (.of (.var 21))) (.split (.not (.of (.var 26))) (.split (.cmp .eq (.var 29) (.lit 13)) (.call 19 [] (.ret [(.bool (.of (.var 30)))])) (.ret [(.bool (.lit false))])) (.split (.cmp .ne (.var 29) (.lit 0)) (.ret [(.bool (.lit false))]) (.split (.cmp .ne (.var 28) (.var 25)) (.ret [(.bool (.lit false))]) (.arr [[(.int (.var 10)), (.int (.var 11)), (.int (.var 12)), (.int (.var 13)), (.int (.var 14)), (.int (.var 15)), (.int (.var 16)), (.int (.var 17))], [(.int (.var 10)), (.int (.var 11)), (.int (.var 12)), (.int (.var 13)), (.int (.var 14)), (.int (.var 15)), (.int (.var 16)), (.int (.max (.lit 1) (.sub (.var 17) (.lit 1))))]] (.call 51 [(.arr 23 (.var 30)), (.int (.var 4)), (.int (.var 6))] torder_1))))) (.split (.cmp .ne (.var 29) (.lit 0)) (.ret [(.bool (.lit false))]) (.split (.cmp .ne (.var 28) (.var 25)) (.ret [(.bool (.lit false))]) (.arr [[(.int (.var 10)), (.int (.var 11)), (.int (.var 12)), (.int (.var 13)), (.int (.var 14)), (.int (.var 15)), (.int (.var 16)), (.int (.var 17))], [(.int (.var 10)), (.int (.var 11)), (.int (.var 12)), (.int (.var 13)), (.int (.var 14)), (.int (.var 15)), (.int (.var 16)), (.int (.max (.lit 1) (.sub (.var 17) (.lit 1))))]] (.call 51 [(.arr 23 (.var 30)), (.int (.var 4)), (.int (.var 6))] torder_1)))))
def torder_5 : Tree :=
  (.split (.of (.var 21)) (.split (.not (.of (.var 26))) (.ret [(.bool (.lit false))]) (.split (.cmp .lt (.var 20) (.var 25)) (.ret [(.bool (.lit false))]) (.arr [[(.int (.var 10)), (.int (.var 11)), (.int (.var 12)), (.int (.var 13)), (.int (.var 14)), (.int (.var 15)), (.int (.var 16)), (.int (.var 17))], [(.int (.var 10)), (.int (.var 11)), (.int (.var 12)), (.int (.var 13)), (.int (.var 14)), (.int (.var 15)), (.int (.var 16)), (.int (.max (.lit 1) (.sub (.var 17) (.lit 1))))]] (.call 50 [(.arr 23 (.var 27)), (.int (.var 4)), (.int (.var 5)), (.int (.var 6)), (.int (.var 7))] torder_4)))) (.arr [[(.int (.var 10)), (.int (.var 11)), (.int (.var 12)), (.int (.var 13)), (.int (.var 14)), (.int (.var 15)), (.int (.var 16)), (.int (.var 17))], [(.int (.var 10)), (.int (.var 11)), (.int (.var 12)), (.int (.var 13)), (.int (.var 14)), (.int (.var 15)), (.int (.var 16)), (.int (.max (.lit 1) (.sub (.var 17) (.lit 1))))]] (.call 50 [(.arr 23 (.var 27)), (.int (.var 4)), (.int (.var 5)), (.int (.var 6)), (.int (.var 7))] torder_4)))
def torder_6 : Tree :=
  (.split (.not (.of (.var 21))) (.split (.not (.of (.var 26))) (.split (.cmp .eq (.var 29) (.lit 13)) (.call 19 [] (.ret [(.bool (.of (.var 30)))])) (.ret [(.bool (.lit false))])) (.split (.cmp .ne (.var 29) (.lit 0)) (.ret [(.bool (.lit false))]) (.split (.cmp .ne (.var 28) (.var 25)) (.ret [(.bool (.lit false))]) (.arr [[(.int (.var 10)), (.int (.var 11)), (.int (.var 12)), (.int (.var 13)), (.int (.var 14)), (.int (.var 15)), (.int (.var 16)), (.int (.var 17))], [(.int (.var 10)), (.int (.var 11)), (.int (.var 12)), (.int (.var 13)), (.int (.var 14)), (.int (.max (.lit 0) (.sub (.var 15) (.lit 1)))), (.int (.var 16)), (.int (.var 17))]] (.call 51 [(.arr 23 (.var 30)), (.int (.var 4)), (.int (.var 6))] torder_1))))) (.split (.cmp .ne (.var 29) (.lit 0)) (.ret [(.bool (.lit false))]) (.split (.cmp .ne (.var 28) (.var 25)) (.ret [(.bool (.lit false))]) (.arr [[(.int (.var 10)), (.int (.var 11)), (.int (.var 12)), (.int (.var 13)), (.int (.var 14)), (.int (.var 15)), (.int (.var 16)), (.int (.var 17))], [(.int (.var 10)), (.int (.var 11)), (.int (.var 12)), (.int (.var 13)), (.int (.var 14)), (.int (.max (.lit 0) (.sub (.var 15) (.lit 1)))), (.int (.var 16)), (.int (.var 17))]] (.call 51 [(.arr 23 (.var 30)), (.int (.var 4)), (.int (.var 6))] torder_1)))))
def torder_7 : Tree :=
  (.split (.of (.var 21)) (.split (.not (.of (.var 26))) (.ret [(.bool (.lit false))]) (.split (.cmp .lt (.var 20) (.var 25)) (.ret [(.bool (.lit false))]) (.arr [[(.int (.var 10)), (.int (.var 11)), (.int (.var 12)), (.int (.var 13)), (.int (.var 14)), (.int (.var 15)), (.int (.var 16)), (.int (.var 17))], [(.int (.var 10)), (.int (.var 11)), (.int (.var 12)), (.int (.var 13)), (.int (.var 14)), (.int (.max (.lit 0) (.sub (.var 15) (.lit 1)))), (.int (.var 16)), (.int (.var 17))]] (.call 50 [(.arr 23 (.var 27)), (.int (.var 4)), (.int (.var 5)), (.int (.var 6)), (.int (.var 7))] torder_6)))) (.arr [[(.int (.var 10)), (.int (.var 11)), (.int (.var 12)), (.int (.var 13)), (.int (.var 14)), (.int (.var 15)), (.int (.var 16)), (.int (.var 17))], [(.int (.var 10)), (.int (.var 11)), (.int (.var 12)), (.int (.var 13)), (.int (.var 14)), (.int (.max (.lit 0) (.sub (.var 15) (.lit 1)))), (.int (.var 16)), (.int (.var 17))]] (.call 50 [(.arr 23 (.var 27)), (.int (.var 4)), (.int (.var 5)), (.int (.var 6)), (.int (.var 7))] torder_6)))
def torder_8 : Tree :=
  (.split (.not (.of (.var 21))) (.split (.not (.of (.var 26))) (.split (.cmp .eq (.var 29) (.lit 13)) (.call 19 [] (.ret [(.bool (.of (.var 30)))])) (.ret [(.bool (.lit false))])) (.split (.cmp .ne (.var 29) (.lit 0)) (.ret [(.bool (.lit false))]) (.split (.cmp .ne (.var 28) (.var 25)) (.ret [(.bool (.lit false))]) (.arr [[(.int (.var 10)), (.int (.var 11)), (.int (.var 12)), (.int (.var 13)), (.int (.var 14)), (.int (.var 15)), (.int (.var 16)), (.int (.var 17))], [(.int (.var 10)), (.int (.var 11)), (.int (.max (.lit 0) (.sub (.var 12) (.lit 1)))), (.int (.var 13)), (.int (.var 14)), (.int (.var 15)), (.int (.var 16)), (.int (.var 17))]] (.call 51 [(.arr 23 (.var 30)), (.int (.var 4)), (.int (.var 6))] torder_1))))) (.split (.cmp .ne (.var 29) (.lit 0)) (.ret [(.bool (.lit false))]) (.split (.cmp .ne (.var 28) (.var 25)) (.ret [(.bool (.lit false))]) (.arr [[(.int (.var 10)), (.int (.var 11)), (.int (.var 12)), (.int (.var 13)), (.int (.var 14)), (.int (.var 15)), (.int (.var 16)), (.int (.var 17))], [(.int (.var 10)), (.int (.var 11)), (.int (.max (.lit 0) (.sub (.var 12) (.lit 1)))), (.int (.var 13)), (.int (.var 14)), (.int (.var 15)), (.int (.var 16)), (.int (.var 17))]] (.call 51 [(.arr 23 (.var 30)), (.int (.var 4)), (.int (.var 6))] torder_1)))))
def torder_9 : Tree :=
  (.split (.of (.var 21)) (.split (.not (.of (.var 26))) (.ret [(.bool (.lit false))]) (.split (.cmp .lt (.var 20) (.var 25)) (.ret [(.bool (.lit false))]) (.arr [[(.int (.var 10)), (.int (.var 11)), (.int (.var 12)), (.int (.var 13)), (.int (.var 14)), (.int (.var 15)), (.int (.var 16)), (.int (.var 17))], [(.int (.var 10)), (.int (.var 11)), (.int (.max (.lit 0) (.sub (.var 12) (.lit 1)))), (.int (.var 13)), (.int (.var 14)), (.int (.var 15)), (.int (.var 16)), (.int (.var 17))]] (.call 50 [(.arr 23 (.var 27)), (.int (.var 4)), (.int (.var 5)), (.int (.var 6)), (.int (.var 7))] torder_8)))) (.arr [[(.int (.var 10)), (.int (.var 11)), (.int (.var 12)), (.int (.var 13)), (.int (.var 14)), (.int (.var 15)), (.int (.var 16)), (.int (.var 17))], [(.int (.var 10)), (.int (.var 11)), (.int (.max (.lit 0) (.sub (.var 12) (.lit 1)))), (.int (.var 13)), (.int (.var 14)), (.int (.var 15)), (.int (.var 16)), (.int (.var 17))]] (.call 50 [(.arr 23 (.var 27)), (.int (.var 4)), (.int (.var 5)), (.int (.var 6)), (.int (.var 7))] torder_8)))
def torder_10 : Tree :=
  (.split (.not (.of (.var 21))) (.split (.not (.of (.var 26))) (.split (.cmp .eq (.var 29) (.lit 13)) (.call 19 [] (.ret [(.bool (.of (.var 30)))])) (.ret [(.bool (.lit false))])) (.split (.cmp .ne (.var 29) (.lit 0)) (.ret [(.bool (.lit false))]) (.split (.cmp .ne (.var 28) (.var 25)) (.ret [(.bool (.lit false))]) (.arr [[(.int (.var 10)), (.int (.var 11)), (.int (.var 12)), (.int (.var 13)), (.int (.var 14)), (.int (.var 15)), (.int (.var 16)), (.int (.var 17))], [(.int (.var 10)), (.int (.var 11)), (.int (.var 12)), (.int (.max (.lit 0) (.sub (.var 13) (.lit 1)))), (.int (.var 14)), (.int (.var 15)), (.int (.var 16)), (.int (.var 17))]] (.call 51 [(.arr 23 (.var 30)), (.int (.var 4)), (.int (.var 6))] torder_1))))) (.split (.cmp .ne (.var 29) (.lit 0)) (.ret [(.bool (.lit false))]) (.split (.cmp .ne (.var 28) (.var 25)) (.ret [(.bool (.lit false))]) (.arr [[(.int (.var 10)), (.int (.var 11)), (.int (.var 12)), (.int (.var 13)), (.int (.var 14)), (.int (.var 15)), (.int (.var 16)), (.int (.var 17))], [(.int (.var 10)), (.int (.var 11)), (.int (.var 12)), (.int (.max (.lit 0) (.sub (.var 13) (.lit 1)))), (.int (.var 14)), (.int (.var 15)), (.int (.var 16)), (.int (.var 17))]] (.call 51 [(.arr 23 (.var 30)), (.int (.var 4)), (.int (.var 6))] torder_1)))))
def torder_11 : Tree :=
  (.split (.of (.var 21)) (.split (.not (.of (.var 26))) (.ret [(.bool (.lit false))]) (.split (.cmp .lt (.var 20) (.var 25)) (.ret [(.bool (.lit false))]) (.arr [[(.int (.var 10)), (.int (.var 11)), (.int (.var 12)), (.int (.var 13)), (.int (.var 14)), (.int (.var 15)), (.int (.var 16)), (.int (.var 17))], [(.int (.var 10)), (.int (.var 11)), (.int (.var 12)), (.int (.max (.lit 0) (.sub (.var 13) (.lit 1)))), (.int (.var 14)), (.int (.var 15)), (.int (.var 16)), (.int (.var 17))]] (.call 50 [(.arr 23 (.var 27)), (.int (.var 4)), (.int (.var 5)), (.int (.var 6)), (.int (.var 7))] torder_10)))) (.arr [[(.int (.var 10)), (.int (.var 11)), (.int (.var 12)), (.int (.var 13)), (.int (.var 14)), (.int (.var 15)), (.int (.var 16)), (.int (.var 17))], [(.int (.var 10)), (.int (.var 11)), (.int (.var 12)), (.int (.max (.lit 0) (.sub (.var 13) (.lit 1)))), (.int (.var 14)), (.int (.var 15)), (.int (.var 16)), (.int (.var 17))]] (.call 50 [(.arr 23 (.var 27)), (.int (.var 4)), (.int (.var 5)), (.int (.var 6)), (.int (.var 7))] torder_10)))
def torder_12 : Tree :=
  (.split (.not (.of (.var 21))) (.split (.not (.of (.var 26))) (.split (.cmp .eq (.var 29) (.lit 13)) (.call 19 [] (.ret [(.bool (.of (.var 30)))])) (.ret [(.bool (.lit false))])) (.split (.cmp .ne (.var 29) (.lit 0)) (.ret [(.bool (.lit false))]) (.split (.cmp .ne (.var 28) (.var 25)) (.ret [(.bool (.lit false))]) (.arr [[(.int (.var 10)), (.int (.var 11)), (.int (.var 12)), (.int (.var 13)), (.int (.var 14)), (.int (.var 15)), (.int (.var 16)), (.int (.var 17))], [(.int (.var 10)), (.int (.var 11)), (.int (.var 12)), (.int (.var 13)), (.int (.var 14)), (.int (.var 15)), (.int (.var 16)), (.int (.var 17))]] (.call 51 [(.arr 23 (.var 30)), (.int (.var 4)), (.int (.var 6))] torder_1))))) (.split (.cmp .ne (.var 29) (.lit 0)) (.ret [(.bool (.lit false))]) (.split (.cmp .ne (.var 28) (.var 25)) (.ret [(.bool (.lit false))]) (.arr [[(.int (.var 10)), (.int (.var 11)), (.int (.var 12)), (.int (.var 13)), (.int (.var 14)), (.int (.var 15)), (.int (.var 16)), (.int (.var 17))], [(.int (.var 10)), (.int (.var 11)), (.int (.var 12)), (.int (.var 13)), (.int (.var 14)), (.int (.var 15)), (.int (.var 16)), (.int (.var 17))]] (.call 51 [(.arr 23 (.var 30)), (.int (.var 4)), (.int (.var 6))] torder_1)))))
def torder_13 : Tree :=
  (.split (.of (.var 21)) (.split (.not (.of (.var 26))) (.ret [(.bool (.lit false))]) (.split (.cmp .lt (.var 20) (.var 25)) (.ret [(.bool (.lit false))]) (.arr [[(.int (.var 10)), (.int (.var 11)), (.int (.var 12)), (.int (.var 13)), (.int (.var 14)), (.int (.var 15)), (.int (.var 16)), (.int (.var 17))], [(.int (.var 10)), (.int (.var 11)), (.int (.var 12)), (.int (.var 13)), (.int (.var 14)), (.int (.var 15)), (.int (.var 16)), (.int (.var 17))]] (.call 50 [(.arr 23 (.var 27)), (.int (.var 4)), (.int (.var 5)), (.int (.var 6)), (.int (.var 7))] torder_12)))) (.arr [[(.int (.var 10)), (.int (.var 11)), (.int (.var 12)), (.int (.var 13)), (.int (.var 14)), (.int (.var 15)), (.int (.var 16)), (.int (.var 17))], [(.int (.var 10)), (.int (.var 11)), (.int (.var 12)), (.int (.var 13)), (.int (.var 14)), (.int (.var 15)), (.int (.var 16)), (.int (.var 17))]] (.call 50 [(.arr 23 (.var 27)), (.int (.var 4)), (.int (.var 5)), (.int (.var 6)), (.int (.var 7))] torder_12)))
def torder_14 : Tree :=
  (.split (.cmp .eq (.var 24) (.lit 0)) (.ob (.and (.cmp .le (.lit (-9223372036854775808)) (.sub (.var 16) (.lit 100))) (.cmp .le (.sub (.var 16) (.lit 100)) (.lit 9223372036854775807))) (.call 49 [(.int (.var 10)), (.int (.var 11)), (.int (.var 12)), (.int (.var 13)), (.int (.var 14)), (.int (.var 15)), (.int (.max (.lit 1) (.sub (.var 16) (.lit 100)))), (.int (.var 17)), (.int (.var 4)), (.int (.var 6))] torder_3)) (.split (.cmp .eq (.var 24) (.lit 1)) (.ob (.and (.cmp .le (.lit (-9223372036854775808)) (.sub (.var 17) (.lit 1))) (.cmp .le (.sub (.var 17) (.lit 1)) (.lit 9223372036854775807))) (.call 49 [(.int (.var 10)), (.int (.var 11)), (.int (.var 12)), (.int (.var 13)), (.int (.var 14)), (.int (.var 15)), (.int (.var 16)), (.int (.max (.lit 1) (.sub (.var 17) (.lit 1)))), (.int (.var 4)), (.int (.var 6))] torder_5)) (.split (.cmp .eq (.var 24) (.lit 2)) (.ob (.and (.cmp .le (.lit (-9223372036854775808)) (.sub (.var 15) (.lit 1))) (.cmp .le (.sub (.var 15) (.lit 1)) (.lit 9223372036854775807))) (.call 49 [(.int (.var 10)), (.int (.var 11)), (.int (.var 12)), (.int (.var 13)), (.int (.var 14)), (.int (.max (.lit 0) (.sub (.var 15) (.lit 1)))), (.int (.var 16)), (.int (.var 17)), (.int (.var 4)), (.int (.var 6))] torder_7)) (.split (.cmp .eq (.var 24) (.lit 3)) (.ob (.and (.cmp .le (.lit (-9223372036854775808)) (.sub (.var 12) (.lit 1))) (.cmp .le (.sub (.var 12) (.lit 1)) (.lit 9223372036854775807))) (.call 49 [(.int (.var 10)), (.int (.var 11)), (.int (.max (.lit 0) (.sub (.var 12) (.lit 1)))), (.int (.var 13)), (.int (.var 14)), (.int (.var 15)), (.int (.var 16)), (.int (.var 17)), (.int (.var 4)), (.int (.var 6))] torder_9)) (.split (.cmp .eq (.var 24) (.lit 4)) (.ob (.and (.cmp .le (.lit (-9223372036854775808)) (.sub (.var 13) (.lit 1))) (.cmp .le (.sub (.var 13) (.lit 1)) (.lit 9223372036854775807))) (.call 49 [(.int (.var 10)), (.int (.var 11)), (.int (.var 12)), (.int (.max (.lit 0) (.sub (.var 13) (.lit 1)))), (.int (.var 14)), (.int (.var 15)), (.int (.var 16)), (.int (.var 17)), (.int (.var 4)), (.int (.var 6))] torder_11)) (.call 49 [(.int (.var 10)), (.int (.var 11)), (.int (.var 12)), (.int (.var 13)), (.int (.var 14)), (.int (.var 15)), (.int (.var 16)), (.int (.var 17)), (.int (.var 4)), (.int (.var 6))] torder_13))))))
def torder_15 : Tree :=
  (.split (.of (.var 21)) (.split (.not (.of (.var 23))) (.ret [(.bool (.lit false))]) (.split (.cmp .lt (.var 20) (.var 22)) (.ret [(.bool (.lit false))]) (.call 28 [(.int (.var 1)), (.int (.lit 5))] torder_14))) (.call 28 [(.int (.var 1)), (.int (.lit 5))] torder_14))
def torder_16 : Tree :=
  (.call 49 [(.int (.var 10)), (.int (.var 11)), (.int (.var 12)), (.int (.var 13)), (.int (.var 14)), (.int (.var 15)), (.int (.var 16)), (.int (.var 17)), (.int (.var 4)), (.int (.var 6))] (.call 49 [(.int (.var 10)), (.int (.var 11)), (.int (.var 12)), (.int (.var 13)), (.int (.var 14)), (.int (.var 15)), (.int (.var 16)), (.int (.var 17)), (.int (.var 5)), (.int (.var 7))] torder_15))
def torder : Tree :=
  (.call 21 [(.arr 3 (.var 0))] (.call 48 [(.arr 3 (.var 2)), (.int (.var 3))] (.call 25 [(.arr 3 (.var 8)), (.int (.var 9))] torder_16)))
end Go.Proofs.Ytlbgcjpkegpmlaa
