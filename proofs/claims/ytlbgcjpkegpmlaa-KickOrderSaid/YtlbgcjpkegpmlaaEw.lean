/- The engine, part 11b: regions whose order is drawn, with calls and stores that turn the memory: the operations that only read come first, the others in the one order that there is. -/
import Derived.Test.YtlbgcjpkegpmlaaEt
import Derived.OrdersHeld
namespace Go.Proofs.Ytlbgcjpkegpmlaa
open Go.RowKit
set_option linter.unusedSimpArgs false
set_option linter.unusedVariables false

def sameV : Value → Value → Bool
  | .slice none a b, .slice none c d => Nat.beq a c && Nat.beq b d
  | .pointer a, .pointer b => decide (a = b)
  | .nilFunc, .nilFunc => true
  | .nilIface, .nilIface => true
  | .func (.func f) x y, .func (.func g) z u => Nat.beq f g && x.isEmpty && y.isEmpty && z.isEmpty && u.isEmpty
  | _, _ => false
def sameL : Lf → Lf → Bool
  | .int a, .int b => decide (a = b)
  | .bool a, .bool b => decide (a = b)
  | .ptr a o, .ptr b p => Nat.beq a b && Nat.beq o p
  | .arr t a, .arr u b => Nat.beq t u && decide (a = b)
  | .elp t s a x o, .elp u r b y p => Nat.beq t u && Nat.beq s r && decide (a = b) && decide (x = y) && Nat.beq o p
  | .cst u, .cst v => sameV u v
  | .vec t i, .vec u j => Nat.beq t u && Nat.beq i j
  | .velp t s i x o, .velp u r j y p => Nat.beq t u && Nat.beq s r && Nat.beq i j && decide (x = y) && Nat.beq o p
  | .clo i, .clo j => Nat.beq i j
  | .cnt t a, .cnt u b => Nat.beq t u && decide (a = b)
  | _, _ => false
def sameLs : List Lf → List Lf → Bool
  | [], [] => true
  | a :: l, b :: m => sameL a b && sameLs l m
  | _, _ => false
def same0 : S0 → S0 → Bool
  | .lf a, .lf b => sameL a b
  | .agg a, .agg b => sameLs a b
  | _, _ => false
def same0s : List S0 → List S0 → Bool
  | [], [] => true
  | a :: l, b :: m => same0 a b && same0s l m
  | _, _ => false
def sameS : SV → SV → Bool
  | .one a, .one b => same0 a b
  | .tup a, .tup b => same0s a b
  | .fn f a, .fn g b => Nat.beq f g && sameLs a b
  | _, _ => false
theorem sameV_eq {a b : Value} (h : sameV a b = true) : a = b := by
  unfold sameV at h
  split at h
  · simp only [Bool.and_eq_true] at h; rw [Nat.eq_of_beq_eq_true h.1, Nat.eq_of_beq_eq_true h.2]
  · rw [of_decide_eq_true h]
  · rfl
  · rfl
  · simp only [Bool.and_eq_true, Array.isEmpty_iff] at h
    obtain ⟨⟨⟨⟨h1, h2⟩, h3⟩, h4⟩, h5⟩ := h
    rw [Nat.eq_of_beq_eq_true h1, h2, h3, h4, h5]
  · cases h
theorem sameL_eq {a b : Lf} (h : sameL a b = true) : a = b := by
  unfold sameL at h
  split at h
  · rw [of_decide_eq_true h]
  · rw [of_decide_eq_true h]
  · simp only [Bool.and_eq_true] at h; rw [Nat.eq_of_beq_eq_true h.1, Nat.eq_of_beq_eq_true h.2]
  · simp only [Bool.and_eq_true, decide_eq_true_eq] at h; rw [Nat.eq_of_beq_eq_true h.1, h.2]
  · simp only [Bool.and_eq_true, decide_eq_true_eq] at h
    obtain ⟨⟨⟨⟨h1, h2⟩, h3⟩, h4⟩, h5⟩ := h
    rw [Nat.eq_of_beq_eq_true h1, Nat.eq_of_beq_eq_true h2, h3, h4, Nat.eq_of_beq_eq_true h5]
  · rw [sameV_eq h]
  · simp only [Bool.and_eq_true] at h; rw [Nat.eq_of_beq_eq_true h.1, Nat.eq_of_beq_eq_true h.2]
  · simp only [Bool.and_eq_true, decide_eq_true_eq] at h
    obtain ⟨⟨⟨⟨h1, h2⟩, h3⟩, h4⟩, h5⟩ := h
    rw [Nat.eq_of_beq_eq_true h1, Nat.eq_of_beq_eq_true h2, Nat.eq_of_beq_eq_true h3, h4, Nat.eq_of_beq_eq_true h5]
  · rw [Nat.eq_of_beq_eq_true h]
  · simp only [Bool.and_eq_true, decide_eq_true_eq] at h; rw [Nat.eq_of_beq_eq_true h.1, h.2]
  · cases h
theorem sameLs_eq : ∀ {a b : List Lf}, sameLs a b = true → a = b
  | [], [], _ => rfl
  | x :: a, y :: b, h => by
    simp only [sameLs, Bool.and_eq_true] at h
    rw [sameL_eq h.1, sameLs_eq h.2]
  | [], _ :: _, h => by cases h
  | _ :: _, [], h => by cases h
theorem same0_eq {a b : S0} (h : same0 a b = true) : a = b := by
  cases a <;> cases b <;> simp only [same0] at h
  · rw [sameL_eq h]
  · cases h
  · cases h
  · rw [sameLs_eq h]
theorem same0s_eq : ∀ {a b : List S0}, same0s a b = true → a = b
  | [], [], _ => rfl
  | x :: a, y :: b, h => by
    simp only [same0s, Bool.and_eq_true] at h
    rw [same0_eq h.1, same0s_eq h.2]
  | [], _ :: _, h => by cases h
  | _ :: _, [], h => by cases h
theorem sameS_eq {a b : SV} (h : sameS a b = true) : a = b := by
  cases a <;> cases b <;> simp only [sameS] at h
  · rw [same0_eq h]
  · cases h
  · cases h
  · cases h
  · rw [same0s_eq h]
  · cases h
  · cases h
  · cases h
  · simp only [Bool.and_eq_true] at h
    rw [Nat.eq_of_beq_eq_true h.1, sameLs_eq h.2]
theorem Lf.ok_unext {P : Program} {w : World} {Own : Nat → Nat → Prop} {Γ Γ' : Env} (he : Ext Γ Γ') {l : Lf} (hw : l.wf Γ.ρ.length Γ.nb = true) (h : l.ok P w Own Γ') : l.ok P w Own Γ := by
  obtain ⟨m, e⟩ := he.ρ
  cases l with
  | arr te a => simp only [Lf.wf] at hw; simp only [Lf.ok, e, E.ev_ext _ hw] at h ⊢; exact h
  | elp te sz a x o =>
    simp only [Lf.wf, Bool.and_eq_true] at hw
    simp only [Lf.ok, e, E.ev_ext _ hw.1, E.den_ext _ hw.2] at h ⊢; exact h
  | vec te i => simp only [Lf.wf, Nat.blt_eq] at hw; simp only [Lf.ok, e, at_ext hw] at h ⊢; exact h
  | clo i => simp only [Lf.wf, Nat.blt_eq] at hw; simp only [Lf.ok, e, at_ext hw] at h ⊢; exact h
  | velp te sz i x o => simp only [Lf.wf, Bool.and_eq_true, Nat.blt_eq] at hw; simp only [Lf.ok, e, at_ext hw.1, E.den_ext _ hw.2] at h ⊢; exact h
  | cnt te r => simp only [Lf.wf] at hw; simp only [Lf.ok, e, E.ev_ext _ hw] at h ⊢; exact h
  | _ => trivial
theorem S0.wf_cells {n nb : Nat} {s : S0} (h : s.wf n nb = true) : ∀ l ∈ s.cells, l.wf n nb = true := by
  cases s with
  | lf x => intro l hl; simp [S0.cells] at hl; subst hl; exact h
  | agg ls => exact fun l hl => List.all_eq_true.1 h l hl
theorem SV.ok_unext {P : Program} {w : World} {Own : Nat → Nat → Prop} {Γ Γ' : Env} (he : Ext Γ Γ') {s : SV} (hw : s.wf Γ.ρ.length Γ.nb = true) (h : s.ok P w Own Γ') : s.ok P w Own Γ := by
  cases s with
  | one s => exact fun l hl => Lf.ok_unext he (S0.wf_cells hw l hl) (h l hl)
  | tup ss => exact fun s hs l hl => Lf.ok_unext he (S0.wf_cells (List.all_eq_true.1 hw s hs) l hl) (h s hs l hl)
  | fn f ls => exact fun l hl => Lf.ok_unext he (List.all_eq_true.1 hw l hl) (h l hl)
theorem SV.ok_anti {P : Program} {w : World} {O O' : Nat → Nat → Prop} {Γ : Env} {l : SV} (h : l.ok P w O Γ) (hh : ∀ b o, O' b o → O b o) : l.ok P w O' Γ := by
  cases l with
  | one s => exact fun l hl => Lf.ok_anti (h l hl) hh
  | tup ss => exact fun s hs' l hl => Lf.ok_anti (h s hs' l hl) hh
  | fn f ls => exact fun l hl => Lf.ok_anti (h l hl) hh


/-! What is known in every world that the region may come to -/
theorem SV.ok_iff {P : Program} {w : World} {O : Nat → Nat → Prop} {Γ : Env} {s : SV} : s.ok P w O Γ ↔ ∀ l ∈ s.cells, l.ok P w O Γ := by
  cases s with
  | one s => exact Iff.rfl
  | tup ss =>
    constructor
    · intro h l hl
      obtain ⟨s, hs, hl⟩ := List.mem_flatMap.1 hl
      exact h s hs l hl
    · intro h s hs l hl
      exact h l (List.mem_flatMap.2 ⟨s, hs, hl⟩)
  | fn f ls => exact Iff.rfl
theorem SV.wf_cells {n nb : Nat} {s : SV} (h : s.wf n nb = true) : ∀ l ∈ s.cells, l.wf n nb = true := by
  cases s with
  | one s => exact S0.wf_cells h
  | tup ss =>
    intro l hl
    obtain ⟨s, hs, hl⟩ := List.mem_flatMap.1 hl
    exact S0.wf_cells (List.all_eq_true.1 h s hs) l hl
  | fn f ls => exact fun l hl => List.all_eq_true.1 h l hl
def St.slLeaves (st : St) : List Lf := st.sl.flatMap fun p => match look st.sl p.1 with | some sv => sv.cells | none => []
def St.leaves (st : St) : List Lf := st.slLeaves ++ st.mem.flatMap fun p => match look st.mem p.1 with | some mb => mb.2 | none => []
def knows (L : List Lf) (l : Lf) : Bool :=
  match l with
  | .arr te a => L.any (sameL (.arr te a))
  | .elp te _ a _ _ => L.any (sameL (.arr te a))
  | _ => true
theorem knows_ok {P : Program} {w w' : World} {O O' : Nat → Nat → Prop} {Γ : Env} {L : List Lf} (hL : ∀ l ∈ L, l.ok P w O Γ) {l : Lf} (hk : knows L l = true) (h : l.ok P w' O' Γ) : l.ok P w O Γ := by
  cases l with
  | arr te a =>
    obtain ⟨m, hm, e⟩ := List.any_eq_true.1 hk
    rw [sameL_eq e]; exact hL m hm
  | elp te sz a x o =>
    obtain ⟨m, hm, e⟩ := List.any_eq_true.1 hk
    have := hL m hm
    rw [← sameL_eq e] at this
    exact ⟨this, h.2⟩
  | _ => exact h
theorem look_mem' {α : Type} : ∀ {l : List (Nat × Option α)} {t : Nat} {v : α}, look l t = some v → ∃ p ∈ l, p.1 = t
  | [], _, _, h => by cases h
  | (k, u) :: l, t, v, h => by
    simp only [look] at h
    split at h
    · rename_i e; exact ⟨(k, u), by simp, e⟩
    · obtain ⟨p, hp, e⟩ := look_mem' h; exact ⟨p, by simp [hp], e⟩
theorem St.slLeaves_mem {st : St} {t : Nat} {sv : SV} (h : look st.sl t = some sv) : ∀ l ∈ sv.cells, l ∈ st.slLeaves := fun l hl => by
  obtain ⟨p, hp, rfl⟩ := look_mem' h
  exact List.mem_flatMap.2 ⟨p, hp, by rw [h]; exact hl⟩
theorem Sat.slLeaves_ok {P : Program} {F : Nat → Prop} {w0 : World} {Γ : Env} {st : St} {a : Act} {w : World} (h : Sat P F w0 Γ st a w) : ∀ l ∈ st.slLeaves, l.ok P w (Own Γ st) Γ := fun l hl => by
  obtain ⟨p, hp, hl⟩ := List.mem_flatMap.1 hl
  split at hl
  · rename_i sv hsv; exact SV.ok_iff.1 (h.slots _ _ hsv).2 l hl
  · cases hl
theorem Sat.leaves_ok {P : Program} {F : Nat → Prop} {w0 : World} {Γ : Env} {st : St} {a : Act} {w : World} (h : Sat P F w0 Γ st a w) : ∀ l ∈ st.leaves, l.ok P w (Own Γ st) Γ := fun l hl => by
  rcases List.mem_append.1 hl with hl | hl
  · exact h.slLeaves_ok l hl
  · obtain ⟨p, hp, hl⟩ := List.mem_flatMap.1 hl
    split at hl
    · rename_i mb hmb; exact (h.mem _ _ hmb).2.1 l hl
    · cases hl
theorem Sat.leaves_wf {P : Program} {F : Nat → Prop} {w0 : World} {Γ : Env} {st : St} {a : Act} {w : World} (h : Sat P F w0 Γ st a w) (hw : st.wf = true) : ∀ l ∈ st.leaves, l.wf Γ.ρ.length Γ.nb = true := fun l hl => by
  rcases List.mem_append.1 hl with hl | hl
  · obtain ⟨p, hp, hl⟩ := List.mem_flatMap.1 hl
    split at hl
    · rename_i sv hsv; exact SV.wf_cells (h.wf_slot hw hsv) l hl
    · cases hl
  · obtain ⟨p, hp, hl⟩ := List.mem_flatMap.1 hl
    split at hl
    · rename_i mb hmb; exact List.all_eq_true.1 (h.wf_mem hw hmb) l hl
    · cases hl

/-- Without these blocks and slices. -/
def St.hide (st : St) (M : List Pl) : St :=
  { st with mem := M.foldl (fun m p => match p with | .blk b => (b, none) :: m | _ => m) st.mem, vec := M.foldl (fun m p => match p with | .vec b => (b, none) :: m | _ => m) st.vec }
theorem look_hideF {α : Type} {f : Pl → Option Nat} : ∀ (l : List Pl) (sl : List (Nat × Option α)) (t : Nat) (v : α), look (l.foldl (fun m p => match f p with | some b => (b, none) :: m | none => m) sl) t = some v → look sl t = some v
  | [], _, _, _, h => h
  | p :: l, sl, t, v, h => by
    have := look_hideF l _ t v h
    simp only [] at this
    split at this
    · simp only [look] at this
      split at this
      · cases this
      · exact this
    · exact this
theorem look_hideM {α : Type} (l : List Pl) (sl : List (Nat × Option α)) (t : Nat) (v : α) (h : look (l.foldl (fun m p => match p with | .blk b => (b, none) :: m | _ => m) sl) t = some v) : look sl t = some v := by
  refine look_hideF (f := fun p => match p with | .blk b => some b | _ => none) l sl t v ?_
  rw [← h]
  congr 1
  congr 1
  funext m p
  cases p <;> rfl
theorem look_hideV {α : Type} (l : List Pl) (sl : List (Nat × Option α)) (t : Nat) (v : α) (h : look (l.foldl (fun m p => match p with | .vec b => (b, none) :: m | _ => m) sl) t = some v) : look sl t = some v := by
  refine look_hideF (f := fun p => match p with | .vec b => some b | _ => none) l sl t v ?_
  rw [← h]
  congr 1
  congr 1
  funext m p
  cases p <;> rfl
/-- What of a state is known in each of the region's worlds. -/
def clsOf (h st : St) : St :=
  { st with sl := st.sl.map fun p => (p.1, match p.2 with | some sv => if sv.cells.all (knows h.leaves) then some sv else none | none => none), mem := h.mem, vec := h.vec, clo := h.clo }
theorem look_cls {L : List Lf} : ∀ {l : List (Nat × Option SV)} {t : Nat} {sv : SV}, look (l.map fun p => (p.1, match p.2 with | some sv => if sv.cells.all (knows L) then some sv else none | none => none)) t = some sv → look l t = some sv ∧ sv.cells.all (knows L) = true
  | [], _, _, h => by cases h
  | (k, u) :: l, t, sv, h => by
    simp only [List.map_cons, look] at h ⊢
    split at h
    · rename_i e
      rw [if_pos e]
      cases u with
      | none => cases h
      | some x =>
        simp only [] at h
        split at h
        · rename_i hx; cases h; exact ⟨rfl, hx⟩
        · cases h
    · rename_i e
      rw [if_neg e]
      exact look_cls h
/-- All slices of one's own, all function values are still known, alike. -/
def coversV (h st : St) : Bool :=
  (h.vec.all fun p => match look h.vec p.1 with
    | none => true
    | some e => match look st.vec p.1 with
      | some e' => Nat.beq e.1 e'.1 && decide (e.2 = e'.2)
      | none => false) &&
  (h.clo.all fun p => match look h.clo p.1 with
    | none => true
    | some e => match look st.clo p.1 with
      | some e' => Nat.beq e.1 e'.1 && same0s e.2.1 e'.2.1 && sameLs e.2.2 e'.2.2
      | none => false)
theorem coversV_vec {h st : St} (hc : coversV h st = true) {i : Nat} {e : TypeId × E} (hi : look h.vec i = some e) : look st.vec i = some e := by
  simp only [coversV, Bool.and_eq_true] at hc
  obtain ⟨p, hp, rfl⟩ := look_mem' hi
  have := List.all_eq_true.1 hc.1 p hp
  rw [hi] at this
  simp only [] at this
  split at this
  · rename_i e' he'
    simp only [Bool.and_eq_true, decide_eq_true_eq] at this
    rw [he']
    exact congrArg some (Prod.ext (Nat.eq_of_beq_eq_true this.1).symm this.2.symm)
  · cases this
theorem coversV_clo {h st : St} (hc : coversV h st = true) {i : Nat} {e : Nat × List S0 × List Lf} (hi : look h.clo i = some e) : look st.clo i = some e := by
  simp only [coversV, Bool.and_eq_true] at hc
  obtain ⟨p, hp, rfl⟩ := look_mem' hi
  have := List.all_eq_true.1 hc.2 p hp
  rw [hi] at this
  simp only [] at this
  split at this
  · rename_i e' he'
    simp only [Bool.and_eq_true] at this
    rw [he']
    exact congrArg some (Prod.ext (Nat.eq_of_beq_eq_true this.1.1).symm (Prod.ext (same0s_eq this.1.2).symm (sameLs_eq this.2).symm))
  · cases this
def covers (h st : St) : Bool :=
  (h.mem.all fun p => match look h.mem p.1 with
    | none => true
    | some mb => match look st.mem p.1 with
      | some mb' => Nat.beq mb.1 mb'.1 && sameLs mb.2 mb'.2
      | none => false) &&
  coversV h st && h.slLeaves.all (knows st.leaves)
/-- The class of worlds. -/
def Kept (P : Program) (F : Nat → Prop) (w0 : World) (Γ0 : Env) (h : St) (a0 : Act) (w : World) : Prop := Sat P F w0 Γ0 h a0 w
theorem Kept.start {P : Program} {F : Nat → Prop} {w0 : World} {Γ : Env} {st : St} {a : Act} {w : World} (h : Sat P F w0 Γ st a w) {M : List Pl} : Kept P F w0 Γ (st.hide M) a w := by
  have hhold : ∀ s j b, Hold Γ (st.hide M) s j b → Hold Γ st s j b := fun s j b hh =>
    Hold.congr (Γ := Γ) (st := st) (Γ' := Γ) (st' := st.hide M) (fun j mb hj => ⟨⟨mb, look_hideM M _ _ _ hj⟩, rfl⟩) (fun i e hi => ⟨⟨e, look_hideV M _ _ _ hi⟩, rfl⟩) hh
  have hown : ∀ x o, Own Γ (st.hide M) x o → Own Γ st x o := fun x o hx => by
    rcases Own.iff.1 hx with hx | ⟨s, j, hh⟩
    · exact .inl hx
    · exact (hhold s j x hh).own o
  have ht : Turn w w (Own Γ st) (Own Γ (st.hide M)) := ⟨Nat.le_refl _, fun b o _ hno => ⟨rfl, fun ho => hno (hown b o ho)⟩⟩
  refine ⟨h.slots_keep ht, h.size, fun b mb hb => ?_, fun i e hi => ?_, h.clo_keep ht, fun s j s' j' b h1 h2 => h.inj _ _ _ _ _ (hhold _ _ _ h1) (hhold _ _ _ h2), h.keeps, h.fold, h.base, h.defers, h.len, h.nb, h.num⟩
  · obtain ⟨h1, h2, h3, h4⟩ := h.mem b mb (look_hideM M _ _ _ hb)
    exact ⟨h1, fun l hl => Lf.ok_anti (h2 l hl) hown, h3, h4⟩
  · obtain ⟨h1, h2, h3⟩ := h.vec i e (look_hideV M _ _ _ hi)
    exact ⟨h1.anti hown, h2, h3⟩
section
variable {P : Program} {F : Nat → Prop} {w0 : World} {Γ0 Γ : Env} {h st : St} {a0 a : Act} {w w' : World}
theorem Kept.down (hS : Kept P F w0 Γ0 h a0 w') (hs : Sat P F w0 Γ st a w) (he : Ext Γ0 Γ) (hw : h.wf = true) (hc : covers h st = true) : Kept P F w0 Γ0 h a0 w := by
  simp only [covers, Bool.and_eq_true] at hc
  obtain ⟨⟨c1, c2⟩, c3⟩ := hc
  have hnb0 : Γ0.nb = h.nb := hS.nb
  have mem' : ∀ b mb, look h.mem b = some mb → look st.mem b = some mb := by
    intro b mb hb
    obtain ⟨p, hp, rfl⟩ := look_mem' hb
    have := List.all_eq_true.1 c1 p hp
    rw [hb] at this
    simp only [] at this
    split at this
    · rename_i mb' hmb'
      simp only [Bool.and_eq_true] at this
      rw [hmb']
      exact congrArg some (Prod.ext (Nat.eq_of_beq_eq_true this.1).symm (sameLs_eq this.2).symm)
    · cases this
  have hat : ∀ i e, look h.vec i = some e → at_ Γ.ρ i = at_ Γ0.ρ i := fun i e hi => hS.vec_at he hi
  have hown : ∀ x o, Own Γ0 h x o → Own Γ st x o := by
    intro x o hx
    rcases Own.iff.1 hx with hx | ⟨s, j, hh⟩
    · exact .inl (by rw [he.base]; exact hx)
    · rcases hh.inv with ⟨rfl, mb, hj, rfl⟩ | ⟨rfl, e, hj, hb⟩
      · have := (hS.mem j mb hj).2.2.2
        have e1 : Γ.blk j = Γ0.blk j := he.blk j (by omega)
        rw [← e1]
        exact (Hold.mem (Γ := Γ) (mem' j mb hj)).own o
      · exact (Hold.vec (Γ := Γ) (coversV_vec c2 hj) (by rw [hat j e hj]; exact hb)).own o
  have leaf : ∀ l : Lf, l.wf Γ0.ρ.length Γ0.nb = true → l.ok P w (Own Γ st) Γ → l.ok P w (Own Γ0 h) Γ0 := fun l hl ho => Lf.ok_anti (Lf.ok_unext he hl ho) hown
  refine ⟨fun t sv hsv => ?_, hS.size, fun b mb hb => ?_, fun i e hi => ?_, fun i e hi => ?_, hS.inj, hs.keeps, hS.fold, fun x o hx => hs.base x o (by rw [he.base]; exact hx), hS.defers, hS.len, hS.nb, hS.num⟩
  · obtain ⟨h1, h2⟩ := hS.slots t sv hsv
    have hwf := SV.wf_cells (hS.wf_slot hw hsv)
    refine ⟨h1, SV.ok_iff.2 fun l hl => leaf l (hwf l hl) ?_⟩
    refine knows_ok hs.leaves_ok (List.all_eq_true.1 c3 l (St.slLeaves_mem hsv l hl)) (w' := w') ?_ (O' := Own Γ0 h)
    exact Lf.ok_ext he (hwf l hl) (SV.ok_iff.1 h2 l hl)
  · obtain ⟨h1, h2, h3, h4⟩ := hS.mem b mb hb
    obtain ⟨k1, k2, k3, k4⟩ := hs.mem b mb (mem' b mb hb)
    have hwf := hS.wf_mem hw hb
    have hblk : Γ.blk b = Γ0.blk b := he.blk b (by omega)
    refine ⟨?_, fun l hl => leaf l (List.all_eq_true.1 hwf l hl) (k2 l hl), h3, h4⟩
    rw [← dens_ext he mb.2 hwf]
    rw [hblk] at k1
    exact k1
  · obtain ⟨h1, h2, h3⟩ := hS.vec i e hi
    obtain ⟨k1, k2, k3⟩ := hs.vec i e (coversV_vec c2 hi)
    refine ⟨?_, h2, h3⟩
    obtain ⟨m, hm⟩ := he.ρ
    rw [hat i e hi, hm, E.ev_ext _ (hS.wf_vec hw hi)] at k1
    exact k1.anti hown
  · obtain ⟨h1, h2, h3⟩ := hS.clo i e hi
    obtain ⟨k1, k2, k3⟩ := hs.clo i e (coversV_clo c2 hi)
    obtain ⟨f1, f2, f3⟩ := hS.wf_clo hw hi
    exact ⟨h1, fun s hs' l hl => leaf l (S0.wf_cells (List.all_eq_true.1 f2 s hs') l hl) (k2 s hs' l hl), fun l hl => leaf l (List.all_eq_true.1 f3 l hl) (k3 l hl)⟩
theorem Kept.up (hS : Kept P F w0 Γ0 h a0 w') (hs : Sat P F w0 Γ st a w) (he : Ext Γ0 Γ) (hw : h.wf = true) : Sat P F w0 Γ (clsOf h st) a w' := by
  have hnb0 : Γ0.nb = h.nb := hS.nb
  have hblk : ∀ b mb, look h.mem b = some mb → Γ.blk b = Γ0.blk b := fun b mb hb => he.blk b (by have := (hS.mem b mb hb).2.2.2; omega)
  have hat : ∀ i e, look h.vec i = some e → at_ Γ.ρ i = at_ Γ0.ρ i := fun i e hi => hS.vec_at he hi
  have hhold : ∀ s j b, Hold Γ (clsOf h st) s j b → Hold Γ0 h s j b := fun s j b hh =>
    Hold.congr (Γ := Γ0) (st := h) (Γ' := Γ) (st' := clsOf h st) (fun j mb hj => ⟨⟨mb, hj⟩, hblk j mb hj⟩) (fun i e hi => ⟨⟨e, hi⟩, hat i e hi⟩) hh
  have hown : ∀ x o, Own Γ (clsOf h st) x o → Own Γ0 h x o := fun x o hx => by
    rcases Own.iff.1 hx with hx | ⟨s, j, hh⟩
    · exact .inl (by rw [← he.base]; exact hx)
    · exact (hhold s j x hh).own o
  have hL : ∀ l ∈ h.leaves, l.ok P w' (Own Γ (clsOf h st)) Γ := fun l hl => Lf.ok_anti (Lf.ok_ext he (hS.leaves_wf hw l hl) (hS.leaves_ok l hl)) hown
  have hle : h.nx ≤ st.nx := by rw [← hs.len, ← hS.len]; exact he.len
  refine ⟨fun t sv hsv => ?_, hs.size, fun b mb hb => ?_, fun i e hi => ?_, fun i e hi => ?_, fun s j s' j' b h1 h2 => hS.inj _ _ _ _ _ (hhold _ _ _ h1) (hhold _ _ _ h2), hS.keeps, hS.fold, fun x o hx => hS.base x o (by rw [← he.base]; exact hx), hs.defers, hs.len, hs.nb, hs.num⟩
  · obtain ⟨h1, h2⟩ := look_cls hsv
    obtain ⟨h3, h4⟩ := hs.slots t sv h1
    exact ⟨h3, SV.ok_iff.2 fun l hl => knows_ok hL (List.all_eq_true.1 h2 l hl) (SV.ok_iff.1 h4 l hl)⟩
  · have hb' : look h.mem b = some mb := hb
    obtain ⟨h1, h2, h3, h4⟩ := hS.mem b mb hb'
    have hwf := hS.wf_mem hw hb'
    have e1 : Γ.blk b = Γ0.blk b := hblk b mb hb'
    refine ⟨?_, fun l hl => Lf.ok_anti (Lf.ok_ext he (List.all_eq_true.1 hwf l hl) (h2 l hl)) hown, ?_, ?_⟩
    · rw [e1, dens_ext he mb.2 hwf]; exact h1
    · rw [e1]; exact h3
    · have := he.nb
      have := hs.nb
      show b < st.nb
      omega
  · have hi' : look h.vec i = some e := hi
    obtain ⟨h1, h2, h3⟩ := hS.vec i e hi'
    obtain ⟨m, hm⟩ := he.ρ
    refine ⟨?_, Nat.lt_of_lt_of_le h2 hle, fun b hb => ?_⟩
    · rw [hat i e hi', hm, E.ev_ext _ (hS.wf_vec hw hi')]
      exact h1.anti hown
    · rw [hat i e hi'] at hb
      exact ⟨(h3 b hb).1, fun o ho => (h3 b hb).2 o (by rw [← he.base]; exact ho)⟩
  · have hi' : look h.clo i = some e := hi
    obtain ⟨h1, h2, h3⟩ := hS.clo i e hi'
    obtain ⟨f1, f2, f3⟩ := hS.wf_clo hw hi'
    obtain ⟨m, hm⟩ := he.ρ
    refine ⟨?_, fun s hs' l hl => Lf.ok_anti (S0.ok_ext he (List.all_eq_true.1 f2 s hs') (h2 s hs') l hl) hown, fun l hl => Lf.ok_anti (Lf.ok_ext he (List.all_eq_true.1 f3 l hl) (h3 l hl)) hown⟩
    rw [hm, at_ext f1, h1, List.map_congr_left fun s hs' => S0.den_ext he s (List.all_eq_true.1 f2 s hs'), List.map_congr_left fun l hl => Lf.den_ext he l (List.all_eq_true.1 f3 l hl)]
end

/-! The executor -/
inductive Gd where
  | go
  | no
  | ask (d : Nat) (b : B)
  | bad
def gd (ops : Array Oper) (st : St) (o : Oper) : Gd :=
  match o.guard with
  | none => .go
  | some (j, want) => match (ops[j]?).bind (·.dst) with
    | none => .bad
    | some d => match st.lf (.tmp d) with
      | some (.bool (.lit v)) => if v = want then .go else .no
      | some (.bool b) => .ask d b
      | some (.cst v) => if isB v then .bad else .no
      | _ => .bad
def readsOnly (o : Oper) : Bool :=
  match o.op with
  | .move _ | .assign _ | .pick .. | .load .. | .binOp .. | .unOp .. | .fieldAddr .. | .field .. | .indexAddr .. | .build .. | .extract .. | .nilCheck _ => true
  | .call c => match c.callee with
    | .builtin _ => true
    | _ => false
  | _ => false
/-! In whatever order: a condition on the world may end with the last operation, where that one waits for all others -/
def edgeTo (ops : Array Oper) (m a : Nat) : Bool :=
  match ops[m]? with
  | some o => o.after.any fun e => Region.binds .any e && Nat.beq e.on a
  | none => false
def waitsAll (ops : Array Oper) : List Nat → List Nat → Bool
  | _, [] => true
  | seen, a :: l => seen.any (fun m => edgeTo ops m a) && waitsAll ops (a :: seen) l
def sinkLast (ops : Array Oper) : Bool :=
  waitsAll ops [ops.size - 1] (List.range (ops.size - 1)).reverse && match ops[ops.size - 1]? with
    | some o => !readsOnly o
    | none => false
def Closed (ops : Array Oper) (L : Array Bool) : Prop := ∀ j o, ops[j]? = some o → L.getD j false = true → ∀ e ∈ o.after, Region.binds .any e = true → L.getD e.on false = true
section
variable {P : Program} {ops : Array Oper} {Q : Exit → Act → World → Prop} {S : Array Bool → World → Prop} {S0 : World → Prop}
theorem Closed.set {L : Array Bool} (h : Closed ops L) {j : Nat} (hj : j ∈ Region.ready .any ops L) : Closed ops (L.setIfInBounds j true) := by
  intro k o ho hk e he hb
  obtain ⟨-, oj, hoj, hw⟩ := mem_ready.1 hj
  by_cases hkj : j = k
  · subst hkj
    rw [hoj] at ho
    cases ho
    exact getD_set_true (hw e he hb)
  · rw [getD_set_ne false hkj] at hk
    exact getD_set_true (h k o ho hk e he hb)
theorem waitsAll_listed {L : Array Bool} (hc : Closed ops L) : ∀ (l seen : List Nat), (∀ m ∈ seen, L.getD m false = true) → waitsAll ops seen l = true → ∀ a ∈ l, L.getD a false = true
  | [], _, _, _, _, h => by cases h
  | b :: l, seen, hs, hw, a, ha => by
    simp only [waitsAll, Bool.and_eq_true] at hw
    have hb : L.getD b false = true := by
      obtain ⟨m, hm, he⟩ := List.any_eq_true.1 hw.1
      unfold edgeTo at he
      split at he
      · rename_i o ho
        obtain ⟨e, he1, he2⟩ := Array.any_eq_true'.1 he
        simp only [Bool.and_eq_true] at he2
        have := hc m o ho (hs m hm) e he1 he2.1
        rwa [Nat.eq_of_beq_eq_true he2.2] at this
      · cases he
    rcases List.mem_cons.1 ha with rfl | ha
    · exact hb
    · exact waitsAll_listed hc l (b :: seen) (fun m hm => (List.mem_cons.1 hm).elim (fun e => e ▸ hb) (hs m)) hw.2 a ha
theorem sinkLast_listed {L : Array Bool} (hc : Closed ops L) (hs : sinkLast ops = true) (hl : L.getD (ops.size - 1) false = true) {i : Nat} (hi : i < ops.size) : L.getD i false = true := by
  simp only [sinkLast, Bool.and_eq_true] at hs
  by_cases h : i = ops.size - 1
  · rw [h]; exact hl
  · exact waitsAll_listed hc _ _ (fun m hm => by simp at hm; rw [hm]; exact hl) hs.1 i (by simp; omega)
/-- What is asked of the world when these have come. -/
def Until (ops : Array Oper) (S0 : World → Prop) (L : Array Bool) (w : World) : Prop := (sinkLast ops = true → L.getD (ops.size - 1) false = false) → S0 w
theorem Until.of {L : Array Bool} {w : World} (h : Until ops S0 L w) (hc : Closed ops L) {i : Nat} (hi : i < ops.size) (hL : L.getD i false = false) : S0 w := h fun hs => by
  cases hx : L.getD (ops.size - 1) false with
  | false => rfl
  | true => have := sinkLast_listed hc hs hx hi; rw [hL] at this; cases this
/-- Whatever is picked, what is asked of the world holds. -/
def Picks (P : Program) (ops : Array Oper) (Q : Exit → Act → World → Prop) (S : Array Bool → World → Prop) : Nat → Array Bool → Act → World → Prop
  | 0, L, a, w => Region.ready .any ops L = [] ∧ Q .normal a w
  | n + 1, L, a, w => (Region.ready .any ops L = [] → Q .normal a w) ∧ ∀ i ∈ Region.ready .any ops L, wpOp P ops Q i (fun a' w' => S (L.setIfInBounds i true) w' ∧ Picks P ops Q S n (L.setIfInBounds i true) a' w') a w
theorem Picks.any : ∀ {n : Nat} {L : Array Bool} {a : Act} {w : World}, Picks P ops Q S n L a w → wpAny P .any ops Q n L a w
  | 0, _, _, _, h => h
  | _ + 1, _, _, _, h => ⟨h.1, fun i hi => wpOp_mono (fun _ _ h' => Picks.any h'.2) (h.2 i hi)⟩
theorem Picks.over {L : Array Bool} {a : Act} {w : World} (hr : Region.ready .any ops L = []) (h : Q .normal a w) : ∀ n, Picks P ops Q S n L a w
  | 0 => ⟨hr, h⟩
  | _ + 1 => ⟨fun _ => h, by rw [hr]; intro i hi; cases hi⟩
/-- One that yields its value in every such world may be taken ahead of all that are apart from it. -/
theorem Picks.first {i : Nat} {o : Oper} {v : Value} (ho : ops[i]? = some o) (hro : readsOnly o = true) (hsel : Region.noSelect ops = true) (hQ : ∀ c a w, ¬ Q (.panic c) a w) :
    ∀ (n : Nat) (L : Array Bool) (a : Act) (w : World), Closed ops L → S0 w → YieldsIf P ops S0 o v a → i ∈ Region.ready .any ops L →
    (∀ j oj, ops[j]? = some oj → j ≠ i → L.getD j true = false → (∀ e ∈ oj.after, Region.binds .any e = true → e.on ≠ i) → o.apart ops oj = true) →
    Picks P ops Q (Until ops S0) n (L.setIfInBounds i true) (a.put o.dst v) w → Picks P ops Q (Until ops S0) (n + 1) L a w := by
  have ns := Region.noSelect_spec hsel
  have hisz : i < ops.size := (Array.getElem?_eq_some_iff.1 ho).1
  have hlast : sinkLast ops = true → i ≠ ops.size - 1 := fun hs e => by
    simp only [sinkLast, Bool.and_eq_true] at hs
    rw [← e, ho] at hs
    simp [hro] at hs
  intro n
  induction n with
  | zero =>
    intro L a w hc hS hy hr hap h
    refine ⟨fun e => absurd hr (by rw [e]; simp), fun j hj => ?_⟩
    rcases Decidable.em (j = i) with rfl | hne
    · exact hy.wpOp ho hS ⟨fun _ => hS, h⟩
    · have := ready_mono hj hne
      rw [h.1] at this
      cases this
  | succ n ih =>
    intro L a w hc hS hy hr hap h
    refine ⟨fun e => absurd hr (by rw [e]; simp), fun j hj => ?_⟩
    rcases Decidable.em (j = i) with rfl | hne
    · exact hy.wpOp ho hS ⟨fun _ => hS, h⟩
    · obtain ⟨hjL, oj, hoj, hjw⟩ := mem_ready.1 hj
      obtain ⟨hiL, -⟩ := mem_ready.1 hr
      have hni : L.getD i false = false := getD_both hiL
      have hjap := hap j oj hoj hne hjL fun e he hb heq => by
        have := hjw e he hb
        rw [heq, hni] at this
        cases this
      have hc' := hc.set hj
      have hni' : (L.setIfInBounds j true).getD i false = false := by rw [getD_set_ne false hne]; exact hni
      refine wpOp_mono (fun a' w' hx => ?_) (wpOp_putIf hoj hjap (fun cs b => ns i o cs b ho) (fun cs b => ns j oj cs b hoj) (fun c a w hq => absurd hq (hQ c _ w)) hy (h.2 j (ready_mono hj hne)))
      obtain ⟨hy', hSx, hrest⟩ := hx
      rw [Array.setIfInBounds_comm _ _ (Ne.symm hne)] at hSx hrest
      have hS' : S0 w' := hSx fun hs => by
        rw [getD_set_ne false (hlast hs)]
        cases hx : (L.setIfInBounds j true).getD (ops.size - 1) false with
        | false => rfl
        | true => have := sinkLast_listed hc' hs hx hisz; rw [hni'] at this; cases this
      refine ⟨fun _ => hS', ih _ a' w' hc' hS' hy' (ready_mono hr (Ne.symm hne)) (fun k ok hk hki hun hno => hap k ok hk hki ?_ hno) hrest⟩
      by_cases hjk : j = k
      · rw [← hjk]; exact hjL
      · rw [getD_set_ne true hjk] at hun; exact hun
end

def freeAt (cx : Cx) (ops : Array Oper) (h st : St) (listed : Array Bool) (i : Nat) : Bool :=
  match ops[i]? with
  | some o => readsOnly o && Region.free .any ops listed i && match gd ops st o with
    | .no => true
    | .go => (opVal cx.P (clsOf h st) o).isSome
    | _ => false
  | none => false
def askAt (ops : Array Oper) (st : St) (i : Nat) : Option (Nat × B) :=
  match ops[i]? with
  | some o => match gd ops st o with
    | .ask d b => some (d, b)
    | _ => none
  | none => none
def bothObs (a b : List B) : List B := if a = b then a else a ++ b
theorem bothObs_ok {ρ : List C} {a b : List B} (h : Obs ρ (bothObs a b)) : Obs ρ a ∧ Obs ρ b := by
  unfold bothObs at h
  split at h
  · rename_i e; subst e; exact ⟨h, h⟩
  · exact ⟨fun x hx => h x (by simp [hx]), fun x hx => h x (by simp [hx])⟩
def sameRs : List (List Lf) → List (List Lf) → Bool
  | [], [] => true
  | a :: l, b :: m => sameLs a b && sameRs l m
  | _, _ => false
theorem sameRs_eq : ∀ {a b : List (List Lf)}, sameRs a b = true → a = b
  | [], [], _ => rfl
  | [], _ :: _, h => by cases h
  | _ :: _, [], h => by cases h
  | a :: l, b :: m, h => by
    simp only [sameRs, Bool.and_eq_true] at h
    rw [sameLs_eq h.1, sameRs_eq h.2]
def sameT : Tree → Tree → Bool
  | .ret l, .ret m => sameLs l m
  | .split b t e, .split c u f => decide (b = c) && (sameT t u && sameT e f)
  | .ob b t, .ob c u => decide (b = c) && sameT t u
  | .call f l t, .call g m u => Nat.beq f g && (sameLs l m && sameT t u)
  | .loop ks l t, .loop js m u => decide (ks = js) && (sameLs l m && sameT t u)
  | .back n l, .back k m => Nat.beq n k && sameLs l m
  | .arr l t, .arr m u => sameRs l m && sameT t u
  | .dfn e t, .dfn f u => decide (e = f) && sameT t u
  | .mk e l t, .mk f m u => decide (e = f) && (sameLs l m && sameT t u)
  | .cat a b t, .cat c d u => decide (a = c) && (decide (b = d) && sameT t u)
  | .upd a x o l t, .upd b y p m u => decide (a = b) && (decide (x = y) && (Nat.beq o p && (sameLs l m && sameT t u)))
  | .fail n l, .fail k m => Nat.beq n k && decide (l = m)
  | _, _ => false
theorem sameT_eq : ∀ {a b : Tree}, sameT a b = true → a = b := by
  intro a
  induction a with
  | ret l => intro b h; cases b <;> first | (simp only [sameT] at h; rw [sameLs_eq h]) | cases h
  | split b t e iht ihe =>
    intro b h
    cases b <;> first | (simp only [sameT, Bool.and_eq_true, decide_eq_true_eq] at h; obtain ⟨h1, h2, h3⟩ := h; rw [h1, iht h2, ihe h3]) | cases h
  | ob b t ih => intro b h; cases b <;> first | (simp only [sameT, Bool.and_eq_true, decide_eq_true_eq] at h; obtain ⟨h1, h2⟩ := h; rw [h1, ih h2]) | cases h
  | call f l t ih => intro b h; cases b <;> first | (simp only [sameT, Bool.and_eq_true] at h; obtain ⟨h1, h2, h3⟩ := h; rw [Nat.eq_of_beq_eq_true h1, sameLs_eq h2, ih h3]) | cases h
  | loop ks l t ih => intro b h; cases b <;> first | (simp only [sameT, Bool.and_eq_true, decide_eq_true_eq] at h; obtain ⟨h1, h2, h3⟩ := h; rw [h1, sameLs_eq h2, ih h3]) | cases h
  | back n l => intro b h; cases b <;> first | (simp only [sameT, Bool.and_eq_true] at h; obtain ⟨h1, h2⟩ := h; rw [Nat.eq_of_beq_eq_true h1, sameLs_eq h2]) | cases h
  | arr l t ih => intro b h; cases b <;> first | (simp only [sameT, Bool.and_eq_true] at h; obtain ⟨h1, h2⟩ := h; rw [sameRs_eq h1, ih h2]) | cases h
  | dfn e t ih => intro b h; cases b <;> first | (simp only [sameT, Bool.and_eq_true, decide_eq_true_eq] at h; obtain ⟨h1, h2⟩ := h; rw [h1, ih h2]) | cases h
  | mk e l t ih => intro b h; cases b <;> first | (simp only [sameT, Bool.and_eq_true, decide_eq_true_eq] at h; obtain ⟨h1, h2, h3⟩ := h; rw [h1, sameLs_eq h2, ih h3]) | cases h
  | cat x y t ih => intro b h; cases b <;> first | (simp only [sameT, Bool.and_eq_true, decide_eq_true_eq] at h; obtain ⟨h1, h2, h3⟩ := h; rw [h1, h2, ih h3]) | cases h
  | upd x y o l t ih => intro b h; cases b <;> first | (simp only [sameT, Bool.and_eq_true, decide_eq_true_eq] at h; obtain ⟨h1, h2, h3, h4, h5⟩ := h; rw [h1, h2, Nat.eq_of_beq_eq_true h3, sameLs_eq h4, ih h5]) | cases h
  | fail n l => intro b h; cases b <;> first | (simp only [sameT, Bool.and_eq_true, decide_eq_true_eq] at h; obtain ⟨h1, h2⟩ := h; rw [Nat.eq_of_beq_eq_true h1, h2]) | cases h
/-- What each of several ways comes to, where they come to one and the same. -/
def allSame : List (Option Tree) → Option Tree
  | [] => none
  | [x] => x
  | x :: y :: l => match x, allSame (y :: l) with
    | some a, some b => if sameT a b then some b else none
    | _, _ => none
theorem allSame_mem : ∀ {l : List (Option Tree)} {T : Tree}, allSame l = some T → ∀ x ∈ l, x = some T
  | [], _, h, _, _ => by cases h
  | [x], T, h, y, hy => by
    simp only [List.mem_cons, List.not_mem_nil, or_false] at hy
    rw [hy]; exact h
  | x :: y :: l, T, h, z, hz => by
    simp only [allSame] at h
    split at h
    · rename_i a b hb
      split at h
      · rename_i hs
        cases h
        rcases List.mem_cons.1 hz with rfl | hz
        · rw [sameT_eq hs]
        · exact allSame_mem hb z hz
      · cases h
    · cases h
def execAny (cx : Cx) (ops : Array Oper) (h : St) (k : St → Option Tree) : Nat → Nat → Array Bool → St → Option Tree
  | 0, _, _, _ => none
  | f + 1, n, listed, st =>
    match Region.ready .any ops listed with
    | [] => k st
    | r :: rs => match (r :: rs).find? (freeAt cx ops h st listed) with
      | some i => match ops[i]?, n with
        | some o, n + 1 => if Region.free .any ops listed i then match gd ops st o with
          | .no => (st.skip ops o).bind fun st' => execAny cx ops h k f n (listed.setIfInBounds i true) st'
          | .go => match opVal cx.P st o, opVal cx.P (clsOf h st) o with
            | some (obs, sv), some (obs', sv') => if sameS sv sv' then
                ((st.learnAll (bothObs obs obs')).put o.dst (some sv)).bind fun st' => (execAny cx ops h k f n (listed.setIfInBounds i true) st').map (obT (bothObs obs obs'))
              else none
            | _, _ => none
          | _ => none
          else none
        | _, _ => none
      | none => match (r :: rs).findSome? (askAt ops st) with
        | some (d, b) => match st.lf (.tmp d) with
          | some (.bool b') => match execAny cx ops h k f n listed (st.know (some d) b' true), execAny cx ops h k f n listed (st.know (some d) b' false) with
            | some t, some e => some (.split b' t e)
            | _, _ => none
          | _ => none
        | none => match n with
          | n + 1 => allSame ((r :: rs).map fun r => match ops[r]? with
            | some o => match gd ops st o with
              | .no => (st.skip ops o).bind fun st' => execAny cx ops h k f n (listed.setIfInBounds r true) st'
              | .go => doOpF cx st o fun st' => if (sinkLast ops && Nat.beq r (ops.size - 1)) || covers h st' then execAny cx ops h k f n (listed.setIfInBounds r true) st' else none
              | _ => none
            | none => none)
          | _ => none
section
variable {cx : Cx} {R : List C → Prop} {F : Nat → Prop} {w0 : World}
theorem gd_go {ops : Array Oper} {st : St} {o : Oper} {Γ : Env} {a : Act} {w : World} (hs : Sat cx.P F w0 Γ st a w) (h : gd ops st o = .go) : Region.wanted o (yielded ops a.tmps) = true := by
  unfold gd at h
  split at h
  · rename_i hg; simp [Region.wanted, hg]
  · rename_i j want hg
    split at h
    · cases h
    · rename_i d hd
      split at h
      · rename_i v hl
        have hy : yielded ops a.tmps j = some v := yielded_of hd (hs.tmp (St.lf_ev hl)).1
        split at h
        · rename_i hvw; simp [Region.wanted, hg, hy, hvw]
        · cases h
      · cases h
      · split at h <;> cases h
      · cases h
theorem gd_no {ops : Array Oper} {st : St} {o : Oper} {Γ : Env} {a : Act} {w : World} (hs : Sat cx.P F w0 Γ st a w) (h : gd ops st o = .no) : Region.wanted o (yielded ops a.tmps) = false := by
  unfold gd at h
  split at h
  · cases h
  · rename_i j want hg
    split at h
    · cases h
    · rename_i d hd
      split at h
      · rename_i v hl
        have hy : yielded ops a.tmps j = some v := yielded_of hd (hs.tmp (St.lf_ev hl)).1
        split at h
        · cases h
        · rename_i hvw; simp [Region.wanted, hg, hy, hvw]
      · cases h
      · rename_i v hl
        split at h
        · cases h
        · rename_i hb
          have hy := yielded_cst (v := v) hd (hs.tmp (St.lf_ev hl)).1 (by simpa using hb)
          simp [Region.wanted, hg, hy]
      · cases h
theorem execAny_sound (hcx : CxOK cx) {ops : Array Oper} (hsel : Region.noSelect ops = true) {h : St} (hwf : h.wf = true) {k : St → Option Tree} {Γ0 : Env} {a0 : Act} {Ls0 : List (List C → Prop)} {Q : Act → World → Prop}
    (hk : Next cx R F w0 k Γ0 Ls0 Q) : ∀ (f n : Nat) (listed : Array Bool) (st : St) (T : Tree), execAny cx ops h k f n listed st = some T → ∀ (Γ : Env) (Ls : List (List C → Prop)) (a : Act) (w : World), Ext Γ0 Γ → Ls0 <+: Ls → Sat cx.P F w0 Γ st a w → Closed ops listed → Until ops (Kept cx.P F w0 Γ0 h a0) listed w → Ls.length = st.lvl → VC cx R T Γ.ρ Ls →
    Picks cx.P ops (fun e a w => e = .normal ∧ Q a w) (Until ops (Kept cx.P F w0 Γ0 h a0)) n listed a w := by
  intro f
  induction f with
  | zero => intro n listed st T hT; cases hT
  | succ f ih =>
    intro n listed st T hT Γ Ls a w he hpre hs hcl hU hl hv
    simp only [execAny] at hT
    split at hT
    · rename_i hr
      exact Picks.over hr ⟨rfl, hk st T Γ Ls hT he hpre hl hv a w hs⟩ n
    · rename_i r rs hr
      split at hT
      · rename_i i hfind
        have hi : i ∈ Region.ready .any ops listed := by rw [hr]; exact List.mem_of_find?_eq_some hfind
        have hro : ∀ o, ops[i]? = some o → readsOnly o = true := fun o ho => by
          have := List.find?_some hfind
          unfold freeAt at this
          rw [ho] at this
          simp only [Bool.and_eq_true] at this
          exact this.1.1
        have hS : Kept cx.P F w0 Γ0 h a0 w := by
          obtain ⟨hiL, o, ho, -⟩ := mem_ready.1 hi
          exact hU.of hcl (Array.getElem?_eq_some_iff.1 ho).1 (getD_both hiL)
        have hcl' := hcl.set hi
        split at hT
        · rename_i o n' ho
          split at hT
          · rename_i hfr
            split at hT
            · rename_i hg
              cases hp : st.skip ops o with
              | none => simp [hp] at hT
              | some st' =>
                simp [hp] at hT
                exact Picks.first ho (hro o ho) hsel (fun c a w h => by cases h.1) _ _ _ _ hcl hS (.inr ⟨gd_no hs hg, rfl⟩) hi (Region.free_spec ho hfr)
                  (ih n' _ st' T hT Γ Ls _ w he hpre (hs.skip hp) hcl' (fun _ => hS) (by rw [St.skip_lvl hp]; exact hl) hv)
            · rename_i hg
              split at hT
              · rename_i obs sv obs' sv' h1 h2
                split at hT
                · rename_i hsame
                  have e := sameS_eq hsame
                  subst e
                  cases hp : (st.learnAll (bothObs obs obs')).put o.dst (some sv) with
                  | none => simp [hp] at hT
                  | some st' =>
                    cases hT' : execAny cx ops h k f n' (listed.setIfInBounds i true) st' with
                    | none => simp [hp, hT'] at hT
                    | some T' =>
                      simp [hp, hT'] at hT
                      subst hT
                      obtain ⟨hob, hv'⟩ := VC.obT hv
                      obtain ⟨o1, o2⟩ := bothObs_ok hob
                      have hok := (opVal_ok h1 (hs.view o.op.operands) o1).2
                      refine Picks.first ho (hro o ho) hsel (fun c a w h => by cases h.1) (v := sv.den Γ) _ _ _ _ hcl hS (.inl ⟨gd_go hs hg, fun w' hw' => ?_⟩) hi (Region.free_spec ho hfr)
                        (ih n' _ st' T' hT' Γ Ls _ w he hpre ((hs.learn hob).put hp hok) hcl' (fun _ => hS) (by rw [St.put_lvl hp]; exact hl) hv')
                      have hup := Kept.up hw' hs he hwf
                      exact (opVal_ok h2 (hup.view o.op.operands) o2).1
                · cases hT
              · cases hT
            · cases hT
          · cases hT
        · cases hT
      · split at hT
        · rename_i d b hask
          split at hT
          · rename_i b' hlf
            split at hT
            · rename_i t e ht he'
              cases hT
              by_cases hb : b'.den Γ.ρ = true
              · exact ih n listed _ t ht Γ Ls a w he hpre (hs.know hlf hb) hcl hU hl (hv.1 hb)
              · have hb' : b'.den Γ.ρ = false := by simpa using hb
                exact ih n listed _ e he' Γ Ls a w he hpre (hs.know hlf hb') hcl hU hl (hv.2 hb')
            · cases hT
          · cases hT
        · split at hT
          · rename_i n'
            refine ⟨fun e => (by rw [hr] at e; cases e), fun i hi => ?_⟩
            have hT := allSame_mem hT _ (List.mem_map_of_mem (by rw [← hr]; exact hi))
            split at hT
            · rename_i o ho
              have hcl' := hcl.set hi
              have hlt : i < ops.size := by obtain ⟨-, o, ho, -⟩ := mem_ready.1 hi; exact (Array.getElem?_eq_some_iff.1 ho).1
              have hS : Kept cx.P F w0 Γ0 h a0 w := hU.of hcl hlt (getD_both (mem_ready.1 hi).1)
              unfold wpOp
              rw [ho]
              simp only []
              split at hT
              · rename_i hg
                rw [if_neg (by rw [gd_no hs hg]; simp)]
                cases hp : st.skip ops o with
                | none => simp [hp] at hT
                | some st' =>
                  simp [hp] at hT
                  exact ⟨fun _ => hS, ih n' _ st' T hT Γ Ls _ w he hpre (hs.skip hp) hcl' (fun _ => hS) (by rw [St.skip_lvl hp]; exact hl) hv⟩
              · rename_i hg
                rw [if_pos (gd_go hs hg)]
                refine .inl (doOpF_sound hcx hT hl hv hs fun st' T' Γ' Ls' hk' he' hpre' hl' hv' a' w' hs' => ?_)
                simp only [] at hk'
                split at hk'
                · rename_i hcov
                  have hS' : Until ops (Kept cx.P F w0 Γ0 h a0) (listed.setIfInBounds i true) w' := fun hnot => by
                    simp only [Bool.or_eq_true, Bool.and_eq_true] at hcov
                    rcases hcov with ⟨hc1, hc2⟩ | hcov
                    · have hnot := hnot hc1
                      rw [← Nat.eq_of_beq_eq_true hc2] at hnot
                      have hsz := (mem_ready.1 hi).1
                      rcases Nat.lt_or_ge i listed.size with hb | hb
                      · simp [hb] at hnot
                      · simp [Array.getElem?_eq_none hb] at hsz
                    · exact Kept.down hS hs' (he.trans he') hwf hcov
                  exact ⟨hS', ih n' _ st' T' hk' Γ' Ls' a' w' (he.trans he') (hpre.trans hpre') hs' hcl' hS' hl' hv'⟩
                · cases hk'
              · cases hT
            · cases hT
          · cases hT
theorem any_sound (hcx : CxOK cx) {id : Nat} {ops : Array Oper} {M : List Pl} {st : St} (hc : (Region.noSelect ops && (st.hide M).wf) = true) {k : St → Option Tree} {T : Tree} {f : Nat}
    (hT : execAny cx ops (st.hide M) k f ops.size (Array.replicate ops.size false) st = some T) {Γ : Env} {Ls : List (List C → Prop)} (hl : Ls.length = st.lvl) (hv : VC cx R T Γ.ρ Ls) {a : Act} {w : World} (hs : Sat cx.P F w0 Γ st a w)
    {Q : Exit → Act → World → Prop} (hk : Next cx R F w0 k Γ Ls (fun a w => Q .normal a w)) : (Code.region id ops true).wp cx.P Q a w := by
  simp only [Bool.and_eq_true] at hc
  obtain ⟨c1, c2⟩ := hc
  have hw1 : Sat cx.P F w0 Γ st a { w with drawn := w.drawn + 1 } := hs.below ⟨rfl, rfl, rfl, Nat.le_refl _, fun _ _ => rfl⟩
  refine wp_mono (wp_region_any hcx.mixed (Picks.any (execAny_sound hcx c1 c2 hk f _ _ st T hT Γ Ls a _ (Ext.refl Γ) (List.prefix_refl _) hw1 (fun j o ho hj => ?_) (fun _ => Kept.start hw1) hl hv))) ?_
  · rw [getD_replicate_false] at hj; cases hj
  rintro e a w ⟨rfl, h⟩
  exact h
end
end Go.Proofs.Ytlbgcjpkegpmlaa
