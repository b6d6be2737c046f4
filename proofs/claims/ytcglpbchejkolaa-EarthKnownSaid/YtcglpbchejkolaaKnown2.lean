/- Texts laid into one: Ei Ej Ek Eo. -/
import Derived.Test.YtcglpbchejkolaaKnown1
import Derived.Deep.LoopGhost
import Derived.Maps.AppendAt
import Derived.Laws.MakeOwn
import Derived.Laws.OwnMore
/- The engine, part 9: what a state says of a frame and a world; writes, calls. -/
namespace Go.Proofs.Ytcglpbchejkolaa
open Go.RowKit
set_option linter.unusedSimpArgs false
set_option linter.unusedVariables false

theorem Keeps.refl (F : Nat → Prop) (w : World) : Keeps F w w := ⟨rfl, rfl, rfl, Nat.le_refl _, fun _ _ => rfl⟩
theorem Keeps.trans {F : Nat → Prop} {a b c : World} (h : Keeps F a b) (k : Keeps F b c) : Keeps F a c :=
  ⟨k.os.trans h.os, k.tape.trans h.tape, k.output.trans h.output, Nat.le_trans h.size k.size, fun i hi => (k.block i hi).trans (h.block i hi)⟩
theorem Keeps.of_below {F : Nat → Prop} {w w' : World} {B : Nat} (h : Below B w w') (hF : ∀ i, F i → i < B) : Keeps F w w' := ⟨h.os, h.tape, h.output, h.size, fun i hi => h.block i (hF i hi)⟩
theorem Keeps.below {w w' : World} {B : Nat} (h : Keeps (fun i => i < B) w w') : Below B w w' := ⟨h.os, h.tape, h.output, h.size, h.block⟩
theorem below_alloc (w : World) (o : Obj) : Below w.heap.size w (w.alloc o) := (Below.refl _ _).alloc (Nat.le_refl _) o

/-- A slot's value: of this frame, or of those above. -/
def slotV (Γ : Env) (a : Act) (t : Nat) : Value := if t < 1000 then a.tmps.getD t undef else Γ.up.sl (t - 1000)
/-- Who owns a block: a known block, a slice of one's own. -/
def Hold (Γ : Env) (st : St) (s : Bool) (j b : Nat) : Prop :=
  match s with
  | true => ∃ mb, look st.mem j = some mb ∧ Γ.blk j = b
  | false => ∃ e, look st.vec j = some e ∧ (at_ Γ.ρ j).loc.ownBlock = some b
theorem Hold.mem {Γ : Env} {st : St} {j : Nat} {mb : TypeId × List Lf} (h : look st.mem j = some mb) : Hold Γ st true j (Γ.blk j) := ⟨mb, h, rfl⟩
theorem Hold.vec {Γ : Env} {st : St} {i : Nat} {e : TypeId × E} {b : Nat} (h : look st.vec i = some e) (hb : (at_ Γ.ρ i).loc.ownBlock = some b) : Hold Γ st false i b := ⟨e, h, hb⟩
theorem Hold.inv {Γ : Env} {st : St} {s : Bool} {j b : Nat} (h : Hold Γ st s j b) : (s = true ∧ ∃ mb, look st.mem j = some mb ∧ Γ.blk j = b) ∨ (s = false ∧ ∃ e, look st.vec j = some e ∧ (at_ Γ.ρ j).loc.ownBlock = some b) := by
  cases s with
  | true => exact .inl ⟨rfl, h⟩
  | false => exact .inr ⟨rfl, h⟩
theorem Own.iff {Γ : Env} {st : St} {b o : Nat} : Own Γ st b o ↔ Γ.base b o ∨ ∃ s j, Hold Γ st s j b := by
  constructor
  · rintro (h | ⟨j, mb, h, rfl⟩ | ⟨i, e, h, hb⟩)
    · exact .inl h
    · exact .inr ⟨_, _, .mem h⟩
    · exact .inr ⟨_, _, .vec h hb⟩
  · rintro (h | ⟨s, j, h⟩)
    · exact .inl h
    · rcases h.inv with ⟨rfl, mb, h', rfl⟩ | ⟨rfl, e, h', hb⟩
      · exact .inr (.inl ⟨_, _, h', rfl⟩)
      · exact .inr (.inr ⟨_, _, h', hb⟩)
structure Sat (P : Program) (F : Nat → Prop) (w0 : World) (Γ : Env) (st : St) (a : Act) (w : World) : Prop where
  slots : ∀ t sv, look st.sl t = some sv → slotV Γ a t = sv.den Γ ∧ sv.ok P w (Own Γ st) Γ
  size : a.tmps.size = st.nt
  mem : ∀ b mb, look st.mem b = some mb → Blk w (Γ.blk b) mb.1 (dens Γ mb.2) ∧ (∀ l ∈ mb.2, l.ok P w (Own Γ st) Γ) ∧ ¬ F (Γ.blk b) ∧ b < st.nb
  vec : ∀ i e, look st.vec i = some e → VecOK P w (Own Γ st) e.1 (at_ Γ.ρ i).loc (e.2.ev Γ.ρ) ∧ i < st.nx ∧ ∀ b, (at_ Γ.ρ i).loc.ownBlock = some b → ¬ F b ∧ ∀ o, ¬ Γ.base b o
  clo : ∀ i e, look st.clo i = some e → (at_ Γ.ρ i).loc = .func (.func e.1) (e.2.1.map (S0.den Γ)).toArray (e.2.2.map (Lf.den Γ)).toArray ∧ (∀ s ∈ e.2.1, s.ok P w (Own Γ st) Γ) ∧ ∀ l ∈ e.2.2, l.ok P w (Own Γ st) Γ
  inj : ∀ s j s' j' b, Hold Γ st s j b → Hold Γ st s' j' b → s = s' ∧ j = j'
  keeps : Keeps F w0 w
  fold : ∀ i, F i → i < w0.heap.size
  base : ∀ b o, Γ.base b o → b < w.heap.size
  defers : a.defers = Γ.up.ds
  len : Γ.ρ.length = st.nx
  nb : Γ.nb = st.nb
  num : Num st.bds Γ.ρ

section
variable {P : Program} {F : Nat → Prop} {w0 : World} {Γ : Env} {st : St} {a : Act} {w : World}
theorem Sat.view (h : Sat P F w0 Γ st a w) (xs : Array Operand) : View P Γ st xs a.eval w where
  slots x _ sv hx := by
    cases x with
    | tmp t =>
      have := h.slots t sv (by
        simp only [St.ev] at hx
        split at hx
        · exact hx
        · cases hx)
      refine ⟨?_, this.2⟩
      rw [← this.1]
      simp only [St.ev] at hx
      split at hx
      · rename_i hlt; unfold slotV; rw [if_pos hlt]; rfl
      · cases hx
    | const v =>
      simp only [St.ev, Option.some.injEq] at hx
      subst hx
      refine ⟨(S0.den_ofValue Γ v).symm, fun l hl => ?_⟩
      unfold S0.ofValue at hl
      split at hl
      · simp only [S0.cells, List.mem_map] at hl
        obtain ⟨v, -, rfl⟩ := hl
        unfold Lf.ofValue
        split <;> trivial
      · simp only [S0.cells, List.mem_singleton] at hl
        subst hl
        unfold Lf.ofValue
        split <;> trivial
    | global g => simp only [St.ev, Option.some.injEq] at hx; subst hx; exact ⟨rfl, one_ok trivial⟩
    | func f => simp only [St.ev, Option.some.injEq] at hx; subst hx; exact ⟨rfl, one_ok trivial⟩
  mem b mb hb := ⟨(h.mem b mb hb).1, (h.mem b mb hb).2.1⟩
  vec i e hi := (h.vec i e hi).1
  clo := h.clo
  num := h.num
theorem Sat.own_lt (h : Sat P F w0 Γ st a w) : ∀ b o, Own Γ st b o → b < w.heap.size := by
  rintro b o (hb | ⟨j, mb, hj, rfl⟩ | ⟨i, e, hi, hb⟩)
  · exact h.base b o hb
  · exact (h.mem j mb hj).1.lt
  · exact (h.vec i e hi).1.lt hb
theorem Hold.own {s : Bool} {j b : Nat} (h : Hold Γ st s j b) (o : Nat) : Own Γ st b o := Own.iff.2 (.inr ⟨s, j, h⟩)
theorem Sat.hold_lt (h : Sat P F w0 Γ st a w) {s : Bool} {j b : Nat} (hh : Hold Γ st s j b) : b < w.heap.size := h.own_lt b 0 (hh.own 0)
/-- What a holder holds, if it is the same holder in another state. -/
theorem Hold.congr {Γ Γ' : Env} {st st' : St} (hm : ∀ j mb, look st'.mem j = some mb → (∃ mb', look st.mem j = some mb') ∧ Γ'.blk j = Γ.blk j) (hv : ∀ i e, look st'.vec i = some e → (∃ e', look st.vec i = some e') ∧ at_ Γ'.ρ i = at_ Γ.ρ i)
    {s : Bool} {j b : Nat} (h : Hold Γ' st' s j b) : Hold Γ st s j b := by
  rcases h.inv with ⟨rfl, mb, h', rfl⟩ | ⟨rfl, e, h', hb⟩
  · obtain ⟨⟨mb, h1⟩, h2⟩ := hm _ _ h'; rw [h2]; exact .mem h1
  · obtain ⟨⟨e, h1⟩, h2⟩ := hv _ _ h'; rw [h2] at hb; exact .vec h1 hb
theorem getD_set {tmps : Array Value} {d t : Nat} {v : Value} (hd : d < tmps.size) : (tmps.setIfInBounds d v).getD t undef = if d = t then v else tmps.getD t undef := by
  simp only [Array.getD_eq_getD_getElem?, Array.getElem?_setIfInBounds]
  split
  · rename_i e; subst e; simp [hd]
  · rfl
theorem Act.put_tmps (a : Act) (d : Nat) (v : Value) : (a.put (some d) v).tmps = a.tmps.setIfInBounds d v := rfl
theorem slotV_put {Γ : Env} {a : Act} {d t : Nat} {v : Value} (hd : d < a.tmps.size) (hd' : d < 1000) : slotV Γ (a.put (some d) v) t = if d = t then v else slotV Γ a t := by
  unfold slotV
  rw [Act.put_tmps, getD_set hd]
  by_cases h : d = t
  · subst h; simp [hd']
  · simp [h]
/-- Only slots and what is known of numbers change. -/
theorem Sat.slots' (h : Sat P F w0 Γ st a w) {sl : List (Nat × Option SV)} {a' : Act} {bds : Bds} (hs : ∀ t sv, look sl t = some sv → slotV Γ a' t = sv.den Γ ∧ sv.ok P w (Own Γ st) Γ) (hz : a'.tmps.size = st.nt) (hd : a'.defers = Γ.up.ds) (hn : Num bds Γ.ρ) :
    Sat P F w0 Γ { st with sl := sl, bds := bds } a' w := ⟨hs, hz, h.mem, h.vec, h.clo, h.inj, h.keeps, h.fold, h.base, hd, h.len, h.nb, hn⟩
theorem Sat.put (h : Sat P F w0 Γ st a w) {dst : Option Tmp} {sv : SV} {st' : St} (hp : st.put dst (some sv) = some st') (hok : sv.ok P w (Own Γ st) Γ) : Sat P F w0 Γ st' (a.put dst (sv.den Γ)) w := by
  cases dst with
  | none => simp only [St.put, Option.some.injEq] at hp; subst hp; exact h
  | some d =>
    simp only [St.put] at hp
    split at hp
    · rename_i hd
      cases hp
      refine h.slots' (fun t s hs => ?_) (by simp [Act.put, h.size]) h.defers h.num
      rw [slotV_put (by rw [h.size]; exact hd.1) hd.2]
      simp only [look] at hs
      split at hs
      · rename_i e; cases hs; rw [if_pos e]; exact ⟨rfl, hok⟩
      · rename_i e; rw [if_neg e]; exact h.slots t s hs
    · cases hp
theorem Sat.drop (h : Sat P F w0 Γ st a w) {dst : Option Tmp} {st' : St} (hp : st.put dst none = some st') (v : Value) : Sat P F w0 Γ st' (a.put dst v) w := by
  cases dst with
  | none => simp only [St.put, Option.some.injEq] at hp; subst hp; exact h
  | some d =>
    simp only [St.put] at hp
    split at hp
    · rename_i hd
      cases hp
      refine h.slots' (fun t s hs => ?_) (by simp [Act.put, h.size]) h.defers h.num
      rw [slotV_put (by rw [h.size]; exact hd.1) hd.2]
      simp only [look] at hs
      split at hs
      · cases hs
      · rename_i e; rw [if_neg e]; exact h.slots t s hs
    · cases hp
theorem St.put_same {dst : Option Tmp} {sv : Option SV} {st' : St} (hp : st.put dst sv = some st') : st'.lvl = st.lvl ∧ st'.mem = st.mem ∧ st'.nb = st.nb ∧ st'.vec = st.vec ∧ st'.clo = st.clo ∧ st'.nx = st.nx ∧ st'.nt = st.nt ∧ st'.path = st.path := by
  cases dst with
  | none => simp only [St.put, Option.some.injEq] at hp; subst hp; exact ⟨rfl, rfl, rfl, rfl, rfl, rfl, rfl, rfl⟩
  | some d => simp only [St.put] at hp; split at hp <;> cases hp; exact ⟨rfl, rfl, rfl, rfl, rfl, rfl, rfl, rfl⟩
theorem St.put_lvl {dst : Option Tmp} {sv : Option SV} {st' : St} (hp : st.put dst sv = some st') : st'.lvl = st.lvl := (St.put_same hp).1
theorem St.put_mem {dst : Option Tmp} {sv : Option SV} {st' : St} (hp : st.put dst sv = some st') : st'.mem = st.mem := (St.put_same hp).2.1
theorem St.put_nb {dst : Option Tmp} {sv : Option SV} {st' : St} (hp : st.put dst sv = some st') : st'.nb = st.nb := (St.put_same hp).2.2.1
theorem learnAll_num : ∀ (l : List B) (bd : Bds) (n : Nat), n ≤ Γ.ρ.length → Num bd Γ.ρ → Obs Γ.ρ l → Num (l.foldl (fun bd b => learn n bd b true) bd) Γ.ρ
  | [], _, _, _, h, _ => h
  | b :: l, bd, n, hn, h, ho => learnAll_num l _ n hn ⟨learn_ok h.len hn b bd true h.bds (ho b (by simp)), h.len⟩ fun x hx => ho x (by simp [hx])
theorem Sat.learn (h : Sat P F w0 Γ st a w) {l : List B} (ho : Obs Γ.ρ l) : Sat P F w0 Γ (st.learnAll l) a w :=
  h.slots' h.slots h.size h.defers (learnAll_num l _ _ (by rw [h.len]; exact Nat.le_refl _) h.num ho)
theorem Sat.repath (h : Sat P F w0 Γ st a w) (p : Nat) : Sat P F w0 Γ { st with path := p } a w :=
  ⟨h.slots, h.size, h.mem, h.vec, h.clo, h.inj, h.keeps, h.fold, h.base, h.defers, h.len, h.nb, h.num⟩
theorem Sat.relvl (h : Sat P F w0 Γ st a w) (n : Nat) : Sat P F w0 Γ { st with lvl := n } a w :=
  ⟨h.slots, h.size, h.mem, h.vec, h.clo, h.inj, h.keeps, h.fold, h.base, h.defers, h.len, h.nb, h.num⟩

/-! Γ grows -/
theorem look_wf {α : Type} {f : Nat → Option α → Bool} : ∀ {l : List (Nat × Option α)} {t : Nat} {v : α}, l.all (fun p => f p.1 p.2) = true → look l t = some v → f t (some v) = true
  | [], _, _, _, h => by cases h
  | (k, u) :: l, t, v, ha, h => by
    simp only [List.all_cons, Bool.and_eq_true] at ha
    simp only [look] at h
    split at h
    · rename_i e; subst e; subst h; exact ha.1
    · exact look_wf ha.2 h
theorem Sat.wf_slot (h : Sat P F w0 Γ st a w) (hw : st.wf = true) {t : Nat} {sv : SV} (hs : look st.sl t = some sv) : sv.wf Γ.ρ.length Γ.nb = true := by
  simp only [St.wf, Bool.and_eq_true] at hw
  rw [h.len, h.nb]
  exact look_wf (f := fun _ => wfS st.nx st.nb) hw.1.1.1 hs
theorem Sat.wf_mem (h : Sat P F w0 Γ st a w) (hw : st.wf = true) {b : Nat} {mb : TypeId × List Lf} (hs : look st.mem b = some mb) : mb.2.all (Lf.wf Γ.ρ.length Γ.nb) = true := by
  simp only [St.wf, Bool.and_eq_true] at hw
  rw [h.len, h.nb]
  exact look_wf (f := fun _ => wfM st.nx st.nb) hw.1.1.2 hs
theorem Sat.wf_vec (h : Sat P F w0 Γ st a w) (hw : st.wf = true) {i : Nat} {e : TypeId × E} (hs : look st.vec i = some e) : e.2.wf Γ.ρ.length = true := by
  simp only [St.wf, Bool.and_eq_true] at hw
  rw [h.len]
  have := look_wf (f := wfV st.nx) hw.1.2 hs
  simp only [wfV, Bool.and_eq_true] at this
  exact this.2
theorem Sat.wf_clo (h : Sat P F w0 Γ st a w) (hw : st.wf = true) {i : Nat} {e : Nat × List S0 × List Lf} (hs : look st.clo i = some e) : i < Γ.ρ.length ∧ e.2.1.all (S0.wf Γ.ρ.length Γ.nb) = true ∧ e.2.2.all (Lf.wf Γ.ρ.length Γ.nb) = true := by
  simp only [St.wf, Bool.and_eq_true] at hw
  rw [h.len, h.nb]
  have := look_wf (f := wfC st.nx st.nb) hw.2 hs
  simp only [wfC, Bool.and_eq_true, Nat.blt_eq] at this
  exact ⟨this.1.1, this.1.2, this.2⟩
theorem S0.ok_keep {P : Program} {w w' : World} {Own Own' : Nat → Nat → Prop} {Γ : Env} {s : S0} (h : s.ok P w Own Γ) (hs : w.heap.size ≤ w'.heap.size)
    (hh : ∀ b o, b < w.heap.size → ¬ Own b o → w'.cell? ⟨b, o, none⟩ = w.cell? ⟨b, o, none⟩ ∧ ¬ Own' b o) : s.ok P w' Own' Γ := fun l hl => Lf.ok_keep (h l hl) hs hh
theorem S0.ok_ext {P : Program} {w : World} {Own : Nat → Nat → Prop} {Γ Γ' : Env} (he : Ext Γ Γ') {s : S0} (hw : s.wf Γ.ρ.length Γ.nb = true) (h : s.ok P w Own Γ) : s.ok P w Own Γ' :=
  SV.ok_ext he (l := .one s) hw h
/-- All that is known stays, in a world where nothing was turned but what is one's own. -/
structure Turn (w w' : World) (O O' : Nat → Nat → Prop) : Prop where
  size : w.heap.size ≤ w'.heap.size
  keep : ∀ b o, b < w.heap.size → ¬ O b o → w'.cell? ⟨b, o, none⟩ = w.cell? ⟨b, o, none⟩ ∧ ¬ O' b o
theorem Sat.slots_keep (h : Sat P F w0 Γ st a w) {w' : World} {O' : Nat → Nat → Prop} (ht : Turn w w' (Own Γ st) O') : ∀ t sv, look st.sl t = some sv → slotV Γ a t = sv.den Γ ∧ sv.ok P w' O' Γ :=
  fun t sv hs => ⟨(h.slots t sv hs).1, SV.ok_keep (h.slots t sv hs).2 ht.size ht.keep⟩
theorem Sat.clo_keep (h : Sat P F w0 Γ st a w) {w' : World} {O' : Nat → Nat → Prop} (ht : Turn w w' (Own Γ st) O') : ∀ i e, look st.clo i = some e → (at_ Γ.ρ i).loc = .func (.func e.1) (e.2.1.map (S0.den Γ)).toArray (e.2.2.map (Lf.den Γ)).toArray ∧ (∀ s ∈ e.2.1, s.ok P w' O' Γ) ∧ ∀ l ∈ e.2.2, l.ok P w' O' Γ :=
  fun i e hi => ⟨(h.clo i e hi).1, fun s hs => S0.ok_keep ((h.clo i e hi).2.1 s hs) ht.size ht.keep, fun l hl => Lf.ok_keep ((h.clo i e hi).2.2 l hl) ht.size ht.keep⟩
theorem Sat.slots_ext (h : Sat P F w0 Γ st a w) (hw : st.wf = true) {Γ' : Env} (he : Ext Γ Γ') {w' : World} {O' : Nat → Nat → Prop} (ht : Turn w w' (Own Γ st) O') : ∀ t sv, look st.sl t = some sv → slotV Γ' a t = sv.den Γ' ∧ sv.ok P w' O' Γ' := fun t sv hs => by
  have hwf := h.wf_slot hw hs
  obtain ⟨h1, h2⟩ := h.slots_keep ht t sv hs
  refine ⟨?_, SV.ok_ext he hwf h2⟩
  rw [SV.den_ext he sv hwf, ← h1]
  unfold slotV; rw [he.up]
theorem Sat.clo_ext (h : Sat P F w0 Γ st a w) (hw : st.wf = true) {Γ' : Env} (he : Ext Γ Γ') {w' : World} {O' : Nat → Nat → Prop} (ht : Turn w w' (Own Γ st) O') : ∀ i e, look st.clo i = some e → (at_ Γ'.ρ i).loc = .func (.func e.1) (e.2.1.map (S0.den Γ')).toArray (e.2.2.map (Lf.den Γ')).toArray ∧ (∀ s ∈ e.2.1, s.ok P w' O' Γ') ∧ ∀ l ∈ e.2.2, l.ok P w' O' Γ' := fun i e hi => by
  obtain ⟨k1, k2, k3⟩ := h.wf_clo hw hi
  obtain ⟨h1, h2, h3⟩ := h.clo_keep ht i e hi
  obtain ⟨m, hm⟩ := he.ρ
  refine ⟨?_, fun s hs => S0.ok_ext he (List.all_eq_true.1 k2 s hs) (h2 s hs), fun l hl => Lf.ok_ext he (List.all_eq_true.1 k3 l hl) (h3 l hl)⟩
  rw [hm, at_ext k1, h1, List.map_congr_left fun s hs => S0.den_ext he s (List.all_eq_true.1 k2 s hs), List.map_congr_left fun l hl => Lf.den_ext he l (List.all_eq_true.1 k3 l hl)]
theorem Sat.vec_at (h : Sat P F w0 Γ st a w) {Γ' : Env} (he : Ext Γ Γ') {i : Nat} {e : TypeId × E} (hi : look st.vec i = some e) : at_ Γ'.ρ i = at_ Γ.ρ i := by
  obtain ⟨m, hm⟩ := he.ρ
  rw [hm, at_ext (by rw [h.len]; exact (h.vec i e hi).2.1)]
theorem Sat.vec_ext (h : Sat P F w0 Γ st a w) (hw : st.wf = true) {Γ' : Env} (he : Ext Γ Γ') {w' : World} {O' : Nat → Nat → Prop} (ht : Turn w w' (Own Γ st) O') {i : Nat} {e : TypeId × E} (hi : look st.vec i = some e) (hb : ∀ b, (at_ Γ.ρ i).loc.ownBlock = some b → w'.heap[b]? = w.heap[b]?) :
    VecOK P w' O' e.1 (at_ Γ'.ρ i).loc (e.2.ev Γ'.ρ) := by
  rw [h.vec_at he hi]
  obtain ⟨m, hm⟩ := he.ρ
  rw [hm, E.ev_ext _ (h.wf_vec hw hi)]
  exact (h.vec i e hi).1.keep ht.size ht.keep hb

theorem Sat.fresh (h : Sat P F w0 Γ st a w) {t : TypeId} {cs : List Lf} {st' : St} (hf : st.fresh t cs = some st') (hok : ∀ l ∈ cs, l.ok P w (Own Γ st) Γ) :
    ∃ Γ', Ext Γ Γ' ∧ Γ'.ρ = Γ.ρ ∧ Γ'.blk st.nb = w.heap.size ∧ Sat P F w0 Γ' st' a (w.alloc (.cells (dens Γ cs) t)) ∧ st'.lvl = st.lvl := by
  unfold St.fresh at hf
  split at hf
  · rename_i hc
    simp only [Bool.and_eq_true] at hc
    obtain ⟨⟨hw, hcw⟩, hfl⟩ := hc
    cases hf
    let Γ' : Env := { Γ with blk := fun b => if b = st.nb then w.heap.size else Γ.blk b, nb := st.nb + 1 }
    have he : Ext Γ Γ' := ⟨⟨[], by simp [Γ']⟩, fun b hb => by simp [Γ']; intro e; rw [h.nb] at hb; omega, by simp [Γ', h.nb], rfl, rfl⟩
    have hbel := below_alloc w (.cells (dens Γ cs) t)
    have hs' : w.heap.size ≤ (w.alloc (.cells (dens Γ cs) t)).heap.size := hbel.size
    have hblk : ∀ j mb, look st.mem j = some mb → Γ'.blk j = Γ.blk j := fun j mb hj => he.blk j (by rw [h.nb]; exact (h.mem j mb hj).2.2.2)
    have hhold : ∀ s j b, Hold Γ' { st with mem := (st.nb, some (t, cs)) :: st.mem, nb := st.nb + 1 } s j b → Hold Γ st s j b ∨ (s = true ∧ j = st.nb ∧ b = w.heap.size) := by
      intro s j b hh
      rcases hh.inv with ⟨rfl, mb, hj, rfl⟩ | ⟨rfl, e, hi, hb⟩
      · simp only [look] at hj
        split at hj
        · rename_i e; subst e; right; simp [Γ']
        · left; rw [hblk _ _ hj]; exact .mem hj
      · exact .inl (.vec (Γ := Γ) hi hb)
    have hown : ∀ b o, Own Γ' { st with mem := (st.nb, some (t, cs)) :: st.mem, nb := st.nb + 1 } b o → Own Γ st b o ∨ b = w.heap.size := by
      intro b o hb
      rcases Own.iff.1 hb with hb | ⟨s, j, hh⟩
      · exact .inl (.inl hb)
      · rcases hhold s j b hh with hh | hh
        · exact .inl (hh.own o)
        · exact .inr hh.2.2
    have ht : Turn w (w.alloc (.cells (dens Γ cs) t)) (Own Γ st) (Own Γ' { st with mem := (st.nb, some (t, cs)) :: st.mem, nb := st.nb + 1 }) :=
      ⟨hs', fun b o hb hno => ⟨World.cell?_of_block (hbel.block b hb), fun ho => (hown b o ho).elim hno (fun e => by omega)⟩⟩
    refine ⟨Γ', he, rfl, by simp [Γ'], ⟨h.slots_ext hw he ht, h.size, fun b mb hb => ?_, fun i e hi => ⟨h.vec_ext hw he ht hi fun b hb => hbel.block b ((h.vec i e hi).1.lt hb), (h.vec i e hi).2⟩, h.clo_ext hw he ht, fun s j s' j' b h1 h2 => ?_, h.keeps.trans (Keeps.of_below hbel (fun i hi => ?_)), h.fold, fun b o hb => Nat.lt_of_lt_of_le (h.base b o hb) hs', h.defers, h.len, by simp [Γ'], h.num⟩, rfl⟩
    · simp only [look] at hb
      split at hb
      · rename_i e
        subst e
        cases hb
        have hcw' : cs.all (Lf.wf Γ.ρ.length Γ.nb) = true := by rw [h.len, h.nb]; exact hcw
        simp only [Γ', if_true]
        refine ⟨?_, fun l hl => Lf.ok_ext he (List.all_eq_true.1 hcw' l hl) (Lf.ok_keep (hok l hl) ht.size ht.keep), fun hF => ?_, by simp⟩
        · have := dens_ext he cs hcw'
          rw [show dens _ cs = dens Γ cs from this]
          exact Blk.new w t _
        · have := h.fold _ hF; have := h.keeps.size; omega
      · rename_i e
        obtain ⟨h1, h2, h3, h4⟩ := h.mem b mb hb
        have hwf := h.wf_mem hw hb
        rw [hblk b mb hb, dens_ext he _ hwf]
        exact ⟨h1.alloc _, fun l hl => Lf.ok_ext he (List.all_eq_true.1 hwf l hl) (Lf.ok_keep (h2 l hl) ht.size ht.keep), h3, Nat.lt_succ_of_lt h4⟩
    · rcases hhold _ _ _ h1 with h1 | h1 <;> rcases hhold _ _ _ h2 with h2 | h2
      · exact h.inj _ _ _ _ _ h1 h2
      · have := h.hold_lt h1; omega
      · have := h.hold_lt h2; omega
      · exact ⟨h1.1.trans h2.1.symm, h1.2.1.trans h2.2.1.symm⟩
    · have := h.fold i hi; have := h.keeps.size; omega
  · cases hf

theorem SV.ok_addO {P : Program} {w : World} {O : Nat → Nat → Prop} {Γ : Env} {ob : Nat → Prop} {sv : SV} (h : sv.ok P w O (Γ.addO ob)) : sv.ok P w O Γ := by
  cases sv with
  | one s => exact fun l hl => by have := h l hl; cases l <;> exact this
  | tup ss => exact fun s hs l hl => by have := h s hs l hl; cases l <;> exact this
  | fn f ls => exact fun l hl => by have := h l hl; cases l <;> exact this
theorem SV.ok_addO' {P : Program} {w : World} {O : Nat → Nat → Prop} {Γ : Env} {ob : Nat → Prop} {sv : SV} (h : sv.ok P w O Γ) : sv.ok P w O (Γ.addO ob) := by
  cases sv with
  | one s => exact fun l hl => by have := h l hl; cases l <;> exact this
  | tup ss => exact fun s hs l hl => by have := h s hs l hl; cases l <;> exact this
  | fn f ls => exact fun l hl => by have := h l hl; cases l <;> exact this
theorem Lf.ok_addO {P : Program} {w : World} {O : Nat → Nat → Prop} {Γ : Env} {ob : Nat → Prop} {l : Lf} : l.ok P w O (Γ.addO ob) ↔ l.ok P w O Γ := by cases l <;> exact Iff.rfl
theorem Lf.den_addO (Γ : Env) (ob : Nat → Prop) (l : Lf) : l.den (Γ.addO ob) = l.den Γ := by cases l <;> rfl
theorem dens_addO (Γ : Env) (ob : Nat → Prop) (l : List Lf) : dens (Γ.addO ob) l = dens Γ l := by
  unfold dens; rw [List.map_congr_left fun x _ => Lf.den_addO Γ ob x]
theorem Hold.addO {ob : Nat → Prop} {s : Bool} {j b : Nat} (h : Hold (Γ.addO ob) st s j b) : Hold Γ st s j b := by
  cases s <;> exact h
theorem Hold.toO {ob : Nat → Prop} {s : Bool} {j b : Nat} (h : Hold Γ st s j b) : Hold (Γ.addO ob) st s j b := by
  cases s <;> exact h
/-- A block that was made some time ago is taken up. -/
theorem Sat.adoptM {b : Nat} {ob : Nat → Prop} (h : Sat P F w0 (Γ.addO ob) st a w) (hob : ob b) {t : TypeId} {cs : List Lf} (hw : st.wf = true) (hcw : cs.all (Lf.wf st.nx st.nb) = true) (hb : Blk w b t (dens Γ cs)) (hge : w0.heap.size ≤ b)
    (hne : ∀ s j, ¬ Hold Γ st s j b) (hcs : ∀ l ∈ cs, l.ok P w (Own (Γ.addO ob) st) Γ) :
    ∃ Γ', Ext Γ Γ' ∧ Γ'.ρ = Γ.ρ ∧ Γ'.blk st.nb = b ∧ (∀ s j x, Hold Γ' { st with mem := (st.nb, some (t, cs)) :: st.mem, nb := st.nb + 1 } s j x → Hold Γ st s j x ∨ x = b) ∧ Sat P F w0 (Γ'.addO fun x => ob x ∧ x ≠ b) { st with mem := (st.nb, some (t, cs)) :: st.mem, nb := st.nb + 1 } a w := by
  let Γ' : Env := { Γ with blk := fun x => if x = st.nb then b else Γ.blk x, nb := st.nb + 1 }
  have hnb : Γ.nb = st.nb := h.nb
  have hlen : Γ.ρ.length = st.nx := h.len
  have he : Ext Γ Γ' := ⟨⟨[], by simp [Γ']⟩, fun x hx => by simp [Γ']; intro e; rw [hnb] at hx; omega, by simp [Γ', hnb], rfl, rfl⟩
  have hblk : ∀ j mb, look st.mem j = some mb → Γ'.blk j = Γ.blk j := fun j mb hj => he.blk j (by rw [hnb]; exact (h.mem j mb hj).2.2.2)
  have hhold : ∀ s j x, Hold Γ' { st with mem := (st.nb, some (t, cs)) :: st.mem, nb := st.nb + 1 } s j x → Hold Γ st s j x ∨ (s = true ∧ j = st.nb ∧ x = b) := by
    intro s j x hh
    rcases hh.inv with ⟨rfl, mb, hj, rfl⟩ | ⟨rfl, e, hi, hb⟩
    · simp only [look] at hj
      split at hj
      · rename_i e; subst e; right; simp [Γ']
      · left; rw [hblk _ _ hj]; exact .mem hj
    · exact .inl (.vec (Γ := Γ) hi hb)
  have hown : ∀ x o, Own (Γ'.addO fun x => ob x ∧ x ≠ b) { st with mem := (st.nb, some (t, cs)) :: st.mem, nb := st.nb + 1 } x o → Own (Γ.addO ob) st x o := by
    intro x o hx
    rcases Own.iff.1 hx with hx | ⟨s, j, hh⟩
    · exact .inl (Or.imp id And.left hx)
    · rcases hhold s j x hh.addO with hh | hh
      · exact Hold.own (Γ := Γ.addO ob) hh.toO o
      · exact .inl (.inr (by rw [hh.2.2]; exact hob))
  have ht : Turn w w (Own (Γ.addO ob) st) (Own (Γ'.addO fun x => ob x ∧ x ≠ b) { st with mem := (st.nb, some (t, cs)) :: st.mem, nb := st.nb + 1 }) := ⟨Nat.le_refl _, fun x o _ hno => ⟨rfl, fun ho => hno (hown x o ho)⟩⟩
  refine ⟨Γ', he, rfl, by simp [Γ'], fun s j x hh => (hhold s j x hh).imp id fun e => e.2.2, ⟨fun t' sv hsv => ?_, h.size, fun x mb hx => ?_, fun i e hi => ⟨?_, (h.vec i e hi).2.1, fun b' hb' => ⟨((h.vec i e hi).2.2 b' hb').1, fun o ho => ((h.vec i e hi).2.2 b' hb').2 o (Or.imp id And.left ho)⟩⟩, fun i e hi => ?_, fun s j s' j' x h1 h2 => ?_, h.keeps, h.fold, fun x o hx => h.base x o (Or.imp id And.left hx), h.defers, h.len, rfl, h.num⟩⟩
  · have hwf : sv.wf Γ.ρ.length Γ.nb = true := h.wf_slot hw hsv
    obtain ⟨h1, h2⟩ := h.slots_keep ht t' sv hsv
    rw [SV.den_addO] at h1
    exact ⟨by rw [SV.den_addO, SV.den_ext he sv hwf, ← h1]; rfl, SV.ok_addO' (SV.ok_ext he hwf (SV.ok_addO h2))⟩
  · simp only [look] at hx
    split at hx
    · rename_i e
      subst e
      cases hx
      have hcw' : cs.all (Lf.wf Γ.ρ.length Γ.nb) = true := by rw [hlen, hnb]; exact hcw
      rw [dens_addO, show (Γ'.addO fun x => ob x ∧ x ≠ b).blk st.nb = b from by simp [Γ', Env.addO]]
      refine ⟨?_, fun l hl => Lf.ok_addO.2 ((Lf.ok_ext he (List.all_eq_true.1 hcw' l hl) (hcs l hl)).anti' hown), fun hF => ?_, by simp⟩
      · rw [show dens Γ' cs = dens Γ cs from dens_ext he cs hcw']
        exact hb
      · have := h.fold _ hF; omega
    · rename_i e
      obtain ⟨h1, h2, h3, h4⟩ := h.mem x mb hx
      have hwf : mb.2.all (Lf.wf Γ.ρ.length Γ.nb) = true := h.wf_mem hw hx
      rw [dens_addO] at h1
      rw [show (Γ'.addO fun x => ob x ∧ x ≠ b).blk x = Γ.blk x from hblk x mb hx, dens_addO, dens_ext he _ hwf]
      exact ⟨h1, fun l hl => Lf.ok_addO.2 (Lf.ok_ext he (List.all_eq_true.1 hwf l hl) (Lf.ok_addO.1 (h2 l hl |>.anti' hown))), h3, Nat.lt_succ_of_lt h4⟩
  · exact (h.vec i e hi).1.anti hown
  · obtain ⟨k1, k2, k3⟩ := h.wf_clo hw hi
    obtain ⟨h1, h2, h3⟩ := h.clo_keep ht i e hi
    refine ⟨?_, fun s hs => SV.ok_addO' (sv := .one s) (S0.ok_ext he (List.all_eq_true.1 k2 s hs) (SV.ok_addO (sv := .one s) (h2 s hs))), fun l hl => Lf.ok_addO.2 (Lf.ok_ext he (List.all_eq_true.1 k3 l hl) (Lf.ok_addO.1 (h3 l hl)))⟩
    have h1' : (at_ Γ.ρ i).loc = _ := h1
    rw [show at_ (Γ'.addO fun x => ob x ∧ x ≠ b).ρ i = at_ Γ.ρ i from rfl, h1', List.map_congr_left fun s hs => (S0.den_addO Γ ob s).trans ((S0.den_addO Γ' (fun x => ob x ∧ x ≠ b) s).trans (S0.den_ext he s (List.all_eq_true.1 k2 s hs))).symm, List.map_congr_left fun l hl => (Lf.den_addO Γ ob l).trans ((Lf.den_addO Γ' (fun x => ob x ∧ x ≠ b) l).trans (Lf.den_ext he l (List.all_eq_true.1 k3 l hl))).symm]
  · rcases hhold _ _ _ h1.addO with h1 | h1 <;> rcases hhold _ _ _ h2.addO with h2 | h2
    · refine h.inj s j s' j' x ?_ ?_
      · exact h1.toO
      · exact h2.toO
    · exact absurd (h2.2.2 ▸ h1) (hne _ _)
    · exact absurd (h1.2.2 ▸ h2) (hne _ _)
    · exact ⟨h1.1.trans h2.1.symm, h1.2.1.trans h2.2.1.symm⟩

theorem Sat.adopt' {b : Nat} (h : Sat P F w0 (Γ.addO (· = b)) st a w) {t : TypeId} {cs : List Lf} (hw : st.wf = true) (hcw : cs.all (Lf.wf st.nx st.nb) = true) (hb : Blk w b t (dens Γ cs)) (hge : w0.heap.size ≤ b)
    (hne : ∀ s j, ¬ Hold Γ st s j b) (hcs : ∀ l ∈ cs, l.ok P w (Own (Γ.addO (· = b)) st) Γ) :
    ∃ Γ', Ext Γ Γ' ∧ Γ'.ρ = Γ.ρ ∧ Γ'.blk st.nb = b ∧ Sat P F w0 Γ' { st with mem := (st.nb, some (t, cs)) :: st.mem, nb := st.nb + 1 } a w := by
  obtain ⟨Γ', e1, e2, e3, -, e4⟩ := h.adoptM rfl hw hcw hb hge hne hcs
  rw [Env.addO_no (fun x hx => hx.2 hx.1)] at e4
  exact ⟨Γ', e1, e2, e3, e4⟩
theorem Sat.adoptS {b : Nat} {ob : Nat → Prop} (h : Sat P F w0 (Γ.addO ob) st a w) (hob : ob b) {t : TypeId} {cs : List Lf} {st' : St} (hf : st.fresh t cs = some st') (hb : Blk w b t (dens Γ cs)) (hge : w0.heap.size ≤ b)
    (hne : ∀ s j, ¬ Hold Γ st s j b) (hcs : ∀ l ∈ cs, l.ok P w (Own (Γ.addO ob) st) Γ) :
    ∃ Γ', Ext Γ Γ' ∧ Γ'.ρ = Γ.ρ ∧ Γ'.blk st.nb = b ∧ (∀ s j x, Hold Γ' st' s j x → Hold Γ st s j x ∨ x = b) ∧ Sat P F w0 (Γ'.addO fun x => ob x ∧ x ≠ b) st' a w ∧ st'.lvl = st.lvl := by
  unfold St.fresh at hf
  split at hf
  · rename_i hc
    simp only [Bool.and_eq_true] at hc
    cases hf
    obtain ⟨Γ', e1, e2, e3, e5, e4⟩ := h.adoptM hob hc.1.1 hc.1.2 hb hge hne hcs
    exact ⟨Γ', e1, e2, e3, e5, e4, rfl⟩
  · cases hf
/-- A call that leaves all that was there as it was. -/
theorem Sat.below (h : Sat P F w0 Γ st a w) {w' : World} (hb : Below w.heap.size w w') : Sat P F w0 Γ st a w' := by
  have ht : Turn w w' (Own Γ st) (Own Γ st) := ⟨hb.size, fun b o hb' hno => ⟨World.cell?_of_block (hb.block b hb'), hno⟩⟩
  refine ⟨h.slots_keep ht, h.size, fun b mb hm => ?_, fun i e hi => ⟨(h.vec i e hi).1.keep ht.size ht.keep fun b hb' => hb.block b ((h.vec i e hi).1.lt hb'), (h.vec i e hi).2⟩, h.clo_keep ht, h.inj, h.keeps.trans (Keeps.of_below hb fun i hi => ?_), h.fold, fun b o hb' => Nat.lt_of_lt_of_le (h.base b o hb') hb.size, h.defers, h.len, h.nb, h.num⟩
  · obtain ⟨h1, h2, h3, h4⟩ := h.mem b mb hm
    exact ⟨h1.below hb, fun l hl => Lf.ok_keep (h2 l hl) ht.size ht.keep, h3, h4⟩
  · have := h.fold i hi; have := h.keeps.size; omega
/-- New variables. -/
theorem Sat.grow (h : Sat P F w0 Γ st a w) (hw : st.wf = true) {rs : List C} (hs : Smalls (Γ.ρ ++ rs)) :
    Sat P F w0 { Γ with ρ := Γ.ρ ++ rs } { st with nx := st.nx + rs.length } a w := by
  have he : Ext Γ { Γ with ρ := Γ.ρ ++ rs } := ⟨⟨rs, rfl⟩, fun _ _ => rfl, Nat.le_refl _, rfl, rfl⟩
  have hhold : ∀ s j b, Hold { Γ with ρ := Γ.ρ ++ rs } { st with nx := st.nx + rs.length } s j b → Hold Γ st s j b := fun s j b hh =>
    Hold.congr (Γ := Γ) (st := st) (Γ' := { Γ with ρ := Γ.ρ ++ rs }) (st' := { st with nx := st.nx + rs.length }) (fun j mb hj => ⟨⟨mb, hj⟩, rfl⟩) (fun i e hi => ⟨⟨e, hi⟩, h.vec_at he hi⟩) hh
  have hown : ∀ b o, Own { Γ with ρ := Γ.ρ ++ rs } { st with nx := st.nx + rs.length } b o → Own Γ st b o := fun b o hb => by
    rcases Own.iff.1 hb with hb | ⟨s, j, hh⟩
    · exact .inl hb
    · exact (hhold s j b hh).own o
  have ht : Turn w w (Own Γ st) (Own { Γ with ρ := Γ.ρ ++ rs } { st with nx := st.nx + rs.length }) := ⟨Nat.le_refl _, fun b o _ hno => ⟨rfl, fun ho => hno (hown b o ho)⟩⟩
  refine ⟨h.slots_ext hw he ht, h.size, fun b mb hm => ?_, fun i e hi => ⟨h.vec_ext hw he ht hi fun _ _ => rfl, Nat.lt_of_lt_of_le (h.vec i e hi).2.1 (Nat.le_add_right _ _), by rw [h.vec_at he hi]; exact (h.vec i e hi).2.2⟩, h.clo_ext hw he ht, fun s j s' j' b h1 h2 => h.inj s j s' j' b (hhold _ _ _ h1) (hhold _ _ _ h2), h.keeps, h.fold, h.base, h.defers, by simp [h.len], h.nb, ⟨Bds.ok_ext h.num.bds, hs⟩⟩
  obtain ⟨h1, h2, h3, h4⟩ := h.mem b mb hm
  have hwf := h.wf_mem hw hm
  rw [dens_ext he _ hwf]
  exact ⟨h1, fun l hl => Lf.ok_ext he (List.all_eq_true.1 hwf l hl) (Lf.ok_keep (h2 l hl) ht.size ht.keep), h3, h4⟩
/-- A block of one's own holds something new; all else is as it was. -/
theorem Sat.mod (h : Sat P F w0 Γ st a w) {b : Nat} {mb : TypeId × List Lf} (hb : look st.mem b = some mb) {w' : World} (hk : Keeps (fun i => i < w.heap.size ∧ i ≠ Γ.blk b) w w') {cs : List Lf}
    (hnew : Blk w' (Γ.blk b) mb.1 (dens Γ cs)) (hok : ∀ l ∈ cs, l.ok P w' (Own Γ st) Γ) : Sat P F w0 Γ { st with mem := (b, some (mb.1, cs)) :: st.mem } a w' := by
  obtain ⟨m1, m2, m3, m4⟩ := h.mem b mb hb
  have hhold : ∀ s j x, Hold Γ { st with mem := (b, some (mb.1, cs)) :: st.mem } s j x → Hold Γ st s j x := fun s j x hh =>
    Hold.congr (Γ := Γ) (st := st) (Γ' := Γ) (st' := { st with mem := (b, some (mb.1, cs)) :: st.mem }) (fun j mj hj => ⟨by
      simp only [look] at hj
      split at hj
      · rename_i e; subst e; exact ⟨mb, hb⟩
      · exact ⟨mj, hj⟩, rfl⟩) (fun i e hi => ⟨⟨e, hi⟩, rfl⟩) hh
  have hown : ∀ k o, Own Γ { st with mem := (b, some (mb.1, cs)) :: st.mem } k o → Own Γ st k o := fun k o hk => by
    rcases Own.iff.1 hk with hk | ⟨s, j, hh⟩
    · exact .inl hk
    · exact (hhold s j k hh).own o
  have hbh : Hold Γ st true b (Γ.blk b) := .mem hb
  have ht : Turn w w' (Own Γ st) (Own Γ { st with mem := (b, some (mb.1, cs)) :: st.mem }) :=
    ⟨hk.size, fun k o hlt hno => ⟨World.cell?_of_block (hk.block k ⟨hlt, fun e => hno (e ▸ hbh.own o)⟩), fun ho => hno (hown k o ho)⟩⟩
  refine ⟨h.slots_keep ht, h.size, fun c mc hm => ?_, fun i e hi => ⟨(h.vec i e hi).1.keep ht.size ht.keep fun b' hb' => hk.block b' ⟨(h.vec i e hi).1.lt hb', fun e' => by
      have := (h.inj _ _ _ _ _ (Hold.vec (Γ := Γ) hi hb') (e' ▸ hbh)).1; cases this⟩, (h.vec i e hi).2⟩, h.clo_keep ht, fun s j s' j' x h1 h2 => h.inj _ _ _ _ _ (hhold _ _ _ h1) (hhold _ _ _ h2), h.keeps.trans ⟨hk.os, hk.tape, hk.output, hk.size, fun i hi => hk.block i ⟨?_, fun e => m3 (e ▸ hi)⟩⟩, h.fold, fun b' o hb' => Nat.lt_of_lt_of_le (h.base b' o hb') hk.size, h.defers, h.len, h.nb, h.num⟩
  · simp only [look] at hm
    split at hm
    · rename_i e
      subst e
      cases hm
      exact ⟨hnew, fun l hl => (hok l hl).anti' hown, m3, m4⟩
    · rename_i e
      obtain ⟨h1, h2, h3, h4⟩ := h.mem c mc hm
      refine ⟨?_, fun l hl => Lf.ok_keep (h2 l hl) ht.size ht.keep, h3, h4⟩
      exact (hk.block (Γ.blk c) ⟨h1.lt, fun e' => e (h.inj _ _ _ _ _ (Hold.mem (Γ := Γ) hm) (e' ▸ hbh)).2.symm⟩).trans h1
  · have := h.fold i hi; have := h.keeps.size; omega
/-- A new block that is not one's own yet: nothing that is known lies in it. -/
theorem Sat.belowO (h : Sat P F w0 Γ st a w) {w' : World} (hb : Below w.heap.size w w') {n : Nat} (hn : w.heap.size ≤ n) (hn' : n < w'.heap.size) : Sat P F w0 (Γ.addO (· = n)) st a w' := by
  have h2 := h.below hb
  have ht : Turn w w' (Own Γ st) (Own (Γ.addO (· = n)) st) := ⟨hb.size, fun b o' hb' hno => ⟨World.cell?_of_block (hb.block b hb'), fun hx => by
    rcases Own.iff.1 hx with (hx | hx) | ⟨s, j, hh⟩
    · exact hno (.inl hx)
    · have hx : b = n := hx; omega
    · exact hno (hh.addO.own o')⟩⟩
  refine ⟨fun t' sv hsv => ?_, h2.size, fun b mb hm => ?_, fun i e hi => ⟨(h.vec i e hi).1.keep ht.size ht.keep fun b hb' => hb.block b ((h.vec i e hi).1.lt hb'), (h.vec i e hi).2.1, fun b hb' => ⟨((h.vec i e hi).2.2 b hb').1, fun o ho => ho.elim (((h.vec i e hi).2.2 b hb').2 o) fun e' => by
      have := (h.vec i e hi).1.lt hb'; have e' : b = n := e'; omega⟩⟩, fun i e hi => ?_, fun s j s' j' x h1 h3 => h.inj _ _ _ _ _ h1.addO h3.addO, h2.keeps, h2.fold, fun b o' hb' => ?_, h2.defers, h2.len, h2.nb, h2.num⟩
  · obtain ⟨q1, q2⟩ := h.slots_keep ht t' sv hsv
    exact ⟨by rw [SV.den_addO]; exact q1, SV.ok_addO' q2⟩
  · obtain ⟨q1, q2, q3, q4⟩ := h.mem b mb hm
    rw [dens_addO]
    exact ⟨q1.below hb, fun l hl => Lf.ok_addO.2 (Lf.ok_keep (q2 l hl) ht.size ht.keep), q3, q4⟩
  · obtain ⟨h1, h2, h3⟩ := h.clo_keep ht i e hi
    refine ⟨?_, fun s hs => SV.ok_addO' (sv := .one s) (h2 s hs), fun l hl => Lf.ok_addO.2 (h3 l hl)⟩
    rw [List.map_congr_left fun s _ => S0.den_addO Γ (· = n) s, List.map_congr_left fun l _ => Lf.den_addO Γ (· = n) l]
    exact h1
  · rcases hb' with hb' | hb'
    · exact Nat.lt_of_lt_of_le (h.base b o' hb') hb.size
    · have hb' : b = n := hb'; rw [hb']; exact hn'
/-- A store into a block of one's own. -/
theorem Sat.store (h : Sat P F w0 Γ st a w) {b off : Nat} {mb : TypeId × List Lf} (hb : look st.mem b = some mb) {cs : List Lf} (hle : off + cs.length ≤ mb.2.length) (hok : ∀ l ∈ cs, l.ok P w (Own Γ st) Γ) :
    Sat P F w0 Γ { st with mem := (b, some (mb.1, mb.2.take off ++ cs ++ mb.2.drop (off + cs.length))) :: st.mem } a
      (w.setRow (Γ.blk b) ((dens Γ mb.2).toList.take off ++ (cs.map (Lf.den Γ)) ++ (dens Γ mb.2).toList.drop (off + cs.length)).toArray) := by
  obtain ⟨m1, m2, m3, m4⟩ := h.mem b mb hb
  have m1' : w.heap[Γ.blk b]? = some (.cells (dens Γ mb.2) mb.1 (0, 0)) := m1
  generalize hnew : ((dens Γ mb.2).toList.take off ++ (cs.map (Lf.den Γ)) ++ (dens Γ mb.2).toList.drop (off + cs.length)).toArray = new
  have hnew' : new = dens Γ (mb.2.take off ++ cs ++ mb.2.drop (off + cs.length)) := by
    rw [← hnew]; simp [dens, List.map_take, List.map_drop]
  have hsz : (w.setRow (Γ.blk b) new).heap.size = w.heap.size := by simp [World.setRow]
  have hoth : ∀ k, k ≠ Γ.blk b → (w.setRow (Γ.blk b) new).heap[k]? = w.heap[k]? := fun k hk => setRow_other w _ k new hk
  have hkeep : ∀ l : Lf, l.ok P w (Own Γ st) Γ → l.ok P (w.setRow (Γ.blk b) new) (Own Γ st) Γ := fun l hl => Lf.ok_keep hl (by rw [hsz]; exact Nat.le_refl _) fun k o _ hno => ⟨World.cell?_of_block (hoth k fun e => hno (e ▸ (Hold.mem (Γ := Γ) hb).own o)), hno⟩
  refine h.mod hb (w' := w.setRow (Γ.blk b) new) ⟨rfl, rfl, rfl, by rw [hsz]; exact Nat.le_refl _, fun i hi => hoth i hi.2⟩ ?_ fun l hl => hkeep l ?_
  · rw [← hnew']; exact setRow_heap w _ _ _ _ _ m1'
  · rcases List.mem_append.1 hl with hl | hl
    · rcases List.mem_append.1 hl with hl | hl
      · exact m2 l (List.mem_of_mem_take hl)
      · exact hok l hl
    · exact m2 l (List.mem_of_mem_drop hl)
end
end Go.Proofs.Ytcglpbchejkolaa
/- The engine, part 10: arguments and results; one operation, a row of operations. -/
namespace Go.Proofs.Ytcglpbchejkolaa
open Go.RowKit
set_option linter.unusedSimpArgs false
set_option linter.unusedVariables false

/-! Typed data -/
def CTy (P : Program) : List Lk → List C → Prop
  | [], [] => True
  | k :: ks, c :: cs => ((∀ n, c.small n) ∧ match k with
    | .int => ∃ n, c = .i n
    | .bool => ∃ t, c = .b t
    | .arr t => ∃ v rows d, c = .s v rows ∧ TyN P d t rows
    | .vec t => ∃ v rows d, c = .s v rows ∧ TyN P d t rows) ∧ CTy P ks cs
  | _, _ => False
theorem CTy.len {P : Program} : ∀ {ks : List Lk} {cs : List C}, CTy P ks cs → cs.length = ks.length
  | [], [], _ => rfl
  | _ :: ks, _ :: cs, h => by simp [CTy.len h.2]
  | [], _ :: _, h => h.elim
  | _ :: _, [], h => h.elim
theorem CTy.small {P : Program} : ∀ {ks : List Lk} {cs : List C}, CTy P ks cs → ∀ c ∈ cs, ∀ n, c.small n
  | [], [], _, c, hc => by cases hc
  | _ :: ks, _ :: cs, h, c, hc => by
    rcases List.mem_cons.1 hc with rfl | hc
    · exact h.1.1
    · exact CTy.small h.2 c hc
  | [], _ :: _, h, _, _ => h.elim
  | _ :: _, [], h, _, _ => h.elim
theorem CTy.append {P : Program} : ∀ {ks ls : List Lk} {cs ds : List C}, CTy P ks cs → CTy P ls ds → CTy P (ks ++ ls) (cs ++ ds)
  | [], _, [], _, _, h => h
  | _ :: _, _, _ :: _, _, h, h' => ⟨h.1, CTy.append h.2 h'⟩
  | [], _, _ :: _, _, h, _ => h.elim
  | _ :: _, _, [], _, h, _ => h.elim
theorem allC_elim {P : Program} : ∀ {ks : List Lk} {p : List C → Prop}, allC P ks p → ∀ cs, CTy P ks cs → p cs
  | [], p, h, [], _ => h
  | .int :: ks, p, h, c :: cs, hc => by
    obtain ⟨⟨h1, n, rfl⟩, h2⟩ := hc
    exact allC_elim (h n (h1 0).1 (h1 0).2) cs h2
  | .bool :: ks, p, h, c :: cs, hc => by
    obtain ⟨⟨h1, n, rfl⟩, h2⟩ := hc
    exact allC_elim (h n) cs h2
  | .arr t :: ks, p, h, c :: cs, hc => by
    obtain ⟨⟨h1, v, rows, d, rfl, hty⟩, h2⟩ := hc
    exact allC_elim (h v rows d hty h1) cs h2
  | .vec t :: ks, p, h, c :: cs, hc => by
    obtain ⟨⟨h1, v, rows, d, rfl, hty⟩, h2⟩ := hc
    exact allC_elim (h v rows d hty h1) cs h2
  | [], _, _, _ :: _, h => h.elim
  | _ :: _, _, _, [], h => h.elim
theorem Smalls.app {ρ cs : List C} (h : Smalls ρ) (hc : ∀ c ∈ cs, ∀ n, c.small n) : Smalls (ρ ++ cs) := by
  intro i n
  unfold at_
  rw [List.getD_eq_getElem?_getD]
  by_cases hi : i < ρ.length
  · rw [List.getElem?_append_left hi]
    have := h i n
    unfold at_ at this
    rwa [List.getD_eq_getElem?_getD] at this
  · rw [List.getElem?_append_right (by omega)]
    cases hx : cs[i - ρ.length]? with
    | none => exact C.small_zero n
    | some c => exact hc c (List.mem_of_getElem? hx) n
theorem Smalls.nil : Smalls [] := fun i n => by simp [at_, C.small_zero]

theorem ArrN.tyN {P : Program} {S : Nat → Nat → Prop} {w : World} : ∀ (d : Nat) (te : TypeId) (v : Value) (rows : List (List C)), ArrN P S w d te v rows → TyN P d te rows ∨ ∃ ks, kinds P te = some ks ∧ rows = []
  | 0, _, _, _, h => h.elim
  | d + 1, te, v, rows, ⟨ks, hk, a, cap, hv, hh⟩ => by
    by_cases hne : rows = []
    · exact .inr ⟨ks, hk, hne⟩
    · left
      obtain ⟨b, o, ha, -, hr⟩ := hh hne
      refine ⟨ks, hk, fun r hr' => ?_⟩
      obtain ⟨i, hi⟩ := List.getElem?_of_mem hr'
      obtain ⟨hl, hc⟩ := hr i r hi
      refine ⟨hl, fun j k hj => ?_⟩
      obtain ⟨-, u, c, hu, hrj, hm⟩ := hc j k hj
      refine ⟨c, hrj, ?_⟩
      cases k with
      | int => obtain ⟨n, -, hn⟩ := hm; exact ⟨n, hn⟩
      | bool => obtain ⟨n, -, hn⟩ := hm; exact ⟨n, hn⟩
      | vec t => exact hm.elim
      | arr t =>
        obtain ⟨rows', hc', hn⟩ := hm
        refine ⟨u, rows', hc', ?_⟩
        rcases ArrN.tyN d t u rows' hn with h | ⟨ks', hk', rfl⟩
        · exact h
        · cases d with
          | zero => exact hn.elim
          | succ d => exact ⟨ks', hk', fun r hr => by cases hr⟩
theorem ArrOK.tyN {P : Program} {w : World} {O : Nat → Nat → Prop} {te : TypeId} {c : C} (h : ArrOK P w O te c) : ∃ v rows d, c = .s v rows ∧ TyN P d te rows := by
  obtain ⟨v, rows, rfl, d, S, hS, hA⟩ := h
  rcases hA.tyN with h | ⟨ks, hk, rfl⟩
  · exact ⟨v, rows, d, rfl, h⟩
  · exact ⟨v, [], 1, rfl, ks, hk, fun r hr => by cases hr⟩

theorem TyN.mono {P : Program} : ∀ {d : Nat} {te : TypeId} {rows : List (List C)}, TyN P d te rows → TyN P (d + 1) te rows
  | 0, _, _, h => h.elim
  | d + 1, te, rows, ⟨ks, hk, h⟩ => ⟨ks, hk, fun r hr => ⟨(h r hr).1, fun j k hj => by
      obtain ⟨c, hc, hm⟩ := (h r hr).2 j k hj
      refine ⟨c, hc, ?_⟩
      cases k with
      | arr t => obtain ⟨v, rows', e, ht⟩ := hm; exact ⟨v, rows', e, TyN.mono ht⟩
      | _ => exact hm⟩⟩
theorem TyN.le {P : Program} {d d' : Nat} (hd : d ≤ d') {te : TypeId} {rows : List (List C)} (h : TyN P d te rows) : TyN P d' te rows := by
  induction hd with
  | refl => exact h
  | step _ ih => exact ih.mono
theorem CReps.tyN {P : Program} {w : World} {O : Nat → Nat → Prop} : ∀ {ks : List Lk} {us : List Value} {cs : List C}, CReps P w O ks us cs → ∃ d, ∀ (j : Nat) (k : Lk), ks[j]? = some k → ∃ c : C, cs[j]? = some c ∧
      match k with
      | .int => ∃ n, c = .i n
      | .bool => ∃ t, c = .b t
      | .arr t => ∃ v rows', c = .s v rows' ∧ TyN P d t rows'
      | .vec _ => False
  | [], [], [], _ => ⟨0, fun j k hj => by simp at hj⟩
  | k :: ks, u :: us, c :: cs, h => by
    obtain ⟨d, hd⟩ := CReps.tyN h.2
    have h1 := h.1.2
    obtain ⟨d', hd'⟩ : ∃ d', match k with
      | .int => ∃ n, c = .i n
      | .bool => ∃ t, c = .b t
      | .arr t => ∃ v rows', c = .s v rows' ∧ TyN P d' t rows'
      | .vec _ => False := by
      cases k with
      | int => obtain ⟨n, -, e⟩ := h1; exact ⟨0, n, e⟩
      | bool => obtain ⟨n, -, e⟩ := h1; exact ⟨0, n, e⟩
      | arr t => obtain ⟨v, rows, d', e, ht⟩ := h1.2.tyN; exact ⟨d', v, rows, e, ht⟩
      | vec t => exact h1.elim
    refine ⟨Max.max d d', fun j k' hj => ?_⟩
    cases j with
    | zero =>
      simp at hj; subst hj
      refine ⟨c, rfl, ?_⟩
      cases k with
      | arr t => obtain ⟨v, rows, e, ht⟩ := hd'; exact ⟨v, rows, e, ht.le (by omega)⟩
      | _ => exact hd'
    | succ j =>
      obtain ⟨x, hx, hm⟩ := hd j k' (by simpa using hj)
      refine ⟨x, by simpa using hx, ?_⟩
      cases k' with
      | arr t => obtain ⟨v, rows, e, ht⟩ := hm; exact ⟨v, rows, e, ht.le (by omega)⟩
      | _ => exact hm
  | [], [], _ :: _, h => h.elim
  | [], _ :: _, _, h => h.elim
  | _ :: _, [], _, h => h.elim
  | _ :: _, _ :: _, [], h => h.elim
theorem VecOK.tyN {P : Program} {w : World} {O : Nat → Nat → Prop} {te : TypeId} {v : Value} {c : C} (h : VecOK P w O te v c) : ∃ v rows d, c = .s v rows ∧ TyN P d te rows := by
  obtain ⟨ks, us, hk, ⟨v', hc⟩, hl, hr, ho⟩ := h
  obtain ⟨d, hd⟩ := hr.tyN
  refine ⟨v', c.rows, d + 1, hc, ks, hk, fun r hr' => ⟨hl r hr', fun j k hj => ?_⟩⟩
  obtain ⟨i, hi⟩ := List.getElem?_of_mem hr'
  have hilt : i < c.rows.length := by
    rcases Nat.lt_or_ge i c.rows.length with h | h
    · exact h
    · rw [List.getElem?_eq_none h] at hi; cases hi
  have hjlt : j < ks.length := by
    rcases Nat.lt_or_ge j ks.length with h | h
    · exact h
    · rw [List.getElem?_eq_none h] at hj; cases hj
  obtain ⟨x, hx, hm⟩ := hd (i * ks.length + j) k (by rw [rowsK_get hilt hjlt]; exact hj)
  rw [flatten_get _ hl i j r hi hjlt] at hx
  exact ⟨x, hx, hm⟩
theorem CReps.small {P : Program} {w : World} {O : Nat → Nat → Prop} : ∀ {ks : List Lk} {us : List Value} {cs : List C}, CReps P w O ks us cs → ∀ c ∈ cs, ∀ n, c.small n
  | [], [], [], _, c, hc => by cases hc
  | _ :: _, _ :: _, _ :: _, h, c, hc => by
    rcases List.mem_cons.1 hc with rfl | hc
    · exact h.1.1
    · exact CReps.small h.2 c hc
  | [], [], _ :: _, h, _, _ => h.elim
  | [], _ :: _, _, h, _, _ => h.elim
  | _ :: _, [], _, h, _, _ => h.elim
  | _ :: _, _ :: _, [], h, _, _ => h.elim
theorem VecOK.small {P : Program} {w : World} {O : Nat → Nat → Prop} {te : TypeId} {v : Value} {c : C} (h : VecOK P w O te v c) : ∀ n, c.small n := by
  obtain ⟨ks, us, hk, ⟨v', hc⟩, hl, hr, ho⟩ := h
  have hlen : (c.rows.length : Int) ≤ 9223372036854775807 := by
    rcases ho.2 with ⟨-, hn⟩ | ⟨g, cap, cur, -, -, -, h1, h2, -⟩
    · rw [hn]; simp
    · simp only [maxLen] at h2; omega
  intro n
  rw [hc]
  cases n with
  | zero => trivial
  | succ n => exact ⟨hlen, fun r hr' x hx => hr.small x (List.mem_flatten.2 ⟨r, hr', hx⟩) n⟩

theorem LReps.ty {P : Program} {w : World} {Base : Nat → Nat → Prop} : ∀ {ks : List Lk} {us : List Value} {cs : List C}, LReps P w Base ks us cs → CTy P ks cs
  | [], [], [], _ => trivial
  | k :: ks, u :: us, c :: cs, h => by
    refine ⟨⟨h.1.1, ?_⟩, LReps.ty h.2⟩
    have h1 := h.1.2
    cases k with
    | int => obtain ⟨n, -, hn⟩ := h1; exact ⟨n, hn⟩
    | bool => obtain ⟨n, -, hn⟩ := h1; exact ⟨n, hn⟩
    | arr t => exact h1.2.tyN
    | vec t => exact h1.2.tyN
  | [], [], _ :: _, h => h.elim
  | [], _ :: _, _, h => h.elim
  | _ :: _, [], _, h => h.elim
  | _ :: _, _ :: _, [], h => h.elim
theorem Rep0.ty {P : Program} {w : World} {Base : Nat → Nat → Prop} {old : Option Nat} {s : Sh0} {v : Value} {cs : List C} (h : Rep0 P w Base old s v cs) : CTy P s.kinds cs := by
  cases s with
  | lf k => obtain ⟨c, rfl, hc⟩ := h; exact LReps.ty (us := [v]) ⟨hc, trivial⟩
  | agg l => obtain ⟨us, -, hc⟩ := h; exact LReps.ty hc
  | box t l => obtain ⟨b, us, -, -, -, hc⟩ := h; exact LReps.ty hc
theorem Reps.ty {P : Program} {w : World} {Base : Nat → Nat → Prop} {old : Option Nat} : ∀ {ss : List Sh0} {vs : List Value} {cs : List C}, Reps P w Base old ss vs cs → CTy P (kindsOf ss) cs
  | [], [], cs, h => by subst h; trivial
  | s :: ss, v :: vs, cs, h => by
    obtain ⟨c1, c2, rfl, h1, h2⟩ := h
    exact CTy.append h1.ty (Reps.ty h2)
  | [], _ :: _, _, h => h.elim
  | _ :: _, [], _, h => h.elim

/-! What is handed on -/
/-- What is handed on: a slice of one's own with what it holds. -/
def Lf.okR (P : Program) (w : World) (O : Nat → Nat → Prop) (Γ : Env) : Lf → Prop
  | .cnt te r => VecOK P w O te (r.ev Γ.ρ).loc (r.ev Γ.ρ)
  | .vec _ _ => False
  | l => l.ok P w O Γ
theorem Lf.okR_of {P : Program} {w : World} {O : Nat → Nat → Prop} {Γ : Env} {l : Lf} {k : Lk} (hk : l.kind = some k) (hn : k.noVec = true) (h : l.ok P w O Γ) : l.okR P w O Γ := by
  cases l with
  | cnt te r => cases hk; cases hn
  | vec te i => cases hk; cases hn
  | _ => exact h
theorem Lf.rep {P : Program} {w : World} {O : Nat → Nat → Prop} {Γ : Env} {bd : Bds} (hn : Num bd Γ.ρ) {l : Lf} {k : Lk} (hk : l.kind = some k) (ho : l.okR P w O Γ) (hr : Obs Γ.ρ (rngL bd [l])) : LRep P w O k (l.den Γ) (l.c Γ.ρ) := by
  cases l with
  | int e =>
    cases hk
    refine ⟨fun n => ?_, _, rfl, rfl⟩
    have h1 : Obs Γ.ρ (rng bd e) := by simpa [rngL] using hr
    have h2 : -9223372036854775808 ≤ e.den Γ.ρ ∧ e.den Γ.ρ ≤ 9223372036854775807 := by
      unfold rng at h1
      split at h1
      · rename_i p hp
        have := E.iv_ok hn.bds hn.len e _ hp
        split at h1
        · omega
        · exact inr_den (h1 _ (by simp))
      · exact inr_den (h1 _ (by simp))
    cases n <;> exact h2
  | bool b => cases hk; exact ⟨fun n => (by cases n <;> trivial), _, rfl, rfl⟩
  | arr t a =>
    cases hk
    refine ⟨fun n => ?_, rfl, ho⟩
    obtain ⟨v, rows, hc, -⟩ := ho
    rcases E.small hn.len a with h1 | h1
    · exact h1 n
    · simp only [Lf.c, hc, C.rows] at h1 ⊢
      subst h1
      cases n <;> simp [C.small]
  | vec t i => exact ho.elim
  | cnt t r => cases hk; exact ⟨VecOK.small ho, rfl, ho⟩
  | _ => cases hk
theorem rngL_cons {bd : Bds} {ρ : List C} {l : Lf} {ls : List Lf} (h : Obs ρ (rngL bd (l :: ls))) : Obs ρ (rngL bd [l]) ∧ Obs ρ (rngL bd ls) := by
  cases l with
  | int e =>
    simp only [rngL] at h ⊢
    simp only [List.append_nil]
    exact Obs.app h
  | _ => exact ⟨fun b hb => (by simp [rngL] at hb), h⟩
theorem rngL_app {bd : Bds} {ρ : List C} : ∀ {l m : List Lf}, Obs ρ (rngL bd (l ++ m)) → Obs ρ (rngL bd l) ∧ Obs ρ (rngL bd m)
  | [], m, h => ⟨fun b hb => (by cases hb), h⟩
  | x :: l, m, h => by
    obtain ⟨h1, h2⟩ := rngL_cons (ls := l ++ m) h
    obtain ⟨h3, h4⟩ := rngL_app h2
    refine ⟨?_, h4⟩
    cases x with
    | int e =>
      simp only [rngL, List.append_nil] at h1 ⊢
      intro b hb
      rcases List.mem_append.1 hb with hb | hb
      · exact h1 b hb
      · exact h3 b hb
    | _ => exact h3
theorem Ls_rep {P : Program} {w : World} {O : Nat → Nat → Prop} {Γ : Env} {bd : Bds} (hn : Num bd Γ.ρ) : ∀ {ls : List Lf} {ks : List Lk}, kindsL ls = some ks → (∀ l ∈ ls, l.okR P w O Γ) → Obs Γ.ρ (rngL bd ls) →
    LReps P w O ks (ls.map (Lf.den Γ)) (cs_ Γ.ρ ls)
  | [], ks, hk, _, _ => by simp [kindsL] at hk; subst hk; trivial
  | l :: ls, ks, hk, ho, hr => by
    simp only [kindsL] at hk
    split at hk
    · rename_i k ks' h1 h2
      cases hk
      obtain ⟨r1, r2⟩ := rngL_cons hr
      exact ⟨Lf.rep hn h1 (ho l (by simp)) r1, Ls_rep hn h2 (fun x hx => ho x (by simp [hx])) r2⟩
    · cases hk
/-- What is handed on is data of its kind. -/
theorem Ls_ty {P : Program} {w : World} {O : Nat → Nat → Prop} {Γ : Env} {bd : Bds} (hn : Num bd Γ.ρ) : ∀ {ls : List Lf} {ks : List Lk}, kindsL ls = some ks → (∀ l ∈ ls, l.ok P w O Γ ∧ l.isVec = false) → Obs Γ.ρ (rngL bd ls) → CTy P ks (cs_ Γ.ρ ls)
  | [], ks, hk, _, _ => by simp [kindsL] at hk; subst hk; trivial
  | l :: ls, ks, hk, ho, hr => by
    simp only [kindsL] at hk
    split at hk
    · rename_i k ks' h1 h2
      cases hk
      obtain ⟨r1, r2⟩ := rngL_cons hr
      refine ⟨?_, Ls_ty hn h2 (fun x hx => ho x (by simp [hx])) r2⟩
      obtain ⟨ho1, ho2⟩ := ho l (by simp)
      cases l with
      | cnt te r =>
        cases h1
        obtain ⟨v, rows, d, e, ht, hs⟩ := ho1
        simp only [Lf.c, e]
        exact ⟨hs, v, rows, d, rfl, ht⟩
      | vec te i => cases ho2
      | int e => have := Lf.rep (P := P) (w := w) (O := O) hn h1 (l := .int e) trivial r1; exact (LReps.ty (us := [_]) (ks := [k]) (cs := [_]) ⟨this, trivial⟩).1
      | bool e => have := Lf.rep (P := P) (w := w) (O := O) hn h1 (l := .bool e) trivial r1; exact (LReps.ty (us := [_]) (ks := [k]) (cs := [_]) ⟨this, trivial⟩).1
      | arr t e => have := Lf.rep (P := P) (w := w) (O := O) hn h1 (l := .arr t e) ho1 r1; exact (LReps.ty (us := [_]) (ks := [k]) (cs := [_]) ⟨this, trivial⟩).1
      | _ => cases h1
    · cases hk
theorem LRep.weaken {P : Program} {w : World} {O O' : Nat → Nat → Prop} (hh : ∀ b o, O' b o → O b o) {k : Lk} {u : Value} {c : C} (h : LRep P w O k u c) : LRep P w O' k u c := by
  refine ⟨h.1, ?_⟩
  have h2 := h.2
  cases k with
  | int => exact h2
  | bool => exact h2
  | arr t => exact ⟨h2.1, h2.2.anti hh⟩
  | vec t => exact ⟨h2.1, h2.2.anti hh⟩
theorem LReps.weaken {P : Program} {w : World} {O O' : Nat → Nat → Prop} (hh : ∀ b o, O' b o → O b o) : ∀ {ks : List Lk} {us : List Value} {cs : List C}, LReps P w O ks us cs → LReps P w O' ks us cs
  | [], [], [], _ => trivial
  | _ :: _, _ :: _, _ :: _, h => ⟨h.1.weaken hh, h.2.weaken hh⟩
  | [], [], _ :: _, h => h.elim
  | [], _ :: _, _, h => h.elim
  | _ :: _, [], _, h => h.elim
  | _ :: _, _ :: _, [], h => h.elim
theorem cells_rep {P : Program} {w : World} {O : Nat → Nat → Prop} {Γ : Env} {bd : Bds} (hn : Num bd Γ.ρ) {mem : Mem} {old : Option Nat} : ∀ {args : List S0} {ss : List Sh0}, shapes mem args = some ss → (∀ s ∈ args, ∀ l ∈ s.cells, l.okR P w O Γ) →
    (∀ b mb, S0.lf (.ptr b 0) ∈ args → look mem b = some mb → Blk w (Γ.blk b) mb.1 (dens Γ mb.2) ∧ (∀ l ∈ mb.2, l.okR P w (fun x o => O x o ∨ some (Γ.blk b) = some x) Γ) ∧ match old with | none => ∀ o, O (Γ.blk b) o | some n => n ≤ Γ.blk b) →
    Obs Γ.ρ (rngL bd (cellsOf mem args)) → Reps P w O old ss (args.map (S0.den Γ)) (cs_ Γ.ρ (cellsOf mem args))
  | [], ss, hs, _, _, _ => by simp [shapes] at hs; subst hs; rfl
  | s :: args, ss, hs, ho, hm, hr => by
    simp only [shapes] at hs
    split at hs
    · rename_i h hss h1 h2
      cases hs
      have hcell : cellsOf mem (s :: args) = s.cellsM mem ++ cellsOf mem args := by simp [cellsOf]
      rw [hcell] at hr ⊢
      obtain ⟨r1, r2⟩ := rngL_app hr
      refine ⟨cs_ Γ.ρ (s.cellsM mem), cs_ Γ.ρ (cellsOf mem args), by simp [cs_], ?_, cells_rep hn h2 (fun x hx => ho x (by simp [hx])) (fun b mb hb => hm b mb (by simp [hb])) r2⟩
      have hso := ho s (by simp)
      have plain : s.shapeM mem = s.shape → s.cellsM mem = s.cells → Rep0 P w O old h (s.den Γ) (cs_ Γ.ρ (s.cellsM mem)) := by
        intro e1 e2
        rw [e1] at h1
        rw [e2] at r1 ⊢
        cases s with
        | lf l =>
          simp only [S0.shape, Option.map_eq_some_iff] at h1
          obtain ⟨k, hk, rfl⟩ := h1
          exact ⟨_, rfl, Lf.rep hn hk (hso l (by simp [S0.cells])) r1⟩
        | agg ls =>
          simp only [S0.shape, Option.map_eq_some_iff] at h1
          obtain ⟨k, hk, rfl⟩ := h1
          exact ⟨_, rfl, Ls_rep hn hk hso r1⟩
      by_cases hp : ∃ b, s = .lf (.ptr b 0)
      · obtain ⟨b, rfl⟩ := hp
        simp only [S0.shapeM] at h1
        split at h1
        · rename_i mb hmb
          simp only [Option.map_eq_some_iff] at h1
          obtain ⟨ks, hks, rfl⟩ := h1
          obtain ⟨m1, m2, m3⟩ := hm b mb (by simp) hmb
          have hc : (S0.lf (.ptr b 0)).cellsM mem = mb.2 := by simp only [S0.cellsM, hmb]
          rw [hc] at r1 ⊢
          exact ⟨Γ.blk b, mb.2.map (Lf.den Γ), rfl, m1, m3, Ls_rep hn hks m2 r1⟩
        · cases h1
      · refine plain ?_ ?_
        · unfold S0.shapeM; split
          · exact absurd ⟨_, rfl⟩ hp
          · rfl
        · unfold S0.cellsM; split
          · exact absurd ⟨_, rfl⟩ hp
          · rfl
    · cases hs

/-! What comes back -/
theorem Lf.of_rep {P : Program} {w : World} {O : Nat → Nat → Prop} {Γ : Env} {k : Lk} {u : Value} {c : C} (h : LRep P w O k u c) {i : Nat} (hi : at_ Γ.ρ i = c) : (Lf.ofKind k i).den Γ = u ∧ (Lf.ofKind k i).ok P w O Γ := by
  cases k with
  | int => obtain ⟨n, rfl, rfl⟩ := h.2; exact ⟨by simp [Lf.ofKind, Lf.den, E.den_var, hi, C.int], trivial⟩
  | bool => obtain ⟨n, rfl, rfl⟩ := h.2; exact ⟨by simp [Lf.ofKind, Lf.den, B.den, E.ev, hi, C.bool], trivial⟩
  | arr t => obtain ⟨h1, h2⟩ := h.2; exact ⟨by simp [Lf.ofKind, Lf.den, E.ev, hi, h1], by simp only [Lf.ofKind, Lf.ok, E.ev, hi]; exact h2⟩
  | vec t => obtain ⟨h1, h2⟩ := h.2; exact ⟨by simp [Lf.ofKind, Lf.den, hi, h1], by simp only [Lf.ofKind, Lf.ok, hi, ← h1]; obtain ⟨a, cap, e⟩ := h2.slice; exact ⟨a, _, cap, e⟩⟩
theorem freshL_rep {P : Program} {w : World} {O : Nat → Nat → Prop} {Γ : Env} : ∀ {ks : List Lk} {us : List Value} {cs : List C}, LReps P w O ks us cs → ∀ i, (∀ j c, cs[j]? = some c → at_ Γ.ρ (i + j) = c) →
    (freshL ks i).map (Lf.den Γ) = us ∧ ∀ l ∈ freshL ks i, l.ok P w O Γ
  | [], [], [], _, i, _ => ⟨rfl, fun l hl => by cases hl⟩
  | k :: ks, u :: us, c :: cs, h, i, hi => by
    obtain ⟨h1, h2⟩ := Lf.of_rep (i := i) h.1 (hi 0 c (by simp))
    obtain ⟨h3, h4⟩ := freshL_rep h.2 (i + 1) (fun j c hj => by have := hi (j + 1) c (by simpa using hj); rwa [show i + 1 + j = i + (j + 1) by omega])
    refine ⟨by simp [freshL, h1, h3], fun l hl => ?_⟩
    rcases List.mem_cons.1 hl with rfl | hl
    · exact h2
    · exact h4 l hl
  | [], [], _ :: _, h, _, _ => h.elim
  | [], _ :: _, _, h, _, _ => h.elim
  | _ :: _, [], _, h, _, _ => h.elim
  | _ :: _, _ :: _, [], h, _, _ => h.elim
theorem freshS_rep {P : Program} {w : World} {O : Nat → Nat → Prop} {Γ : Env} {nb : Nat} {old : Option Nat} : ∀ {ss : List Sh0} {vs : List Value} {cs : List C}, Reps P w O old ss vs cs → (∀ b, IsBox ss vs b → Γ.blk nb = b) → ∀ i, (∀ j c, cs[j]? = some c → at_ Γ.ρ (i + j) = c) →
    (freshS nb ss i).map (S0.den Γ) = vs ∧ ∀ s ∈ freshS nb ss i, s.ok P w O Γ
  | [], [], cs, h, _, i, _ => ⟨rfl, fun l hl => by cases hl⟩
  | s :: ss, v :: vs, cs, h, hbx, i, hi => by
    obtain ⟨c1, c2, rfl, h1, h2⟩ := h
    have hlen : c1.length = s.kinds.length := h1.ty.len
    obtain ⟨h3, h4⟩ := freshS_rep h2 (fun b hb => hbx b (by cases s <;> first | exact hb | exact .inr hb)) (i + s.kinds.length) (fun j c hj => by
      have := hi (c1.length + j) c (by rw [List.getElem?_append_right (by omega)]; simpa using hj)
      rwa [← hlen, Nat.add_assoc])
    have hi1 : ∀ j c, c1[j]? = some c → at_ Γ.ρ (i + j) = c := fun j c hj => hi j c (by
      have : j < c1.length := by
        rcases Nat.lt_or_ge j c1.length with h' | h'
        · exact h'
        · rw [List.getElem?_eq_none h'] at hj; cases hj
      rw [List.getElem?_append_left this]; exact hj)
    have key : (s.fresh nb i).den Γ = v ∧ (s.fresh nb i).ok P w O Γ := by
      cases s with
      | lf k =>
        obtain ⟨c, rfl, hc⟩ := h1
        obtain ⟨h5, h6⟩ := Lf.of_rep hc (i := i) (hi1 0 c (by simp))
        exact ⟨h5, fun l hl => by simp [Sh0.fresh, S0.cells] at hl; subst hl; exact h6⟩
      | agg l =>
        obtain ⟨us, rfl, hc⟩ := h1
        obtain ⟨h5, h6⟩ := freshL_rep hc i hi1
        exact ⟨by simp only [Sh0.fresh, S0.den, dens, h5], h6⟩
      | box t l =>
        obtain ⟨b, us, rfl, -, -, -⟩ := h1
        have := hbx b (.inl rfl)
        exact ⟨by simp only [Sh0.fresh, S0.den, Lf.den, this], fun l hl => by simp [Sh0.fresh, S0.cells] at hl; subst hl; trivial⟩
    refine ⟨by simp [freshS, key.1, h3], fun x hx => ?_⟩
    rcases List.mem_cons.1 hx with rfl | hx
    · exact key.2
    · exact h4 x hx
  | [], _ :: _, _, h, _, _, _ => h.elim
  | _ :: _, [], _, h, _, _, _ => h.elim
theorem at_app {ρ cs : List C} {j : Nat} {c : C} (h : cs[j]? = some c) : at_ (ρ ++ cs) (ρ.length + j) = c := by
  unfold at_
  rw [List.getD_eq_getElem?_getD, List.getElem?_append_right (by omega)]
  simp [h]
theorem svOf_rep {P : Program} {w : World} {O : Nat → Nat → Prop} {Γ : Env} {nb n : Nat} {ss : List Sh0} {v : Value} {cs : List C} (h : Res P w O n ss v cs) (hbx : ∀ vs, Reps P w (fun b o => O b o ∨ b ∈ vecB (kindsOf ss) cs) (some n) ss vs cs → v = (match vs with | [x] => x | _ => .tuple vs.toArray) → ∀ b, IsBox ss vs b → Γ.blk nb = b)
    {i : Nat} (hi : ∀ j c, cs[j]? = some c → at_ Γ.ρ (i + j) = c) :
    (svOf (freshS nb ss i)).den Γ = v ∧ (svOf (freshS nb ss i)).ok P w (fun b o => O b o ∨ b ∈ vecB (kindsOf ss) cs) Γ := by
  obtain ⟨vs, hv, hr, -, -⟩ := h
  obtain ⟨h1, h2⟩ := freshS_rep (Γ := Γ) (nb := nb) hr (hbx vs hr hv) i hi
  subst hv
  match hss : freshS nb ss i, vs, h1 with
  | [], [], _ => exact ⟨rfl, fun s hs => by cases hs⟩
  | [s], [v], h1 =>
    simp at h1
    rw [hss] at h2
    exact ⟨h1, h2 s (by simp)⟩
  | s :: t :: l, v :: u :: m, h1 =>
    rw [hss] at h2
    refine ⟨?_, h2⟩
    simp only [svOf, SV.den]
    rw [h1]

/-! Pointers among the arguments -/
theorem shapes_noBox {mem : Mem} : ∀ {args : List S0} {ss : List Sh0}, shapes mem args = some ss → ss.all (fun s => !s.isBox) = true → boxOf args = none ∧ boxKinds ss = [] ∧ (∀ vs i, ¬ IsBox ss vs i) ∧ ∀ b, S0.lf (.ptr b 0) ∉ args
  | [], ss, h, _ => by simp [shapes] at h; subst h; exact ⟨rfl, rfl, fun vs i hi => (by cases vs <;> exact hi.elim), fun b hb => by cases hb⟩
  | s :: args, ss, h, hb => by
    simp only [shapes] at h
    split at h
    · rename_i sh hss h1 h2
      cases h
      simp only [List.all_cons, Bool.and_eq_true] at hb
      obtain ⟨i1, i2, i3, i4⟩ := shapes_noBox h2 hb.2
      have hnp : ∀ b, s ≠ .lf (.ptr b 0) := by
        rintro b rfl
        simp only [S0.shapeM] at h1
        split at h1
        · simp only [Option.map_eq_some_iff] at h1
          obtain ⟨ks, -, rfl⟩ := h1
          cases hb.1
        · cases h1
      refine ⟨?_, ?_, ?_, ?_⟩
      · unfold boxOf
        split
        · rename_i e; cases e
        · rename_i b l e; cases e; exact absurd rfl (hnp b)
        · rename_i e; cases e; exact i1
      · cases sh with
        | box t l => cases hb.1
        | _ => exact i2
      · intro vs i hi
        cases sh with
        | box t l => cases hb.1
        | _ => cases vs with
          | nil => exact hi.elim
          | cons v vs => exact i3 vs i hi
      · intro b hm
        rcases List.mem_cons.1 hm with e | hm
        · exact hnp b e.symm
        · exact i4 b hm
    · cases h
theorem outs_noBox {P : Program} {w : World} {O : Nat → Nat → Prop} : ∀ {ss : List Sh0} {vs : List Value} {outs : List C}, ss.all (fun s => !s.isBox) = true → Outs P w O ss vs outs → outs = []
  | [], vs, outs, _, h => by cases vs <;> exact h
  | s :: ss, [], outs, hb, h => by cases s <;> exact h
  | s :: ss, v :: vs, outs, hb, h => by
    simp only [List.all_cons, Bool.and_eq_true] at hb
    cases s with
    | box t l => cases hb.1
    | lf k => exact outs_noBox (ss := ss) (vs := vs) hb.2 h
    | agg l => exact outs_noBox (ss := ss) (vs := vs) hb.2 h
/-- One pointer among the arguments, or none. -/
theorem outs_one {P : Program} {w' : World} {O : Nat → Nat → Prop} {Γ : Env} {mem : Mem} : ∀ {args : List S0} {ss : List Sh0} {outs : List C}, shapes mem args = some ss → (ss.filter Sh0.isBox).length ≤ 1 → Outs P w' O ss (args.map (S0.den Γ)) outs →
    (ss.all (fun s => !s.isBox) = true) ∨
    (∃ b mb us, boxOf args = some b ∧ look mem b = some mb ∧ kindsL mb.2 = some (boxKinds ss) ∧ Blk w' (Γ.blk b) mb.1 us.toArray ∧ LReps P w' O (boxKinds ss) us outs ∧ (∀ i, IsBox ss (args.map (S0.den Γ)) i → i = Γ.blk b) ∧ ∀ c, S0.lf (.ptr c 0) ∈ args → c = b)
  | [], ss, outs, h, _, _ => by simp [shapes] at h; subst h; exact .inl rfl
  | s :: args, ss, outs, h, hl, ho => by
    simp only [shapes] at h
    split at h
    · rename_i sh hss h1 h2
      cases h
      by_cases hp : ∃ b, s = .lf (.ptr b 0)
      · obtain ⟨b, rfl⟩ := hp
        right
        simp only [S0.shapeM] at h1
        split at h1
        · rename_i mb hmb
          simp only [Option.map_eq_some_iff] at h1
          obtain ⟨ks, hks, rfl⟩ := h1
          have hno : hss.all (fun s => !s.isBox) = true := by
            rw [List.all_eq_true]
            intro x hx
            simp only [List.filter_cons, Sh0.isBox, if_true, List.length_cons] at hl
            have h0 : (hss.filter Sh0.isBox) = [] := List.eq_nil_of_length_eq_zero (by omega)
            cases hxb : x.isBox with
            | false => rfl
            | true => have := List.mem_filter.2 ⟨hx, hxb⟩; rw [h0] at this; cases this
          obtain ⟨i1, i2, i3, i4⟩ := shapes_noBox h2 hno
          obtain ⟨c1, c2, b', us, rfl, e, hblk, hrep, hrest⟩ := ho
          have hc2 := outs_noBox hno hrest
          subst hc2
          have hb' : b' = Γ.blk b := by cases e; rfl
          subst hb'
          have hbk : boxKinds (.box mb.1 ks :: hss) = ks := by
            have : boxKinds (.box mb.1 ks :: hss) = ks ++ boxKinds hss := rfl
            rw [this, i2, List.append_nil]
          refine ⟨b, mb, us, rfl, hmb, by rw [hbk]; exact hks, hblk, by rw [hbk, List.append_nil]; exact hrep, ?_, ?_⟩
          · rintro i (hi | hi)
            · cases hi; rfl
            · exact absurd hi (i3 _ i)
          · intro c hc
            rcases List.mem_cons.1 hc with e | hc
            · cases e; rfl
            · exact absurd hc (i4 c)
        · cases h1
      · have hsh : sh.isBox = false := by
          have : s.shapeM mem = s.shape := by
            unfold S0.shapeM; split
            · exact absurd ⟨_, rfl⟩ hp
            · rfl
          rw [this] at h1
          cases s with
          | lf l => simp only [S0.shape, Option.map_eq_some_iff] at h1; obtain ⟨k, -, rfl⟩ := h1; rfl
          | agg l => simp only [S0.shape, Option.map_eq_some_iff] at h1; obtain ⟨k, -, rfl⟩ := h1; rfl
        have hbo : boxOf (s :: args) = boxOf args := by
          unfold boxOf
          split
          · rename_i e; cases e
          · rename_i b l e; cases e; exact absurd ⟨b, rfl⟩ hp
          · rename_i e; cases e; conv => lhs; unfold boxOf
        have ho' : Outs P w' O hss (args.map (S0.den Γ)) outs := by cases sh <;> first | exact ho | cases hsh
        rcases outs_one h2 (by simpa [List.filter_cons, hsh] using hl) ho' with h3 | ⟨b, mb, us, g1, g2, g3, g4, g5, g6, g7⟩
        · left; simp [hsh, h3]
        · right
          have hbk : boxKinds (sh :: hss) = boxKinds hss := by cases sh <;> first | rfl | cases hsh
          refine ⟨b, mb, us, by rw [hbo]; exact g1, g2, by rw [hbk]; exact g3, g4, by rw [hbk]; exact g5, fun i hi => g6 i (by cases sh <;> first | exact hi | cases hsh), fun c hc => ?_⟩
          rcases List.mem_cons.1 hc with e | hc
          · exact absurd ⟨c, e.symm⟩ hp
          · exact g7 c hc
    · cases h
end Go.Proofs.Ytcglpbchejkolaa
/- The engine, part 11: one operation, a row of operations. -/
namespace Go.Proofs.Ytcglpbchejkolaa
open Go.RowKit
set_option linter.unusedSimpArgs false
set_option linter.unusedVariables false

theorem VC.obT {cx : Cx} {R : List C → Prop} {ρ : List C} {Ls : List (List C → Prop)} : ∀ {l : List B} {t : Tree}, VC cx R (obT l t) ρ Ls → Obs ρ l ∧ VC cx R t ρ Ls
  | [], t, h => ⟨fun b hb => (by cases hb), h⟩
  | b :: l, t, h => by
    obtain ⟨h1, h2⟩ := h
    obtain ⟨h3, h4⟩ := VC.obT (l := l) h2
    refine ⟨fun x hx => ?_, h4⟩
    rcases List.mem_cons.1 hx with rfl | hx
    · exact h1
    · exact h3 x hx
theorem s0s_ok {P : Program} {Γ : Env} {st : St} {xs : Array Operand} {ρ : Operand → Value} {w : World} (hv : View P Γ st xs ρ w) : ∀ (l : List Operand) (r : List S0), st.s0s l = some r → (∀ x ∈ l, x ∈ xs) →
    l.map ρ = r.map (S0.den Γ) ∧ ∀ s ∈ r, s.ok P w (Own Γ st) Γ
  | [], r, h, _ => by simp [St.s0s] at h; subst h; simp
  | x :: l, r, h, hx => by
    simp only [St.s0s] at h
    split at h
    · rename_i s r' hs hr
      cases h
      obtain ⟨h1, h2⟩ := hv.s0 (hx x (by simp)) hs
      obtain ⟨h3, h4⟩ := s0s_ok hv l r' hr (fun y hy => hx y (by simp [hy]))
      refine ⟨by simp [h1, h3], fun y hy => ?_⟩
      rcases List.mem_cons.1 hy with rfl | hy
      · exact h2
      · exact h4 y hy
    · cases h
theorem run_callFunc' {P : Program} {f : FuncId} (h : Callable P f) (args : Array Value) (w : World) : (callFunc f args).run P w = .ok (.enter f args) w := by
  obtain ⟨fn, h1, h2, h3⟩ := h
  have h4 : fn.body.isNone = false := by cases hb : fn.body <;> simp_all
  simp only [callFunc, Sem.run_bind, run_program, Result.andThen_ok, h1, h2, h4, Bool.false_eq_true, if_false, Sem.run_pure]

/-! A slice built of its elements -/
theorem foldl_set (off : Nat) : ∀ (new : List Value) (i : Nat) (cs : List Value), off + i + new.length ≤ cs.length →
    (new.zipIdx i).foldl (fun cs (p : Value × Nat) => cs.set (off + p.2) p.1) cs = cs.take (off + i) ++ new ++ cs.drop (off + i + new.length)
  | [], i, cs, _ => by simp
  | x :: new, i, cs, h => by
    simp only [List.length_cons] at h
    simp only [List.zipIdx_cons, List.foldl_cons]
    rw [foldl_set off new (i + 1) _ (by simp; omega)]
    have e := list_seg_step cs (off + i) x new (by omega)
    simpa [Nat.add_assoc, Nat.add_comm, Nat.add_left_comm] using e
theorem fill_rows {Γ : Env} {sz : Nat} : ∀ (rows : List (Nat × S0)) (i : Nat) (out : List (List Lf)) (ks : List Lk) (cells : Array Value), ks.length = sz → rowsOf ks i rows = some out → (∀ p ∈ rows, ∀ l ∈ p.2.cells, (l.den Γ).cells = #[l.den Γ]) →
    (i + out.length) * sz ≤ cells.size → Instr.fill (fun i => some (i * sz, sz)) cells (rows.map fun p => (p.1, p.2.den Γ)) = some (cells.toList.take (i * sz) ++ (out.flatten.map (Lf.den Γ)) ++ cells.toList.drop ((i + out.length) * sz)).toArray
  | [], i, out, ks, cells, _, h, _, _ => by simp [rowsOf] at h; subst h; simp [Instr.fill]
  | (j, s) :: rows, i, out, ks, cells, hks, h, hs, hle => by
    simp only [rowsOf] at h
    split at h
    · rename_i hc
      simp only [Bool.and_eq_true, decide_eq_true_eq] at hc
      obtain ⟨h1, h2⟩ := hc
      have h1 := Nat.eq_of_beq_eq_true h1
      subst h1
      cases hr : rowsOf ks (i + 1) rows with
      | none => simp [hr] at h
      | some out' =>
        simp [hr] at h
        subst h
        have hlen : s.cells.length = sz := by
          rw [← hks]
          have key : ∀ (ls : List Lf) (ks : List Lk), kindsL ls = some ks → ls.length = ks.length := by
            intro ls
            induction ls with
            | nil => intro ks h; simp [kindsL] at h; subst h; rfl
            | cons l ls ih =>
              intro ks h
              simp only [kindsL] at h
              split at h
              · rename_i k ks' h1 h2; cases h; simp [ih _ h2]
              · cases h
          exact key _ _ h2
        have hcl := S0.den_cells Γ s (hs (i, s) (by simp))
        simp only [List.length_cons] at hle
        have hle2 : i * sz + sz ≤ cells.size := by
          have : (i + 1) * sz ≤ (i + (out'.length + 1)) * sz := Nat.mul_le_mul_right _ (by omega)
          rw [Nat.add_mul] at this; omega
        simp only [List.map_cons, Instr.fill, hcl, dens_size, hlen]
        rw [if_neg (by simp; omega)]
        have e : (dens Γ s.cells).zipIdx = (((s.cells.map (Lf.den Γ)).zipIdx)).toArray := by
          apply Array.ext'
          simp [dens]
        rw [e]
        simp only [List.foldl_toArray]
        have e2 : (List.foldl (fun (cs : Array Value) (x : Value × Nat) => match x with | (c, j) => cs.setIfInBounds (i * sz + j) c) cells ((s.cells.map (Lf.den Γ)).zipIdx)) =
            (cells.toList.take (i * sz) ++ s.cells.map (Lf.den Γ) ++ cells.toList.drop (i * sz + sz)).toArray := by
          have := foldl_set (i * sz) (s.cells.map (Lf.den Γ)) 0 cells.toList (by simp; omega)
          simp only [Nat.add_zero, List.length_map, hlen] at this
          rw [← this]
          generalize (s.cells.map (Lf.den Γ)).zipIdx = l
          have key : ∀ (l : List (Value × Nat)) (cs : Array Value), (List.foldl (fun (cs : Array Value) (x : Value × Nat) => match x with | (c, j) => cs.setIfInBounds (i * sz + j) c) cs l) = (List.foldl (fun cs (p : Value × Nat) => cs.set (i * sz + p.2) p.1) cs.toList l).toArray := by
            intro l
            induction l with
            | nil => intro cs; simp
            | cons p l ih => intro cs; simp only [List.foldl_cons]; rw [ih]; simp
          exact key l cells
        rw [e2]
        rw [fill_rows rows (i + 1) out' ks _ hks hr (fun p hp => hs p (by simp [hp])) (by
          simp only [List.size_toArray, List.length_append, List.length_take, List.length_map, List.length_drop, Array.length_toList, hlen]
          have : (i + 1 + out'.length) * sz = (i + (out'.length + 1)) * sz := by congr 1; omega
          omega)]
        congr 2
        simp only [List.flatten_cons, List.map_append]
        have a1 : (cells.toList.take (i * sz) ++ s.cells.map (Lf.den Γ) ++ cells.toList.drop (i * sz + sz)).take ((i + 1) * sz) = cells.toList.take (i * sz) ++ s.cells.map (Lf.den Γ) := by
          rw [Nat.add_mul, Nat.one_mul]
          have : i * sz + sz = (cells.toList.take (i * sz) ++ s.cells.map (Lf.den Γ)).length := by simp [hlen]; omega
          rw [this, List.take_left']
          rfl
        have a2 : (cells.toList.take (i * sz) ++ s.cells.map (Lf.den Γ) ++ cells.toList.drop (i * sz + sz)).drop ((i + 1 + out'.length) * sz) = cells.toList.drop ((i + (out'.length + 1)) * sz) := by
          have e3 : (i + 1 + out'.length) * sz = (i * sz + sz) + out'.length * sz := by rw [Nat.add_mul, Nat.add_mul, Nat.one_mul]
          have e4 : (i + (out'.length + 1)) * sz = (i * sz + sz) + out'.length * sz := by rw [Nat.add_mul, Nat.add_mul, Nat.one_mul]; omega
          have e5 : (cells.toList.take (i * sz) ++ s.cells.map (Lf.den Γ)).length = i * sz + sz := by simp [hlen]; omega
          rw [e3, e4, ← List.drop_drop, List.drop_left' e5, List.drop_drop]
        rw [List.toList_toArray, a1, a2]
        simp [List.append_assoc]
    · cases h
theorem rowsOf_len (ks : List Lk) : ∀ (rows : List (Nat × S0)) (i : Nat) (out : List (List Lf)), rowsOf ks i rows = some out → (∀ r ∈ out, kindsL r = some ks) ∧ ∀ r ∈ out, ∃ p ∈ rows, r = p.2.cells
  | [], i, out, h => by simp [rowsOf] at h; subst h; simp
  | (j, s) :: rows, i, out, h => by
    simp only [rowsOf] at h
    split at h
    · rename_i hc
      simp only [Bool.and_eq_true, decide_eq_true_eq] at hc
      cases hr : rowsOf ks (i + 1) rows with
      | none => simp [hr] at h
      | some out' =>
        simp [hr] at h
        subst h
        obtain ⟨h1, h2⟩ := rowsOf_len ks rows (i + 1) out' hr
        refine ⟨fun r hr => ?_, fun r hr => ?_⟩
        · rcases List.mem_cons.1 hr with rfl | hr
          · exact hc.2
          · exact h1 r hr
        · rcases List.mem_cons.1 hr with rfl | hr
          · exact ⟨(j, s), by simp, rfl⟩
          · obtain ⟨p, hp, e⟩ := h2 r hr
            exact ⟨p, by simp [hp], e⟩
    · cases h
theorem rngL_flatten {bd : Bds} {ρ : List C} : ∀ {rows : List (List Lf)}, Obs ρ (rngL bd rows.flatten) → ∀ r ∈ rows, Obs ρ (rngL bd r)
  | [], _, r, hr => by cases hr
  | x :: rows, h, r, hr => by
    rw [List.flatten_cons] at h
    obtain ⟨h1, h2⟩ := rngL_app h
    rcases List.mem_cons.1 hr with rfl | hr
    · exact h1
    · exact rngL_flatten h2 r hr
theorem kindsL_len : ∀ {ls : List Lf} {ks : List Lk}, kindsL ls = some ks → ls.length = ks.length
  | [], ks, h => by simp [kindsL] at h; subst h; rfl
  | l :: ls, ks, h => by
    simp only [kindsL] at h
    split at h
    · rename_i k ks' h1 h2; cases h; simp [kindsL_len h2]
    · cases h
/-! Slices of one's own -/
theorem ArrN.monoS {P : Program} {S S' : Nat → Nat → Prop} (hS : ∀ b o, S b o → S' b o) {w : World} : ∀ {d : Nat} {te : TypeId} {v : Value} {rows : List (List C)}, ArrN P S w d te v rows → ArrN P S' w d te v rows
  | 0, _, _, _, h => h.elim
  | d + 1, te, v, rows, ⟨ks, hk, a, cap, hv, hh⟩ => by
    refine ⟨ks, hk, a, cap, hv, fun hne => ?_⟩
    obtain ⟨b, o, ha, hcap, hr⟩ := hh hne
    refine ⟨b, o, ha, hcap, fun i r hi => ⟨(hr i r hi).1, fun j k hj => ?_⟩⟩
    obtain ⟨hs, u, c, hu, hc, hm⟩ := (hr i r hi).2 j k hj
    refine ⟨hS _ _ hs, u, c, hu, hc, ?_⟩
    cases k with
    | arr t => obtain ⟨rows', e, hn⟩ := hm; exact ⟨rows', e, ArrN.monoS hS hn⟩
    | _ => exact hm
theorem ArrN.monoD {P : Program} {S : Nat → Nat → Prop} {w : World} : ∀ {d : Nat} {te : TypeId} {v : Value} {rows : List (List C)}, ArrN P S w d te v rows → ArrN P S w (d + 1) te v rows
  | 0, _, _, _, h => h.elim
  | d + 1, te, v, rows, ⟨ks, hk, a, cap, hv, hh⟩ => by
    refine ⟨ks, hk, a, cap, hv, fun hne => ?_⟩
    obtain ⟨b, o, ha, hcap, hr⟩ := hh hne
    refine ⟨b, o, ha, hcap, fun i r hi => ⟨(hr i r hi).1, fun j k hj => ?_⟩⟩
    obtain ⟨hs, u, c, hu, hc, hm⟩ := (hr i r hi).2 j k hj
    refine ⟨hs, u, c, hu, hc, ?_⟩
    cases k with
    | arr t => obtain ⟨rows', e, hn⟩ := hm; exact ⟨rows', e, ArrN.monoD hn⟩
    | _ => exact hm
theorem ArrN.leD {P : Program} {S : Nat → Nat → Prop} {w : World} {d d' : Nat} (hd : d ≤ d') {te : TypeId} {v : Value} {rows : List (List C)} (h : ArrN P S w d te v rows) : ArrN P S w d' te v rows := by
  induction hd with
  | refl => exact h
  | step _ ih => exact ih.monoD
/-- The slices in a list of cells, all with one footprint. -/
theorem CReps.arrN {P : Program} {w : World} {O : Nat → Nat → Prop} : ∀ {ks : List Lk} {us : List Value} {cs : List C}, CReps P w O ks us cs → ∃ d S, (∀ b o, S b o → b < w.heap.size ∧ ¬ O b o) ∧ ∀ (j : Nat) (k : Lk), ks[j]? = some k → ∃ u c, us[j]? = some u ∧ cs[j]? = some c ∧
      match k with
      | .int => ∃ n, u = .int .i64 n ∧ c = .i n
      | .bool => ∃ t, u = .bool t ∧ c = .b t
      | .arr t => ∃ rows', c = .s u rows' ∧ ArrN P S w d t u rows'
      | .vec _ => False
  | [], [], [], _ => ⟨0, fun _ _ => False, fun _ _ h => h.elim, fun j k hj => by simp at hj⟩
  | k :: ks, u :: us, c :: cs, h => by
    obtain ⟨d, S, hS, hd⟩ := CReps.arrN h.2
    have h1 := h.1.2
    obtain ⟨d', S', hS', hd'⟩ : ∃ d' S', (∀ b o, S' b o → b < w.heap.size ∧ ¬ O b o) ∧ match k with
      | .int => ∃ n, u = .int .i64 n ∧ c = .i n
      | .bool => ∃ t, u = .bool t ∧ c = .b t
      | .arr t => ∃ rows', c = .s u rows' ∧ ArrN P S' w d' t u rows'
      | .vec _ => False := by
      cases k with
      | int => exact ⟨0, fun _ _ => False, fun _ _ h => h.elim, h1⟩
      | bool => exact ⟨0, fun _ _ => False, fun _ _ h => h.elim, h1⟩
      | arr t =>
        obtain ⟨e, v, rows, rfl, d', S', hS', hA⟩ := h1
        simp only [C.loc] at e
        subst e
        exact ⟨d', S', hS', rows, rfl, hA⟩
      | vec t => exact h1.elim
    refine ⟨Max.max d d', fun b o => S b o ∨ S' b o, fun b o hb => hb.elim (hS b o) (hS' b o), fun j k' hj => ?_⟩
    cases j with
    | zero =>
      simp at hj; subst hj
      refine ⟨u, c, rfl, rfl, ?_⟩
      cases k with
      | arr t => obtain ⟨rows, e, hA⟩ := hd'; exact ⟨rows, e, (hA.monoS fun _ _ h => .inr h).leD (by omega)⟩
      | _ => exact hd'
    | succ j =>
      obtain ⟨u', c', hu, hc, hm⟩ := hd j k' (by simpa using hj)
      refine ⟨u', c', by simpa using hu, by simpa using hc, ?_⟩
      cases k' with
      | arr t => obtain ⟨rows, e, hA⟩ := hm; exact ⟨rows, e, (hA.monoS fun _ _ h => .inl h).leD (by omega)⟩
      | _ => exact hm
  | [], [], _ :: _, h => h.elim
  | [], _ :: _, _, h => h.elim
  | _ :: _, [], _, h => h.elim
  | _ :: _, _ :: _, [], h => h.elim
/-- A slice of one's own that is given up is a slice. -/
theorem VecOK.arr {P : Program} {w : World} {O O' : Nat → Nat → Prop} {te : TypeId} {v : Value} {c : C} (h : VecOK P w O te v c) (hO : ∀ b o, O' b o → O b o) (hb : ∀ b, v.ownBlock = some b → ∀ o, ¬ O' b o) : ArrOK P w O' te (.s v c.rows) := by
  obtain ⟨ks, us, hk, hc, hl, hr, ho⟩ := h
  obtain ⟨d, S, hS, hd⟩ := hr.arrN
  refine ⟨v, c.rows, rfl, d + 1, fun b o => S b o ∨ v.ownBlock = some b, fun b o hbo => ?_, ks, hk, ?_⟩
  · rcases hbo with hbo | hbo
    · exact ⟨(hS b o hbo).1, fun hx => (hS b o hbo).2 (hO b o hx)⟩
    · exact ⟨(ho.lt b hbo).2, hb b hbo o⟩
  · have hrow : ∀ i r, c.rows[i]? = some r → i < c.rows.length := fun i r hi => by
      rcases Nat.lt_or_ge i c.rows.length with h | h
      · exact h
      · rw [List.getElem?_eq_none h] at hi; cases hi
    rcases ho.2 with ⟨rfl, hn⟩ | ⟨g, cap, cur, rfl, -, -, hnc, -⟩
    · exact ⟨none, 0, by rw [hn], fun hne => absurd (List.eq_nil_of_length_eq_zero hn) hne⟩
    · refine ⟨_, cap, rfl, fun _ => ⟨g, 0, rfl, hnc, fun i r hi => ⟨hl r (List.mem_of_getElem? hi), fun j k hj => ⟨.inr rfl, ?_⟩⟩⟩⟩
      have hjlt : j < ks.length := by
        rcases Nat.lt_or_ge j ks.length with h | h
        · exact h
        · rw [List.getElem?_eq_none h] at hj; cases hj
      obtain ⟨u, x, hu, hx, hm⟩ := hd (i * ks.length + j) k (by rw [rowsK_get (hrow i r hi) hjlt]; exact hj)
      rw [flatten_get _ hl i j r hi hjlt] at hx
      have hcell := ho.cells (g := g) rfl _ _ hu
      rw [show (⟨g, 0, none⟩ : Addr).add (i * ks.length + j) = ⟨g, 0 + (i * ks.length + j), none⟩ by unfold Addr.add; split <;> simp_all] at hcell
      refine ⟨u, x, hcell, hx, ?_⟩
      cases k with
      | arr t => obtain ⟨rows', e, hA⟩ := hm; exact ⟨rows', e, hA.monoS fun _ _ h => .inl h⟩
      | _ => exact hm
theorem CReps.of_LReps {P : Program} {w : World} {O : Nat → Nat → Prop} : ∀ {ks : List Lk} {us : List Value} {cs : List C}, LReps P w O ks us cs → ks.all Lk.noVec = true → CReps P w O ks us cs
  | [], [], [], _, _ => trivial
  | k :: ks, u :: us, c :: cs, h, hn => by
    simp only [List.all_cons, Bool.and_eq_true] at hn
    refine ⟨⟨h.1.1, ?_⟩, CReps.of_LReps h.2 hn.2⟩
    have h1 := h.1.2
    cases k with
    | vec t => cases hn.1
    | _ => exact h1
  | [], [], _ :: _, h, _ => h.elim
  | [], _ :: _, _, h, _ => h.elim
  | _ :: _, [], _, h, _ => h.elim
  | _ :: _, _ :: _, [], h, _ => h.elim
/-- Rows that are laid into a new block. -/
theorem CReps.rows {P : Program} {w : World} {O : Nat → Nat → Prop} {ks : List Lk} : ∀ {rs : List (List Value × List C)}, (∀ r ∈ rs, CReps P w O ks r.1 r.2) → CReps P w O (rowsK rs.length ks) (rs.flatMap (·.1)) (rs.flatMap (·.2))
  | [], _ => trivial
  | r :: rs, h => by
    rw [List.length_cons, rowsK_succ, List.flatMap_cons, List.flatMap_cons]
    exact CReps.append (h r (by simp)) (CReps.rows fun x hx => h x (by simp [hx]))
/-- Only what is one's own in the way of slices turns; new variables. -/
theorem Sat.turnV {P : Program} {F : Nat → Prop} {w0 : World} {Γ : Env} {st : St} {a : Act} {w : World} (h : Sat P F w0 Γ st a w) (hw : st.wf = true) {rs : List C} (hsm : Smalls (Γ.ρ ++ rs)) {w' : World} {row : Option Nat} (hk : w.grownBy w' row) (hrow : ∀ b, row = some b → ∃ i, Hold Γ st false i b) {vec' : Vecs}
    (hv : ∀ i e, look vec' i = some e → (look st.vec i = some e ∧ ∀ b, (at_ Γ.ρ i).loc.ownBlock = some b → row ≠ some b) ∨
      (VecOK P w' (fun b o => Own Γ st b o ∨ w.heap.size ≤ b) e.1 (at_ (Γ.ρ ++ rs) i).loc (e.2.ev (Γ.ρ ++ rs)) ∧ i < st.nx + rs.length ∧ ∀ b, (at_ (Γ.ρ ++ rs) i).loc.ownBlock = some b → row = some b ∨ w.heap.size ≤ b))
    (hi : ∀ i e i' e' b, look vec' i = some e → look vec' i' = some e' → (at_ (Γ.ρ ++ rs) i).loc.ownBlock = some b → (at_ (Γ.ρ ++ rs) i').loc.ownBlock = some b → i = i') :
    Sat P F w0 { Γ with ρ := Γ.ρ ++ rs } { st with nx := st.nx + rs.length, vec := vec' } a w' := by
  have he : Ext Γ { Γ with ρ := Γ.ρ ++ rs } := ⟨⟨rs, rfl⟩, fun _ _ => rfl, Nat.le_refl _, rfl, rfl⟩
  have hhold : ∀ s j b, Hold { Γ with ρ := Γ.ρ ++ rs } { st with nx := st.nx + rs.length, vec := vec' } s j b → Hold Γ st s j b ∨ (s = false ∧ (row = some b ∨ w.heap.size ≤ b)) := by
    intro s j b hh
    rcases hh.inv with ⟨rfl, mb, hj, rfl⟩ | ⟨rfl, e, he', hb⟩
    · exact .inl ⟨mb, hj, rfl⟩
    · rcases hv j e he' with ⟨h1, h2⟩ | ⟨-, -, h3⟩
      · exact .inl (.vec (Γ := Γ) h1 (by rw [← h.vec_at he h1]; exact hb))
      · exact .inr ⟨rfl, h3 b hb⟩
  have hrowown : ∀ b, row = some b → ∀ o, Own Γ st b o := fun b hb o => by obtain ⟨i, hi⟩ := hrow b hb; exact hi.own o
  have hown : ∀ b o, Own { Γ with ρ := Γ.ρ ++ rs } { st with nx := st.nx + rs.length, vec := vec' } b o → Own Γ st b o ∨ w.heap.size ≤ b := fun b o hb => by
    rcases Own.iff.1 hb with hb | ⟨s, j, hh⟩
    · exact .inl (.inl hb)
    · rcases hhold s j b hh with hh | ⟨-, hh | hh⟩
      · exact .inl (hh.own o)
      · exact .inl (hrowown b hh o)
      · exact .inr hh
  have ht : Turn w w' (Own Γ st) (Own { Γ with ρ := Γ.ρ ++ rs } { st with nx := st.nx + rs.length, vec := vec' }) := ⟨hk.size, fun b o hlt hno => ⟨World.cell?_of_block (hk.block b hlt fun e => hno (hrowown b e.symm o)), fun ho => (hown b o ho).elim hno (fun hge => by omega)⟩⟩
  have hmemrow : ∀ b mb, look st.mem b = some mb → some (Γ.blk b) ≠ row := fun b mb hb e => by
    obtain ⟨i, hi⟩ := hrow _ e.symm
    have := (h.inj _ _ _ _ _ (Hold.mem (Γ := Γ) hb) hi).1
    cases this
  refine ⟨h.slots_ext hw he ht, h.size, fun b mb hm => ?_, fun i e hie => ?_, h.clo_ext hw he ht, fun s j s' j' b h1 h2 => ?_, h.keeps.trans ⟨hk.os, hk.tape, hk.output, hk.size, fun i hi => hk.block i ?_ fun e => ?_⟩, h.fold, fun b o hb => Nat.lt_of_lt_of_le (h.base b o hb) hk.size, h.defers, by simp [h.len], h.nb, ⟨Bds.ok_ext h.num.bds, hsm⟩⟩
  · obtain ⟨h1, h2, h3, h4⟩ := h.mem b mb hm
    have hwf := h.wf_mem hw hm
    rw [dens_ext he _ hwf]
    exact ⟨(hk.block _ h1.lt (hmemrow b mb hm)).trans h1, fun l hl => Lf.ok_ext he (List.all_eq_true.1 hwf l hl) (Lf.ok_keep (h2 l hl) ht.size ht.keep), h3, h4⟩
  · rcases hv i e hie with ⟨h1, h2⟩ | ⟨h1, h2, h3⟩
    · refine ⟨h.vec_ext hw he ht h1 fun b hb => hk.block b ((h.vec i e h1).1.lt hb) fun e' => h2 b hb e'.symm, Nat.lt_of_lt_of_le (h.vec i e h1).2.1 (Nat.le_add_right _ _), ?_⟩
      rw [h.vec_at he h1]; exact (h.vec i e h1).2.2
    · refine ⟨h1.anti fun b o hb => (hown b o hb).elim .inl .inr, h2, fun b hb => ?_⟩
      rcases h3 b hb with h3 | h3
      · obtain ⟨i', e', hi', hb'⟩ := hrow b h3
        exact (h.vec i' e' hi').2.2 b hb'
      · exact ⟨fun hF => by have := h.fold _ hF; have := h.keeps.size; omega, fun o ho => by have := h.base b o ho; omega⟩
  · have key : ∀ s j s' j', Hold { Γ with ρ := Γ.ρ ++ rs } { st with nx := st.nx + rs.length, vec := vec' } s j b → Hold { Γ with ρ := Γ.ρ ++ rs } { st with nx := st.nx + rs.length, vec := vec' } s' j' b → s = true → s' = false → False := by
      intro s j s' j' h1 h2 e1 e2
      subst e1 e2
      have h1' : Hold Γ st true j b := (hhold _ _ _ h1).resolve_right fun hx => by cases hx.1
      rcases hhold _ _ _ h2 with h2' | ⟨-, h2' | h2'⟩
      · have := (h.inj _ _ _ _ _ h1' h2').1; cases this
      · obtain ⟨i, hi⟩ := hrow b h2'; have := (h.inj _ _ _ _ _ h1' hi).1; cases this
      · have := h.hold_lt h1'; omega
    cases s <;> cases s'
    · rcases h1.inv with ⟨e, -⟩ | ⟨-, e1, k1, b1⟩
      · cases e
      · rcases h2.inv with ⟨e, -⟩ | ⟨-, e2, k2, b2⟩
        · cases e
        · exact ⟨rfl, hi _ _ _ _ _ k1 k2 b1 b2⟩
    · exact (key _ _ _ _ h2 h1 rfl rfl).elim
    · exact (key _ _ _ _ h1 h2 rfl rfl).elim
    · exact h.inj _ _ _ _ _ ((hhold _ _ _ h1).resolve_right fun hx => by cases hx.1) ((hhold _ _ _ h2).resolve_right fun hx => by cases hx.1)
  · have := h.fold i hi; have := h.keeps.size; omega
  · obtain ⟨j, e', hj, hb⟩ := hrow i e.symm; exact ((h.vec j e' hj).2.2 i hb).1 hi

/-! Behind a call -/
theorem Lfs.freshL_wf (nb : Nat) : ∀ (ks : List Lk) (i n : Nat), i + ks.length ≤ n → (freshL ks i).all (Lf.wf n nb) = true
  | [], _, _, _ => rfl
  | k :: ks, i, n, h => by
    simp only [List.length_cons] at h
    simp only [freshL, List.all_cons, Bool.and_eq_true]
    refine ⟨?_, Lfs.freshL_wf nb ks (i + 1) n (by omega)⟩
    cases k <;> simp only [Lf.ofKind, Lf.wf, E.wf, B.wf, Nat.blt_eq] <;> omega
theorem St.wf_grow {st : St} (h : st.wf = true) (n : Nat) : ({ st with nx := st.nx + n } : St).wf = true := by
  simp only [St.wf, Bool.and_eq_true, List.all_eq_true] at h ⊢
  refine ⟨⟨⟨fun p hp => ?_, fun p hp => ?_⟩, fun p hp => ?_⟩, fun p hp => ?_⟩
  · have := h.1.1.1 p hp
    cases hv : p.2 with
    | none => rfl
    | some sv => rw [hv] at this; exact SV.wf_mono (Nat.le_add_right _ _) sv this
  · have := h.1.1.2 p hp
    cases hv : p.2 with
    | none => rfl
    | some mb => rw [hv] at this; exact Lfs.wf_mono (Nat.le_add_right _ _) this
  · have := h.1.2 p hp
    cases hv : p.2 with
    | none => rfl
    | some e =>
      rw [hv] at this
      simp only [wfV, Bool.and_eq_true, Nat.blt_eq] at this ⊢
      exact ⟨by omega, E.wf_mono (Nat.le_add_right _ _) _ this.2⟩
  · have := h.2 p hp
    cases hv : p.2 with
    | none => rfl
    | some e =>
      rw [hv] at this
      simp only [wfC, Bool.and_eq_true, Nat.blt_eq] at this ⊢
      exact ⟨⟨by omega, List.all_eq_true.2 fun s hs => S0.wf_mono (Nat.le_add_right _ _) s (List.all_eq_true.1 this.1.2 s hs)⟩, Lfs.wf_mono (Nat.le_add_right _ _) this.2⟩
theorem freshMem_noBox (nb : Nat) : ∀ (ss : List Sh0) (i : Nat), ss.all (fun s => !s.isBox) = true → freshMem nb ss i = []
  | [], _, _ => rfl
  | s :: ss, i, h => by
    simp only [List.all_cons, Bool.and_eq_true] at h
    cases s with
    | box t l => cases h.1
    | lf k => exact freshMem_noBox nb ss _ h.2
    | agg l => exact freshMem_noBox nb ss _ h.2
theorem isBox_noBox : ∀ {ss : List Sh0} {vs : List Value} {i : Nat}, ss.all (fun s => !s.isBox) = true → ¬ IsBox ss vs i
  | [], vs, i, _, h => by cases vs <;> exact h
  | s :: ss, [], i, hb, h => by cases s <;> exact h
  | s :: ss, v :: vs, i, hb, h => by
    simp only [List.all_cons, Bool.and_eq_true] at hb
    cases s with
    | box t l => cases hb.1
    | lf k => exact isBox_noBox (ss := ss) (vs := vs) hb.2 h
    | agg l => exact isBox_noBox (ss := ss) (vs := vs) hb.2 h
theorem at_app2 {ρ cs ds : List C} {j : Nat} {c : C} (h : ds[j]? = some c) : at_ (ρ ++ (cs ++ ds)) (ρ.length + cs.length + j) = c := by
  rw [← List.append_assoc, ← List.length_append]
  exact at_app h
/-- Blocks that are not known yet, but nobody else's. -/
def Env.addL (Γ : Env) (VB : List Nat) : Env := { Γ with base := fun x o => Γ.base x o ∨ x ∈ VB }
section
variable {P : Program} {F : Nat → Prop} {w0 : World} {Γ : Env} {st : St} {a : Act} {w : World} {VB : List Nat}
theorem Lf.den_addL (l : Lf) : l.den (Γ.addL VB) = l.den Γ := by cases l <;> rfl
theorem dens_addL (l : List Lf) : dens (Γ.addL VB) l = dens Γ l := by
  unfold dens; rw [List.map_congr_left fun x _ => Lf.den_addL x]
theorem S0.den_addL (s : S0) : s.den (Γ.addL VB) = s.den Γ := by
  cases s with
  | lf l => exact Lf.den_addL l
  | agg l => simp only [S0.den, dens_addL]
theorem SV.den_addL (s : SV) : s.den (Γ.addL VB) = s.den Γ := by
  cases s with
  | one s => exact S0.den_addL s
  | tup l => simp only [SV.den]; rw [List.map_congr_left fun x _ => S0.den_addL x]
  | fn f l => simp only [SV.den, dens_addL]
theorem Lf.ok_addL {O : Nat → Nat → Prop} {l : Lf} : l.ok P w O (Γ.addL VB) ↔ l.ok P w O Γ := by cases l <;> exact Iff.rfl
theorem S0.ok_addL {O : Nat → Nat → Prop} {s : S0} : s.ok P w O (Γ.addL VB) ↔ s.ok P w O Γ := ⟨fun h l hl => Lf.ok_addL.1 (h l hl), fun h l hl => Lf.ok_addL.2 (h l hl)⟩
theorem SV.ok_addL {O : Nat → Nat → Prop} {s : SV} : s.ok P w O (Γ.addL VB) ↔ s.ok P w O Γ := by
  cases s with
  | one s => exact S0.ok_addL
  | tup l => exact ⟨fun h s hs => S0.ok_addL.1 (h s hs), fun h s hs => S0.ok_addL.2 (h s hs)⟩
  | fn f l => exact ⟨fun h l hl => Lf.ok_addL.1 (h l hl), fun h l hl => Lf.ok_addL.2 (h l hl)⟩
theorem Hold.addL {s : Bool} {j b : Nat} : Hold (Γ.addL VB) st s j b ↔ Hold Γ st s j b := by cases s <;> exact Iff.rfl
theorem Own.addL {b o : Nat} : Own (Γ.addL VB) st b o ↔ Own Γ st b o ∨ b ∈ VB := by
  constructor
  · intro h
    rcases Own.iff.1 h with (h | h) | ⟨s, j, h⟩
    · exact .inl (.inl h)
    · exact .inr h
    · exact .inl ((Hold.addL.1 h).own o)
  · rintro (h | h)
    · rcases Own.iff.1 h with h | ⟨s, j, h⟩
      · exact .inl (.inl h)
      · exact Hold.own (Γ := Γ.addL VB) (Hold.addL.2 h) o
    · exact .inl (.inr h)
theorem Turn.addL {w' : World} (hs : w.heap.size ≤ w'.heap.size) (hk : ∀ b o, b < w.heap.size → ¬ Own Γ st b o → w'.cell? ⟨b, o, none⟩ = w.cell? ⟨b, o, none⟩) (hVB : ∀ b ∈ VB, w.heap.size ≤ b) : Turn w w' (Own Γ st) (Own (Γ.addL VB) st) :=
  ⟨hs, fun b o hb hno => ⟨hk b o hb hno, fun ho => (Own.addL.1 ho).elim hno fun hx => by have := hVB b hx; omega⟩⟩
theorem Sat.belowL (h : Sat P F w0 Γ st a w) {w' : World} (hb : Below w.heap.size w w') (hVB : ∀ b ∈ VB, w.heap.size ≤ b ∧ b < w'.heap.size) : Sat P F w0 (Γ.addL VB) st a w' := by
  have ht : Turn w w' (Own Γ st) (Own (Γ.addL VB) st) := Turn.addL hb.size (fun b o hb' _ => World.cell?_of_block (hb.block b hb')) fun b hx => (hVB b hx).1
  refine ⟨fun t sv hs => ?_, h.size, fun b mb hm => ?_, fun i e hi => ⟨(h.vec i e hi).1.keep ht.size ht.keep fun b hb' => hb.block b ((h.vec i e hi).1.lt hb'), (h.vec i e hi).2.1, fun b hb' => ⟨((h.vec i e hi).2.2 b hb').1, fun o ho => ho.elim (((h.vec i e hi).2.2 b hb').2 o) fun hx => by
      have := (h.vec i e hi).1.lt hb'; have := hVB b hx; omega⟩⟩, fun i e hi => ?_, fun s j s' j' b h1 h2 => h.inj _ _ _ _ _ (Hold.addL.1 h1) (Hold.addL.1 h2), h.keeps.trans (Keeps.of_below hb fun i hi => ?_), h.fold, fun b o hb' => hb'.elim (fun hb' => Nat.lt_of_lt_of_le (h.base b o hb') hb.size) fun hx => (hVB b hx).2, h.defers, h.len, h.nb, h.num⟩
  · obtain ⟨h1, h2⟩ := h.slots_keep ht t sv hs
    exact ⟨by rw [SV.den_addL]; exact h1, SV.ok_addL.2 h2⟩
  · obtain ⟨h1, h2, h3, h4⟩ := h.mem b mb hm
    exact ⟨by rw [dens_addL]; exact h1.below hb, fun l hl => Lf.ok_addL.2 (Lf.ok_keep (h2 l hl) ht.size ht.keep), h3, h4⟩
  · obtain ⟨h1, h2, h3⟩ := h.clo_keep ht i e hi
    refine ⟨?_, fun s hs => S0.ok_addL.2 (h2 s hs), fun l hl => Lf.ok_addL.2 (h3 l hl)⟩
    rw [List.map_congr_left fun s _ => S0.den_addL s, List.map_congr_left fun l _ => Lf.den_addL l]
    exact h1
  · have := h.fold i hi; have := h.keeps.size; omega
theorem Sat.modL (h : Sat P F w0 Γ st a w) {b : Nat} {mb : TypeId × List Lf} (hb : look st.mem b = some mb) {w' : World} (hk : Keeps (fun i => i < w.heap.size ∧ i ≠ Γ.blk b) w w') {cs : List Lf}
    (hnew : Blk w' (Γ.blk b) mb.1 (dens Γ cs)) (hVB : ∀ b ∈ VB, w.heap.size ≤ b ∧ b < w'.heap.size) (hok : ∀ l ∈ cs, l.ok P w' (Own (Γ.addL VB) st) Γ) : Sat P F w0 (Γ.addL VB) { st with mem := (b, some (mb.1, cs)) :: st.mem } a w' := by
  obtain ⟨m1, m2, m3, m4⟩ := h.mem b mb hb
  have hhold : ∀ s j x, Hold (Γ.addL VB) { st with mem := (b, some (mb.1, cs)) :: st.mem } s j x → Hold Γ st s j x := fun s j x hh =>
    Hold.congr (Γ := Γ) (st := st) (Γ' := Γ.addL VB) (st' := { st with mem := (b, some (mb.1, cs)) :: st.mem }) (fun j mj hj => ⟨by
      simp only [look] at hj
      split at hj
      · rename_i e; subst e; exact ⟨mb, hb⟩
      · exact ⟨mj, hj⟩, rfl⟩) (fun i e hi => ⟨⟨e, hi⟩, rfl⟩) hh
  have hown : ∀ k o, Own (Γ.addL VB) { st with mem := (b, some (mb.1, cs)) :: st.mem } k o → Own (Γ.addL VB) st k o := fun k o hk => by
    rcases Own.iff.1 hk with hk | ⟨s, j, hh⟩
    · exact .inl hk
    · exact Hold.own (Γ := Γ.addL VB) (Hold.addL.2 (hhold s j k hh)) o
  have hbh : Hold Γ st true b (Γ.blk b) := .mem hb
  have ht0 : Turn w w' (Own Γ st) (Own (Γ.addL VB) st) := Turn.addL hk.size (fun k o hlt hno => World.cell?_of_block (hk.block k ⟨hlt, fun e => hno (e ▸ hbh.own o)⟩)) fun b hx => (hVB b hx).1
  have ht : Turn w w' (Own Γ st) (Own (Γ.addL VB) { st with mem := (b, some (mb.1, cs)) :: st.mem }) :=
    ⟨hk.size, fun k o hlt hno => ⟨(ht0.keep k o hlt hno).1, fun ho => (ht0.keep k o hlt hno).2 (hown k o ho)⟩⟩
  refine ⟨fun t sv hs => ?_, h.size, fun c mc hm => ?_, fun i e hi => ⟨(h.vec i e hi).1.keep ht.size ht.keep fun b' hb' => hk.block b' ⟨(h.vec i e hi).1.lt hb', fun e' => by
      have := (h.inj _ _ _ _ _ (Hold.vec (Γ := Γ) hi hb') (e' ▸ hbh)).1; cases this⟩, (h.vec i e hi).2.1, fun b' hb' => ⟨((h.vec i e hi).2.2 b' hb').1, fun o ho => ho.elim (((h.vec i e hi).2.2 b' hb').2 o) fun hx => by
      have := (h.vec i e hi).1.lt hb'; have := hVB b' hx; omega⟩⟩, fun i e hi => ?_, fun s j s' j' x h1 h2 => h.inj _ _ _ _ _ (hhold _ _ _ h1) (hhold _ _ _ h2), h.keeps.trans ⟨hk.os, hk.tape, hk.output, hk.size, fun i hi => hk.block i ⟨?_, fun e => m3 (e ▸ hi)⟩⟩, h.fold, fun b' o hb' => hb'.elim (fun hb' => Nat.lt_of_lt_of_le (h.base b' o hb') hk.size) fun hx => (hVB b' hx).2, h.defers, h.len, h.nb, h.num⟩
  · obtain ⟨h1, h2⟩ := h.slots_keep ht t sv hs
    exact ⟨by rw [SV.den_addL]; exact h1, SV.ok_addL.2 h2⟩
  · simp only [look] at hm
    split at hm
    · rename_i e
      subst e
      cases hm
      exact ⟨by rw [dens_addL]; exact hnew, fun l hl => Lf.ok_addL.2 ((hok l hl).anti' hown), m3, m4⟩
    · rename_i e
      obtain ⟨h1, h2, h3, h4⟩ := h.mem c mc hm
      refine ⟨?_, fun l hl => Lf.ok_addL.2 (Lf.ok_keep (h2 l hl) ht.size ht.keep), h3, h4⟩
      rw [dens_addL]
      exact (hk.block (Γ.blk c) ⟨h1.lt, fun e' => e (h.inj _ _ _ _ _ (Hold.mem (Γ := Γ) hm) (e' ▸ hbh)).2.symm⟩).trans h1
  · obtain ⟨h1, h2, h3⟩ := h.clo_keep ht i e hi
    refine ⟨?_, fun s hs => S0.ok_addL.2 (h2 s hs), fun l hl => Lf.ok_addL.2 (h3 l hl)⟩
    rw [List.map_congr_left fun s _ => S0.den_addL s, List.map_congr_left fun l _ => Lf.den_addL l]
    exact h1
  · have := h.fold i hi; have := h.keeps.size; omega
theorem look_freshV {m : Vecs} : ∀ {ks : List Lk} {i0 i : Nat} {e : TypeId × E}, look (freshV ks i0 ++ m) i = some e → (∃ j t, i = i0 + j ∧ ks[j]? = some (.vec t) ∧ e = (t, .var i)) ∨ ((∀ j t, i = i0 + j → ks[j]? ≠ some (.vec t)) ∧ look m i = some e)
  | [], i0, i, e, h => .inr ⟨fun j t _ => by simp, h⟩
  | k :: ks, i0, i, e, h => by
    have next : look (freshV ks (i0 + 1) ++ m) i = some e → (∀ t, i = i0 → k ≠ .vec t) → (∃ j t, i = i0 + j ∧ (k :: ks)[j]? = some (.vec t) ∧ e = (t, .var i)) ∨ ((∀ j t, i = i0 + j → (k :: ks)[j]? ≠ some (.vec t)) ∧ look m i = some e) := fun h hk => by
      rcases look_freshV h with ⟨j, t, rfl, hj, he⟩ | ⟨h1, h2⟩
      · exact .inl ⟨j + 1, t, by omega, by simpa using hj, he⟩
      · refine .inr ⟨fun j t hj => ?_, h2⟩
        cases j with
        | zero => simpa using hk t (by omega)
        | succ j => simpa using h1 j t (by omega)
    cases k with
    | vec t =>
      simp only [freshV, List.cons_append, look] at h
      split at h
      · rename_i e'; subst e'; cases h; exact .inl ⟨0, t, rfl, rfl, rfl⟩
      · rename_i hne; exact next h fun _ e' => absurd e'.symm hne
    | int => exact next h fun _ _ => by simp
    | bool => exact next h fun _ _ => by simp
    | arr t => exact next h fun _ _ => by simp
theorem vecB_mem : ∀ {ks : List Lk} {cs : List C} {j : Nat} {t : TypeId} {c : C} {b : Nat}, ks[j]? = some (.vec t) → cs[j]? = some c → c.loc.ownBlock = some b → b ∈ vecB ks cs
  | [], _, _, _, _, _, h, _, _ => by simp at h
  | _ :: _, [], _, _, _, _, _, h, _ => by simp at h
  | k :: ks, x :: cs, 0, t, c, b, h1, h2, h3 => by
    simp at h1 h2; subst h1 h2
    simp [vecB, h3]
  | k :: ks, x :: cs, j + 1, t, c, b, h1, h2, h3 => by
    have := vecB_mem (ks := ks) (cs := cs) (by simpa using h1) (by simpa using h2) h3
    cases k <;> simp [vecB, this]
theorem vecB_inj : ∀ {ks : List Lk} {cs : List C} {j j' : Nat} {t t' : TypeId} {c c' : C} {b : Nat}, (vecB ks cs).Nodup → ks[j]? = some (.vec t) → cs[j]? = some c → c.loc.ownBlock = some b → ks[j']? = some (.vec t') → cs[j']? = some c' → c'.loc.ownBlock = some b → j = j'
  | [], _, _, _, _, _, _, _, _, _, h, _, _, _, _, _ => by simp at h
  | _ :: _, [], _, _, _, _, _, _, _, _, _, h, _, _, _, _ => by simp at h
  | k :: ks, x :: cs, j, j', t, t', c, c', b, hn, h1, h2, h3, h4, h5, h6 => by
    have tail : (vecB ks cs).Nodup := by
      cases k with
      | vec t => simp only [vecB] at hn; exact (List.nodup_append.1 hn).2.1
      | _ => exact hn
    have key : ∀ (i : Nat) (u : TypeId) (d : C), (k :: ks)[0]? = some (.vec t) → (x :: cs)[0]? = some c → c.loc.ownBlock = some b → ks[i]? = some (.vec u) → cs[i]? = some d → d.loc.ownBlock = some b → ∀ (t : TypeId), k = .vec t → x.loc.ownBlock = some b → False := fun i u d _ _ _ g1 g2 g3 t e1 e2 => by
      subst e1
      simp only [vecB, e2] at hn
      exact (List.nodup_append.1 hn).2.2 b (by simp) b (vecB_mem g1 g2 g3) rfl
    cases j with
    | zero =>
      cases j' with
      | zero => rfl
      | succ j' =>
        exfalso
        simp at h1 h2; subst h1 h2
        exact key j' t' c' rfl rfl h3 (by simpa using h4) (by simpa using h5) h6 t rfl h3
    | succ j =>
      cases j' with
      | zero =>
        exfalso
        simp at h4 h5; subst h4 h5
        simp only [vecB, h6] at hn
        exact (List.nodup_append.1 hn).2.2 b (by simp) b (vecB_mem (by simpa using h1) (by simpa using h2) h3) rfl
      | succ j' => exact congrArg (· + 1) (vecB_inj (t := t) (t' := t') (c := c) (c' := c') (b := b) tail (by simpa using h1) (by simpa using h2) h3 (by simpa using h4) (by simpa using h5) h6)
/-- New slices of one's own. -/
theorem Sat.addVecs {ks : List Lk} {cs : List C} (h : Sat P F w0 (Γ.addL (vecB ks cs)) st a w) {i0 : Nat} (hat : ∀ (j : Nat) (c : C), cs[j]? = some c → at_ Γ.ρ (i0 + j) = c) (hlt : i0 + cs.length ≤ st.nx) (hlen : cs.length = ks.length)
    (hrep : ∀ (j : Nat) (t : TypeId) (c : C), ks[j]? = some (.vec t) → cs[j]? = some c → VecOK P w (Own (Γ.addL (vecB ks cs)) st) t c.loc c) (hnd : (vecB ks cs).Nodup) (hge : ∀ b ∈ vecB ks cs, ¬ F b ∧ (∀ s j, ¬ Hold Γ st s j b) ∧ ∀ o, ¬ Γ.base b o) :
    Sat P F w0 Γ { st with vec := freshV ks i0 ++ st.vec } a w := by
  have hcell : ∀ (j : Nat) (t : TypeId), ks[j]? = some (.vec t) → ∃ c, cs[j]? = some c ∧ at_ Γ.ρ (i0 + j) = c := fun j t hj => by
    have : j < cs.length := by
      rw [hlen]
      rcases Nat.lt_or_ge j ks.length with h | h
      · exact h
      · rw [List.getElem?_eq_none h] at hj; cases hj
    exact ⟨cs[j], by simp [this], hat j _ (by simp [this])⟩
  have hhold : ∀ s j b, Hold Γ { st with vec := freshV ks i0 ++ st.vec } s j b → Hold Γ st s j b ∨ (s = false ∧ ∃ (n : Nat) (t : TypeId) (c : C), j = i0 + n ∧ ks[n]? = some (.vec t) ∧ cs[n]? = some c ∧ c.loc.ownBlock = some b) := by
    intro s j b hh
    rcases hh.inv with ⟨rfl, mb, hj, rfl⟩ | ⟨rfl, e, he', hb⟩
    · exact .inl ⟨mb, hj, rfl⟩
    · rcases look_freshV he' with ⟨n, t, rfl, hn, rfl⟩ | ⟨-, hm⟩
      · obtain ⟨c, h1, h2⟩ := hcell n t hn
        rw [h2] at hb
        exact .inr ⟨rfl, n, t, c, rfl, hn, h1, hb⟩
      · exact .inl (.vec (Γ := Γ) hm hb)
  have hown : ∀ b o, Own Γ { st with vec := freshV ks i0 ++ st.vec } b o → Own (Γ.addL (vecB ks cs)) st b o := fun b o hb => by
    rcases Own.iff.1 hb with hb | ⟨s, j, hh⟩
    · exact .inl (.inl hb)
    · rcases hhold s j b hh with hh | ⟨-, n, t, c, -, h1, h2, h3⟩
      · exact Own.addL.2 (.inl (hh.own o))
      · exact Own.addL.2 (.inr (vecB_mem h1 h2 h3))
  have ht : Turn w w (Own (Γ.addL (vecB ks cs)) st) (Own Γ { st with vec := freshV ks i0 ++ st.vec }) := ⟨Nat.le_refl _, fun b o _ hno => ⟨rfl, fun ho => hno (hown b o ho)⟩⟩
  refine ⟨fun t sv hs => ?_, h.size, fun b mb hm => ?_, fun i e hi => ?_, fun i e hi => ?_, fun s j s' j' b h1 h2 => ?_, h.keeps, h.fold, fun b o hb => h.base b o (.inl hb), h.defers, h.len, h.nb, h.num⟩
  · obtain ⟨h1, h2⟩ := h.slots_keep ht t sv hs
    rw [SV.den_addL] at h1
    exact ⟨h1, SV.ok_addL.1 h2⟩
  · obtain ⟨h1, h2, h3, h4⟩ := h.mem b mb hm
    rw [dens_addL] at h1
    exact ⟨h1, fun l hl => Lf.ok_addL.1 (Lf.ok_keep (h2 l hl) ht.size ht.keep), h3, h4⟩
  · rcases look_freshV hi with ⟨n, t, rfl, hn, rfl⟩ | ⟨-, hm⟩
    · obtain ⟨c, h1, h2⟩ := hcell n t hn
      have hnlt : n < cs.length := by
        rcases Nat.lt_or_ge n cs.length with h | h
        · exact h
        · rw [List.getElem?_eq_none h] at h1; cases h1
      refine ⟨?_, by show _ < st.nx; omega, fun b hb => ?_⟩
      · simp only [E.ev, h2]
        exact (hrep n t c hn h1).anti hown
      · rw [h2] at hb
        have := hge b (vecB_mem hn h1 hb)
        exact ⟨this.1, this.2.2⟩
    · obtain ⟨h1, h2, h3⟩ := h.vec i e hm
      exact ⟨h1.anti hown, h2, fun b hb => ⟨(h3 b hb).1, fun o ho => (h3 b hb).2 o (.inl ho)⟩⟩
  · obtain ⟨h1, h2, h3⟩ := h.clo_keep ht i e hi
    refine ⟨?_, fun s hs => S0.ok_addL.1 (h2 s hs), fun l hl => Lf.ok_addL.1 (h3 l hl)⟩
    rw [List.map_congr_left fun s _ => S0.den_addL s, List.map_congr_left fun l _ => Lf.den_addL l] at h1
    exact h1
  · rcases hhold _ _ _ h1 with h1 | ⟨rfl, n, t, c, rfl, k1, k2, k3⟩ <;> rcases hhold _ _ _ h2 with h2 | ⟨rfl, n', t', c', rfl, k4, k5, k6⟩
    · exact h.inj _ _ _ _ _ (Hold.addL.2 h1) (Hold.addL.2 h2)
    · exact absurd h1 ((hge b (vecB_mem k4 k5 k6)).2.1 _ _)
    · exact absurd h2 ((hge b (vecB_mem k1 k2 k3)).2.1 _ _)
    · exact ⟨rfl, by rw [vecB_inj hnd k1 k2 k3 k4 k5 k6]⟩
theorem vecB_noVec : ∀ {ks : List Lk} {cs : List C}, ks.all Lk.noVec = true → vecB ks cs = []
  | [], _, _ => by simp [vecB]
  | _ :: _, [], h => by simp [vecB]
  | k :: ks, c :: cs, h => by
    simp only [List.all_cons, Bool.and_eq_true] at h
    cases k with
    | vec t => cases h.1
    | _ => exact vecB_noVec (ks := ks) h.2
theorem freshV_noVec : ∀ {ks : List Lk} {i : Nat}, ks.all Lk.noVec = true → freshV ks i = []
  | [], _, _ => rfl
  | k :: ks, i, h => by
    simp only [List.all_cons, Bool.and_eq_true] at h
    cases k with
    | vec t => cases h.1
    | _ => exact freshV_noVec (ks := ks) h.2
theorem LReps.get : ∀ {ks : List Lk} {us : List Value} {cs : List C} {O : Nat → Nat → Prop}, LReps P w O ks us cs → ∀ {j : Nat} {k : Lk} {c : C}, ks[j]? = some k → cs[j]? = some c → ∃ u, us[j]? = some u ∧ LRep P w O k u c
  | [], [], [], _, _, j, k, c, hj, _ => by simp at hj
  | _ :: _, u :: _, c :: _, _, h, 0, k, _, hj, hc => by simp at hj hc; subst hj hc; exact ⟨u, rfl, h.1⟩
  | _ :: _, _ :: _, _ :: _, _, h, j + 1, k, c, hj, hc => by simpa using LReps.get h.2 (j := j) (by simpa using hj) (by simpa using hc)
  | [], [], _ :: _, _, h, _, _, _, _, _ => h.elim
  | [], _ :: _, _, _, h, _, _, _, _, _ => h.elim
  | _ :: _, [], _, _, h, _, _, _, _, _ => h.elim
  | _ :: _, _ :: _, [], _, h, _, _, _, _, _ => h.elim
/-- The slices of one's own among results. -/
theorem Reps.vec {O : Nat → Nat → Prop} {old : Option Nat} : ∀ {ss : List Sh0} {vs : List Value} {cs : List C}, Reps P w O old ss vs cs → ∀ {j : Nat} {t : TypeId} {c : C}, (kindsOf ss)[j]? = some (.vec t) → cs[j]? = some c → VecOK P w O t c.loc c
  | [], [], cs, h, j, t, c, hj, _ => by simp [kindsOf] at hj
  | s :: ss, v :: vs, cs, h, j, t, c, hj, hc => by
    obtain ⟨c1, c2, rfl, h1, h2⟩ := h
    have hlen : c1.length = s.kinds.length := h1.ty.len
    have hko : kindsOf (s :: ss) = s.kinds ++ kindsOf ss := by simp [kindsOf]
    rw [hko] at hj
    by_cases hlt : j < s.kinds.length
    · rw [List.getElem?_append_left hlt] at hj
      rw [List.getElem?_append_left (by omega)] at hc
      have one : ∀ {O' : Nat → Nat → Prop} {us : List Value}, LReps P w O' s.kinds us c1 → (∀ b o, O b o → O' b o) → VecOK P w O t c.loc c := fun hr hO => by
        obtain ⟨u, -, hu⟩ := hr.get hj hc
        have := hu.2
        rw [← this.1]
        exact this.2.anti hO
      cases s with
      | lf k => obtain ⟨c', rfl, hr⟩ := h1; exact one (us := [v]) ⟨hr, trivial⟩ fun _ _ h => h
      | agg l => obtain ⟨us, -, hr⟩ := h1; exact one hr fun _ _ h => h
      | box t l => obtain ⟨b, us, -, -, -, hr⟩ := h1; exact one hr fun _ _ h => .inl h
    · rw [List.getElem?_append_right (by omega)] at hj
      rw [List.getElem?_append_right (by omega)] at hc
      exact Reps.vec h2 hj (by rw [← hlen]; exact hc)
  | [], _ :: _, _, h, _, _, _, _, _ => h.elim
  | _ :: _, [], _, h, _, _, _, _, _ => h.elim
theorem vecB_inv : ∀ {ks : List Lk} {cs : List C} {b : Nat}, b ∈ vecB ks cs → ∃ (j : Nat) (t : TypeId) (c : C), ks[j]? = some (.vec t) ∧ cs[j]? = some c ∧ c.loc.ownBlock = some b
  | [], _, _, h => by simp [vecB] at h
  | _ :: _, [], _, h => by simp [vecB] at h
  | k :: ks, c :: cs, b, h => by
    have next : b ∈ vecB ks cs → ∃ (j : Nat) (t : TypeId) (c' : C), (k :: ks)[j]? = some (.vec t) ∧ (c :: cs)[j]? = some c' ∧ c'.loc.ownBlock = some b := fun h => by
      obtain ⟨j, t, c', h1, h2, h3⟩ := vecB_inv h
      exact ⟨j + 1, t, c', by simpa using h1, by simpa using h2, h3⟩
    cases k with
    | vec t =>
      simp only [vecB, List.mem_append] at h
      rcases h with h | h
      · refine ⟨0, t, c, rfl, rfl, ?_⟩
        split at h
        · rename_i b' hb'; simp at h; subst h; exact hb'
        · cases h
      · exact next h
    | _ => exact next h
/-- What is known behind a call. -/
theorem Sat.called (hs : Sat P F w0 Γ st a w) (hwf : st.wf = true) {ct : Ct} {args : List S0} (hsh : shapes st.mem args = some ct.args) (hbx : boxOk ct = true)
    {w' : World} {v : Value} {rs outs : List C} (hres : Res P w' (Own Γ st) w.heap.size ct.res v rs) (houts : Outs P w' (fun b o => Own Γ st b o ∨ b ∈ vecB (kindsOf ct.res) rs) ct.args (args.map (S0.den Γ)) outs)
    (hkeep : Keeps (fun i => i < w.heap.size ∧ ¬ IsBox ct.args (args.map (S0.den Γ)) i) w w') :
    CTy P (kindsOf ct.res ++ boxKinds ct.args) (rs ++ outs) ∧ ∃ Γ', Ext Γ Γ' ∧ Γ'.ρ = Γ.ρ ++ (rs ++ outs) ∧ Sat P F w0 Γ' (st.called ct args) a w' ∧ (svOf (freshS st.nb ct.res st.nx)).den Γ' = v ∧ (svOf (freshS st.nb ct.res st.nx)).ok P w' (Own Γ' (st.called ct args)) Γ' := by
  have hrty : CTy P (kindsOf ct.res) rs := by obtain ⟨vs, -, hr, -⟩ := hres; exact hr.ty
  simp only [boxOk, Bool.and_eq_true, Bool.or_eq_true] at hbx
  obtain ⟨⟨hb1, hb2⟩, hb3⟩ := hbx
  have hrep : ∀ (j : Nat) (t : TypeId) (c : C), (kindsOf ct.res)[j]? = some (.vec t) → rs[j]? = some c → VecOK P w' (fun b o => Own Γ st b o ∨ b ∈ vecB (kindsOf ct.res) rs) t c.loc c := fun j t c h1 h2 => by
    obtain ⟨vs, -, hr, -⟩ := hres; exact hr.vec h1 h2
  have hnd : (vecB (kindsOf ct.res) rs).Nodup := hres.choose_spec.2.2.1
  have hge : ∀ b ∈ vecB (kindsOf ct.res) rs, w.heap.size ≤ b ∧ b < w'.heap.size := fun b hb => by
    refine ⟨hres.choose_spec.2.2.2 b hb, ?_⟩
    obtain ⟨j, t, c, h1, h2, h3⟩ := vecB_inv hb
    exact (hrep j t c h1 h2).lt h3
  have hge2 : ∀ b ∈ vecB (kindsOf ct.res) rs, ¬ F b ∧ (∀ s j, ¬ Hold Γ st s j b) ∧ ∀ o, ¬ Γ.base b o := fun b hb => by
    have h1 := (hge b hb).1
    exact ⟨fun hF => by have := hs.fold _ hF; have := hs.keeps.size; omega, fun s j hh => by have := hs.hold_lt hh; omega, fun o ho => by have := hs.base b o ho; omega⟩
  rcases outs_one hsh (Nat.le_of_ble_eq_true hb1) houts with hno | ⟨b, mb, us, g1, g2, g3, g4, g5, g6, g7⟩
  · obtain ⟨n1, n2, n3, n4⟩ := shapes_noBox hsh hno
    have ho := outs_noBox hno houts
    subst ho
    have hbel : Below w.heap.size w w' := ⟨hkeep.os, hkeep.tape, hkeep.output, hkeep.size, fun i hi => hkeep.block i ⟨hi, n3 _ i⟩⟩
    have hty : CTy P (kindsOf ct.res ++ boxKinds ct.args) (rs ++ []) := by rw [n2]; exact CTy.append hrty trivial
    refine ⟨hty, ?_⟩
    have hsm : Smalls (Γ.ρ ++ (rs ++ [])) := hs.num.len.app fun c hc => hty.small c hc
    have hbm : boxMem st.mem args (boxKinds ct.args) (st.nx + (kindsOf ct.res).length) = [] := by unfold boxMem; rw [n1]
    by_cases hrb : ct.res.all (fun s => !s.isBox) = true
    · have hfm := freshMem_noBox st.nb ct.res st.nx hrb
      have hgrow : Sat P F w0 (({ Γ with ρ := Γ.ρ ++ (rs ++ []) } : Env).addL (vecB (kindsOf ct.res) rs)) { st with nx := st.nx + (rs ++ []).length } a w' := (hs.belowL hbel hge).grow (rs := rs ++ []) hwf hsm
      rw [hty.len] at hgrow
      have hat : ∀ j c, rs[j]? = some c → at_ ({ Γ with ρ := Γ.ρ ++ (rs ++ []) } : Env).ρ (st.nx + j) = c := fun j c hj => by rw [← hs.len]; exact at_app (by rw [List.append_nil]; exact hj)
      have hadd := hgrow.addVecs hat (by show st.nx + rs.length ≤ st.nx + _; rw [hrty.len]; simp) hrty.len (fun j t c h1 h2 => (hrep j t c h1 h2).anti fun b o hb => (Own.addL.1 hb).imp (fun hb => by
          rcases Own.iff.1 hb with hb | ⟨s, j, hh⟩
          · exact .inl hb
          · exact Hold.own (Hold.congr (Γ := Γ) (st := st) (Γ' := { Γ with ρ := Γ.ρ ++ (rs ++ []) }) (st' := { st with nx := st.nx + (kindsOf ct.res ++ boxKinds ct.args).length }) (fun j mb hj => ⟨⟨mb, hj⟩, rfl⟩) (fun i e hi => ⟨⟨e, hi⟩, hs.vec_at (Γ' := { Γ with ρ := Γ.ρ ++ (rs ++ []) }) ⟨⟨_, rfl⟩, fun _ _ => rfl, Nat.le_refl _, rfl, rfl⟩ hi⟩) hh) o) id) hnd fun b hb => ⟨(hge2 b hb).1, fun s j hh => (hge2 b hb).2.1 s j (Hold.congr (Γ := Γ) (st := st) (Γ' := { Γ with ρ := Γ.ρ ++ (rs ++ []) }) (st' := { st with nx := st.nx + (kindsOf ct.res ++ boxKinds ct.args).length }) (fun j mb hj => ⟨⟨mb, hj⟩, rfl⟩) (fun i e hi => ⟨⟨e, hi⟩, hs.vec_at (Γ' := { Γ with ρ := Γ.ρ ++ (rs ++ []) }) ⟨⟨_, rfl⟩, fun _ _ => rfl, Nat.le_refl _, rfl, rfl⟩ hi⟩) hh), (hge2 b hb).2.2⟩
      have hcall : st.called ct args = { st with nx := st.nx + (kindsOf ct.res ++ boxKinds ct.args).length, vec := freshV (kindsOf ct.res) st.nx ++ st.vec } := by unfold St.called; rw [hfm, hbm]; rfl
      refine ⟨{ Γ with ρ := Γ.ρ ++ (rs ++ []) }, ⟨⟨_, rfl⟩, fun _ _ => rfl, Nat.le_refl _, rfl, rfl⟩, rfl, by rw [hcall]; exact hadd, ?_⟩
      have := svOf_rep (Γ := { Γ with ρ := Γ.ρ ++ (rs ++ []) }) (nb := st.nb) hres (fun vs _ _ b hb => absurd hb (isBox_noBox hrb)) (i := st.nx) hat
      refine ⟨this.1, SV.ok_keep this.2 (Nat.le_refl _) fun b o _ hno => ⟨rfl, fun hx => hno ?_⟩⟩
      rw [hcall] at hx
      rcases Own.iff.1 hx with hx | ⟨s, j, hh⟩
      · exact .inl (.inl hx)
      · rcases hh.inv with ⟨rfl, mb, hj, rfl⟩ | ⟨rfl, e, he', hb⟩
        · exact .inl ((Hold.mem (Γ := Γ) (st := st) hj).own o)
        · rcases look_freshV he' with ⟨n, t, rfl, hn, rfl⟩ | ⟨-, hm⟩
          · have hnlt : n < rs.length := by
              rw [hrty.len]
              rcases Nat.lt_or_ge n (kindsOf ct.res).length with h | h
              · exact h
              · rw [List.getElem?_eq_none h] at hn; cases hn
            rw [hat n rs[n] (by simp [hnlt])] at hb
            exact .inr (vecB_mem hn (by simp [hnlt]) hb)
          · exact .inl (Hold.own (Hold.vec (Γ := Γ) hm (by rw [← hs.vec_at (Γ' := { Γ with ρ := Γ.ρ ++ (rs ++ []) }) ⟨⟨_, rfl⟩, fun _ _ => rfl, Nat.le_refl _, rfl, rfl⟩ hm]; exact hb)) o)
    · have hone := hb2.resolve_left hrb
      have h1 := Nat.eq_of_beq_eq_true hone.1.1
      have hnv := hone.2
      have hvb : vecB (kindsOf ct.res) rs = [] := vecB_noVec hnv
      have hfv : freshV (kindsOf ct.res) st.nx = [] := freshV_noVec hnv
      obtain ⟨s, hs1⟩ : ∃ s, ct.res = [s] := by
        match hr : ct.res, h1 with
        | [s], _ => exact ⟨s, rfl⟩
      obtain ⟨vs, hv, hr, -, -⟩ := hres
      rw [hvb] at hr
      rw [hs1] at hrb hr hrty ⊢
      cases s with
      | lf k => exact absurd rfl hrb
      | agg l => exact absurd rfl hrb
      | box t l =>
        match vs, hr with
        | [x], hr =>
          obtain ⟨c1, c2, hc, hr1, hr2⟩ := hr
          cases hr2
          rw [List.append_nil] at hc
          subst hc
          obtain ⟨nb', us, rfl, hblk, hge', hrep'⟩ := hr1
          subst hv
          have hO := (hs.belowO hbel hge' hblk.lt).grow hwf hsm
          rw [hty.len] at hO
          have hk1 : kindsOf ([.box t l] : List Sh0) = l := by simp [kindsOf, Sh0.kinds]
          have hO' : Sat P F w0 (({ Γ with ρ := Γ.ρ ++ (rs ++ []) } : Env).addO (· = nb')) { st with nx := st.nx + (kindsOf ct.res ++ boxKinds ct.args).length } a w' := hO
          have hfr := freshL_rep (P := P) (w := w') (O := fun x o => Own Γ st x o ∨ x = nb') (Γ := { Γ with ρ := Γ.ρ ++ (rs ++ []) }) (hrep'.weaken fun x o hx => by
            rcases hx with hx | hx
            · exact .inl (.inl hx)
            · exact .inr (congrArg some (Eq.symm hx))) st.nx (fun j c hj => by rw [← hs.len, List.append_nil]; exact at_app hj)
          have hcs : (freshL l st.nx).all (Lf.wf (st.nx + (kindsOf ct.res ++ boxKinds ct.args).length) st.nb) = true := Lfs.freshL_wf st.nb l st.nx _ (by rw [hs1, hk1, List.length_append]; omega)
          have hcg : ∀ s j b, Hold ({ Γ with ρ := Γ.ρ ++ (rs ++ []) } : Env) { st with nx := st.nx + (kindsOf ct.res ++ boxKinds ct.args).length } s j b → Hold Γ st s j b := fun s j b hh =>
            Hold.congr (Γ := Γ) (st := st) (Γ' := { Γ with ρ := Γ.ρ ++ (rs ++ []) }) (st' := { st with nx := st.nx + (kindsOf ct.res ++ boxKinds ct.args).length }) (fun j mb hj => ⟨⟨mb, hj⟩, rfl⟩) (fun i e hi => ⟨⟨e, hi⟩, hs.vec_at (Γ' := { Γ with ρ := Γ.ρ ++ (rs ++ []) }) ⟨⟨_, rfl⟩, fun _ _ => rfl, Nat.le_refl _, rfl, rfl⟩ hi⟩) hh
          obtain ⟨Γ', e1, e2, e3, e4⟩ := hO'.adopt' (St.wf_grow hwf _) hcs (t := t) (by unfold dens; rw [hfr.1]; exact hblk) (by have := hs.keeps.size; omega) (fun s j hh => by have := hs.hold_lt (hcg s j _ hh); omega)
            (fun x hx => (hfr.2 x hx).anti' (fun y o hy => by
              rcases Own.iff.1 hy with (hy | hy) | ⟨s, j, hh⟩
              · exact .inl (.inl hy)
              · exact .inr hy
              · exact .inl ((hcg s j y hh.addO).own o)))
          have hcall : st.called ct args = { ({ st with nx := st.nx + (kindsOf ct.res ++ boxKinds ct.args).length } : St) with mem := (st.nb, some (t, freshL l st.nx)) :: st.mem, nb := st.nb + 1 } := by
            unfold St.called; rw [hbm, hfv, hs1]; rfl
          refine ⟨Γ', (⟨⟨rs ++ [], rfl⟩, fun _ _ => rfl, Nat.le_refl _, rfl, rfl⟩ : Ext Γ { Γ with ρ := Γ.ρ ++ (rs ++ []) }).trans e1, e2, by rw [hcall]; exact e4, ?_, ?_⟩
          · show Value.pointer (some ⟨Γ'.blk st.nb, 0, none⟩) = _
            rw [show Γ'.blk st.nb = nb' from e3]
          · intro y hy
            have : y = .ptr st.nb 0 := by simpa [svOf, freshS, Sh0.fresh, S0.cells] using hy
            subst this
            trivial
  · have hrb : ct.res.all (fun s => !s.isBox) = true := by
      rcases hb2 with h | h
      · exact h
      · exfalso
        obtain ⟨n1, -⟩ := shapes_noBox hsh h.1.2
        rw [n1] at g1; cases g1
    have hty : CTy P (kindsOf ct.res ++ boxKinds ct.args) (rs ++ outs) := CTy.append hrty g5.ty
    refine ⟨hty, ?_⟩
    have hsm : Smalls (Γ.ρ ++ (rs ++ outs)) := hs.num.len.app fun c hc => hty.small c hc
    have hgrow := hs.grow hwf hsm
    rw [hty.len] at hgrow
    have he : Ext Γ ({ Γ with ρ := Γ.ρ ++ (rs ++ outs) } : Env) := ⟨⟨_, rfl⟩, fun _ _ => rfl, Nat.le_refl _, rfl, rfl⟩
    have hfm := freshMem_noBox st.nb ct.res st.nx hrb
    have hbm : boxMem st.mem args (boxKinds ct.args) (st.nx + (kindsOf ct.res).length) = [(b, some (mb.1, freshL (boxKinds ct.args) (st.nx + (kindsOf ct.res).length)))] := by unfold boxMem; rw [g1]; simp only [g2]
    have hcall : st.called ct args = { ({ st with nx := st.nx + (kindsOf ct.res ++ boxKinds ct.args).length } : St) with mem := (b, some (mb.1, freshL (boxKinds ct.args) (st.nx + (kindsOf ct.res).length))) :: st.mem, vec := freshV (kindsOf ct.res) st.nx ++ st.vec } := by
      unfold St.called; rw [hfm, hbm]; rfl
    have hfr := freshL_rep (P := P) (w := w') (O := fun b o => Own Γ st b o ∨ b ∈ vecB (kindsOf ct.res) rs) (Γ := { Γ with ρ := Γ.ρ ++ (rs ++ outs) }) g5 (st.nx + (kindsOf ct.res).length) (fun j c hj => by rw [← hs.len, ← hrty.len]; exact at_app2 hj)
    generalize hcs : freshL (boxKinds ct.args) (st.nx + (kindsOf ct.res).length) = cs at *
    have hcg : ∀ s j x, Hold ({ Γ with ρ := Γ.ρ ++ (rs ++ outs) } : Env) { st with nx := st.nx + (kindsOf ct.res ++ boxKinds ct.args).length, mem := (b, some (mb.1, cs)) :: st.mem } s j x → Hold Γ st s j x := fun s j x hh =>
      Hold.congr (Γ := Γ) (st := st) (Γ' := { Γ with ρ := Γ.ρ ++ (rs ++ outs) }) (st' := { st with nx := st.nx + (kindsOf ct.res ++ boxKinds ct.args).length, mem := (b, some (mb.1, cs)) :: st.mem }) (fun j mj hj => ⟨by
        simp only [look] at hj
        split at hj
        · rename_i e; subst e; exact ⟨mb, g2⟩
        · exact ⟨mj, hj⟩, rfl⟩) (fun i e hi => ⟨⟨e, hi⟩, hs.vec_at he hi⟩) hh
    have hcg0 : ∀ s j x, Hold ({ Γ with ρ := Γ.ρ ++ (rs ++ outs) } : Env) { st with nx := st.nx + (kindsOf ct.res ++ boxKinds ct.args).length } s j x → Hold Γ st s j x := fun s j x hh =>
      Hold.congr (Γ := Γ) (st := st) (Γ' := { Γ with ρ := Γ.ρ ++ (rs ++ outs) }) (st' := { st with nx := st.nx + (kindsOf ct.res ++ boxKinds ct.args).length }) (fun j mj hj => ⟨⟨mj, hj⟩, rfl⟩) (fun i e hi => ⟨⟨e, hi⟩, hs.vec_at he hi⟩) hh
    have hmod := hgrow.modL (VB := vecB (kindsOf ct.res) rs) (b := b) (mb := mb) g2 (w' := w') ⟨hkeep.os, hkeep.tape, hkeep.output, hkeep.size, fun i hi => hkeep.block i ⟨hi.1, fun hx => hi.2 (g6 i hx)⟩⟩ (cs := cs) (by unfold dens; rw [hfr.1]; exact g4) hge (fun l hl => (hfr.2 l hl).anti' fun x o hx => by
      rcases Own.addL.1 hx with hx | hx
      · rcases Own.iff.1 hx with hx | ⟨s, j, hh⟩
        · exact .inl (.inl hx)
        · exact .inl ((hcg0 s j x hh).own o)
      · exact .inr hx)
    have hat : ∀ j c, rs[j]? = some c → at_ ({ Γ with ρ := Γ.ρ ++ (rs ++ outs) } : Env).ρ (st.nx + j) = c := fun j c hj => by
      rw [← hs.len, ← List.append_assoc, at_ext (by
        have : j < rs.length := by
          rcases Nat.lt_or_ge j rs.length with h | h
          · exact h
          · rw [List.getElem?_eq_none h] at hj; cases hj
        simp; omega)]
      exact at_app hj
    have hownC : ∀ x o, Own ({ Γ with ρ := Γ.ρ ++ (rs ++ outs) } : Env) { st with nx := st.nx + (kindsOf ct.res ++ boxKinds ct.args).length, mem := (b, some (mb.1, cs)) :: st.mem } x o → Own Γ st x o := fun x o hx => by
      rcases Own.iff.1 hx with hx | ⟨s, j, hh⟩
      · exact .inl hx
      · exact (hcg s j x hh).own o
    have hadd := hmod.addVecs (Γ := { Γ with ρ := Γ.ρ ++ (rs ++ outs) }) hat (by show st.nx + rs.length ≤ st.nx + _; rw [hrty.len]; simp) hrty.len (fun j t c h1 h2 => (hrep j t c h1 h2).anti fun x o hx => (Own.addL.1 hx).imp (hownC x o) id) hnd fun x hx => ⟨(hge2 x hx).1, fun s j hh => (hge2 x hx).2.1 s j (hcg s j x hh), (hge2 x hx).2.2⟩
    refine ⟨{ Γ with ρ := Γ.ρ ++ (rs ++ outs) }, he, rfl, by rw [hcall]; exact hadd, ?_⟩
    have := svOf_rep (Γ := { Γ with ρ := Γ.ρ ++ (rs ++ outs) }) (nb := st.nb) hres (fun vs _ _ b hb => absurd hb (isBox_noBox hrb)) (i := st.nx) hat
    refine ⟨this.1, SV.ok_keep this.2 (Nat.le_refl _) fun x o _ hno => ⟨rfl, fun hx => hno ?_⟩⟩
    rw [hcall] at hx
    rcases Own.iff.1 hx with hx | ⟨s, j, hh⟩
    · exact .inl (.inl hx)
    · rcases hh.inv with ⟨rfl, mj, hj, rfl⟩ | ⟨rfl, e, he', hb⟩
      · exact .inl ((hcg true j _ (Hold.mem (Γ := { Γ with ρ := Γ.ρ ++ (rs ++ outs) }) hj)).own o)
      · rcases look_freshV he' with ⟨n, t, rfl, hn, rfl⟩ | ⟨-, hm⟩
        · have hnlt : n < rs.length := by
            rw [hrty.len]
            rcases Nat.lt_or_ge n (kindsOf ct.res).length with h | h
            · exact h
            · rw [List.getElem?_eq_none h] at hn; cases hn
          rw [hat n rs[n] (by simp [hnlt])] at hb
          exact .inr (vecB_mem hn (by simp [hnlt]) hb)
        · exact .inl (Hold.own (Hold.vec (Γ := Γ) hm (by rw [← hs.vec_at he hm]; exact hb)) o)
end
section
variable {cx : Cx} {R : List C → Prop} {F : Nat → Prop} {w0 : World}

/-- What follows an operation. -/
def Next (cx : Cx) (R : List C → Prop) (F : Nat → Prop) (w0 : World) (k : St → Option Tree) (Γ : Env) (Ls : List (List C → Prop)) (K : Act → World → Prop) : Prop :=
  ∀ st' T' Γ' Ls', k st' = some T' → Ext Γ Γ' → Ls <+: Ls' → Ls'.length = st'.lvl → VC cx R T' Γ'.ρ Ls' → ∀ a' w', Sat cx.P F w0 Γ' st' a' w' → K a' w'
theorem Next.mono {k : St → Option Tree} {Γ Γ1 : Env} {Ls Ls1 : List (List C → Prop)} {K : Act → World → Prop} (h : Next cx R F w0 k Γ Ls K) (he : Ext Γ Γ1) (hl : Ls <+: Ls1) : Next cx R F w0 k Γ1 Ls1 K :=
  fun st' T' Γ' Ls' hk he' hl' => h st' T' Γ' Ls' hk (he.trans he') (hl.trans hl')
/-- Several results, as a value. -/
def valOf (vs : List Value) : Value := match vs with | [x] => x | vs => .tuple vs.toArray
theorem svOf_den (Γ : Env) (l : List S0) : (svOf l).den Γ = valOf (l.map (S0.den Γ)) := by
  match l with
  | [] => rfl
  | [s] => rfl
  | s :: t :: l => rfl
theorem svOf_ok {P : Program} {w : World} {O : Nat → Nat → Prop} {Γ : Env} {l : List S0} (h : ∀ s ∈ l, s.ok P w O Γ) : (svOf l).ok P w O Γ := by
  match l with
  | [] => exact fun s hs => h s hs
  | [s] => exact h s (by simp)
  | s :: t :: l => exact fun s hs => h s hs
/-- What is done with a function without a contract is right. -/
def HOK (cx : Cx) : Prop :=
  ∀ (f : Nat) (args : List S0) (st : St) (k : List S0 → St → Option Tree) (T : Tree), cx.H f args st k = some T → Callable cx.P f ∧
    ∀ (R : List C → Prop) (F : Nat → Prop) (w0 : World) (Γ : Env) (Ls : List (List C → Prop)) (a : Act) (w : World) (K : Value → World → Prop), Ls.length = st.lvl → VC cx R T Γ.ρ Ls → Sat cx.P F w0 Γ st a w →
      st.wf = true → args.all (S0.wf st.nx st.nb) = true → (∀ s ∈ args, s.ok cx.P w (Own Γ st) Γ) →
      (∀ l st' T' Γ' Ls', k l st' = some T' → Ext Γ Γ' → Ls <+: Ls' → Ls'.length = st'.lvl → VC cx R T' Γ'.ρ Ls' → ∀ w', Sat cx.P F w0 Γ' st' a w' → (∀ s ∈ l, s.ok cx.P w' (Own Γ' st') Γ') → K (valOf (l.map (S0.den Γ'))) w') →
      Calls cx.P f (args.map (S0.den Γ)).toArray w fun e w' => ∃ v, e = .returned v ∧ K v w'
structure CxOK (cx : Cx) : Prop where
  ct : ∀ f ct, cx.ct f = some ct → Callable cx.P f ∧ CtOK cx.P f ct ∧ (ct.det = true → ∀ cs rs rs', ct.post cs rs → ct.post cs rs' → rs = rs')
  mixed : cx.P.follows .mixedOrders = true
  inl : ∀ f g, cx.inl f = some g → Callable cx.P f ∧ InlOK cx.P f g
  sel : ∀ f g, cx.sel f = some g → Callable cx.P f ∧ SelOK cx.P f g
  hd : HOK cx

end
end Go.Proofs.Ytcglpbchejkolaa
/- The engine, part 11a: what turns with slices of one's own: made, appended to, written, given up; function values. -/
namespace Go.Proofs.Ytcglpbchejkolaa
open Go.RowKit
set_option linter.unusedSimpArgs false
set_option linter.unusedVariables false

/-! Rows of cells -/
section
variable {P : Program} {w : World} {O : Nat → Nat → Prop}
theorem CReps.take : ∀ {ks : List Lk} {us : List Value} {cs : List C}, CReps P w O ks us cs → ∀ n, CReps P w O (ks.take n) (us.take n) (cs.take n)
  | [], [], [], _, n => by simp [CReps]
  | _ :: _, _ :: _, _ :: _, h, 0 => trivial
  | _ :: _, _ :: _, _ :: _, h, n + 1 => ⟨h.1, CReps.take h.2 n⟩
  | [], [], _ :: _, h, _ => h.elim
  | [], _ :: _, _, h, _ => h.elim
  | _ :: _, [], _, h, _ => h.elim
  | _ :: _, _ :: _, [], h, _ => h.elim
theorem CReps.drop : ∀ {ks : List Lk} {us : List Value} {cs : List C}, CReps P w O ks us cs → ∀ n, CReps P w O (ks.drop n) (us.drop n) (cs.drop n)
  | [], [], [], _, n => by simp [CReps]
  | _ :: _, _ :: _, _ :: _, h, 0 => h
  | _ :: _, _ :: _, _ :: _, h, n + 1 => CReps.drop h.2 n
  | [], [], _ :: _, h, _ => h.elim
  | [], _ :: _, _, h, _ => h.elim
  | _ :: _, [], _, h, _ => h.elim
  | _ :: _, _ :: _, [], h, _ => h.elim
/-- A segment written anew. -/
theorem CReps.seg {ks : List Lk} {us : List Value} {cs : List C} (h : CReps P w O ks us cs) {n m : Nat} {vs : List Value} {ds : List C} (h' : CReps P w O ((ks.drop n).take m) vs ds) :
    CReps P w O ks (us.take n ++ vs ++ us.drop (n + m)) (cs.take n ++ ds ++ cs.drop (n + m)) := by
  have e : ks = ks.take n ++ (ks.drop n).take m ++ ks.drop (n + m) := by
    rw [← List.drop_drop, List.append_assoc, List.take_append_drop, List.take_append_drop]
  have := CReps.append (CReps.append (h.take n) h') (h.drop (n + m))
  rwa [← e] at this
end
theorem flatten_len {α : Type} {sz : Nat} : ∀ {rows : List (List α)}, (∀ r ∈ rows, r.length = sz) → rows.flatten.length = rows.length * sz
  | [], _ => by simp
  | x :: rows, h => by rw [List.flatten_cons, List.length_append, flatten_len (fun r hr => h r (by simp [hr])), h x (by simp), List.length_cons, Nat.add_mul]; omega
theorem flatten_upd {sz : Nat} : ∀ {rows : List (List C)}, (∀ r ∈ rows, r.length = sz) → ∀ {i o : Nat} {l : List C}, i < rows.length → o + l.length ≤ sz →
    (updRow rows i o l).flatten = rows.flatten.take (i * sz + o) ++ l ++ rows.flatten.drop (i * sz + o + l.length) ∧ (∀ r ∈ updRow rows i o l, r.length = sz) ∧ (updRow rows i o l).length = rows.length
  | [], _, i, o, l, hi, _ => by simp at hi
  | x :: rows, h, 0, o, l, _, ho => by
    have hx := h x (by simp)
    refine ⟨?_, ?_, by simp [updRow]⟩
    · simp only [updRow, List.set_cons_zero, List.getD_cons_zero, List.flatten_cons, Nat.zero_mul, Nat.zero_add]
      rw [List.take_append_of_le_length (by omega), List.drop_append_of_le_length (by omega)]
      simp [List.append_assoc]
    · intro r hr
      simp only [updRow, List.set_cons_zero, List.getD_cons_zero] at hr
      rcases List.mem_cons.1 hr with rfl | hr
      · simp; omega
      · exact h r (by simp [hr])
  | x :: rows, h, i + 1, o, l, hi, ho => by
    have hx := h x (by simp)
    obtain ⟨h1, h2, h3⟩ := flatten_upd (rows := rows) (fun r hr => h r (by simp [hr])) (i := i) (by simpa using hi) ho
    have e : updRow (x :: rows) (i + 1) o l = x :: updRow rows i o l := by simp [updRow]
    rw [e]
    refine ⟨?_, fun r hr => ?_, by simp [h3]⟩
    · rw [List.flatten_cons, h1, List.flatten_cons]
      have e1 : (i + 1) * sz + o = x.length + (i * sz + o) := by rw [Nat.add_mul]; omega
      have e2 : (i + 1) * sz + o + l.length = x.length + (i * sz + o + l.length) := by rw [Nat.add_mul]; omega
      rw [e2, e1, List.take_length_add_append, List.drop_length_add_append]
      simp [List.append_assoc]
    · rcases List.mem_cons.1 hr with rfl | hr
      · exact hx
      · exact h2 r hr
theorem World.grownBy.rfl' (w : World) (row : Option Nat) : w.grownBy w row := ⟨rfl, rfl, rfl, Nat.le_refl _, fun _ _ _ => rfl⟩
/-- What a row of cells in the memory holds. -/
def RowsAt (P : Program) (w : World) (O : Nat → Nat → Prop) (ks : List Lk) (v : Value) (rows : List (List C)) (us : List Value) : Prop :=
  CReps P w O (rowsK rows.length ks) us rows.flatten ∧ (∀ r ∈ rows, r.length = ks.length) ∧ ∃ a cap, v = .slice a rows.length cap ∧ (rows ≠ [] → ∃ b o, a = some ⟨b, o, none⟩ ∧ ∀ j u, us[j]? = some u → w.cell? ((⟨b, o, none⟩ : Addr).add j) = some u)
theorem VecOK.rowsAt {P : Program} {w : World} {O : Nat → Nat → Prop} {te : TypeId} {v : Value} {c : C} (h : VecOK P w O te v c) {ks : List Lk} (hk : kinds P te = some ks) : ∃ us, RowsAt P w O ks v c.rows us := by
  obtain ⟨ks', us, hk', hc, hl, hr, ho⟩ := h
  obtain rfl : ks = ks' := Option.some.inj (hk.symm.trans hk')
  refine ⟨us, hr, hl, ?_⟩
  rcases ho.2 with ⟨rfl, hn⟩ | ⟨g, cap, cur, rfl, -⟩
  · exact ⟨none, 0, by rw [hn], fun hne => absurd (List.eq_nil_of_length_eq_zero hn) hne⟩
  · exact ⟨_, cap, rfl, fun _ => ⟨g, 0, rfl, ho.cells (g := g) rfl⟩⟩
theorem ArrN.us {P : Program} {S : Nat → Nat → Prop} {w : World} {O : Nat → Nat → Prop} (hS : ∀ b o, S b o → b < w.heap.size ∧ ¬ O b o) {d : Nat} {te : TypeId} {v : Value} {rows : List (List C)} (h : ArrN P S w d te v rows) {ks : List Lk} (hk : kinds P te = some ks) (hsm : ∀ r ∈ rows, ∀ c ∈ r, ∀ n, c.small n) :
    ∃ us, RowsAt P w O ks v rows us := by
  cases d with
  | zero => exact h.elim
  | succ d =>
    obtain ⟨ks', hk', a, cap, hv, hh⟩ := h
    obtain rfl : ks = ks' := Option.some.inj (hk.symm.trans hk')
    by_cases hne : rows = []
    · subst hne; exact ⟨[], trivial, by simp, a, cap, hv, fun h => absurd rfl h⟩
    · obtain ⟨b, o, rfl, -, hr⟩ := hh hne
      -- one row
      have row : ∀ (i : Nat) (r : List C), rows[i]? = some r → ∃ us : List Value, CReps P w O ks us r ∧ ∀ j u, us[j]? = some u → w.cell? ⟨b, o + (i * ks.length + j), none⟩ = some u := fun i r hi => by
        obtain ⟨hl, hc⟩ := hr i r hi
        have hsr := hsm r (List.mem_of_getElem? hi)
        have key : ∀ (ls : List Lk) (cs : List C) (off : Nat), cs.length = ls.length → (∀ c ∈ cs, ∀ n, c.small n) → (∀ j k, ls[j]? = some k → S b (o + (i * ks.length + (off + j))) ∧ ∃ u c, w.cell? ⟨b, o + (i * ks.length + (off + j)), none⟩ = some u ∧ cs[j]? = some c ∧ match k with
            | .int => ∃ n, u = .int .i64 n ∧ c = .i n
            | .bool => ∃ t, u = .bool t ∧ c = .b t
            | .arr t => ∃ rows', c = .s u rows' ∧ ArrN P S w d t u rows'
            | .vec _ => False) → ∃ us : List Value, CReps P w O ls us cs ∧ ∀ j u, us[j]? = some u → w.cell? ⟨b, o + (i * ks.length + (off + j)), none⟩ = some u := by
          intro ls
          induction ls with
          | nil => intro cs off hl _ _; have := List.eq_nil_of_length_eq_zero hl; subst this; exact ⟨[], trivial, fun j u hj => by simp at hj⟩
          | cons k ls ih =>
            intro cs off hl hs hc
            cases cs with
            | nil => simp at hl
            | cons c cs =>
              obtain ⟨us, h1, h2⟩ := ih cs (off + 1) (by simpa using hl) (fun x hx => hs x (by simp [hx])) (fun j k hj => by
                have := hc (j + 1) k (by simpa using hj)
                rw [show off + (j + 1) = off + 1 + j by omega] at this
                simpa using this)
              obtain ⟨-, u, c', hu, hc', hm⟩ := hc 0 k rfl
              simp at hc'; subst hc'
              refine ⟨u :: us, ⟨⟨hs c (by simp), ?_⟩, h1⟩, fun j x hj => ?_⟩
              · cases k with
                | arr t => obtain ⟨rows', rfl, hn⟩ := hm; exact ⟨rfl, u, rows', rfl, d, S, hS, hn⟩
                | _ => exact hm
              · cases j with
                | zero => simp at hj; subst hj; exact hu
                | succ j => rw [show off + (j + 1) = off + 1 + j by omega]; exact h2 j x (by simpa using hj)
        obtain ⟨us, h1, h2⟩ := key ks r 0 hl hsr (fun j k hj => by rw [Nat.zero_add]; exact hc j k hj)
        exact ⟨us, h1, fun j u hj => by have := h2 j u hj; rwa [Nat.zero_add] at this⟩
      have all : ∀ (rs : List (List C)) (off : Nat), (∀ i r, rs[i]? = some r → rows[off + i]? = some r) → ∃ us : List Value, CReps P w O (rowsK rs.length ks) us rs.flatten ∧ ∀ j u, us[j]? = some u → w.cell? ⟨b, o + (off * ks.length + j), none⟩ = some u := by
        intro rs
        induction rs with
        | nil => intro off _; exact ⟨[], trivial, fun j u hj => by simp at hj⟩
        | cons r rs ih =>
          intro off hrs
          obtain ⟨us1, h1, h2⟩ := row off r (hrs 0 r rfl)
          obtain ⟨us2, h3, h4⟩ := ih (off + 1) (fun i x hi => by rw [show off + 1 + i = off + (i + 1) by omega]; exact hrs (i + 1) x (by simpa using hi))
          refine ⟨us1 ++ us2, by rw [List.length_cons, rowsK_succ, List.flatten_cons]; exact CReps.append h1 h3, fun j u hj => ?_⟩
          have hl1 := h1.len.1
          by_cases hjl : j < us1.length
          · rw [List.getElem?_append_left hjl] at hj; exact h2 j u hj
          · rw [List.getElem?_append_right (by omega)] at hj
            have := h4 _ u hj
            rwa [show (off + 1) * ks.length + (j - us1.length) = off * ks.length + j by rw [Nat.add_mul]; omega] at this
      obtain ⟨us, h1, h2⟩ := all rows 0 (fun i r hi => by rw [Nat.zero_add]; exact hi)
      refine ⟨us, h1, fun r hr' => ?_, _, cap, hv, fun _ => ⟨b, o, rfl, fun j u hj => ?_⟩⟩
      · obtain ⟨i, hi⟩ := List.getElem?_of_mem hr'; exact (hr i r hi).1
      · have := h2 j u hj
        rw [Nat.zero_mul, Nat.zero_add] at this
        unfold Addr.add
        split
        · rename_i e; subst e; exact this
        · exact this
theorem CReps.one {P : Program} {w : World} {O : Nat → Nat → Prop} : ∀ {ks : List Lk} {us : List Value} {cs : List C}, CReps P w O ks us cs → ∀ u ∈ us, u.oneCell' = true
  | [], [], [], _, u, hu => by cases hu
  | k :: _, u :: _, c :: _, h, x, hx => by
    rcases List.mem_cons.1 hx with rfl | hx
    · have h1 := h.1.2
      cases k with
      | int => obtain ⟨n, rfl, -⟩ := h1; rfl
      | bool => obtain ⟨n, rfl, -⟩ := h1; rfl
      | arr t =>
        obtain ⟨e, v, rows, rfl, d, S, -, hA⟩ := h1
        obtain ⟨a, cap, hv⟩ := hA.slice
        rw [e]; simp only [C.loc, hv]; rfl
      | vec t => exact h1.elim
    · exact CReps.one h.2 x hx
  | [], [], _ :: _, h, _, _ => h.elim
  | [], _ :: _, _, h, _, _ => h.elim
  | _ :: _, [], _, h, _, _ => h.elim
  | _ :: _, _ :: _, [], h, _, _ => h.elim
theorem CReps.up {P : Program} {w w' : World} {O : Nat → Nat → Prop} {row : Option Nat} (hk : w.grownBy w' row) (hrow : ∀ b, row = some b → ∀ o, O b o) {ks : List Lk} {us : List Value} {cs : List C} (h : CReps P w O ks us cs) : CReps P w' (fun b o => O b o ∨ w.heap.size ≤ b) ks us cs :=
  h.keep hk.size fun b o hb hno => ⟨World.cell?_of_block (hk.block b hb fun e => hno (hrow b e.symm o)), fun ho => ho.elim hno fun hge => by omega⟩
/-- One slice of one's own more, in a new block or in that of another one, which it takes the place of. -/
theorem Sat.vnew {P : Program} {F : Nat → Prop} {w0 : World} {Γ : Env} {st : St} {a : Act} {w : World} (h : Sat P F w0 Γ st a w) (hw : st.wf = true) {c : C} {te : TypeId} {w' : World} {row : Option Nat} {ci : Option Nat}
    (hci : match ci with | some i => ∃ e, look st.vec i = some e ∧ row = (at_ Γ.ρ i).loc.ownBlock | none => row = none) (hk : w.grownBy w' row)
    (hc : VecOK P w' (fun b o => Own Γ st b o ∨ w.heap.size ≤ b) te c.loc c) (hblk : ∀ b, c.loc.ownBlock = some b → row = some b ∨ w.heap.size ≤ b) :
    Sat P F w0 { Γ with ρ := Γ.ρ ++ [c] } { st with nx := st.nx + 1, vec := (st.nx, some (te, .var st.nx)) :: (dropV ci st.vec) } a w' := by
  have hat : at_ (Γ.ρ ++ [c]) st.nx = c := by rw [← h.len]; exact at_app (j := 0) (by simp)
  have hsm : Smalls (Γ.ρ ++ [c]) := h.num.len.app fun x hx n => by simp at hx; subst hx; exact hc.small n
  have hrow : ∀ b, row = some b → ∃ i, Hold Γ st false i b := fun b hb => by
    cases ci with
    | none => rw [hci] at hb; cases hb
    | some i => obtain ⟨e, h1, h2⟩ := hci; exact ⟨i, .vec (Γ := Γ) h1 (by rw [← h2]; exact hb)⟩
  -- what else there is
  have old : ∀ i e, look (dropV ci st.vec) i = some e → look st.vec i = some e ∧ ∀ b, (at_ Γ.ρ i).loc.ownBlock = some b → row ≠ some b := fun i e he => by
    cases ci with
    | none => exact ⟨he, fun b _ hr => by rw [hci] at hr; cases hr⟩
    | some j =>
      simp only [dropV, look] at he
      split at he
      · cases he
      · rename_i hne
        refine ⟨he, fun b hb hr => ?_⟩
        obtain ⟨e', h1, h2⟩ := hci
        exact hne (h.inj _ _ _ _ _ (Hold.vec (Γ := Γ) h1 (by rw [← h2]; exact hr)) (Hold.vec (Γ := Γ) he hb)).2
  have hnx : ∀ i e, look st.vec i = some e → i < st.nx := fun i e he => (h.vec i e he).2.1
  have hx : ∀ i e, look st.vec i = some e → at_ (Γ.ρ ++ [c]) i = at_ Γ.ρ i := fun i e he => h.vec_at (Γ' := { Γ with ρ := Γ.ρ ++ [c] }) ⟨⟨[c], rfl⟩, fun _ _ => rfl, Nat.le_refl _, rfl, rfl⟩ he
  refine h.turnV hw (rs := [c]) hsm hk hrow (fun i e he => ?_) fun i e i' e' b he he' hb hb' => ?_
  · simp only [look] at he
    split at he
    · rename_i e1
      subst e1
      cases he
      right
      refine ⟨?_, by simp, fun b hb => ?_⟩
      · simp only [E.ev, hat]; exact hc
      · rw [hat] at hb; exact hblk b hb
    · exact .inl (old i e he)
  · simp only [look] at he he'
    split at he <;> split at he'
    · omega
    · rename_i e1 e2
      exfalso
      subst e1
      obtain ⟨h1, h2⟩ := old i' e' he'
      rw [hx i' e' h1] at hb'
      rw [hat] at hb
      rcases hblk b hb with h3 | h3
      · exact h2 b hb' h3
      · have := (h.vec i' e' h1).1.lt hb'; omega
    · rename_i e1 e2
      exfalso
      subst e2
      obtain ⟨h1, h2⟩ := old i e he
      rw [hx i e h1] at hb
      rw [hat] at hb'
      rcases hblk b hb' with h3 | h3
      · exact h2 b hb h3
      · have := (h.vec i e h1).1.lt hb; omega
    · obtain ⟨h1, -⟩ := old i e he
      obtain ⟨h2, -⟩ := old i' e' he'
      rw [hx i e h1] at hb
      rw [hx i' e' h2] at hb'
      exact (h.inj _ _ _ _ _ (Hold.vec (Γ := Γ) h1 hb) (Hold.vec (Γ := Γ) h2 hb')).2
/-- What a slice of one's own holds is written. -/
theorem Sat.vupd {P : Program} {F : Nat → Prop} {w0 : World} {Γ : Env} {st : St} {a : Act} {w : World} (h : Sat P F w0 Γ st a w) (hw : st.wf = true) {i : Nat} {e : TypeId × E} (hi : look st.vec i = some e) {c : C} {w' : World} (hk : w.grownBy w' (at_ Γ.ρ i).loc.ownBlock)
    (hc : VecOK P w' (fun b o => Own Γ st b o ∨ w.heap.size ≤ b) e.1 (at_ Γ.ρ i).loc c) :
    Sat P F w0 { Γ with ρ := Γ.ρ ++ [c] } { st with nx := st.nx + 1, vec := (i, some (e.1, .var st.nx)) :: st.vec } a w' := by
  have hat : at_ (Γ.ρ ++ [c]) st.nx = c := by rw [← h.len]; exact at_app (j := 0) (by simp)
  have hsm : Smalls (Γ.ρ ++ [c]) := h.num.len.app fun x hx n => by simp at hx; subst hx; exact hc.small n
  have hx : ∀ i e, look st.vec i = some e → at_ (Γ.ρ ++ [c]) i = at_ Γ.ρ i := fun i e he => h.vec_at (Γ' := { Γ with ρ := Γ.ρ ++ [c] }) ⟨⟨[c], rfl⟩, fun _ _ => rfl, Nat.le_refl _, rfl, rfl⟩ he
  have old : ∀ j e', look ((i, some (e.1, .var st.nx)) :: st.vec) j = some e' → ∃ e'', look st.vec j = some e'' := fun j e' he => by
    simp only [look] at he
    split at he
    · rename_i e1; subst e1; exact ⟨e, hi⟩
    · exact ⟨e', he⟩
  refine h.turnV hw (rs := [c]) hsm hk (fun b hb => ⟨i, .vec (Γ := Γ) hi hb⟩) (fun j e' he => ?_) fun j e' j' e'' b he he' hb hb' => ?_
  · simp only [look] at he
    split at he
    · rename_i e1
      subst e1
      cases he
      right
      refine ⟨?_, by have := (h.vec i e hi).2.1; simp; omega, fun b hb => ?_⟩
      · rw [hx i e hi]; simp only [E.ev, hat]; exact hc
      · rw [hx i e hi] at hb; exact .inl hb
    · rename_i hne
      refine .inl ⟨he, fun b hb hr => hne (h.inj _ _ _ _ _ (Hold.vec (Γ := Γ) hi hr) (Hold.vec (Γ := Γ) he hb)).2⟩
  · obtain ⟨x, h1⟩ := old j e' he
    obtain ⟨y, h2⟩ := old j' e'' he'
    rw [hx j x h1] at hb
    rw [hx j' y h2] at hb'
    exact (h.inj _ _ _ _ _ (Hold.vec (Γ := Γ) h1 hb) (Hold.vec (Γ := Γ) h2 hb')).2
/-- A function value. -/
theorem Sat.addClo {P : Program} {F : Nat → Prop} {w0 : World} {Γ : Env} {st : St} {a : Act} {w : World} (h : Sat P F w0 Γ st a w) {i : Nat} {e : Nat × List S0 × List Lf} (hi : (at_ Γ.ρ i).loc = .func (.func e.1) (e.2.1.map (S0.den Γ)).toArray (e.2.2.map (Lf.den Γ)).toArray) (h1 : ∀ s ∈ e.2.1, s.ok P w (Own Γ st) Γ) (h2 : ∀ l ∈ e.2.2, l.ok P w (Own Γ st) Γ) :
    Sat P F w0 Γ { st with clo := (i, some e) :: st.clo } a w := by
  refine ⟨h.slots, h.size, h.mem, h.vec, fun j e' hj => ?_, h.inj, h.keeps, h.fold, h.base, h.defers, h.len, h.nb, h.num⟩
  simp only [look] at hj
  split at hj
  · rename_i e1; subst e1; cases hj; exact ⟨hi, h1, h2⟩
  · exact h.clo j e' hj
/-! Slices of one's own that are given up -/
theorem mkJoin_ev {P : Program} {w : World} {O : Nat → Nat → Prop} {ρ : List C} {te : TypeId} {i : Nat} {r : E} (h : VecOK P w O te (at_ ρ i).loc (r.ev ρ)) : (mkJoin i r).ev ρ = .s (at_ ρ i).loc (r.ev ρ).rows := by
  obtain ⟨ks, us, hk, ⟨v', hc⟩, -⟩ := h
  unfold mkJoin
  split
  · rename_i j
    split
    · rename_i e; subst e
      simp only [E.ev] at hc ⊢
      rw [hc]; rfl
    · rfl
  · rfl
theorem Lf.frz_spec {P : Program} {w : World} {O O' : Nat → Nat → Prop} {Γ : Env} {te : TypeId} {i n : Nat} {rows : List (List C)} (hn : at_ Γ.ρ n = .s (at_ Γ.ρ i).loc rows) (hA : ArrOK P w O' te (at_ Γ.ρ n)) (hlen : ∃ a cap, (at_ Γ.ρ i).loc = .slice a rows.length cap) (hO : ∀ b o, O' b o → O b o)
    {l : Lf} (ho : frzOk te i l = true) (h : l.ok P w O Γ) : (l.frz i n).den Γ = l.den Γ ∧ (l.frz i n).ok P w O' Γ := by
  have other : (l.frz i n) = l → (l.frz i n).den Γ = l.den Γ ∧ (l.frz i n).ok P w O' Γ := fun e => by rw [e]; exact ⟨rfl, Lf.ok_anti h hO⟩
  cases l with
  | vec t j =>
    by_cases hj : j = i
    · subst hj
      simp only [frzOk, Nat.beq_refl, Bool.not_true, Bool.false_or] at ho
      have := Nat.eq_of_beq_eq_true ho
      subst this
      simp only [Lf.frz, if_true, Lf.den, E.ev, hn, C.loc, Lf.ok]
      rw [hn] at hA
      exact ⟨trivial, hA⟩
    · exact other (by simp [Lf.frz, hj])
  | velp t sz j x o =>
    by_cases hj : j = i
    · subst hj
      simp only [frzOk, Nat.beq_refl, Bool.not_true, Bool.false_or] at ho
      have := Nat.eq_of_beq_eq_true ho
      subst this
      obtain ⟨b, m, cap, h1, h2, h3, h4⟩ := h
      obtain ⟨a, cap', hl⟩ := hlen
      rw [hl] at h1
      cases h1
      simp only [Lf.frz, if_true, Lf.den, E.ev, hn, C.loc, Lf.ok]
      rw [hn] at hA
      exact ⟨trivial, hA, h3, by simpa [C.rows] using h4, h2⟩
    · exact other (by simp [Lf.frz, hj])
  | _ => exact other rfl
theorem look_map {α β : Type} (g : α → β) : ∀ (l : List (Nat × Option α)) (t : Nat), look (l.map fun p => (p.1, p.2.map g)) t = (look l t).map g
  | [], _ => rfl
  | (k, v) :: l, t => by
    simp only [List.map_cons, look]
    split
    · rfl
    · exact look_map g l t
theorem Sat.freeze {P : Program} {F : Nat → Prop} {w0 : World} {Γ : Env} {st st' : St} {a : Act} {w : World} (h : Sat P F w0 Γ st a w) {i : Nat} {e : E} (hf : st.freeze i = some (e, st')) :
    Ext Γ { Γ with ρ := Γ.ρ ++ [e.ev Γ.ρ] } ∧ Sat P F w0 { Γ with ρ := Γ.ρ ++ [e.ev Γ.ρ] } st' a w ∧ st'.lvl = st.lvl := by
  unfold St.freeze at hf
  split at hf
  · rename_i ve hi
    split at hf
    · rename_i hc
      simp only [Bool.and_eq_true] at hc
      obtain ⟨⟨hw, c1⟩, c2⟩ := hc
      cases hf
      have hve := h.vec i ve hi
      have hjoin := mkJoin_ev hve.1
      generalize hcc : (mkJoin i ve.2).ev Γ.ρ = c at *
      have hcs : ∀ n, c.small n := fun n => by
        rw [hjoin]
        obtain ⟨v', hv'⟩ := hve.1.choose_spec.choose_spec.2.1
        exact C.small_rows (.inl hve.1.small) (Nat.le_refl _) (fun _ h => h) _ n
      have hsm : Smalls (Γ.ρ ++ [c]) := h.num.len.app fun x hx n => by simp at hx; subst hx; exact hcs n
      have he : Ext Γ { Γ with ρ := Γ.ρ ++ [c] } := ⟨⟨[c], rfl⟩, fun _ _ => rfl, Nat.le_refl _, rfl, rfl⟩
      refine ⟨he, ?_, rfl⟩
      have hg := h.grow hw hsm
      simp only [List.length_cons, List.length_nil, Nat.zero_add] at hg
      have hat : at_ (Γ.ρ ++ [c]) st.nx = c := by rw [← h.len]; exact at_app (j := 0) (by simp)
      have hati : at_ (Γ.ρ ++ [c]) i = at_ Γ.ρ i := h.vec_at he hi
      have hown : ∀ b o, Own { Γ with ρ := Γ.ρ ++ [c] } { st with nx := st.nx + 1, vec := (i, none) :: st.vec, sl := st.sl.map fun p => (p.1, p.2.map (SV.frz i st.nx)), mem := st.mem.map fun p => (p.1, p.2.map fun mb => (mb.1, mb.2.map (Lf.frz i st.nx))) } b o → Own { Γ with ρ := Γ.ρ ++ [c] } { st with nx := st.nx + 1 } b o ∧ ((at_ Γ.ρ i).loc.ownBlock = some b → False) := by
        rintro b o (hb | ⟨j, mb, hj, rfl⟩ | ⟨j, e, hj, hb⟩)
        · exact ⟨.inl hb, fun hbi => (hve.2.2 b hbi).2 o hb⟩
        · rw [look_map] at hj
          cases hm : look st.mem j with
          | none => rw [hm] at hj; cases hj
          | some mb' => exact ⟨.inr (.inl ⟨j, mb', hm, rfl⟩), fun hbi => by have := (h.inj _ _ _ _ _ (Hold.mem (Γ := Γ) hm) (Hold.vec (Γ := Γ) hi hbi)).1; cases this⟩
        · simp only [look] at hj
          split at hj
          · cases hj
          · rename_i hne
            have hbj := hb
            rw [h.vec_at he hj] at hbj
            exact ⟨.inr (.inr ⟨j, e, hj, hb⟩), fun hbi => hne (h.inj _ _ _ _ _ (Hold.vec (Γ := Γ) hi hbi) (Hold.vec (Γ := Γ) hj hbj)).2⟩
      generalize hst' : ({ st with nx := st.nx + 1, vec := (i, none) :: st.vec, sl := st.sl.map fun p => (p.1, p.2.map (SV.frz i st.nx)), mem := st.mem.map fun p => (p.1, p.2.map fun mb => (mb.1, mb.2.map (Lf.frz i st.nx))) } : St) = st' at *
      have hO : ∀ b o, Own { Γ with ρ := Γ.ρ ++ [c] } st' b o → Own { Γ with ρ := Γ.ρ ++ [c] } { st with nx := st.nx + 1 } b o := fun b o hb => (hown b o hb).1
      have hgi := hg.vec i ve hi
      have hevi : ve.2.ev (Γ.ρ ++ [c]) = ve.2.ev Γ.ρ := E.ev_ext _ (h.wf_vec hw hi)
      have hn : at_ (Γ.ρ ++ [c]) st.nx = .s (at_ (Γ.ρ ++ [c]) i).loc (ve.2.ev (Γ.ρ ++ [c])).rows := hat.trans (hjoin.trans (by rw [hati, hevi]))
      have hA : ArrOK P w (Own { Γ with ρ := Γ.ρ ++ [c] } st') ve.1 (at_ (Γ.ρ ++ [c]) st.nx) := by
        have := hgi.1.arr hO (fun b hb o ho => by
          have hb' : (at_ Γ.ρ i).loc.ownBlock = some b := by rw [← hati]; exact hb
          exact (hown b o ho).2 hb')
        rw [hn]
        exact this
      have leaf : ∀ l : Lf, frzOk ve.1 i l = true → l.ok P w (Own { Γ with ρ := Γ.ρ ++ [c] } { st with nx := st.nx + 1 }) { Γ with ρ := Γ.ρ ++ [c] } → (l.frz i st.nx).den { Γ with ρ := Γ.ρ ++ [c] } = l.den { Γ with ρ := Γ.ρ ++ [c] } ∧ (l.frz i st.nx).ok P w (Own { Γ with ρ := Γ.ρ ++ [c] } st') { Γ with ρ := Γ.ρ ++ [c] } :=
        fun l h1 h2 => Lf.frz_spec (Γ := { Γ with ρ := Γ.ρ ++ [c] }) hn hA hgi.1.slice hO h1 h2
      have s0 : ∀ s : S0, (∀ l ∈ s.cells, frzOk ve.1 i l = true) → s.ok P w (Own { Γ with ρ := Γ.ρ ++ [c] } { st with nx := st.nx + 1 }) { Γ with ρ := Γ.ρ ++ [c] } → (s.frz i st.nx).den { Γ with ρ := Γ.ρ ++ [c] } = s.den { Γ with ρ := Γ.ρ ++ [c] } ∧ (s.frz i st.nx).ok P w (Own { Γ with ρ := Γ.ρ ++ [c] } st') { Γ with ρ := Γ.ρ ++ [c] } := fun s h1 h2 => by
        cases s with
        | lf l =>
          have := leaf l (h1 l (by simp [S0.cells])) (h2 l (by simp [S0.cells]))
          exact ⟨this.1, fun x hx => by simp [S0.frz, S0.cells] at hx; subst hx; exact this.2⟩
        | agg ls =>
          refine ⟨?_, fun x hx => ?_⟩
          · simp only [S0.frz, S0.den, dens, List.map_map]
            congr 2
            exact List.map_congr_left fun l hl => (leaf l (h1 l hl) (h2 l hl)).1
          · simp only [S0.frz, S0.cells, List.mem_map] at hx
            obtain ⟨l, hl, rfl⟩ := hx
            exact (leaf l (h1 l hl) (h2 l hl)).2
      have look_all : ∀ {α : Type} {g : Option α → Bool} {l : List (Nat × Option α)} {t : Nat} {v : α}, l.all (fun p => g p.2) = true → look l t = some v → g (some v) = true := fun {α g l t v} h1 h2 => look_wf (f := fun _ => g) h1 h2
      have hmm : ∀ b mb, look st'.mem b = some mb → ∃ mb', look st.mem b = some mb' ∧ mb = (mb'.1, mb'.2.map (Lf.frz i st.nx)) := fun b mb hb => by
        rw [← hst'] at hb
        simp only [] at hb
        rw [look_map] at hb
        cases hm : look st.mem b with
        | none => rw [hm] at hb; cases hb
        | some mb' => rw [hm] at hb; cases hb; exact ⟨mb', rfl, rfl⟩
      refine ⟨fun t sv hs => ?_, by rw [← hst']; exact h.size, fun b mb hb => ?_, fun j e hj => ?_, fun j e hj => ?_, fun s j s' j' b h1 h2 => ?_, h.keeps, h.fold, h.base, h.defers, by rw [← hst']; exact hg.len, by rw [← hst']; exact h.nb, by rw [← hst']; exact hg.num⟩
      · rw [← hst'] at hs
        simp only [] at hs
        rw [look_map] at hs
        cases hsv : look st.sl t with
        | none => rw [hsv] at hs; cases hs
        | some sv' =>
          rw [hsv] at hs
          cases hs
          obtain ⟨g1, g2⟩ := hg.slots t sv' hsv
          have hall : ∀ l ∈ sv'.cells, frzOk ve.1 i l = true := List.all_eq_true.1 (look_all (g := fun o => match o with | some sv => sv.cells.all (frzOk ve.1 i) | none => true) c1 hsv)
          cases sv' with
          | one s =>
            obtain ⟨k1, k2⟩ := s0 s hall g2
            exact ⟨by rw [g1]; exact k1.symm, k2⟩
          | tup ss =>
            have hss : ∀ s ∈ ss, (s.frz i st.nx).den { Γ with ρ := Γ.ρ ++ [c] } = s.den { Γ with ρ := Γ.ρ ++ [c] } ∧ (s.frz i st.nx).ok P w (Own { Γ with ρ := Γ.ρ ++ [c] } st') { Γ with ρ := Γ.ρ ++ [c] } := fun s hs => s0 s (fun l hl => hall l (List.mem_flatMap.2 ⟨s, hs, hl⟩)) (g2 s hs)
            refine ⟨?_, fun s hs => ?_⟩
            · rw [g1]
              simp only [SV.den, SV.frz, List.map_map]
              congr 2
              exact List.map_congr_left fun s hs => (hss s hs).1.symm
            · obtain ⟨s', hs', rfl⟩ := List.mem_map.1 hs
              exact (hss s' hs').2
          | fn f ls =>
            exact ⟨g1, fun l hl => Lf.ok_anti (g2 l hl) hO⟩
      · obtain ⟨mb', hm, rfl⟩ := hmm b mb hb
        obtain ⟨m1, m2, m3, m4⟩ := hg.mem b mb' hm
        have hall : ∀ l ∈ mb'.2, frzOk ve.1 i l = true := List.all_eq_true.1 (look_all (g := fun o => match o with | some mb => mb.2.all (frzOk ve.1 i) | none => true) c2 hm)
        refine ⟨?_, fun l hl => ?_, m3, by rw [← hst']; exact m4⟩
        · have : dens { Γ with ρ := Γ.ρ ++ [c] } (mb'.2.map (Lf.frz i st.nx)) = dens { Γ with ρ := Γ.ρ ++ [c] } mb'.2 := by
            unfold dens
            rw [List.map_map]
            congr 1
            exact List.map_congr_left fun l hl => (leaf l (hall l hl) (m2 l hl)).1
          rw [this]; exact m1
        · obtain ⟨l', hl', rfl⟩ := List.mem_map.1 hl
          exact (leaf l' (hall l' hl') (m2 l' hl')).2
      · rw [← hst'] at hj
        simp only [look] at hj
        split at hj
        · cases hj
        · obtain ⟨k1, k2, k3⟩ := hg.vec j e hj
          exact ⟨k1.anti hO, by rw [← hst']; exact k2, k3⟩
      · have hj' : look st.clo j = some e := by rw [← hst'] at hj; exact hj
        obtain ⟨k1, k2, k3⟩ := hg.clo j e hj'
        exact ⟨k1, fun s hs l hl => Lf.ok_anti (k2 s hs l hl) hO, fun l hl => Lf.ok_anti (k3 l hl) hO⟩
      · have conv : ∀ s j, Hold { Γ with ρ := Γ.ρ ++ [c] } st' s j b → Hold { Γ with ρ := Γ.ρ ++ [c] } { st with nx := st.nx + 1 } s j b := fun s j hh =>
          Hold.congr (Γ := { Γ with ρ := Γ.ρ ++ [c] }) (st := { st with nx := st.nx + 1 }) (Γ' := { Γ with ρ := Γ.ρ ++ [c] }) (st' := st') (fun j mb hj => by obtain ⟨mb', hm, -⟩ := hmm j mb hj; exact ⟨⟨mb', hm⟩, rfl⟩) (fun j e hj => by
            rw [← hst'] at hj
            simp only [look] at hj
            split at hj
            · cases hj
            · exact ⟨⟨e, hj⟩, rfl⟩) hh
        exact hg.inj _ _ _ _ _ (conv _ _ h1) (conv _ _ h2)
    · cases hf
  · cases hf
end Go.Proofs.Ytcglpbchejkolaa
