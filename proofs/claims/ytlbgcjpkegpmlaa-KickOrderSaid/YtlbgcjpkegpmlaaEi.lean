/- The engine, part 9: what a state says of a frame and a world; writes, calls. -/
import Derived.Test.YtlbgcjpkegpmlaaEh
import Derived.Deep.LoopGhost
namespace Go.Proofs.Ytlbgcjpkegpmlaa
open Go.RowKit
set_option linter.unusedSimpArgs false

theorem Keeps.refl (F : Nat → Prop) (w : World) : Keeps F w w := ⟨rfl, rfl, rfl, Nat.le_refl _, fun _ _ => rfl⟩
theorem Keeps.trans {F : Nat → Prop} {a b c : World} (h : Keeps F a b) (k : Keeps F b c) : Keeps F a c :=
  ⟨k.os.trans h.os, k.tape.trans h.tape, k.output.trans h.output, Nat.le_trans h.size k.size, fun i hi => (k.block i hi).trans (h.block i hi)⟩
theorem Keeps.of_below {F : Nat → Prop} {w w' : World} {B : Nat} (h : Below B w w') (hF : ∀ i, F i → i < B) : Keeps F w w' := ⟨h.os, h.tape, h.output, h.size, fun i hi => h.block i (hF i hi)⟩
theorem Keeps.below {w w' : World} {B : Nat} (h : Keeps (fun i => i < B) w w') : Below B w w' := ⟨h.os, h.tape, h.output, h.size, h.block⟩
theorem below_alloc (w : World) (o : Obj) : Below w.heap.size w (w.alloc o) := (Below.refl _ _).alloc (Nat.le_refl _) o

/-- A slot's value: of this frame, or of those above. -/
def slotV (Γ : Env) (a : Act) (t : Nat) : Value := if t < 1000 then a.tmps.getD t undef else Γ.up (t - 1000)
/-- Who owns a block: a known block, a slice of one's own. -/
def Hold (Γ : Env) (st : St) (s : Bool) (j b : Nat) : Prop :=
  match s with
  | true => ∃ mb, look st.mem j = some mb ∧ Γ.blk j = b
  | false => ∃ e, look st.vec j = some e ∧ (at_ Γ.ρ j).loc.ownBlock = some b
theorem Hold.mem {Γ : Env} {st : St} {j : Nat} {mb : TypeId × List Lf} (h : look st.mem j = some mb) : Hold Γ st true j (Γ.blk j) := ⟨mb, h, rfl⟩
theorem Hold.vec {Γ : Env} {st : St} {i : Nat} {e : TypeId × E} {b : Nat} (h : look st.vec i = some e) (hb : (at_ Γ.ρ i).loc.ownBlock = some b) : Hold Γ st false i b := ⟨e, h, hb⟩
theorem Hold.inv {Γ : Env} {st : St} {s : Bool} {j b : Nat} (h : Hold Γ st s j b) : (s = true ∧ ∃ mb, look st.mem j = some mb ∧ Γ.blk j = b) ∨ (s = false ∧ ∃ e, look st.vec j = some e ∧ (at_ Γ.ρ j).loc.ownBlock = some b) := by
  cases s with
  | true => exact .inl ⟨rfl, h⟩
  | false => exact .inr ⟨rfl, h⟩
theorem Own.iff {Γ : Env} {st : St} {b o : Nat} : Own Γ st b o ↔ Γ.base b o ∨ ∃ s j, Hold Γ st s j b := by
  constructor
  · rintro (h | ⟨j, mb, h, rfl⟩ | ⟨i, e, h, hb⟩)
    · exact .inl h
    · exact .inr ⟨_, _, .mem h⟩
    · exact .inr ⟨_, _, .vec h hb⟩
  · rintro (h | ⟨s, j, h⟩)
    · exact .inl h
    · rcases h.inv with ⟨rfl, mb, h', rfl⟩ | ⟨rfl, e, h', hb⟩
      · exact .inr (.inl ⟨_, _, h', rfl⟩)
      · exact .inr (.inr ⟨_, _, h', hb⟩)
structure Sat (P : Program) (F : Nat → Prop) (w0 : World) (Γ : Env) (st : St) (a : Act) (w : World) : Prop where
  slots : ∀ t sv, look st.sl t = some sv → slotV Γ a t = sv.den Γ ∧ sv.ok P w (Own Γ st) Γ
  size : a.tmps.size = st.nt
  mem : ∀ b mb, look st.mem b = some mb → Blk w (Γ.blk b) mb.1 (dens Γ mb.2) ∧ (∀ l ∈ mb.2, l.ok P w (Own Γ st) Γ) ∧ ¬ F (Γ.blk b) ∧ b < st.nb
  vec : ∀ i e, look st.vec i = some e → VecOK P w (Own Γ st) e.1 (at_ Γ.ρ i).loc (e.2.ev Γ.ρ) ∧ i < st.nx ∧ ∀ b, (at_ Γ.ρ i).loc.ownBlock = some b → ¬ F b ∧ ∀ o, ¬ Γ.base b o
  clo : ∀ i e, look st.clo i = some e → (at_ Γ.ρ i).loc = .func (.func e.1) (e.2.1.map (S0.den Γ)).toArray (e.2.2.map (Lf.den Γ)).toArray ∧ (∀ s ∈ e.2.1, s.ok P w (Own Γ st) Γ) ∧ ∀ l ∈ e.2.2, l.ok P w (Own Γ st) Γ
  inj : ∀ s j s' j' b, Hold Γ st s j b → Hold Γ st s' j' b → s = s' ∧ j = j'
  keeps : Keeps F w0 w
  fold : ∀ i, F i → i < w0.heap.size
  base : ∀ b o, Γ.base b o → b < w.heap.size
  defers : a.defers = []
  len : Γ.ρ.length = st.nx
  nb : Γ.nb = st.nb
  num : Num st.bds Γ.ρ

section
variable {P : Program} {F : Nat → Prop} {w0 : World} {Γ : Env} {st : St} {a : Act} {w : World}
theorem Sat.view (h : Sat P F w0 Γ st a w) (xs : Array Operand) : View P Γ st xs a.eval w where
  slots x _ sv hx := by
    cases x with
    | tmp t =>
      have := h.slots t sv (by
        simp only [St.ev] at hx
        split at hx
        · exact hx
        · cases hx)
      refine ⟨?_, this.2⟩
      rw [← this.1]
      simp only [St.ev] at hx
      split at hx
      · rename_i hlt; unfold slotV; rw [if_pos hlt]; rfl
      · cases hx
    | const v =>
      simp only [St.ev, Option.some.injEq] at hx
      subst hx
      refine ⟨(S0.den_ofValue Γ v).symm, fun l hl => ?_⟩
      unfold S0.ofValue at hl
      split at hl
      · simp only [S0.cells, List.mem_map] at hl
        obtain ⟨v, -, rfl⟩ := hl
        unfold Lf.ofValue
        split <;> trivial
      · simp only [S0.cells, List.mem_singleton] at hl
        subst hl
        unfold Lf.ofValue
        split <;> trivial
    | global g => simp only [St.ev, Option.some.injEq] at hx; subst hx; exact ⟨rfl, one_ok trivial⟩
    | func f => simp only [St.ev, Option.some.injEq] at hx; subst hx; exact ⟨rfl, one_ok trivial⟩
  mem b mb hb := ⟨(h.mem b mb hb).1, (h.mem b mb hb).2.1⟩
  vec i e hi := (h.vec i e hi).1
  clo := h.clo
  num := h.num
theorem Sat.own_lt (h : Sat P F w0 Γ st a w) : ∀ b o, Own Γ st b o → b < w.heap.size := by
  rintro b o (hb | ⟨j, mb, hj, rfl⟩ | ⟨i, e, hi, hb⟩)
  · exact h.base b o hb
  · exact (h.mem j mb hj).1.lt
  · exact (h.vec i e hi).1.lt hb
theorem Hold.own {s : Bool} {j b : Nat} (h : Hold Γ st s j b) (o : Nat) : Own Γ st b o := Own.iff.2 (.inr ⟨s, j, h⟩)
theorem Sat.hold_lt (h : Sat P F w0 Γ st a w) {s : Bool} {j b : Nat} (hh : Hold Γ st s j b) : b < w.heap.size := h.own_lt b 0 (hh.own 0)
/-- What a holder holds, if it is the same holder in another state. -/
theorem Hold.congr {Γ Γ' : Env} {st st' : St} (hm : ∀ j mb, look st'.mem j = some mb → (∃ mb', look st.mem j = some mb') ∧ Γ'.blk j = Γ.blk j) (hv : ∀ i e, look st'.vec i = some e → (∃ e', look st.vec i = some e') ∧ at_ Γ'.ρ i = at_ Γ.ρ i)
    {s : Bool} {j b : Nat} (h : Hold Γ' st' s j b) : Hold Γ st s j b := by
  rcases h.inv with ⟨rfl, mb, h', rfl⟩ | ⟨rfl, e, h', hb⟩
  · obtain ⟨⟨mb, h1⟩, h2⟩ := hm _ _ h'; rw [h2]; exact .mem h1
  · obtain ⟨⟨e, h1⟩, h2⟩ := hv _ _ h'; rw [h2] at hb; exact .vec h1 hb
theorem getD_set {tmps : Array Value} {d t : Nat} {v : Value} (hd : d < tmps.size) : (tmps.setIfInBounds d v).getD t undef = if d = t then v else tmps.getD t undef := by
  simp only [Array.getD_eq_getD_getElem?, Array.getElem?_setIfInBounds]
  split
  · rename_i e; subst e; simp [hd]
  · rfl
theorem Act.put_tmps (a : Act) (d : Nat) (v : Value) : (a.put (some d) v).tmps = a.tmps.setIfInBounds d v := rfl
theorem slotV_put {Γ : Env} {a : Act} {d t : Nat} {v : Value} (hd : d < a.tmps.size) (hd' : d < 1000) : slotV Γ (a.put (some d) v) t = if d = t then v else slotV Γ a t := by
  unfold slotV
  rw [Act.put_tmps, getD_set hd]
  by_cases h : d = t
  · subst h; simp [hd']
  · simp [h]
/-- Only slots and what is known of numbers change. -/
theorem Sat.slots' (h : Sat P F w0 Γ st a w) {sl : List (Nat × Option SV)} {a' : Act} {bds : Bds} (hs : ∀ t sv, look sl t = some sv → slotV Γ a' t = sv.den Γ ∧ sv.ok P w (Own Γ st) Γ) (hz : a'.tmps.size = st.nt) (hd : a'.defers = []) (hn : Num bds Γ.ρ) :
    Sat P F w0 Γ { st with sl := sl, bds := bds } a' w := ⟨hs, hz, h.mem, h.vec, h.clo, h.inj, h.keeps, h.fold, h.base, hd, h.len, h.nb, hn⟩
theorem Sat.put (h : Sat P F w0 Γ st a w) {dst : Option Tmp} {sv : SV} {st' : St} (hp : st.put dst (some sv) = some st') (hok : sv.ok P w (Own Γ st) Γ) : Sat P F w0 Γ st' (a.put dst (sv.den Γ)) w := by
  cases dst with
  | none => simp only [St.put, Option.some.injEq] at hp; subst hp; exact h
  | some d =>
    simp only [St.put] at hp
    split at hp
    · rename_i hd
      cases hp
      refine h.slots' (fun t s hs => ?_) (by simp [Act.put, h.size]) h.defers h.num
      rw [slotV_put (by rw [h.size]; exact hd.1) hd.2]
      simp only [look] at hs
      split at hs
      · rename_i e; cases hs; rw [if_pos e]; exact ⟨rfl, hok⟩
      · rename_i e; rw [if_neg e]; exact h.slots t s hs
    · cases hp
theorem Sat.drop (h : Sat P F w0 Γ st a w) {dst : Option Tmp} {st' : St} (hp : st.put dst none = some st') (v : Value) : Sat P F w0 Γ st' (a.put dst v) w := by
  cases dst with
  | none => simp only [St.put, Option.some.injEq] at hp; subst hp; exact h
  | some d =>
    simp only [St.put] at hp
    split at hp
    · rename_i hd
      cases hp
      refine h.slots' (fun t s hs => ?_) (by simp [Act.put, h.size]) h.defers h.num
      rw [slotV_put (by rw [h.size]; exact hd.1) hd.2]
      simp only [look] at hs
      split at hs
      · cases hs
      · rename_i e; rw [if_neg e]; exact h.slots t s hs
    · cases hp
theorem St.put_same {dst : Option Tmp} {sv : Option SV} {st' : St} (hp : st.put dst sv = some st') : st'.lvl = st.lvl ∧ st'.mem = st.mem ∧ st'.nb = st.nb ∧ st'.vec = st.vec ∧ st'.clo = st.clo ∧ st'.nx = st.nx ∧ st'.nt = st.nt ∧ st'.path = st.path := by
  cases dst with
  | none => simp only [St.put, Option.some.injEq] at hp; subst hp; exact ⟨rfl, rfl, rfl, rfl, rfl, rfl, rfl, rfl⟩
  | some d => simp only [St.put] at hp; split at hp <;> cases hp; exact ⟨rfl, rfl, rfl, rfl, rfl, rfl, rfl, rfl⟩
theorem St.put_lvl {dst : Option Tmp} {sv : Option SV} {st' : St} (hp : st.put dst sv = some st') : st'.lvl = st.lvl := (St.put_same hp).1
theorem St.put_mem {dst : Option Tmp} {sv : Option SV} {st' : St} (hp : st.put dst sv = some st') : st'.mem = st.mem := (St.put_same hp).2.1
theorem St.put_nb {dst : Option Tmp} {sv : Option SV} {st' : St} (hp : st.put dst sv = some st') : st'.nb = st.nb := (St.put_same hp).2.2.1
theorem learnAll_num : ∀ (l : List B) (bd : Bds) (n : Nat), n ≤ Γ.ρ.length → Num bd Γ.ρ → Obs Γ.ρ l → Num (l.foldl (fun bd b => learn n bd b true) bd) Γ.ρ
  | [], _, _, _, h, _ => h
  | b :: l, bd, n, hn, h, ho => learnAll_num l _ n hn ⟨learn_ok h.len hn b bd true h.bds (ho b (by simp)), h.len⟩ fun x hx => ho x (by simp [hx])
theorem Sat.learn (h : Sat P F w0 Γ st a w) {l : List B} (ho : Obs Γ.ρ l) : Sat P F w0 Γ (st.learnAll l) a w :=
  h.slots' h.slots h.size h.defers (learnAll_num l _ _ (by rw [h.len]; exact Nat.le_refl _) h.num ho)
theorem Sat.repath (h : Sat P F w0 Γ st a w) (p : Nat) : Sat P F w0 Γ { st with path := p } a w :=
  ⟨h.slots, h.size, h.mem, h.vec, h.clo, h.inj, h.keeps, h.fold, h.base, h.defers, h.len, h.nb, h.num⟩

/-! Γ grows -/
theorem look_wf {α : Type} {f : Nat → Option α → Bool} : ∀ {l : List (Nat × Option α)} {t : Nat} {v : α}, l.all (fun p => f p.1 p.2) = true → look l t = some v → f t (some v) = true
  | [], _, _, _, h => by cases h
  | (k, u) :: l, t, v, ha, h => by
    simp only [List.all_cons, Bool.and_eq_true] at ha
    simp only [look] at h
    split at h
    · rename_i e; subst e; subst h; exact ha.1
    · exact look_wf ha.2 h
theorem Sat.wf_slot (h : Sat P F w0 Γ st a w) (hw : st.wf = true) {t : Nat} {sv : SV} (hs : look st.sl t = some sv) : sv.wf Γ.ρ.length Γ.nb = true := by
  simp only [St.wf, Bool.and_eq_true] at hw
  rw [h.len, h.nb]
  exact look_wf (f := fun _ => wfS st.nx st.nb) hw.1.1.1 hs
theorem Sat.wf_mem (h : Sat P F w0 Γ st a w) (hw : st.wf = true) {b : Nat} {mb : TypeId × List Lf} (hs : look st.mem b = some mb) : mb.2.all (Lf.wf Γ.ρ.length Γ.nb) = true := by
  simp only [St.wf, Bool.and_eq_true] at hw
  rw [h.len, h.nb]
  exact look_wf (f := fun _ => wfM st.nx st.nb) hw.1.1.2 hs
theorem Sat.wf_vec (h : Sat P F w0 Γ st a w) (hw : st.wf = true) {i : Nat} {e : TypeId × E} (hs : look st.vec i = some e) : e.2.wf Γ.ρ.length = true := by
  simp only [St.wf, Bool.and_eq_true] at hw
  rw [h.len]
  have := look_wf (f := wfV st.nx) hw.1.2 hs
  simp only [wfV, Bool.and_eq_true] at this
  exact this.2
theorem Sat.wf_clo (h : Sat P F w0 Γ st a w) (hw : st.wf = true) {i : Nat} {e : Nat × List S0 × List Lf} (hs : look st.clo i = some e) : i < Γ.ρ.length ∧ e.2.1.all (S0.wf Γ.ρ.length Γ.nb) = true ∧ e.2.2.all (Lf.wf Γ.ρ.length Γ.nb) = true := by
  simp only [St.wf, Bool.and_eq_true] at hw
  rw [h.len, h.nb]
  have := look_wf (f := wfC st.nx st.nb) hw.2 hs
  simp only [wfC, Bool.and_eq_true, Nat.blt_eq] at this
  exact ⟨this.1.1, this.1.2, this.2⟩
theorem S0.ok_keep {P : Program} {w w' : World} {Own Own' : Nat → Nat → Prop} {Γ : Env} {s : S0} (h : s.ok P w Own Γ) (hs : w.heap.size ≤ w'.heap.size)
    (hh : ∀ b o, b < w.heap.size → ¬ Own b o → w'.cell? ⟨b, o, none⟩ = w.cell? ⟨b, o, none⟩ ∧ ¬ Own' b o) : s.ok P w' Own' Γ := fun l hl => Lf.ok_keep (h l hl) hs hh
theorem S0.ok_ext {P : Program} {w : World} {Own : Nat → Nat → Prop} {Γ Γ' : Env} (he : Ext Γ Γ') {s : S0} (hw : s.wf Γ.ρ.length Γ.nb = true) (h : s.ok P w Own Γ) : s.ok P w Own Γ' :=
  SV.ok_ext he (l := .one s) hw h
/-- All that is known stays, in a world where nothing was turned but what is one's own. -/
structure Turn (w w' : World) (O O' : Nat → Nat → Prop) : Prop where
  size : w.heap.size ≤ w'.heap.size
  keep : ∀ b o, b < w.heap.size → ¬ O b o → w'.cell? ⟨b, o, none⟩ = w.cell? ⟨b, o, none⟩ ∧ ¬ O' b o
theorem Sat.slots_keep (h : Sat P F w0 Γ st a w) {w' : World} {O' : Nat → Nat → Prop} (ht : Turn w w' (Own Γ st) O') : ∀ t sv, look st.sl t = some sv → slotV Γ a t = sv.den Γ ∧ sv.ok P w' O' Γ :=
  fun t sv hs => ⟨(h.slots t sv hs).1, SV.ok_keep (h.slots t sv hs).2 ht.size ht.keep⟩
theorem Sat.clo_keep (h : Sat P F w0 Γ st a w) {w' : World} {O' : Nat → Nat → Prop} (ht : Turn w w' (Own Γ st) O') : ∀ i e, look st.clo i = some e → (at_ Γ.ρ i).loc = .func (.func e.1) (e.2.1.map (S0.den Γ)).toArray (e.2.2.map (Lf.den Γ)).toArray ∧ (∀ s ∈ e.2.1, s.ok P w' O' Γ) ∧ ∀ l ∈ e.2.2, l.ok P w' O' Γ :=
  fun i e hi => ⟨(h.clo i e hi).1, fun s hs => S0.ok_keep ((h.clo i e hi).2.1 s hs) ht.size ht.keep, fun l hl => Lf.ok_keep ((h.clo i e hi).2.2 l hl) ht.size ht.keep⟩
theorem Sat.slots_ext (h : Sat P F w0 Γ st a w) (hw : st.wf = true) {Γ' : Env} (he : Ext Γ Γ') {w' : World} {O' : Nat → Nat → Prop} (ht : Turn w w' (Own Γ st) O') : ∀ t sv, look st.sl t = some sv → slotV Γ' a t = sv.den Γ' ∧ sv.ok P w' O' Γ' := fun t sv hs => by
  have hwf := h.wf_slot hw hs
  obtain ⟨h1, h2⟩ := h.slots_keep ht t sv hs
  refine ⟨?_, SV.ok_ext he hwf h2⟩
  rw [SV.den_ext he sv hwf, ← h1]
  unfold slotV; rw [he.up]
theorem Sat.clo_ext (h : Sat P F w0 Γ st a w) (hw : st.wf = true) {Γ' : Env} (he : Ext Γ Γ') {w' : World} {O' : Nat → Nat → Prop} (ht : Turn w w' (Own Γ st) O') : ∀ i e, look st.clo i = some e → (at_ Γ'.ρ i).loc = .func (.func e.1) (e.2.1.map (S0.den Γ')).toArray (e.2.2.map (Lf.den Γ')).toArray ∧ (∀ s ∈ e.2.1, s.ok P w' O' Γ') ∧ ∀ l ∈ e.2.2, l.ok P w' O' Γ' := fun i e hi => by
  obtain ⟨k1, k2, k3⟩ := h.wf_clo hw hi
  obtain ⟨h1, h2, h3⟩ := h.clo_keep ht i e hi
  obtain ⟨m, hm⟩ := he.ρ
  refine ⟨?_, fun s hs => S0.ok_ext he (List.all_eq_true.1 k2 s hs) (h2 s hs), fun l hl => Lf.ok_ext he (List.all_eq_true.1 k3 l hl) (h3 l hl)⟩
  rw [hm, at_ext k1, h1, List.map_congr_left fun s hs => S0.den_ext he s (List.all_eq_true.1 k2 s hs), List.map_congr_left fun l hl => Lf.den_ext he l (List.all_eq_true.1 k3 l hl)]
theorem Sat.vec_at (h : Sat P F w0 Γ st a w) {Γ' : Env} (he : Ext Γ Γ') {i : Nat} {e : TypeId × E} (hi : look st.vec i = some e) : at_ Γ'.ρ i = at_ Γ.ρ i := by
  obtain ⟨m, hm⟩ := he.ρ
  rw [hm, at_ext (by rw [h.len]; exact (h.vec i e hi).2.1)]
theorem Sat.vec_ext (h : Sat P F w0 Γ st a w) (hw : st.wf = true) {Γ' : Env} (he : Ext Γ Γ') {w' : World} {O' : Nat → Nat → Prop} (ht : Turn w w' (Own Γ st) O') {i : Nat} {e : TypeId × E} (hi : look st.vec i = some e) (hb : ∀ b, (at_ Γ.ρ i).loc.ownBlock = some b → w'.heap[b]? = w.heap[b]?) :
    VecOK P w' O' e.1 (at_ Γ'.ρ i).loc (e.2.ev Γ'.ρ) := by
  rw [h.vec_at he hi]
  obtain ⟨m, hm⟩ := he.ρ
  rw [hm, E.ev_ext _ (h.wf_vec hw hi)]
  exact (h.vec i e hi).1.keep ht.size ht.keep hb

theorem Sat.fresh (h : Sat P F w0 Γ st a w) {t : TypeId} {cs : List Lf} {st' : St} (hf : st.fresh t cs = some st') (hok : ∀ l ∈ cs, l.ok P w (Own Γ st) Γ) :
    ∃ Γ', Ext Γ Γ' ∧ Γ'.ρ = Γ.ρ ∧ Γ'.blk st.nb = w.heap.size ∧ Sat P F w0 Γ' st' a (w.alloc (.cells (dens Γ cs) t)) ∧ st'.lvl = st.lvl := by
  unfold St.fresh at hf
  split at hf
  · rename_i hc
    simp only [Bool.and_eq_true] at hc
    obtain ⟨⟨hw, hcw⟩, hfl⟩ := hc
    cases hf
    let Γ' : Env := { Γ with blk := fun b => if b = st.nb then w.heap.size else Γ.blk b, nb := st.nb + 1 }
    have he : Ext Γ Γ' := ⟨⟨[], by simp [Γ']⟩, fun b hb => by simp [Γ']; intro e; rw [h.nb] at hb; omega, by simp [Γ', h.nb], rfl, rfl⟩
    have hbel := below_alloc w (.cells (dens Γ cs) t)
    have hs' : w.heap.size ≤ (w.alloc (.cells (dens Γ cs) t)).heap.size := hbel.size
    have hblk : ∀ j mb, look st.mem j = some mb → Γ'.blk j = Γ.blk j := fun j mb hj => he.blk j (by rw [h.nb]; exact (h.mem j mb hj).2.2.2)
    have hhold : ∀ s j b, Hold Γ' { st with mem := (st.nb, some (t, cs)) :: st.mem, nb := st.nb + 1 } s j b → Hold Γ st s j b ∨ (s = true ∧ j = st.nb ∧ b = w.heap.size) := by
      intro s j b hh
      rcases hh.inv with ⟨rfl, mb, hj, rfl⟩ | ⟨rfl, e, hi, hb⟩
      · simp only [look] at hj
        split at hj
        · rename_i e; subst e; right; simp [Γ']
        · left; rw [hblk _ _ hj]; exact .mem hj
      · exact .inl (.vec (Γ := Γ) hi hb)
    have hown : ∀ b o, Own Γ' { st with mem := (st.nb, some (t, cs)) :: st.mem, nb := st.nb + 1 } b o → Own Γ st b o ∨ b = w.heap.size := by
      intro b o hb
      rcases Own.iff.1 hb with hb | ⟨s, j, hh⟩
      · exact .inl (.inl hb)
      · rcases hhold s j b hh with hh | hh
        · exact .inl (hh.own o)
        · exact .inr hh.2.2
    have ht : Turn w (w.alloc (.cells (dens Γ cs) t)) (Own Γ st) (Own Γ' { st with mem := (st.nb, some (t, cs)) :: st.mem, nb := st.nb + 1 }) :=
      ⟨hs', fun b o hb hno => ⟨World.cell?_of_block (hbel.block b hb), fun ho => (hown b o ho).elim hno (fun e => by omega)⟩⟩
    refine ⟨Γ', he, rfl, by simp [Γ'], ⟨h.slots_ext hw he ht, h.size, fun b mb hb => ?_, fun i e hi => ⟨h.vec_ext hw he ht hi fun b hb => hbel.block b ((h.vec i e hi).1.lt hb), (h.vec i e hi).2⟩, h.clo_ext hw he ht, fun s j s' j' b h1 h2 => ?_, h.keeps.trans (Keeps.of_below hbel (fun i hi => ?_)), h.fold, fun b o hb => Nat.lt_of_lt_of_le (h.base b o hb) hs', h.defers, h.len, by simp [Γ'], h.num⟩, rfl⟩
    · simp only [look] at hb
      split at hb
      · rename_i e
        subst e
        cases hb
        have hcw' : cs.all (Lf.wf Γ.ρ.length Γ.nb) = true := by rw [h.len, h.nb]; exact hcw
        simp only [Γ', if_true]
        refine ⟨?_, fun l hl => Lf.ok_ext he (List.all_eq_true.1 hcw' l hl) (Lf.ok_keep (hok l hl) ht.size ht.keep), fun hF => ?_, by simp⟩
        · have := dens_ext he cs hcw'
          rw [show dens _ cs = dens Γ cs from this]
          exact Blk.new w t _
        · have := h.fold _ hF; have := h.keeps.size; omega
      · rename_i e
        obtain ⟨h1, h2, h3, h4⟩ := h.mem b mb hb
        have hwf := h.wf_mem hw hb
        rw [hblk b mb hb, dens_ext he _ hwf]
        exact ⟨h1.alloc _, fun l hl => Lf.ok_ext he (List.all_eq_true.1 hwf l hl) (Lf.ok_keep (h2 l hl) ht.size ht.keep), h3, Nat.lt_succ_of_lt h4⟩
    · rcases hhold _ _ _ h1 with h1 | h1 <;> rcases hhold _ _ _ h2 with h2 | h2
      · exact h.inj _ _ _ _ _ h1 h2
      · have := h.hold_lt h1; omega
      · have := h.hold_lt h2; omega
      · exact ⟨h1.1.trans h2.1.symm, h1.2.1.trans h2.2.1.symm⟩
    · have := h.fold i hi; have := h.keeps.size; omega
  · cases hf

theorem SV.ok_addO {P : Program} {w : World} {O : Nat → Nat → Prop} {Γ : Env} {ob : Option Nat} {sv : SV} (h : sv.ok P w O (Γ.addO ob)) : sv.ok P w O Γ := by
  cases sv with
  | one s => exact fun l hl => by have := h l hl; cases l <;> exact this
  | tup ss => exact fun s hs l hl => by have := h s hs l hl; cases l <;> exact this
  | fn f ls => exact fun l hl => by have := h l hl; cases l <;> exact this
theorem SV.ok_addO' {P : Program} {w : World} {O : Nat → Nat → Prop} {Γ : Env} {ob : Option Nat} {sv : SV} (h : sv.ok P w O Γ) : sv.ok P w O (Γ.addO ob) := by
  cases sv with
  | one s => exact fun l hl => by have := h l hl; cases l <;> exact this
  | tup ss => exact fun s hs l hl => by have := h s hs l hl; cases l <;> exact this
  | fn f ls => exact fun l hl => by have := h l hl; cases l <;> exact this
theorem Lf.ok_addO {P : Program} {w : World} {O : Nat → Nat → Prop} {Γ : Env} {ob : Option Nat} {l : Lf} : l.ok P w O (Γ.addO ob) ↔ l.ok P w O Γ := by cases l <;> exact Iff.rfl
theorem Lf.den_addO (Γ : Env) (ob : Option Nat) (l : Lf) : l.den (Γ.addO ob) = l.den Γ := by cases l <;> rfl
theorem dens_addO (Γ : Env) (ob : Option Nat) (l : List Lf) : dens (Γ.addO ob) l = dens Γ l := by
  unfold dens; rw [List.map_congr_left fun x _ => Lf.den_addO Γ ob x]
theorem Hold.addO {ob : Option Nat} {s : Bool} {j b : Nat} (h : Hold (Γ.addO ob) st s j b) : Hold Γ st s j b := by
  cases s <;> exact h
theorem Hold.toO {ob : Option Nat} {s : Bool} {j b : Nat} (h : Hold Γ st s j b) : Hold (Γ.addO ob) st s j b := by
  cases s <;> exact h
/-- A block that was made some time ago is taken up. -/
theorem Sat.adopt' {b : Nat} (h : Sat P F w0 (Γ.addO (some b)) st a w) {t : TypeId} {cs : List Lf} (hw : st.wf = true) (hcw : cs.all (Lf.wf st.nx st.nb) = true) (hb : Blk w b t (dens Γ cs)) (hge : w0.heap.size ≤ b)
    (hne : ∀ s j, ¬ Hold Γ st s j b) (hcs : ∀ l ∈ cs, l.ok P w (Own (Γ.addO (some b)) st) Γ) :
    ∃ Γ', Ext Γ Γ' ∧ Γ'.ρ = Γ.ρ ∧ Γ'.blk st.nb = b ∧ Sat P F w0 Γ' { st with mem := (st.nb, some (t, cs)) :: st.mem, nb := st.nb + 1 } a w := by
  let Γ' : Env := { Γ with blk := fun x => if x = st.nb then b else Γ.blk x, nb := st.nb + 1 }
  have hnb : Γ.nb = st.nb := h.nb
  have hlen : Γ.ρ.length = st.nx := h.len
  have he : Ext Γ Γ' := ⟨⟨[], by simp [Γ']⟩, fun x hx => by simp [Γ']; intro e; rw [hnb] at hx; omega, by simp [Γ', hnb], rfl, rfl⟩
  have hblk : ∀ j mb, look st.mem j = some mb → Γ'.blk j = Γ.blk j := fun j mb hj => he.blk j (by rw [hnb]; exact (h.mem j mb hj).2.2.2)
  have hhold : ∀ s j x, Hold Γ' { st with mem := (st.nb, some (t, cs)) :: st.mem, nb := st.nb + 1 } s j x → Hold Γ st s j x ∨ (s = true ∧ j = st.nb ∧ x = b) := by
    intro s j x hh
    rcases hh.inv with ⟨rfl, mb, hj, rfl⟩ | ⟨rfl, e, hi, hb⟩
    · simp only [look] at hj
      split at hj
      · rename_i e; subst e; right; simp [Γ']
      · left; rw [hblk _ _ hj]; exact .mem hj
    · exact .inl (.vec (Γ := Γ) hi hb)
  have hown : ∀ x o, Own Γ' { st with mem := (st.nb, some (t, cs)) :: st.mem, nb := st.nb + 1 } x o → Own (Γ.addO (some b)) st x o := by
    intro x o hx
    rcases Own.iff.1 hx with hx | ⟨s, j, hh⟩
    · exact .inl (.inl hx)
    · rcases hhold s j x hh with hh | hh
      · exact Hold.own (Γ := Γ.addO (some b)) hh.toO o
      · exact .inl (.inr (by rw [hh.2.2]))
  have ht : Turn w w (Own (Γ.addO (some b)) st) (Own Γ' { st with mem := (st.nb, some (t, cs)) :: st.mem, nb := st.nb + 1 }) := ⟨Nat.le_refl _, fun x o _ hno => ⟨rfl, fun ho => hno (hown x o ho)⟩⟩
  refine ⟨Γ', he, rfl, by simp [Γ'], ⟨fun t' sv hsv => ?_, h.size, fun x mb hx => ?_, fun i e hi => ⟨?_, (h.vec i e hi).2.1, fun b' hb' => ⟨((h.vec i e hi).2.2 b' hb').1, fun o ho => ((h.vec i e hi).2.2 b' hb').2 o (.inl ho)⟩⟩, fun i e hi => ?_, fun s j s' j' x h1 h2 => ?_, h.keeps, h.fold, fun x o hx => h.base x o (.inl hx), h.defers, h.len, by simp [Γ'], h.num⟩⟩
  · have hwf : sv.wf Γ.ρ.length Γ.nb = true := h.wf_slot hw hsv
    obtain ⟨h1, h2⟩ := h.slots_keep ht t' sv hsv
    rw [SV.den_addO] at h1
    exact ⟨by rw [SV.den_ext he sv hwf, ← h1]; rfl, SV.ok_ext he hwf (SV.ok_addO h2)⟩
  · simp only [look] at hx
    split at hx
    · rename_i e
      subst e
      cases hx
      have hcw' : cs.all (Lf.wf Γ.ρ.length Γ.nb) = true := by rw [hlen, hnb]; exact hcw
      simp only [Γ', if_true]
      refine ⟨?_, fun l hl => (Lf.ok_ext he (List.all_eq_true.1 hcw' l hl) (hcs l hl)).anti' hown, fun hF => ?_, by simp⟩
      · rw [show dens _ cs = dens Γ cs from dens_ext he cs hcw']
        exact hb
      · have := h.fold _ hF; omega
    · rename_i e
      obtain ⟨h1, h2, h3, h4⟩ := h.mem x mb hx
      have hwf : mb.2.all (Lf.wf Γ.ρ.length Γ.nb) = true := h.wf_mem hw hx
      rw [dens_addO] at h1
      rw [hblk x mb hx, dens_ext he _ hwf]
      exact ⟨h1, fun l hl => Lf.ok_ext he (List.all_eq_true.1 hwf l hl) (Lf.ok_addO.1 (h2 l hl |>.anti' hown)), h3, Nat.lt_succ_of_lt h4⟩
  · exact (h.vec i e hi).1.anti hown
  · obtain ⟨k1, k2, k3⟩ := h.wf_clo hw hi
    obtain ⟨h1, h2, h3⟩ := h.clo_keep ht i e hi
    refine ⟨?_, fun s hs => S0.ok_ext he (List.all_eq_true.1 k2 s hs) (SV.ok_addO (sv := .one s) (h2 s hs)), fun l hl => Lf.ok_ext he (List.all_eq_true.1 k3 l hl) (Lf.ok_addO.1 (h3 l hl))⟩
    have h1' : (at_ Γ.ρ i).loc = _ := h1
    rw [show at_ Γ'.ρ i = at_ Γ.ρ i from rfl, h1', List.map_congr_left fun s hs => (S0.den_addO Γ (some b) s).trans (S0.den_ext he s (List.all_eq_true.1 k2 s hs)).symm, List.map_congr_left fun l hl => (Lf.den_addO Γ (some b) l).trans (Lf.den_ext he l (List.all_eq_true.1 k3 l hl)).symm]
  · rcases hhold _ _ _ h1 with h1 | h1 <;> rcases hhold _ _ _ h2 with h2 | h2
    · refine h.inj s j s' j' x ?_ ?_
      · exact h1.toO
      · exact h2.toO
    · exact absurd (h2.2.2 ▸ h1) (hne _ _)
    · exact absurd (h1.2.2 ▸ h2) (hne _ _)
    · exact ⟨h1.1.trans h2.1.symm, h1.2.1.trans h2.2.1.symm⟩

theorem Sat.adopt {b : Nat} (h : Sat P F w0 (Γ.addO (some b)) st a w) {t : TypeId} {cs : List Lf} {st' : St} (hf : st.fresh t cs = some st') (hb : Blk w b t (dens Γ cs)) (hge : w0.heap.size ≤ b)
    (hne : ∀ s j, ¬ Hold Γ st s j b) (hcs : ∀ l ∈ cs, l.ok P w (Own (Γ.addO (some b)) st) Γ) :
    ∃ Γ', Ext Γ Γ' ∧ Γ'.ρ = Γ.ρ ∧ Γ'.blk st.nb = b ∧ Sat P F w0 Γ' st' a w ∧ st'.lvl = st.lvl := by
  unfold St.fresh at hf
  split at hf
  · rename_i hc
    simp only [Bool.and_eq_true] at hc
    cases hf
    obtain ⟨Γ', e1, e2, e3, e4⟩ := h.adopt' hc.1.1 hc.1.2 hb hge hne hcs
    exact ⟨Γ', e1, e2, e3, e4, rfl⟩
  · cases hf

/-- A call that leaves all that was there as it was. -/
theorem Sat.below (h : Sat P F w0 Γ st a w) {w' : World} (hb : Below w.heap.size w w') : Sat P F w0 Γ st a w' := by
  have ht : Turn w w' (Own Γ st) (Own Γ st) := ⟨hb.size, fun b o hb' hno => ⟨World.cell?_of_block (hb.block b hb'), hno⟩⟩
  refine ⟨h.slots_keep ht, h.size, fun b mb hm => ?_, fun i e hi => ⟨(h.vec i e hi).1.keep ht.size ht.keep fun b hb' => hb.block b ((h.vec i e hi).1.lt hb'), (h.vec i e hi).2⟩, h.clo_keep ht, h.inj, h.keeps.trans (Keeps.of_below hb fun i hi => ?_), h.fold, fun b o hb' => Nat.lt_of_lt_of_le (h.base b o hb') hb.size, h.defers, h.len, h.nb, h.num⟩
  · obtain ⟨h1, h2, h3, h4⟩ := h.mem b mb hm
    exact ⟨h1.below hb, fun l hl => Lf.ok_keep (h2 l hl) ht.size ht.keep, h3, h4⟩
  · have := h.fold i hi; have := h.keeps.size; omega
/-- New variables. -/
theorem Sat.grow (h : Sat P F w0 Γ st a w) (hw : st.wf = true) {rs : List C} (hs : Smalls (Γ.ρ ++ rs)) :
    Sat P F w0 { Γ with ρ := Γ.ρ ++ rs } { st with nx := st.nx + rs.length } a w := by
  have he : Ext Γ { Γ with ρ := Γ.ρ ++ rs } := ⟨⟨rs, rfl⟩, fun _ _ => rfl, Nat.le_refl _, rfl, rfl⟩
  have hhold : ∀ s j b, Hold { Γ with ρ := Γ.ρ ++ rs } { st with nx := st.nx + rs.length } s j b → Hold Γ st s j b := fun s j b hh =>
    Hold.congr (Γ := Γ) (st := st) (Γ' := { Γ with ρ := Γ.ρ ++ rs }) (st' := { st with nx := st.nx + rs.length }) (fun j mb hj => ⟨⟨mb, hj⟩, rfl⟩) (fun i e hi => ⟨⟨e, hi⟩, h.vec_at he hi⟩) hh
  have hown : ∀ b o, Own { Γ with ρ := Γ.ρ ++ rs } { st with nx := st.nx + rs.length } b o → Own Γ st b o := fun b o hb => by
    rcases Own.iff.1 hb with hb | ⟨s, j, hh⟩
    · exact .inl hb
    · exact (hhold s j b hh).own o
  have ht : Turn w w (Own Γ st) (Own { Γ with ρ := Γ.ρ ++ rs } { st with nx := st.nx + rs.length }) := ⟨Nat.le_refl _, fun b o _ hno => ⟨rfl, fun ho => hno (hown b o ho)⟩⟩
  refine ⟨h.slots_ext hw he ht, h.size, fun b mb hm => ?_, fun i e hi => ⟨h.vec_ext hw he ht hi fun _ _ => rfl, Nat.lt_of_lt_of_le (h.vec i e hi).2.1 (Nat.le_add_right _ _), by rw [h.vec_at he hi]; exact (h.vec i e hi).2.2⟩, h.clo_ext hw he ht, fun s j s' j' b h1 h2 => h.inj s j s' j' b (hhold _ _ _ h1) (hhold _ _ _ h2), h.keeps, h.fold, h.base, h.defers, by simp [h.len], h.nb, ⟨Bds.ok_ext h.num.bds, hs⟩⟩
  obtain ⟨h1, h2, h3, h4⟩ := h.mem b mb hm
  have hwf := h.wf_mem hw hm
  rw [dens_ext he _ hwf]
  exact ⟨h1, fun l hl => Lf.ok_ext he (List.all_eq_true.1 hwf l hl) (Lf.ok_keep (h2 l hl) ht.size ht.keep), h3, h4⟩
/-- A block of one's own holds something new; all else is as it was. -/
theorem Sat.mod (h : Sat P F w0 Γ st a w) {b : Nat} {mb : TypeId × List Lf} (hb : look st.mem b = some mb) {w' : World} (hk : Keeps (fun i => i < w.heap.size ∧ i ≠ Γ.blk b) w w') {cs : List Lf}
    (hnew : Blk w' (Γ.blk b) mb.1 (dens Γ cs)) (hok : ∀ l ∈ cs, l.ok P w' (Own Γ st) Γ) : Sat P F w0 Γ { st with mem := (b, some (mb.1, cs)) :: st.mem } a w' := by
  obtain ⟨m1, m2, m3, m4⟩ := h.mem b mb hb
  have hhold : ∀ s j x, Hold Γ { st with mem := (b, some (mb.1, cs)) :: st.mem } s j x → Hold Γ st s j x := fun s j x hh =>
    Hold.congr (Γ := Γ) (st := st) (Γ' := Γ) (st' := { st with mem := (b, some (mb.1, cs)) :: st.mem }) (fun j mj hj => ⟨by
      simp only [look] at hj
      split at hj
      · rename_i e; subst e; exact ⟨mb, hb⟩
      · exact ⟨mj, hj⟩, rfl⟩) (fun i e hi => ⟨⟨e, hi⟩, rfl⟩) hh
  have hown : ∀ k o, Own Γ { st with mem := (b, some (mb.1, cs)) :: st.mem } k o → Own Γ st k o := fun k o hk => by
    rcases Own.iff.1 hk with hk | ⟨s, j, hh⟩
    · exact .inl hk
    · exact (hhold s j k hh).own o
  have hbh : Hold Γ st true b (Γ.blk b) := .mem hb
  have ht : Turn w w' (Own Γ st) (Own Γ { st with mem := (b, some (mb.1, cs)) :: st.mem }) :=
    ⟨hk.size, fun k o hlt hno => ⟨World.cell?_of_block (hk.block k ⟨hlt, fun e => hno (e ▸ hbh.own o)⟩), fun ho => hno (hown k o ho)⟩⟩
  refine ⟨h.slots_keep ht, h.size, fun c mc hm => ?_, fun i e hi => ⟨(h.vec i e hi).1.keep ht.size ht.keep fun b' hb' => hk.block b' ⟨(h.vec i e hi).1.lt hb', fun e' => by
      have := (h.inj _ _ _ _ _ (Hold.vec (Γ := Γ) hi hb') (e' ▸ hbh)).1; cases this⟩, (h.vec i e hi).2⟩, h.clo_keep ht, fun s j s' j' x h1 h2 => h.inj _ _ _ _ _ (hhold _ _ _ h1) (hhold _ _ _ h2), h.keeps.trans ⟨hk.os, hk.tape, hk.output, hk.size, fun i hi => hk.block i ⟨?_, fun e => m3 (e ▸ hi)⟩⟩, h.fold, fun b' o hb' => Nat.lt_of_lt_of_le (h.base b' o hb') hk.size, h.defers, h.len, h.nb, h.num⟩
  · simp only [look] at hm
    split at hm
    · rename_i e
      subst e
      cases hm
      exact ⟨hnew, fun l hl => (hok l hl).anti' hown, m3, m4⟩
    · rename_i e
      obtain ⟨h1, h2, h3, h4⟩ := h.mem c mc hm
      refine ⟨?_, fun l hl => Lf.ok_keep (h2 l hl) ht.size ht.keep, h3, h4⟩
      exact (hk.block (Γ.blk c) ⟨h1.lt, fun e' => e (h.inj _ _ _ _ _ (Hold.mem (Γ := Γ) hm) (e' ▸ hbh)).2.symm⟩).trans h1
  · have := h.fold i hi; have := h.keeps.size; omega
/-- A new block that is not one's own yet: nothing that is known lies in it. -/
theorem Sat.belowO (h : Sat P F w0 Γ st a w) {w' : World} (hb : Below w.heap.size w w') {n : Nat} (hn : w.heap.size ≤ n) (hn' : n < w'.heap.size) : Sat P F w0 (Γ.addO (some n)) st a w' := by
  have h2 := h.below hb
  have ht : Turn w w' (Own Γ st) (Own (Γ.addO (some n)) st) := ⟨hb.size, fun b o' hb' hno => ⟨World.cell?_of_block (hb.block b hb'), fun hx => by
    rcases Own.iff.1 hx with (hx | hx) | ⟨s, j, hh⟩
    · exact hno (.inl hx)
    · cases hx; omega
    · exact hno (hh.addO.own o')⟩⟩
  refine ⟨fun t' sv hsv => ?_, h2.size, fun b mb hm => ?_, fun i e hi => ⟨(h.vec i e hi).1.keep ht.size ht.keep fun b hb' => hb.block b ((h.vec i e hi).1.lt hb'), (h.vec i e hi).2.1, fun b hb' => ⟨((h.vec i e hi).2.2 b hb').1, fun o ho => ho.elim (((h.vec i e hi).2.2 b hb').2 o) fun e' => by
      have := (h.vec i e hi).1.lt hb'; cases e'; omega⟩⟩, fun i e hi => ?_, fun s j s' j' x h1 h3 => h.inj _ _ _ _ _ h1.addO h3.addO, h2.keeps, h2.fold, fun b o' hb' => ?_, h2.defers, h2.len, h2.nb, h2.num⟩
  · obtain ⟨q1, q2⟩ := h.slots_keep ht t' sv hsv
    exact ⟨by rw [SV.den_addO]; exact q1, SV.ok_addO' q2⟩
  · obtain ⟨q1, q2, q3, q4⟩ := h.mem b mb hm
    rw [dens_addO]
    exact ⟨q1.below hb, fun l hl => Lf.ok_addO.2 (Lf.ok_keep (q2 l hl) ht.size ht.keep), q3, q4⟩
  · obtain ⟨h1, h2, h3⟩ := h.clo_keep ht i e hi
    refine ⟨?_, fun s hs => SV.ok_addO' (sv := .one s) (h2 s hs), fun l hl => Lf.ok_addO.2 (h3 l hl)⟩
    rw [List.map_congr_left fun s _ => S0.den_addO Γ (some n) s, List.map_congr_left fun l _ => Lf.den_addO Γ (some n) l]
    exact h1
  · rcases hb' with hb' | hb'
    · exact Nat.lt_of_lt_of_le (h.base b o' hb') hb.size
    · cases hb'; exact hn'
/-- A store into a block of one's own. -/
theorem Sat.store (h : Sat P F w0 Γ st a w) {b off : Nat} {mb : TypeId × List Lf} (hb : look st.mem b = some mb) {cs : List Lf} (hle : off + cs.length ≤ mb.2.length) (hok : ∀ l ∈ cs, l.ok P w (Own Γ st) Γ) :
    Sat P F w0 Γ { st with mem := (b, some (mb.1, mb.2.take off ++ cs ++ mb.2.drop (off + cs.length))) :: st.mem } a
      (w.setRow (Γ.blk b) ((dens Γ mb.2).toList.take off ++ (cs.map (Lf.den Γ)) ++ (dens Γ mb.2).toList.drop (off + cs.length)).toArray) := by
  obtain ⟨m1, m2, m3, m4⟩ := h.mem b mb hb
  have m1' : w.heap[Γ.blk b]? = some (.cells (dens Γ mb.2) mb.1 (0, 0)) := m1
  generalize hnew : ((dens Γ mb.2).toList.take off ++ (cs.map (Lf.den Γ)) ++ (dens Γ mb.2).toList.drop (off + cs.length)).toArray = new
  have hnew' : new = dens Γ (mb.2.take off ++ cs ++ mb.2.drop (off + cs.length)) := by
    rw [← hnew]; simp [dens, List.map_take, List.map_drop]
  have hsz : (w.setRow (Γ.blk b) new).heap.size = w.heap.size := by simp [World.setRow]
  have hoth : ∀ k, k ≠ Γ.blk b → (w.setRow (Γ.blk b) new).heap[k]? = w.heap[k]? := fun k hk => setRow_other w _ k new hk
  have hkeep : ∀ l : Lf, l.ok P w (Own Γ st) Γ → l.ok P (w.setRow (Γ.blk b) new) (Own Γ st) Γ := fun l hl => Lf.ok_keep hl (by rw [hsz]; exact Nat.le_refl _) fun k o _ hno => ⟨World.cell?_of_block (hoth k fun e => hno (e ▸ (Hold.mem (Γ := Γ) hb).own o)), hno⟩
  refine h.mod hb (w' := w.setRow (Γ.blk b) new) ⟨rfl, rfl, rfl, by rw [hsz]; exact Nat.le_refl _, fun i hi => hoth i hi.2⟩ ?_ fun l hl => hkeep l ?_
  · rw [← hnew']; exact setRow_heap w _ _ _ _ _ m1'
  · rcases List.mem_append.1 hl with hl | hl
    · rcases List.mem_append.1 hl with hl | hl
      · exact m2 l (List.mem_of_mem_take hl)
      · exact hok l hl
    · exact m2 l (List.mem_of_mem_drop hl)
end
end Go.Proofs.Ytlbgcjpkegpmlaa
