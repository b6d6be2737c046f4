/- The engine, part 9: what a state says of a frame and a world; writes, calls. -/
import Derived.Test.YtlbgcjpkegpmlaaEh
import Derived.Deep.LoopGhost
namespace Go.Proofs.Ytlbgcjpkegpmlaa
open Go.RowKit
set_option linter.unusedSimpArgs false

theorem Keeps.refl (F : Nat → Prop) (w : World) : Keeps F w w := ⟨rfl, rfl, rfl, Nat.le_refl _, fun _ _ => rfl⟩
theorem Keeps.trans {F : Nat → Prop} {a b c : World} (h : Keeps F a b) (k : Keeps F b c) : Keeps F a c :=
  ⟨k.os.trans h.os, k.tape.trans h.tape, k.output.trans h.output, Nat.le_trans h.size k.size, fun i hi => (k.block i hi).trans (h.block i hi)⟩
theorem Keeps.of_below {F : Nat → Prop} {w w' : World} {B : Nat} (h : Below B w w') (hF : ∀ i, F i → i < B) : Keeps F w w' := ⟨h.os, h.tape, h.output, h.size, fun i hi => h.block i (hF i hi)⟩
theorem Keeps.below {w w' : World} {B : Nat} (h : Keeps (fun i => i < B) w w') : Below B w w' := ⟨h.os, h.tape, h.output, h.size, h.block⟩
theorem below_alloc (w : World) (o : Obj) : Below w.heap.size w (w.alloc o) := (Below.refl _ _).alloc (Nat.le_refl _) o

structure Sat (P : Program) (F : Nat → Prop) (w0 : World) (Γ : Env) (st : St) (a : Act) (w : World) : Prop where
  slots : ∀ t sv, look st.sl t = some sv → a.tmps.getD t undef = sv.den Γ ∧ sv.ok P w (Own Γ st) Γ
  size : a.tmps.size = st.nt
  mem : ∀ b mb, look st.mem b = some mb → Blk w (Γ.blk b) mb.1 (dens Γ mb.2) ∧ (∀ l ∈ mb.2, l.ok P w (Own Γ st) Γ) ∧ ¬ F (Γ.blk b) ∧ b < st.nb
  inj : ∀ b c mb mc, look st.mem b = some mb → look st.mem c = some mc → Γ.blk b = Γ.blk c → b = c
  keeps : Keeps F w0 w
  fold : ∀ i, F i → i < w0.heap.size
  base : ∀ b o, Γ.base b o → b < w.heap.size
  defers : a.defers = []
  len : Γ.ρ.length = st.nx
  nb : Γ.nb = st.nb
  num : Num st.bds Γ.ρ

section
variable {P : Program} {F : Nat → Prop} {w0 : World} {Γ : Env} {st : St} {a : Act} {w : World}
theorem Sat.view (h : Sat P F w0 Γ st a w) (xs : Array Operand) : View P Γ st xs a.eval w where
  slots x _ sv hx := by
    cases x with
    | tmp t => exact h.slots t sv hx
    | const v =>
      simp only [St.ev, Option.some.injEq] at hx
      subst hx
      refine ⟨(S0.den_ofValue Γ v).symm, fun l hl => ?_⟩
      unfold S0.ofValue at hl
      split at hl
      · simp only [S0.cells, List.mem_map] at hl
        obtain ⟨v, -, rfl⟩ := hl
        unfold Lf.ofValue
        split <;> trivial
      · simp only [S0.cells, List.mem_singleton] at hl
        subst hl
        unfold Lf.ofValue
        split <;> trivial
    | global g => simp only [St.ev, Option.some.injEq] at hx; subst hx; exact ⟨rfl, one_ok trivial⟩
    | func f => simp only [St.ev, Option.some.injEq] at hx; subst hx; exact ⟨rfl, one_ok trivial⟩
  mem b mb hb := ⟨(h.mem b mb hb).1, (h.mem b mb hb).2.1⟩
  num := h.num
theorem Sat.own_lt (h : Sat P F w0 Γ st a w) : ∀ b o, Own Γ st b o → b < w.heap.size := by
  rintro b o (hb | ⟨j, mb, hj, rfl⟩)
  · exact h.base b o hb
  · exact (h.mem j mb hj).1.lt
theorem getD_set {tmps : Array Value} {d t : Nat} {v : Value} (hd : d < tmps.size) : (tmps.setIfInBounds d v).getD t undef = if d = t then v else tmps.getD t undef := by
  simp only [Array.getD_eq_getD_getElem?, Array.getElem?_setIfInBounds]
  split
  · rename_i e; subst e; simp [hd]
  · rfl
theorem Act.put_tmps (a : Act) (d : Nat) (v : Value) : (a.put (some d) v).tmps = a.tmps.setIfInBounds d v := rfl
theorem Sat.put (h : Sat P F w0 Γ st a w) {dst : Option Tmp} {sv : SV} {st' : St} (hp : st.put dst (some sv) = some st') (hok : sv.ok P w (Own Γ st) Γ) : Sat P F w0 Γ st' (a.put dst (sv.den Γ)) w := by
  cases dst with
  | none => simp only [St.put, Option.some.injEq] at hp; subst hp; exact h
  | some d =>
    simp only [St.put] at hp
    split at hp
    · rename_i hd
      cases hp
      refine ⟨fun t s hs => ?_, by simp [Act.put, h.size], h.mem, h.inj, h.keeps, h.fold, h.base, h.defers, h.len, h.nb, h.num⟩
      rw [Act.put_tmps, getD_set (by rw [h.size]; exact hd)]
      simp only [look] at hs
      split at hs
      · rename_i e; cases hs; rw [if_pos e]; exact ⟨rfl, hok⟩
      · rename_i e; rw [if_neg e]; exact h.slots t s hs
    · cases hp
theorem Sat.drop (h : Sat P F w0 Γ st a w) {dst : Option Tmp} {st' : St} (hp : st.put dst none = some st') (v : Value) : Sat P F w0 Γ st' (a.put dst v) w := by
  cases dst with
  | none => simp only [St.put, Option.some.injEq] at hp; subst hp; exact h
  | some d =>
    simp only [St.put] at hp
    split at hp
    · rename_i hd
      cases hp
      refine ⟨fun t s hs => ?_, by simp [Act.put, h.size], h.mem, h.inj, h.keeps, h.fold, h.base, h.defers, h.len, h.nb, h.num⟩
      rw [Act.put_tmps, getD_set (by rw [h.size]; exact hd)]
      simp only [look] at hs
      split at hs
      · cases hs
      · rename_i e; rw [if_neg e]; exact h.slots t s hs
    · cases hp
theorem St.put_lvl {dst : Option Tmp} {sv : Option SV} {st' : St} (hp : st.put dst sv = some st') : st'.lvl = st.lvl := by
  cases dst with
  | none => simp only [St.put, Option.some.injEq] at hp; subst hp; rfl
  | some d => simp only [St.put] at hp; split at hp <;> cases hp; rfl
theorem St.put_mem {dst : Option Tmp} {sv : Option SV} {st' : St} (hp : st.put dst sv = some st') : st'.mem = st.mem := by
  cases dst with
  | none => simp only [St.put, Option.some.injEq] at hp; subst hp; rfl
  | some d => simp only [St.put] at hp; split at hp <;> cases hp; rfl
theorem St.put_nb {dst : Option Tmp} {sv : Option SV} {st' : St} (hp : st.put dst sv = some st') : st'.nb = st.nb := by
  cases dst with
  | none => simp only [St.put, Option.some.injEq] at hp; subst hp; rfl
  | some d => simp only [St.put] at hp; split at hp <;> cases hp; rfl
theorem learnAll_num : ∀ (l : List B) (bd : Bds) (n : Nat), n ≤ Γ.ρ.length → Num bd Γ.ρ → Obs Γ.ρ l → Num (l.foldl (fun bd b => learn n bd b true) bd) Γ.ρ
  | [], _, _, _, h, _ => h
  | b :: l, bd, n, hn, h, ho => learnAll_num l _ n hn ⟨learn_ok h.len hn b bd true h.bds (ho b (by simp)), h.len⟩ fun x hx => ho x (by simp [hx])
theorem Sat.learn (h : Sat P F w0 Γ st a w) {l : List B} (ho : Obs Γ.ρ l) : Sat P F w0 Γ (st.learnAll l) a w :=
  ⟨h.slots, h.size, h.mem, h.inj, h.keeps, h.fold, h.base, h.defers, h.len, h.nb, learnAll_num l _ _ (by rw [h.len]; exact Nat.le_refl _) h.num ho⟩

/-! Γ grows -/
theorem look_wf {α : Type} {f : Option α → Bool} : ∀ {l : List (Nat × Option α)} {t : Nat} {v : α}, l.all (fun p => f p.2) = true → look l t = some v → f (some v) = true
  | [], _, _, _, h => by cases h
  | (k, u) :: l, t, v, ha, h => by
    simp only [List.all_cons, Bool.and_eq_true] at ha
    simp only [look] at h
    split at h
    · subst h; exact ha.1
    · exact look_wf ha.2 h
theorem Sat.wf_slot (h : Sat P F w0 Γ st a w) (hw : st.wf = true) {t : Nat} {sv : SV} (hs : look st.sl t = some sv) : sv.wf Γ.ρ.length Γ.nb = true := by
  simp only [St.wf, Bool.and_eq_true] at hw
  rw [h.len, h.nb]
  exact look_wf (f := wfS st.nx st.nb) hw.1 hs
theorem Sat.wf_mem (h : Sat P F w0 Γ st a w) (hw : st.wf = true) {b : Nat} {mb : TypeId × List Lf} (hs : look st.mem b = some mb) : mb.2.all (Lf.wf Γ.ρ.length Γ.nb) = true := by
  simp only [St.wf, Bool.and_eq_true] at hw
  rw [h.len, h.nb]
  exact look_wf (f := wfM st.nx st.nb) hw.2 hs

theorem Sat.fresh (h : Sat P F w0 Γ st a w) {t : TypeId} {cs : List Lf} {st' : St} (hf : st.fresh t cs = some st') (hok : ∀ l ∈ cs, l.ok P w (Own Γ st) Γ) :
    ∃ Γ', Ext Γ Γ' ∧ Γ'.ρ = Γ.ρ ∧ Γ'.blk st.nb = w.heap.size ∧ Sat P F w0 Γ' st' a (w.alloc (.cells (dens Γ cs) t)) ∧ st'.lvl = st.lvl := by
  unfold St.fresh at hf
  split at hf
  · rename_i hc
    simp only [Bool.and_eq_true] at hc
    obtain ⟨⟨hw, hcw⟩, hfl⟩ := hc
    cases hf
    let Γ' : Env := { Γ with blk := fun b => if b = st.nb then w.heap.size else Γ.blk b, nb := st.nb + 1 }
    have he : Ext Γ Γ' := ⟨⟨[], by simp [Γ']⟩, fun b hb => by simp [Γ']; intro e; rw [h.nb] at hb; omega, by simp [Γ', h.nb], rfl⟩
    have hbel := below_alloc w (.cells (dens Γ cs) t)
    have hs' : w.heap.size ≤ (w.alloc (.cells (dens Γ cs) t)).heap.size := hbel.size
    have hown : ∀ b o, Own Γ' { st with mem := (st.nb, some (t, cs)) :: st.mem, nb := st.nb + 1 } b o → Own Γ st b o ∨ b = w.heap.size := by
      rintro b o (hb | ⟨j, mb, hj, rfl⟩)
      · exact .inl (.inl hb)
      · simp only [look] at hj
        split at hj
        · rename_i e; subst e; right; simp [Γ']
        · rename_i e; left; right
          refine ⟨j, mb, hj, ?_⟩
          simp only [Γ']; rw [if_neg (fun e' => e e'.symm)]
    have hkeep : ∀ b o, b < w.heap.size → ¬ Own Γ st b o → (w.alloc (.cells (dens Γ cs) t)).cell? ⟨b, o, none⟩ = w.cell? ⟨b, o, none⟩ ∧ ¬ Own Γ' { st with mem := (st.nb, some (t, cs)) :: st.mem, nb := st.nb + 1 } b o :=
      fun b o hb hno => ⟨World.cell?_of_block (hbel.block b hb), fun ho => (hown b o ho).elim hno (fun e => by omega)⟩
    refine ⟨Γ', he, rfl, by simp [Γ'], ⟨fun t' sv hsv => ?_, h.size, fun b mb hb => ?_, fun b c mb mc hb hc heq => ?_, h.keeps.trans (Keeps.of_below hbel (fun i hi => ?_)), h.fold, fun b o hb => Nat.lt_of_lt_of_le (h.base b o hb) hs', h.defers, h.len, by simp [Γ'], h.num⟩, rfl⟩
    · have hwf := h.wf_slot hw hsv
      obtain ⟨h1, h2⟩ := h.slots t' sv hsv
      exact ⟨by rw [h1, SV.den_ext he sv hwf], SV.ok_ext he hwf (SV.ok_keep h2 hs' hkeep)⟩
    · simp only [look] at hb
      split at hb
      · rename_i e
        subst e
        cases hb
        have hcw' : cs.all (Lf.wf Γ.ρ.length Γ.nb) = true := by rw [h.len, h.nb]; exact hcw
        simp only [Γ', if_true]
        refine ⟨?_, fun l hl => Lf.ok_ext he (List.all_eq_true.1 hcw' l hl) (Lf.ok_keep (hok l hl) hs' hkeep), fun hF => ?_, by simp⟩
        · have := dens_ext he cs hcw'
          rw [show dens _ cs = dens Γ cs from this]
          exact Blk.new w t _
        · have := h.fold _ hF; have := h.keeps.size; omega
      · rename_i e
        obtain ⟨h1, h2, h3, h4⟩ := h.mem b mb hb
        have hwf := h.wf_mem hw hb
        have hbl : Γ'.blk b = Γ.blk b := he.blk b (by rw [h.nb]; exact h4)
        rw [hbl, dens_ext he _ hwf]
        exact ⟨h1.alloc _, fun l hl => Lf.ok_ext he (List.all_eq_true.1 hwf l hl) (Lf.ok_keep (h2 l hl) hs' hkeep), h3, Nat.lt_succ_of_lt h4⟩
    · simp only [look] at hb hc
      split at hb <;> split at hc
      · omega
      · rename_i e1 e2
        exfalso
        obtain ⟨h1, h2, h3, h4⟩ := h.mem c mc hc
        have := h1.lt
        simp only [Γ'] at heq
        rw [if_pos e1.symm, if_neg (by omega)] at heq
        omega
      · rename_i e1 e2
        exfalso
        obtain ⟨h1, h2, h3, h4⟩ := h.mem b mb hb
        have := h1.lt
        simp only [Γ'] at heq
        rw [if_neg (by omega), if_pos e2.symm] at heq
        omega
      · rename_i e1 e2
        simp only [Γ'] at heq
        rw [if_neg (by omega), if_neg (by omega)] at heq
        exact h.inj b c mb mc hb hc heq
    · have := h.fold i hi; have := h.keeps.size; omega
  · cases hf

/-- A block that was made some time ago is taken up. -/
theorem Sat.adopt' {b : Nat} (h : Sat P F w0 (Γ.addO (some b)) st a w) {t : TypeId} {cs : List Lf} (hw : st.wf = true) (hcw : cs.all (Lf.wf st.nx st.nb) = true) (hb : Blk w b t (dens Γ cs)) (hge : w0.heap.size ≤ b)
    (hne : ∀ j mb, look st.mem j = some mb → Γ.blk j ≠ b) (hcs : ∀ l ∈ cs, l.ok P w (Own (Γ.addO (some b)) st) Γ) :
    ∃ Γ', Ext Γ Γ' ∧ Γ'.ρ = Γ.ρ ∧ Γ'.blk st.nb = b ∧ Sat P F w0 Γ' { st with mem := (st.nb, some (t, cs)) :: st.mem, nb := st.nb + 1 } a w := by
  let Γ' : Env := { Γ with blk := fun x => if x = st.nb then b else Γ.blk x, nb := st.nb + 1 }
  have hnb : Γ.nb = st.nb := h.nb
  have hlen : Γ.ρ.length = st.nx := h.len
  have he : Ext Γ Γ' := ⟨⟨[], by simp [Γ']⟩, fun x hx => by simp [Γ']; intro e; rw [hnb] at hx; omega, by simp [Γ', hnb], rfl⟩
  have hown : ∀ x o, Own Γ' { st with mem := (st.nb, some (t, cs)) :: st.mem, nb := st.nb + 1 } x o → Own (Γ.addO (some b)) st x o := by
    rintro x o (hx | ⟨j, mb, hj, rfl⟩)
    · exact .inl (.inl hx)
    · simp only [look] at hj
      split at hj
      · rename_i e; subst e; left; right; simp [Γ']
      · rename_i e; right
        refine ⟨j, mb, hj, ?_⟩
        simp only [Γ', Env.addO]; rw [if_neg (fun e' => e e'.symm)]
  refine ⟨Γ', he, rfl, by simp [Γ'], ⟨fun t' sv hsv => ?_, h.size, fun x mb hx => ?_, fun x c mb mc hx hc heq => ?_, h.keeps, h.fold, fun x o hx => h.base x o (.inl hx), h.defers, h.len, by simp [Γ'], h.num⟩⟩
  · have hwf : sv.wf Γ.ρ.length Γ.nb = true := h.wf_slot hw hsv
    obtain ⟨h1, h2⟩ := h.slots t' sv hsv
    rw [SV.den_addO] at h1
    refine ⟨by rw [h1, SV.den_ext he sv hwf], SV.ok_ext he hwf ?_⟩
    have h3 : sv.ok P w (Own (Γ.addO (some b)) st) Γ := by
      cases sv with
      | one s => exact fun l hl => by have := h2 l hl; cases l <;> exact this
      | tup ss => exact fun s hs l hl => by have := h2 s hs l hl; cases l <;> exact this
      | fn f ls => exact fun l hl => by have := h2 l hl; cases l <;> exact this
    cases sv with
    | one s => exact fun l hl => (h3 l hl).anti' hown
    | tup ss => exact fun s hs l hl => (h3 s hs l hl).anti' hown
    | fn f ls => exact fun l hl => (h3 l hl).anti' hown
  · simp only [look] at hx
    split at hx
    · rename_i e
      subst e
      cases hx
      have hcw' : cs.all (Lf.wf Γ.ρ.length Γ.nb) = true := by rw [hlen, hnb]; exact hcw
      simp only [Γ', if_true]
      refine ⟨?_, fun l hl => (Lf.ok_ext he (List.all_eq_true.1 hcw' l hl) (hcs l hl)).anti' hown, fun hF => ?_, by simp⟩
      · rw [show dens _ cs = dens Γ cs from dens_ext he cs hcw']
        exact hb
      · have := h.fold _ hF; omega
    · rename_i e
      obtain ⟨h1, h2, h3, h4⟩ := h.mem x mb hx
      have hwf : mb.2.all (Lf.wf Γ.ρ.length Γ.nb) = true := h.wf_mem hw hx
      have hbl : Γ'.blk x = Γ.blk x := he.blk x (by rw [hnb]; exact h4)
      have hd : dens (Γ.addO (some b)) mb.2 = dens Γ mb.2 := by
        unfold dens; rw [List.map_congr_left fun l _ => show l.den (Γ.addO (some b)) = l.den Γ by cases l <;> rfl]
      rw [hd] at h1
      rw [hbl, dens_ext he _ hwf]
      refine ⟨h1, fun l hl => Lf.ok_ext he (List.all_eq_true.1 hwf l hl) ?_, h3, Nat.lt_succ_of_lt h4⟩
      have h5 : l.ok P w (Own (Γ.addO (some b)) st) Γ := by have := h2 l hl; cases l <;> exact this
      exact h5.anti' hown
  · simp only [look] at hx hc
    split at hx <;> split at hc
    · omega
    · rename_i e1 e2
      exfalso
      simp only [Γ'] at heq
      rw [if_pos e1.symm, if_neg (by omega)] at heq
      exact hne c mc hc heq.symm
    · rename_i e1 e2
      exfalso
      simp only [Γ'] at heq
      rw [if_neg (by omega), if_pos e2.symm] at heq
      exact hne x mb hx heq
    · rename_i e1 e2
      simp only [Γ'] at heq
      rw [if_neg (by omega), if_neg (by omega)] at heq
      exact h.inj x c mb mc hx hc heq

theorem Sat.adopt {b : Nat} (h : Sat P F w0 (Γ.addO (some b)) st a w) {t : TypeId} {cs : List Lf} {st' : St} (hf : st.fresh t cs = some st') (hb : Blk w b t (dens Γ cs)) (hge : w0.heap.size ≤ b)
    (hne : ∀ j mb, look st.mem j = some mb → Γ.blk j ≠ b) (hcs : ∀ l ∈ cs, l.ok P w (Own (Γ.addO (some b)) st) Γ) :
    ∃ Γ', Ext Γ Γ' ∧ Γ'.ρ = Γ.ρ ∧ Γ'.blk st.nb = b ∧ Sat P F w0 Γ' st' a w ∧ st'.lvl = st.lvl := by
  unfold St.fresh at hf
  split at hf
  · rename_i hc
    simp only [Bool.and_eq_true] at hc
    cases hf
    obtain ⟨Γ', e1, e2, e3, e4⟩ := h.adopt' hc.1.1 hc.1.2 hb hge hne hcs
    exact ⟨Γ', e1, e2, e3, e4, rfl⟩
  · cases hf

/-- A call that leaves all that was there as it was. -/
theorem Sat.below (h : Sat P F w0 Γ st a w) {w' : World} (hb : Below w.heap.size w w') : Sat P F w0 Γ st a w' := by
  have hkeep : ∀ b o, b < w.heap.size → ¬ Own Γ st b o → w'.cell? ⟨b, o, none⟩ = w.cell? ⟨b, o, none⟩ ∧ ¬ Own Γ st b o := fun b o hb' hno => ⟨World.cell?_of_block (hb.block b hb'), hno⟩
  refine ⟨fun t sv hs => ?_, h.size, fun b mb hm => ?_, h.inj, h.keeps.trans (Keeps.of_below hb fun i hi => ?_), h.fold, fun b o hb' => Nat.lt_of_lt_of_le (h.base b o hb') hb.size, h.defers, h.len, h.nb, h.num⟩
  · obtain ⟨h1, h2⟩ := h.slots t sv hs
    exact ⟨h1, SV.ok_keep h2 hb.size hkeep⟩
  · obtain ⟨h1, h2, h3, h4⟩ := h.mem b mb hm
    exact ⟨h1.below hb, fun l hl => Lf.ok_keep (h2 l hl) hb.size hkeep, h3, h4⟩
  · have := h.fold i hi; have := h.keeps.size; omega
/-- New variables. -/
theorem Sat.grow (h : Sat P F w0 Γ st a w) (hw : st.wf = true) {rs : List C} (hs : Smalls (Γ.ρ ++ rs)) :
    Sat P F w0 { Γ with ρ := Γ.ρ ++ rs } { st with nx := st.nx + rs.length } a w := by
  have he : Ext Γ { Γ with ρ := Γ.ρ ++ rs } := ⟨⟨rs, rfl⟩, fun _ _ => rfl, Nat.le_refl _, rfl⟩
  refine ⟨fun t sv hsv => ?_, h.size, fun b mb hm => ?_, h.inj, h.keeps, h.fold, h.base, h.defers, by simp [h.len], h.nb, ⟨Bds.ok_ext h.num.bds, hs⟩⟩
  · obtain ⟨h1, h2⟩ := h.slots t sv hsv
    have hwf := h.wf_slot hw hsv
    exact ⟨by rw [h1, SV.den_ext he sv hwf], SV.ok_ext he hwf h2⟩
  · obtain ⟨h1, h2, h3, h4⟩ := h.mem b mb hm
    have hwf := h.wf_mem hw hm
    rw [dens_ext he _ hwf]
    exact ⟨h1, fun l hl => Lf.ok_ext he (List.all_eq_true.1 hwf l hl) (h2 l hl), h3, h4⟩
/-- A block of one's own holds something new; all else is as it was. -/
theorem Sat.mod (h : Sat P F w0 Γ st a w) {b : Nat} {mb : TypeId × List Lf} (hb : look st.mem b = some mb) {w' : World} (hk : Keeps (fun i => i < w.heap.size ∧ i ≠ Γ.blk b) w w') {cs : List Lf}
    (hnew : Blk w' (Γ.blk b) mb.1 (dens Γ cs)) (hok : ∀ l ∈ cs, l.ok P w' (Own Γ st) Γ) : Sat P F w0 Γ { st with mem := (b, some (mb.1, cs)) :: st.mem } a w' := by
  obtain ⟨m1, m2, m3, m4⟩ := h.mem b mb hb
  have hown : ∀ k o, Own Γ { st with mem := (b, some (mb.1, cs)) :: st.mem } k o → Own Γ st k o := by
    rintro k o (hk | ⟨j, mj, hj, rfl⟩)
    · exact .inl hk
    · simp only [look] at hj
      split at hj
      · rename_i e; subst e; exact .inr ⟨b, mb, hb, rfl⟩
      · exact .inr ⟨j, mj, hj, rfl⟩
  have hkeep : ∀ k o, k < w.heap.size → ¬ Own Γ st k o → w'.cell? ⟨k, o, none⟩ = w.cell? ⟨k, o, none⟩ ∧ ¬ Own Γ { st with mem := (b, some (mb.1, cs)) :: st.mem } k o :=
    fun k o hlt hno => ⟨World.cell?_of_block (hk.block k ⟨hlt, fun e => hno (.inr ⟨b, mb, hb, e.symm⟩)⟩), fun ho => hno (hown k o ho)⟩
  refine ⟨fun t sv hs => ?_, h.size, fun c mc hm => ?_, fun c d mc md hc hd heq => ?_, h.keeps.trans ⟨hk.os, hk.tape, hk.output, hk.size, fun i hi => hk.block i ⟨?_, fun e => m3 (e ▸ hi)⟩⟩, h.fold, fun b' o hb' => Nat.lt_of_lt_of_le (h.base b' o hb') hk.size, h.defers, h.len, h.nb, h.num⟩
  · obtain ⟨h1, h2⟩ := h.slots t sv hs
    exact ⟨h1, SV.ok_keep h2 hk.size hkeep⟩
  · simp only [look] at hm
    split at hm
    · rename_i e
      subst e
      cases hm
      exact ⟨hnew, fun l hl => (hok l hl).anti' hown, m3, m4⟩
    · rename_i e
      obtain ⟨h1, h2, h3, h4⟩ := h.mem c mc hm
      refine ⟨?_, fun l hl => Lf.ok_keep (h2 l hl) hk.size hkeep, h3, h4⟩
      exact (hk.block (Γ.blk c) ⟨h1.lt, fun e' => e (h.inj c b mc mb hm hb e').symm⟩).trans h1
  · have g : ∀ c mc, look ((b, some (mb.1, cs)) :: st.mem) c = some mc → ∃ m, look st.mem c = some m := by
      intro c mc hc
      simp only [look] at hc
      split at hc
      · rename_i e; subst e; exact ⟨mb, hb⟩
      · exact ⟨mc, hc⟩
    obtain ⟨x, hx⟩ := g c mc hc
    obtain ⟨y, hy⟩ := g d md hd
    exact h.inj c d x y hx hy heq
  · have := h.fold i hi; have := h.keeps.size; omega
/-- A new block that is not one's own yet: nothing that is known lies in it. -/
theorem Sat.belowO (h : Sat P F w0 Γ st a w) {w' : World} (hb : Below w.heap.size w w') {n : Nat} (hn : w.heap.size ≤ n) (hn' : n < w'.heap.size) : Sat P F w0 (Γ.addO (some n)) st a w' := by
  have h2 := h.below hb
  have hkeep : ∀ b o', b < w.heap.size → ¬ Own Γ st b o' → w'.cell? ⟨b, o', none⟩ = w.cell? ⟨b, o', none⟩ ∧ ¬ Own (Γ.addO (some n)) st b o' :=
    fun b o' hb' hno => ⟨World.cell?_of_block (hb.block b hb'), fun hx => hx.elim (fun hx => hx.elim (fun hx => hno (.inl hx)) (fun hx => by cases hx; omega)) (fun hx => hno (.inr hx))⟩
  refine ⟨fun t' sv hsv => ?_, h2.size, fun b mb hm => ?_, h2.inj, h2.keeps, h2.fold, fun b o' hb' => ?_, h2.defers, h2.len, h2.nb, h2.num⟩
  · obtain ⟨q1, q2⟩ := h.slots t' sv hsv
    refine ⟨by rw [SV.den_addO]; exact q1, ?_⟩
    have q3 := SV.ok_keep q2 hb.size hkeep
    cases sv with
    | one s => exact fun l hl => by have := q3 l hl; cases l <;> exact this
    | tup ss => exact fun s hs' l hl => by have := q3 s hs' l hl; cases l <;> exact this
    | fn f ls => exact fun l hl => by have := q3 l hl; cases l <;> exact this
  · obtain ⟨q1, q2, q3, q4⟩ := h.mem b mb hm
    have hd : dens (Γ.addO (some n)) mb.2 = dens Γ mb.2 := by
      unfold dens; rw [List.map_congr_left fun l _ => show l.den (Γ.addO (some n)) = l.den Γ by cases l <;> rfl]
    rw [hd]
    exact ⟨q1.below hb, fun l hl => by have := Lf.ok_keep (q2 l hl) hb.size hkeep; cases l <;> exact this, q3, q4⟩
  · rcases hb' with hb' | hb'
    · exact Nat.lt_of_lt_of_le (h.base b o' hb') hb.size
    · cases hb'; exact hn'
/-- A store into a block of one's own. -/
theorem Sat.store (h : Sat P F w0 Γ st a w) {b off : Nat} {mb : TypeId × List Lf} (hb : look st.mem b = some mb) {cs : List Lf} (hle : off + cs.length ≤ mb.2.length) (hok : ∀ l ∈ cs, l.ok P w (Own Γ st) Γ) :
    Sat P F w0 Γ { st with mem := (b, some (mb.1, mb.2.take off ++ cs ++ mb.2.drop (off + cs.length))) :: st.mem } a
      (w.setRow (Γ.blk b) ((dens Γ mb.2).toList.take off ++ (cs.map (Lf.den Γ)) ++ (dens Γ mb.2).toList.drop (off + cs.length)).toArray) := by
  obtain ⟨m1, m2, m3, m4⟩ := h.mem b mb hb
  have m1' : w.heap[Γ.blk b]? = some (.cells (dens Γ mb.2) mb.1 (0, 0)) := m1
  generalize hnew : ((dens Γ mb.2).toList.take off ++ (cs.map (Lf.den Γ)) ++ (dens Γ mb.2).toList.drop (off + cs.length)).toArray = new
  have hnew' : new = dens Γ (mb.2.take off ++ cs ++ mb.2.drop (off + cs.length)) := by
    rw [← hnew]; simp [dens, List.map_take, List.map_drop]
  have hsz : (w.setRow (Γ.blk b) new).heap.size = w.heap.size := by simp [World.setRow]
  have hoth : ∀ k, k ≠ Γ.blk b → (w.setRow (Γ.blk b) new).heap[k]? = w.heap[k]? := fun k hk => setRow_other w _ k new hk
  have hown : ∀ k o, Own Γ { st with mem := (b, some (mb.1, mb.2.take off ++ cs ++ mb.2.drop (off + cs.length))) :: st.mem } k o → Own Γ st k o := by
    rintro k o (hk | ⟨j, mj, hj, rfl⟩)
    · exact .inl hk
    · simp only [look] at hj
      split at hj
      · rename_i e; subst e; exact .inr ⟨b, mb, hb, rfl⟩
      · exact .inr ⟨j, mj, hj, rfl⟩
  have hkeep : ∀ k o, k < w.heap.size → ¬ Own Γ st k o → (w.setRow (Γ.blk b) new).cell? ⟨k, o, none⟩ = w.cell? ⟨k, o, none⟩ ∧ ¬ Own Γ { st with mem := (b, some (mb.1, mb.2.take off ++ cs ++ mb.2.drop (off + cs.length))) :: st.mem } k o :=
    fun k o _ hno => ⟨World.cell?_of_block (hoth k fun e => hno (.inr ⟨b, mb, hb, e.symm⟩)), fun ho => hno (hown k o ho)⟩
  refine ⟨fun t sv hs => ?_, h.size, fun c mc hm => ?_, fun c d mc md hc hd heq => ?_, h.keeps.trans ⟨rfl, rfl, rfl, by rw [hsz]; exact Nat.le_refl _, fun i hi => hoth i fun e => m3 (e ▸ hi)⟩, h.fold, fun b' o hb' => by rw [hsz]; exact h.base b' o hb', h.defers, h.len, h.nb, h.num⟩
  · obtain ⟨h1, h2⟩ := h.slots t sv hs
    exact ⟨h1, SV.ok_keep h2 (by rw [hsz]; exact Nat.le_refl _) hkeep⟩
  · simp only [look] at hm
    split at hm
    · rename_i e
      subst e
      cases hm
      refine ⟨?_, fun l hl => Lf.ok_keep ?_ (by rw [hsz]; exact Nat.le_refl _) hkeep, m3, m4⟩
      · rw [hnew']
        exact setRow_heap w _ _ _ _ _ m1'
      · rcases List.mem_append.1 hl with hl | hl
        · rcases List.mem_append.1 hl with hl | hl
          · exact m2 l (List.mem_of_mem_take hl)
          · exact hok l hl
        · exact m2 l (List.mem_of_mem_drop hl)
    · rename_i e
      obtain ⟨h1, h2, h3, h4⟩ := h.mem c mc hm
      refine ⟨?_, fun l hl => Lf.ok_keep (h2 l hl) (by rw [hsz]; exact Nat.le_refl _) hkeep, h3, h4⟩
      exact (hoth (Γ.blk c) fun e' => e (h.inj c b mc mb hm hb e').symm).trans h1
  · have g : ∀ c mc, look ((b, some (mb.1, mb.2.take off ++ cs ++ mb.2.drop (off + cs.length))) :: st.mem) c = some mc → ∃ m, look st.mem c = some m := by
      intro c mc hc
      simp only [look] at hc
      split at hc
      · rename_i e; subst e; exact ⟨mb, hb⟩
      · exact ⟨mc, hc⟩
    obtain ⟨x, hx⟩ := g c mc hc
    obtain ⟨y, hy⟩ := g d md hd
    exact h.inj c d x y hx hy heq
end
end Go.Proofs.Ytlbgcjpkegpmlaa
