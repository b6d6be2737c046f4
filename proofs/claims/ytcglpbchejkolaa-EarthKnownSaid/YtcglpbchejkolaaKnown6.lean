/- Texts laid into one: En Ez Mp Hd Hs Hr XS XT XP. -/
import Derived.Test.YtcglpbchejkolaaKnown5
import Derived.Scope
import Derived.Test.YtcglpbchejkolaaProg
import Derived.Maps.Keyed
import Derived.Maps.Range
import Derived.Carry
/- The engine, part 14: a code carried out by symbols; a function's contract. -/
namespace Go.Proofs.Ytcglpbchejkolaa
open Go.RowKit
set_option linter.unusedSimpArgs false
set_option linter.unusedVariables false

def Ex.out : Ex → Exit
  | .nrm => .normal
  | .ext id => .exit id
  | .ret => .ret
section
variable {cx : Cx} {R : List C → Prop} {F : Nat → Prop} {w0 : World}
/-- What follows a code. -/
def KOK (cx : Cx) (R : List C → Prop) (F : Nat → Prop) (w0 : World) (k : Ex → St → Option Tree) (Γ : Env) (Ls : List (List C → Prop)) (Q : Exit → Act → World → Prop) : Prop :=
  ∀ x st' T' Γ' Ls', k x st' = some T' → Ext Γ Γ' → Ls <+: Ls' → Ls'.length = st'.lvl → VC cx R T' Γ'.ρ Ls' → ∀ a w, Sat cx.P F w0 Γ' st' a w → Q x.out a w
theorem KOK.mono {k : Ex → St → Option Tree} {Γ Γ1 : Env} {Ls Ls1 : List (List C → Prop)} {Q : Exit → Act → World → Prop} (h : KOK cx R F w0 k Γ Ls Q) (he : Ext Γ Γ1) (hl : Ls <+: Ls1) : KOK cx R F w0 k Γ1 Ls1 Q :=
  fun x st' T' Γ' Ls' hk he' hl' => h x st' T' Γ' Ls' hk (he.trans he') (hl.trans hl')
theorem Sat.learn1 {P : Program} {Γ : Env} {st : St} {a : Act} {w : World} (hs : Sat P F w0 Γ st a w) {b : B} {t : Bool} (hb : b.den Γ.ρ = t) : Sat P F w0 Γ { st with bds := Go.Proofs.Ytcglpbchejkolaa.learn st.nx st.bds b t } a w :=
  hs.slots' hs.slots hs.size hs.defers ⟨learn_ok hs.num.len (by rw [hs.len]; exact Nat.le_refl _) b st.bds t hs.num.bds hb, hs.num.len⟩

theorem take_free {α : Type} (p : α → Bool) : ∀ (l : List α), ∀ x ∈ l.take (l.takeWhile p).length, p x = true
  | [], x, h => by simp at h
  | y :: l, x, h => by
    by_cases hp : p y = true
    · simp only [List.takeWhile_cons, hp, if_true, List.length_cons, List.take_succ_cons] at h
      rcases List.mem_cons.1 h with rfl | h
      · exact hp
      · exact take_free p l x h
    · simp [List.takeWhile_cons, hp] at h
theorem any_in_r {r : Option Nat} (hcx : CxOK cx) {id : Nat} {ops : Array Oper} (hnd : ops.toList.all Oper.noDefer = true) {mg : Bool} {M : List Pl} {st : St} (hc : (Region.noSelect ops && (st.hide M).wf) = true) {k : St → Option Tree} {T : Tree} {f : Nat}
    (hT : execAny cx ops mg (st.hide M) k f ops.size (Array.replicate ops.size false) st = some T) {Γ : Env} {Ls : List (List C → Prop)} (hl : Ls.length = st.lvl) (hv : VC cx R T Γ.ρ Ls) {a : Act} {w : World} (hs : Sat cx.P F w0 Γ st a w)
    {Q : Exit → Act → World → Prop} (hk : Next cx R F w0 k Γ Ls (fun a w => Q .normal a w)) : wpR r cx.P (.region id ops true) Q a w :=
  region_any hcx.mixed hnd (any_sound hcx hc hT hl hv hs hk)
theorem takeWhile_at {α : Type} {p : α → Bool} : ∀ {l : List α} {i : Nat}, i < (l.takeWhile p).length → ∃ x, l[i]? = some x ∧ p x = true
  | [], i, h => by simp at h
  | y :: l, i, h => by
    rw [List.takeWhile_cons] at h
    split at h
    · rename_i hp
      cases i with
      | zero => exact ⟨y, rfl, hp⟩
      | succ i => exact takeWhile_at (l := l) (i := i) (by simpa using h)
    · simp at h
/-- All of them, in the text's order. -/
theorem alloc_lex {ops : Array Oper} {n m : Nat} (hal : ∀ i, n ≤ i → i < m → ∃ o, ops[i]? = some o ∧ allocOp cx.P o = true) {vs : List Value} {a0 : Act} {ob : Nat → Option Nat} (hall : ∀ i, n ≤ i → i < m → (ob i).isSome = true) (hinj : ∀ i j b, ob i = some b → ob j = some b → i = j) (hrng : ∀ i b, ob i = some b → i < m) {w1 : World}
    (hblk : ∀ i o t ca b, ops[i]? = some o → o.op = .alloc t → zeroLf cx.P t = some ca → ob i = some b → (∀ Γ, Blk w1 b t (dens Γ ca)) ∧ w0.heap.size ≤ b) {k : St → Option Tree} {Ls : List (List C → Prop)} : ∀ (q i : Nat), n ≤ i → i + q = m → ∀ (st : St) (T : Tree), execOps cx ops (ops.toList.drop i) st k = some T → ∀ (Γ : Env), VC cx R T Γ.ρ Ls →
    Sat cx.P F w0 (Γ.addO fun b => ∃ j, i ≤ j ∧ ob j = some b) st (endAct ops n vs a0 ob (i - n)) w1 → (∀ x, (∃ j, i ≤ j ∧ ob j = some x) → ∀ j, ¬ Hold Γ st true j x) →
    ∃ st' T' Γ', execOps cx ops (ops.toList.drop m) st' k = some T' ∧ Ext Γ Γ' ∧ st'.lvl = st.lvl ∧ VC cx R T' Γ'.ρ Ls ∧ Sat cx.P F w0 Γ' st' (endAct ops n vs a0 ob (m - n)) w1
  | 0, i, hni, hiq, st, T, h, Γ, hv, hs, hne => by
    obtain rfl : i = m := by omega
    refine ⟨st, T, Γ, h, Ext.refl _, rfl, hv, ?_⟩
    rwa [Env.addO_no (fun b ⟨j, h1, h2⟩ => by have := hrng j b h2; omega)] at hs
  | q + 1, i, hni, hiq, st, T, h, Γ, hv, hs, hne => by
    obtain ⟨o, ho, hao⟩ := hal i hni (by omega)
    obtain ⟨t, ca, hop, hz, hg⟩ := allocOp_spec hao
    obtain ⟨b, hb⟩ := Option.isSome_iff_exists.1 (hall i hni (by omega))
    obtain ⟨hb1, hb2⟩ := hblk i o t ca b ho hop hz hb
    have hdrop : ops.toList.drop i = o :: ops.toList.drop (i + 1) := by
      have hlt : i < ops.toList.length := by have := (Array.getElem?_eq_some_iff.1 ho).1; simpa using this
      rw [List.drop_eq_getElem_cons hlt]
      congr 1
      have : ops.toList[i]? = some o := by simp [ho]
      rw [List.getElem?_eq_getElem hlt] at this
      exact Option.some.inj this
    rw [hdrop] at h
    obtain ⟨st2, T2, Γ2, e1, e2, e3, e4, e5, e6⟩ := alloc_step hop hg h hs ⟨i, Nat.le_refl _, hb⟩ hz hb1 hb2 hne hv
    have hiff : ∀ x, ((∃ j, i ≤ j ∧ ob j = some x) ∧ x ≠ b) ↔ ∃ j, i + 1 ≤ j ∧ ob j = some x := fun x => by
      constructor
      · rintro ⟨⟨j, h1, h2⟩, h3⟩
        refine ⟨j, ?_, h2⟩
        rcases Nat.lt_or_ge i j with h | h
        · exact h
        · obtain rfl : j = i := by omega
          rw [hb] at h2; cases h2; exact absurd rfl h3
      · rintro ⟨j, h1, h2⟩
        refine ⟨⟨j, by omega, h2⟩, fun e => ?_⟩
        subst e
        have := hinj i j x hb h2
        omega
    rw [Env.addO_congr hiff] at e5
    have hact : (endAct ops n vs a0 ob (i - n)).put o.dst (.pointer (some ⟨b, 0, none⟩)) = endAct ops n vs a0 ob (i + 1 - n) := by
      rw [show i + 1 - n = (i - n) + 1 by omega, endAct, show n + (i - n) = i by omega, hb]
      simp only []
      rw [show dstOf ops i = o.dst by unfold dstOf; rw [ho]; rfl]
    rw [hact] at e5
    obtain ⟨st', T', Γ', i1, i2, i3, i4, i5⟩ := alloc_lex hal hall hinj hrng hblk q (i + 1) (by omega) (by omega) st2 T2 e1 Γ2 e4 e5 (fun x hx => e6 x ((hiff x).2 hx))
    exact ⟨st', T', Γ', i1, e2.trans i2, i3.trans e3, i4, i5⟩
theorem draw_sound {r : Option Nat} (hcx : CxOK cx) {id : Nat} {ops : Array Oper} (hnd : ops.toList.all Oper.noDefer = true) (hcond : drawOk cx ops = true) {Γ : Env} {st : St} {a : Act} {w : World} (hs : Sat cx.P F w0 Γ st a w) {k : St → Option Tree} {T : Tree}
    (h : execOps cx ops ops.toList st k = some T) {Ls : List (List C → Prop)} (hl : Ls.length = st.lvl) (hv : VC cx R T Γ.ρ Ls) {Q : Exit → Act → World → Prop} (hk : Next cx R F w0 k Γ Ls (fun a w => Q .normal a w)) :
    wpR r cx.P (.region id ops true) Q a w := by
  have hk : Next cx R F w0 k Γ Ls (fun a w => nrmQ (Q .normal) .normal a w) := fun st' T' Γ' Ls' hk' he' hp' hlen hv' a' w' hs' => ⟨rfl, hk st' T' Γ' Ls' hk' he' hp' hlen hv' a' w' hs'⟩
  simp only [drawOk, Bool.and_eq_true] at hcond
  obtain ⟨hh, ht⟩ := hcond
  generalize hn : headLen cx ops = n
  generalize hm : drawLen cx ops = m at hh ht
  have hnm : n ≤ m := by rw [← hm, ← hn]; exact Nat.le_add_right _ _
  have hal : ∀ i, n ≤ i → i < m → ∃ o, ops[i]? = some o ∧ allocOp cx.P o = true := fun i h1 h2 => by
    unfold drawLen at hm
    rw [hn] at hm
    obtain ⟨o, ho, hp⟩ := takeWhile_at (l := ops.toList.drop n) (p := allocOp cx.P) (i := i - n) (by omega)
    rw [List.getElem?_drop, show n + (i - n) = i by omega] at ho
    exact ⟨o, by simpa using ho, hp⟩
  have hfree : ∀ o ∈ ops.toList.take n, freeOp cx o = true := by rw [← hn]; exact take_free _ _
  have hw1 : Sat cx.P F w0 Γ st a { w with drawn := w.drawn + 1 } := hs.below ⟨rfl, rfl, rfl, Nat.le_refl _, fun _ _ => rfl⟩
  have hsplit : ops.toList = ops.toList.take n ++ ops.toList.drop n := (List.take_append_drop n _).symm
  rw [hsplit] at h
  let Cl : (Nat → Option Nat) → World → Prop := fun ob w' => Sat cx.P F w0 (Γ.addO (madeOf ob)) st a w' ∧ w.heap.size ≤ w'.heap.size ∧ (∀ i b, ob i = some b → (n ≤ i ∧ i < m) ∧ w.heap.size ≤ b ∧ b < w'.heap.size ∧ ∀ o t ca, ops[i]? = some o → o.op = .alloc t → zeroLf cx.P t = some ca → Blk w' b t (dens Γ ca)) ∧ ∀ i j b, ob i = some b → ob j = some b → i = j
  have hcl1 : Cl (fun _ => none) { w with drawn := w.drawn + 1 } := ⟨by rw [Env.addO_no madeOf_none]; exact hw1, Nat.le_refl _, (fun _ _ h => nomatch h), (fun _ _ _ h => nomatch h)⟩
  obtain ⟨vs, st', T', Γ', g1, g2, g3, g4, g5, g6, g7, g8⟩ := head_lex (R := R) (F := F) (w0 := w0) hcx (Cl := Cl) hcl1 (ops.toList.take n) hfree st T h Γ Ls hv a
    ⟨fun ob w hw => hw.1, fun ob w1 w2 hw hb => ⟨hw.1.below hb, Nat.le_trans hw.2.1 hb.size, fun i b e => ⟨(hw.2.2.1 i b e).1, (hw.2.2.1 i b e).2.1, Nat.lt_of_lt_of_le (hw.2.2.1 i b e).2.2.1 hb.size, fun o t ca h1 h2 h3 => ((hw.2.2.1 i b e).2.2.2 o t ca h1 h2 h3).below hb⟩, hw.2.2.2⟩⟩
  have hle : m ≤ ops.size := by
    simp only [tailOk, Bool.and_eq_true, decide_eq_true_eq] at ht
    exact ht.1.1.1
  have start : Head cx.P ops Cl n m vs a (fun _ => none) (Array.replicate ops.size false) a { w with drawn := w.drawn + 1 } := by
    refine ⟨hcl1, ⟨by simp, fun j oj _ hj => ?_, fun t _ ht => ?_⟩, rfl, rfl, fun i _ _ => ?_, fun t hall => ?_⟩
    · rw [getD_replicate_false] at hj; cases hj
    · exact getD_in (by simpa using ht) (getD_replicate_false _ _)
    · rw [getD_replicate_false]; rfl
    · rw [endAct_other _ _ _ _ _ fun j h1 h2 hd => by
        have := hall j (by omega) hd
        rw [getD_replicate_false] at this
        cases this]
      refine (putAll_other _ _ _ t fun x hx hxd => ?_).symm
      obtain ⟨j, hj⟩ := List.getElem?_of_mem hx
      rw [List.getElem?_take] at hj
      split at hj
      · rename_i hjn
        have := hall j (by omega) (by unfold dstOf; simp at hj; rw [hj]; exact hxd)
        rw [getD_replicate_false] at this
        cases this
      · cases hj
  have hcount : ops.size = (List.range m).countP (fun j => !(Array.replicate ops.size false).getD j false) + (ops.size - m) := by
    have : (List.range m).countP (fun j => !(Array.replicate ops.size false).getD j false) = m := by
      rw [List.countP_eq_length.2 (fun j _ => by rw [getD_replicate_false]; rfl)]
      simp
    omega
  have halloc : ∀ i, n ≤ i → i < m → ∃ o, ops[i]? = some o ∧ o.guard = none ∧ (∀ a ob w, Cl ob w → ob i = none → ∀ K Q, (∀ w', Cl (setOb ob i w.heap.size) w' → K (a.put o.dst (.pointer (some ⟨w.heap.size, 0, none⟩))) w') → o.wp cx.P a w K Q) := fun i h1 h2 => by
    obtain ⟨o, ho, hao⟩ := hal i h1 h2
    obtain ⟨t, ca, hop, hz, hg⟩ := allocOp_spec hao
    refine ⟨o, ho, hg, fun a1 ob w1 hw1 hnone K Q1 hK => ?_⟩
    unfold Oper.wp
    rw [run_alloc hop hz Γ]
    obtain ⟨c1, c2, c3, c4⟩ := hw1
    have hbel := below_alloc w1 (.cells (dens Γ ca) t)
    have hlt : w1.heap.size < (w1.alloc (.cells (dens Γ ca) t)).heap.size := by simp
    have hsO := c1.belowO hbel (Nat.le_refl _) hlt
    rw [Env.addO_addO, Env.addO_congr (ob' := madeOf (setOb ob i w1.heap.size)) (fun b => ?_)] at hsO
    · refine hK _ ⟨hsO, by omega, fun j b hj => ?_, fun j j' b hj hj' => ?_⟩
      · unfold setOb at hj
        split at hj
        · rename_i e
          subst e
          cases hj
          refine ⟨⟨h1, h2⟩, c2, hlt, fun o' t' ca' ho' hop' hz' => ?_⟩
          obtain rfl : o' = o := Option.some.inj (ho'.symm.trans ho)
          rw [hop] at hop'; cases hop'
          rw [hz] at hz'; cases hz'
          exact Blk.new w1 t _
        · obtain ⟨d1, d2, d3, d4⟩ := c3 j b hj
          exact ⟨d1, d2, by omega, fun o t ca h1 h2 h3 => (d4 o t ca h1 h2 h3).below hbel⟩
      · unfold setOb at hj hj'
        split at hj <;> split at hj'
        · omega
        · cases hj; have := (c3 j' _ hj').2.2.1; omega
        · cases hj'; have := (c3 j _ hj).2.2.1; omega
        · exact c4 j j' b hj hj'
    · constructor
      · rintro (⟨j, hj⟩ | hb)
        · refine ⟨j, ?_⟩
          unfold setOb
          rw [if_neg (fun e => by subst e; rw [hnone] at hj; cases hj)]
          exact hj
        · exact ⟨i, by unfold setOb; rw [if_pos rfl, show b = _ from hb]⟩
      · rintro ⟨j, hj⟩
        unfold setOb at hj
        split at hj
        · cases hj; exact .inr rfl
        · exact .inl ⟨j, hj⟩
  refine region_any hcx.mixed hnd (any_order g1 hh ht hnm halloc (fun ob w1 hw1 hsome => ?_) ops.size _ a _ (fun _ => none) start hcount)
  obtain ⟨c1, c2, c3, c4⟩ := hw1
  have hsat := g6.sat ob w1 ⟨c1, c2, c3, c4⟩
  have hsat0 := g6.sat (fun _ => none) _ hcl1
  rw [Env.addO_no madeOf_none] at hsat0
  have hmk : ∀ b, (∃ j, n ≤ j ∧ ob j = some b) → madeOf ob b := fun b ⟨j, _, h⟩ => ⟨j, h⟩
  have hnone : ∀ i b, ob i = some b → n ≤ i := fun i b hi => (c3 i b hi).1.1
  rw [Env.addO_congr (ob' := fun b => ∃ j, n ≤ j ∧ ob j = some b) (fun b => ⟨fun ⟨j, hj⟩ => ⟨j, hnone j b hj, hj⟩, hmk b⟩)] at hsat
  obtain ⟨st2, T2, Γ2, i1, i2, i3, i4, i5⟩ := alloc_lex (R := R) (F := F) (w0 := w0) hal hsome c4 (fun i b e => (c3 i b e).1.2) (fun i o t ca b h1 h2 h3 h4 => ⟨fun Γ1 => by rw [zero_dens h3 Γ1 Γ]; exact (c3 i b h4).2.2.2 o t ca h1 h2 h3, Nat.le_trans hs.keeps.size (c3 i b h4).2.1⟩) (m - n) n (Nat.le_refl _) (by omega) st' T' g2 Γ' g5 (by rw [Nat.sub_self]; exact hsat)
    (fun x ⟨j, _, hj⟩ j' hh => by have h1 := hsat0.hold_lt hh; have h2 := (c3 j x hj).2.1; exact absurd h1 (Nat.not_lt.2 h2))
  exact execOps_sound hcx (ops.toList.drop m) st2 T2 i1 Γ2 Ls (by rw [i3, g4]; exact hl) i4 _ w1 i5 (hk.mono (g3.trans i2) (List.prefix_refl _))
theorem join_sound {r : Option Nat} (hcx : CxOK cx) {id : Nat} {ops : Array Oper} (hnd : ops.toList.all Oper.noDefer = true) {j : List (Nat × Bool × List Lk) × List Pl} {st : St} {k : St → Option Tree} {T : Tree} (h : joinT cx id ops j st k = some T) {Γ : Env} {Ls : List (List C → Prop)} (hl : Ls.length = st.lvl) (hv : VC cx R T Γ.ρ Ls) {a : Act} {w : World} (hs : Sat cx.P F w0 Γ st a w)
    {Q : Exit → Act → World → Prop} (hk : Next cx R F w0 k Γ Ls (fun a w => Q .normal a w)) : wpR r cx.P (.region id ops true) Q a w := by
  unfold joinT at h
  split at h
  rotate_left
  · cases h; exact hv.elim
  rename_i hcond
  simp only [Bool.and_eq_true] at hcond
  obtain ⟨hc, hsel, hwf⟩ := hcond
  split at h
  · rename_i ws t hws ht
    cases h
    obtain ⟨I, hvw, hall⟩ := hv
    exact any_in_r (R := R) hcx hnd (by simp only [Bool.and_eq_true]; exact ⟨hsel, hwf⟩) hws (Ls := Ls ++ [I]) (by simp [hl]) hvw (hs.relvl _) (joinEnd_sound hc ht hl hs hall hk)
  · cases h
theorem exec_sound {r : Option Nat} (hcx : CxOK cx) : ∀ (c : Code) (st : St) (k : Ex → St → Option Tree) (T : Tree), exec cx c st k = some T →
    ∀ (Γ : Env) (Ls : List (List C → Prop)) (Q : Exit → Act → World → Prop), KOK cx R F w0 k Γ Ls Q → Ls.length = st.lvl → VC cx R T Γ.ρ Ls → ∀ a w, Sat cx.P F w0 Γ st a w → wpR r cx.P c Q a w := by
  intro c
  induction c with
  | skip => intro st k T h Γ Ls Q hk hl hv a w hs; exact wpIn_skip (hk .nrm st T Γ Ls h (Ext.refl _) (List.prefix_refl _) hl hv a w hs)
  | label l => intro st k T h Γ Ls Q hk hl hv a w hs; exact wpIn_label (hk .nrm st T Γ Ls h (Ext.refl _) (List.prefix_refl _) hl hv a w hs)
  | exit id => intro st k T h Γ Ls Q hk hl hv a w hs; exact wpIn_exit (hk (.ext id) st T Γ Ls h (Ext.refl _) (List.prefix_refl _) hl hv a w hs)
  | ret => intro st k T h Γ Ls Q hk hl hv a w hs; exact wpIn_ret (hk .ret st T Γ Ls h (Ext.refl _) (List.prefix_refl _) hl hv a w hs)
  | goto l => intro st k T h; cases h
  | refuse y => intro st k T h; cases h
  | rangeFunc f ps x y => intro st k T h; cases h
  | scope c ih =>
    intro st k T h Γ Ls Q hk hl hv a w hs
    simp only [exec] at h
    refine wpR_scope (ih st k T h Γ Ls _ ?_ hl hv a w hs)
    intro e st' T' Γ' Ls' hk' he' hl' hlen hv' a' w' hs'
    cases e with
    | nrm => exact hk .nrm st' T' Γ' Ls' hk' he' hl' hlen hv' a' w' hs'
    | ext id => exact hk (.ext id) st' T' Γ' Ls' hk' he' hl' hlen hv' a' w' hs'
    | ret => exact hk .ret st' T' Γ' Ls' hk' he' hl' hlen hv' a' w' hs'
  | seq x y ihx ihy =>
    intro st k T h Γ Ls Q hk hl hv a w hs
    simp only [exec] at h
    refine wpIn_seq (ihx st _ T h Γ Ls _ ?_ hl hv a w hs)
    intro e st' T' Γ' Ls' hk' he' hl' hlen hv' a' w' hs'
    cases e with
    | nrm => exact ihy st' k T' hk' Γ' Ls' Q (hk.mono he' hl') hlen hv' a' w' hs'
    | ext id => exact hk (.ext id) st' T' Γ' Ls' hk' he' hl' hlen hv' a' w' hs'
    | ret => exact hk .ret st' T' Γ' Ls' hk' he' hl' hlen hv' a' w' hs'
  | cond c x y ihx ihy =>
    intro st k T h Γ Ls Q hk hl hv a w hs
    simp only [exec] at h
    split at h
    · rename_i t hc
      have he := ((hs.view #[c]).lf (by simp) hc).1
      simp only [Lf.den, B.den] at he
      refine wpIn_cond he ?_
      cases t
      · simp at h ⊢; exact ihy st k T h Γ Ls Q hk hl hv a w hs
      · simp at h ⊢; exact ihx st k T h Γ Ls Q hk hl hv a w hs
    · rename_i b hlit hc
      have he := ((hs.view #[c]).lf (by simp) hc).1
      simp only [Lf.den] at he
      split at h
      · split at h
        · rename_i t f h1 h2
          cases h
          refine wpIn_cond_split he (fun hb => ?_) (fun hb => ?_)
          · exact ihx _ k t h1 Γ Ls Q hk hl (hv.1 hb) a w (hs.learn1 hb)
          · exact ihy _ k f h2 Γ Ls Q hk hl (hv.2 hb) a w (hs.learn1 hb)
        · cases h
      · rename_i j hj
        split at h
        · rename_i hok
          split at h
          · rename_i t f r h1 h2 h3
            cases h
            obtain ⟨I, hvw, hall⟩ := hv
            have hend := joinEnd_sound (R := R) (id := 90000) hok h3 hl hs hall (Q := fun a w => Q .normal a w) fun st' T' Γ' Ls' hk' he' hp' hlen hv' a' w' hs' => hk .nrm st' T' Γ' Ls' hk' he' hp' hlen hv' a' w' hs'
            have hkk : KOK cx R F w0 (joinK st (joinSt1 j (asg x ++ asg y) (st.hide (cx.hv (condKey st x y)))) (joinPs j) (joinKs j st) k) Γ (Ls ++ [I]) Q := fun e st' T' Γ' Ls' hk' he' hl' hlen' hv' a' w' hs' => by
              cases e with
              | nrm => exact hend st' T' Γ' Ls' hk' he' hl' hlen' hv' a' w' hs'
              | ext i => exact hk (.ext i) st' T' Γ' Ls' hk' he' ((List.prefix_append _ _).trans hl') hlen' hv' a' w' hs'
              | ret => exact hk .ret st' T' Γ' Ls' hk' he' ((List.prefix_append _ _).trans hl') hlen' hv' a' w' hs'
            refine wpIn_cond_split he (fun hb => ?_) (fun hb => ?_)
            · exact ihx _ _ t h1 Γ (Ls ++ [I]) Q hkk (by simp [hl]) (hvw.1 hb) a w ((hs.learn1 hb).relvl _)
            · exact ihy _ _ f h2 Γ (Ls ++ [I]) Q hkk (by simp [hl]) (hvw.2 hb) a w ((hs.learn1 hb).relvl _)
          · cases h
        · cases h; exact hv.elim
    · cases h
  | block id c ih =>
    intro st k T h Γ Ls Q hk hl hv a w hs
    simp only [exec] at h
    refine wpIn_block (ih st _ T h Γ Ls _ ?_ hl hv a w hs)
    intro e st' T' Γ' Ls' hk' he' hl' hlen hv' a' w' hs'
    cases e with
    | nrm => exact hk .nrm st' T' Γ' Ls' hk' he' hl' hlen hv' a' w' hs'
    | ret => exact hk .ret st' T' Γ' Ls' hk' he' hl' hlen hv' a' w' hs'
    | ext i =>
      simp only [Ex.out, Exit.inBlock]
      simp only [] at hk'
      by_cases hi : i = id
      · rw [if_pos hi] at hk' ⊢; exact hk .nrm st' T' Γ' Ls' hk' he' hl' hlen hv' a' w' hs'
      · rw [if_neg hi] at hk' ⊢; exact hk (.ext i) st' T' Γ' Ls' hk' he' hl' hlen hv' a' w' hs'
  | region id ops draw =>
    intro st k T h Γ Ls Q hk hl hv a w hs
    simp only [exec] at h
    have hnext : Next cx R F w0 (k .nrm) Γ Ls (fun a w => Q .normal a w) := fun st' T' Γ' Ls' hk' he' hp' hlen hv' a' w' hs' =>
      hk .nrm st' T' Γ' Ls' hk' he' hp' hlen hv' a' w' hs'
    split at h
    rotate_left
    · cases h
    rename_i hnd
    split at h
    · rename_i hcond
      have two : ∀ {st : St} {k : St → Option Tree} {T : Tree} {Ls : List (List C → Prop)}, execOps cx ops ops.toList st k = some T → Ls.length = st.lvl → VC cx R T Γ.ρ Ls → Sat cx.P F w0 Γ st a w → Next cx R F w0 k Γ Ls (fun a w => Q .normal a w) → wpR r cx.P (.region id ops draw) Q a w := by
        intro st k T Ls h hl hv hs hnext
        cases draw with
        | false => exact region_list hnd (execOps_sound hcx ops.toList st T h Γ Ls hl hv a w hs fun st' T' Γ' Ls' hk' he' hp' hlen hv' a' w' hs' => ⟨rfl, hnext st' T' Γ' Ls' hk' he' hp' hlen hv' a' w' hs'⟩)
        | true =>
          simp only [Bool.not_true, Bool.false_or] at hcond
          exact draw_sound hcx hnd hcond hs h hl hv hnext
      split at h
      · exact two h hl hv hs hnext
      · rename_i j hj
        split at h
        · rename_i hok
          split at h
          · rename_i ws t hws ht
            cases h
            obtain ⟨I, hvw, hall⟩ := hv
            exact two hws (Ls := Ls ++ [I]) (by simp [hl]) hvw (hs.relvl _) (joinEnd_sound hok ht hl hs hall hnext)
          · cases h
        · cases h; exact hv.elim
    · rename_i hcond
      cases draw with
      | false => simp at hcond
      | true =>
        split at h
        · rename_i j hj
          have h := orF_some h hv
          obtain ⟨st2, T2, Γ2, g1, g2, g3, g4, g5⟩ := freezeAll_sound _ st T h Γ Ls hv hs
          have hn2 := hnext.mono g2 (List.prefix_refl _)
          split at g1
          · exact late_sound hcx hnd g1 (by rw [g3]; exact hl) g4 g5 hn2
          · exact join_sound hcx hnd g1 (by rw [g3]; exact hl) g4 g5 hn2
        · have h := orF_some h hv
          split at h
          · rename_i hc; exact any_in_r hcx hnd hc h hl hv hs hnext
          · cases h
  | loop c ih =>
    intro st k T h Γ Ls Q hk hl hv a w hs
    simp only [exec] at h
    split at h
    · generalize unN (cx.hv (st.path * 100000 + (firstReg c).getD 0)) = n at h
      refine wpR_loop_ghost (fun n a w => ∃ st' T' Γ' Ls', unroll (fun st k => exec cx c st k) k n st' = some T' ∧ Ext Γ Γ' ∧ Ls <+: Ls' ∧ Ls'.length = st'.lvl ∧ VC cx R T' Γ'.ρ Ls' ∧ Sat cx.P F w0 Γ' st' a w) n
        ⟨st, T, Γ, Ls, h, Ext.refl _, List.prefix_refl _, hl, hv, hs⟩ ?_
      rintro n a1 w1 ⟨st1, T1, Γ1, Ls1, h1, he1, hp1, hl1, hv1, hs1⟩
      cases n with
      | zero => simp only [unroll] at h1; cases h1; exact hv1.elim
      | succ n =>
        simp only [unroll] at h1
        refine ih st1 _ T1 h1 Γ1 Ls1 _ ?_ hl1 hv1 a1 w1 hs1
        intro e st' T' Γ' Ls' hk' he' hp' hlen' hv' a' w' hs'
        cases e with
        | ext i => exact hk (.ext i) st' T' Γ' Ls' hk' (he1.trans he') (hp1.trans hp') hlen' hv' a' w' hs'
        | ret => exact hk .ret st' T' Γ' Ls' hk' (he1.trans he') (hp1.trans hp') hlen' hv' a' w' hs'
        | nrm => exact ⟨n, Nat.lt_succ_self n, st', T', Γ', Ls', hk', he1.trans he', hp1.trans hp', hlen', hv', hs'⟩
    have hs0 : Sat cx.P F w0 Γ (loopSt0 cx c st) a w := hs.forget _
    have hl1 : (loopSt1 cx c st).lvl = st.lvl + 1 := rfl
    have e1 : (loopSt0 cx c st).nb = st.nb := rfl
    have e2 : (loopSt0 cx c st).nt = st.nt := rfl
    have e3 : (loopSt0 cx c st).bds = st.bds := rfl
    generalize loopSt1 cx c st = st1 at *
    generalize loopSt0 cx c st = st0 at *
    generalize loopPs cx c st = ps at *
    split at h
    · cases h; exact hv.elim
    · rename_i init hinit
      split at h
      · cases h; exact hv.elim
      · rename_i ks hks
        split at h
        rotate_left
        · cases h; exact hv.elim
        · rename_i hcond
          simp only [Bool.and_eq_true, decide_eq_true_eq] at hcond
          obtain ⟨⟨⟨⟨⟨⟨c1, c2⟩, c3⟩, c4⟩, c5⟩, c6⟩, c7⟩ := hcond
          have c4 := Nat.eq_of_beq_eq_true c4
          have c5 := Nat.eq_of_beq_eq_true c5
          have c6 := Nat.eq_of_beq_eq_true c6
          generalize hkl : (fun (x : Ex) (st' : St) => match x with
            | .nrm => if sameRest st1 st' st.nx ps && Nat.ble st1.nb st'.nb && Nat.beq st1.nt st'.nt then match backPs st1 st' st.nx ps with
                | some vals => if kindsL vals = some ks then some (obT (rngL st'.bds vals) (.back st.lvl vals)) else some (.fail 60004 [st.path, (firstReg c).getD 0])
                | none => some (.fail 60005 [st.path, (firstReg c).getD 0])
              else some (.fail 60003 ([st.path, (firstReg c).getD 0] ++ diffs st1 st' st.nx ps))
            | x => k x st' : Ex → St → Option Tree) = kl at h
          cases hb : exec cx c st1 kl with
          | none => simp [hb] at h
          | some t =>
            simp [hb] at h
            subst h
            obtain ⟨hob, I, μ, hI0, hall⟩ := VC.obT hv
            have hlen : Γ.ρ.length = st.nx := hs.len
            have hnum1 : Num st1.bds Γ.ρ := by rw [c7]; exact hs.num
            obtain ⟨hty0, hsat0⟩ := hs0.rebase (st1 := st1) (ρ0 := Γ.ρ) ⟨[], by simp⟩ (by rw [hlen]; exact c3) (by rw [hlen]; exact hinit) hks (by rw [e3]; exact hob) (by rw [hlen]; exact c2) (by rw [c6, e2]) (by rw [c5, e1]; exact Nat.le_refl _) (by rw [hlen]; exact c4) hnum1
            refine wpR_loop_ghost (fun n a w => ∃ xs Γx, CTy cx.P ks xs ∧ I xs ∧ μ xs = n ∧ Γx.ρ = Γ.ρ ++ xs ∧ Ext Γ Γx ∧ Sat cx.P F w0 Γx st1 a w) (μ (cs_ Γ.ρ init))
              ⟨cs_ Γ.ρ init, { Γ with ρ := Γ.ρ ++ cs_ Γ.ρ init, nb := st1.nb }, hty0, hI0, rfl, rfl, ⟨⟨_, rfl⟩, fun _ _ => rfl, by simp only [c5]; rw [hs.nb]; exact Nat.le_refl _, rfl, rfl⟩, hsat0⟩ ?_
            rintro n a1 w1 ⟨xs, Γx, hty, hI, hn, hρ, he, hsx⟩
            have hvx := allC_elim hall xs hty hI
            rw [← hρ] at hvx
            refine ih st1 kl t hb Γx (Ls ++ [fun ys => I ys ∧ μ ys < μ xs]) _ ?_ (by simp [hl, hl1]) hvx a1 w1 hsx
            intro e st' T' Γ' Ls' hk' he' hl' hlen' hv' a' w' hs'
            subst hkl
            cases e with
            | ext i => exact hk (.ext i) st' T' Γ' Ls' hk' (he.trans he') ((List.prefix_append _ _).trans hl') hlen' hv' a' w' hs'
            | ret => exact hk .ret st' T' Γ' Ls' hk' (he.trans he') ((List.prefix_append _ _).trans hl') hlen' hv' a' w' hs'
            | nrm =>
              simp only [] at hk'
              split at hk'
              · rename_i hc
                simp only [Bool.and_eq_true] at hc
                obtain ⟨⟨d1, d2⟩, d3⟩ := hc
                split at hk'
                · rename_i vals hvals
                  split at hk'
                  · rename_i hks'
                    cases hk'
                    obtain ⟨hob', hback⟩ := VC.obT hv'
                    obtain ⟨l, hl2⟩ := (he.trans he').ρ
                    obtain ⟨hty', hsat'⟩ := hs'.rebase (st1 := st1) (ρ0 := Γ.ρ) ⟨l, hl2⟩ (by rw [hlen]; exact d1) (by rw [hlen]; exact hvals) hks' hob' (by rw [hlen]; exact c2) (Nat.eq_of_beq_eq_true d3) (Nat.le_of_ble_eq_true d2) (by rw [hlen]; exact c4) hnum1
                    have hget : Ls'[st.lvl]? = some (fun ys => I ys ∧ μ ys < μ xs) := by
                      obtain ⟨m, rfl⟩ := hl'
                      rw [List.append_assoc, List.getElem?_append_right (by omega), hl]
                      simp
                    simp only [VC, hget] at hback
                    simp only [Ex.out, Exit.then]
                    refine ⟨μ (cs_ Γ'.ρ vals), by rw [← hn]; exact hback.2, cs_ Γ'.ρ vals, { Γ' with ρ := Γ.ρ ++ cs_ Γ'.ρ vals, nb := st1.nb }, hty', hback.1, rfl, rfl, ⟨⟨_, rfl⟩, fun b hb => ?_, by simp only [c5]; rw [hs.nb]; exact Nat.le_refl _, (he.trans he').base, (he.trans he').up⟩, hsat'⟩
                    exact (he.trans he').blk b hb
                  · cases hk'; exact hv'.elim
                · cases hk'; exact hv'.elim
              · cases hk'; exact hv'.elim
end

/-! A function's beginning and end -/
def retOne (P : Program) (st : St) : ResultVar → Option S0
  | .tmp t => st.s0 (.tmp t)
  | .cell a t => match st.lf (.tmp a) with
    | some l => loadLf P st.mem st.vec t l
    | none => none
def retAll (P : Program) (st : St) : List ResultVar → Option (List S0)
  | [] => some []
  | r :: rs => match retOne P st r, retAll P st rs with
    | some s, some l => some (s :: l)
    | _, _ => none
def argSl : Nat → List S0 → List (Nat × Option SV)
  | _, [] => []
  | i, s :: l => (i, some (.one s)) :: argSl (i + 1) l
/-- The pointer among the arguments. -/
def boxArg : List Sh0 → Option (TypeId × List Lk)
  | [] => none
  | .box t l :: _ => some (t, l)
  | _ :: ss => boxArg ss
/-- What lies behind the pointer at the end. -/
def outL (st : St) (ct : Ct) : Option (List Lf) :=
  match boxArg ct.args with
  | none => some []
  | some (t, ks) => match look st.mem 0 with
    | some mb => if mb.1 = t ∧ kindsL mb.2 = some ks then some mb.2 else none
    | none => none
/-- Slices of one's own are handed on with what they hold. -/
def giveL (P : Program) (vec : Vecs) : List Lk → List Lf → List Lf
  | k :: ks, l :: ls => (match k with | .vec _ => l.give P vec k | _ => l.adapt P [] k) :: giveL P vec ks ls
  | _, ls => ls
def S0.give (P : Program) (vec : Vecs) (sh : Sh0) (s : S0) : S0 :=
  match sh, s with
  | .lf k, .lf l => .lf (match k with | .vec _ => l.give P vec k | _ => l.adapt P [] k)
  | .agg ks, .agg ls => .agg (giveL P vec ks ls)
  | _, s => s
def gives (P : Program) (vec : Vecs) : List Sh0 → List S0 → List S0
  | sh :: shs, s :: ss => s.give P vec sh :: gives P vec shs ss
  | _, ss => ss
/-- The variable of a slice that is handed on. -/
def cntIdx (vec : Vecs) : Lf → Option Nat
  | .cnt te r => match (match r with | .var i => some i | .join (.var i) _ => some i | _ => none : Option Nat) with
    | some i => match look vec i with
      | some e => if e.1 = te ∧ mkJoin i e.2 = r then some i else none
      | none => none
    | none => none
  | _ => none
def Lf.isCnt : Lf → Bool
  | .cnt _ _ => true
  | _ => false
def nodupI (vec : Vecs) : List Lf → Bool
  | [] => true
  | l :: ls => !l.isVec && (match cntIdx vec l with | some i => ls.all fun m => !decide (cntIdx vec m = some i) | none => !l.isCnt) && nodupI vec ls
def resOf (cx : Cx) (ct : Ct) (st : St) (l : List S0) : List S0 := if (kindsOf ct.res).all Lk.noVec then adapts cx.P st.vec ct.res l else gives cx.P st.vec ct.res l
def endOf (cx : Cx) (fn : Func) (ct : Ct) (st : St) : Option Tree :=
  match retAll cx.P st fn.results.toList, outL st ct with
  | some l, some o => if shapes st.mem (resOf cx ct st l) = some ct.res ∧ nodupI st.vec (cellsOf st.mem (resOf cx ct st l)) = true ∧ (l.all fun s => s.cells.all fun x => !x.isCnt) = true then
      some (obT (rngL st.bds (cellsOf st.mem (resOf cx ct st l) ++ o)) (.ret (cellsOf st.mem (resOf cx ct st l) ++ o)))
    else some (.fail 70001 [])
  | none, _ => some (.fail 70002 [])
  | _, none => some (.fail 70003 [])
def startOf (fn : Func) (ct : Ct) (bds : Bds) (wr : List Nat) : St :=
  { sl := argSl 0 (freshS 0 ct.args 0), mem := freshMem 0 ct.args 0, nt := fn.ntmps, nb := (freshMem 0 ct.args 0).length, nx := (kindsOf ct.args).length, lvl := 0, bds := bds, wr := wr }
def execFn (cx : Cx) (fn : Func) (ct : Ct) (bds : Bds) : Option Tree :=
  match fn.body with
  | none => none
  | some c =>
    if ct.args.length ≤ fn.ntmps ∧ ct.args.length ≤ 1000 ∧ boxOk ct = true then
      exec cx c (startOf fn ct bds cx.wr) fun x st => match x with
        | .ext _ => none
        | _ => endOf cx fn ct st
    else none

def resSem (tmps : Array Value) : ResultVar → Sem Value
  | .tmp t => pure (tmps.getD t undef)
  | .cell x t => do loadVar t (← asAddr (tmps.getD x undef))
theorem results_eq (fn : Func) (tmps : Array Value) : results fn tmps = (fn.results.mapM (resSem tmps) >>= fun vs => pure (if h : vs.size = 1 then vs[0] else .tuple vs)) := by
  unfold results
  congr 1
theorem run_one {P : Program} {F : Nat → Prop} {w0 : World} {Γ : Env} {st : St} {a : Act} {w : World} (hs : Sat P F w0 Γ st a w) {r : ResultVar} {s : S0} (h1 : retOne P st r = some s) :
    (resSem a.tmps r).run P w = .ok (s.den Γ) w ∧ s.ok P w (Own Γ st) Γ := by
  have hv := hs.view (P := P) #[.tmp 0]
  cases r with
  | tmp t =>
    simp only [retOne] at h1
    obtain ⟨g1, g2⟩ := hs.tmp (St.s0_ev h1)
    refine ⟨?_, g2⟩
    simp only [resSem, g1, Sem.run_pure]
    rfl
  | cell x t =>
    simp only [retOne] at h1
    split at h1
    · rename_i lf hlf
      obtain ⟨g1, g2⟩ := hs.tmp (St.lf_ev hlf)
      have hlo := g2 lf (by simp [S0.cells])
      obtain ⟨g3, g4⟩ := run_loadLf hv h1 hlo
      refine ⟨?_, g4⟩
      rw [show (SV.one (S0.lf lf)).den Γ = lf.den Γ from rfl] at g1
      have hp : ∃ ad, lf.den Γ = .pointer (some ad) := by
        cases lf with
        | ptr b o => exact ⟨_, rfl⟩
        | elp te sz e y o =>
          obtain ⟨b, p, he, -⟩ := hlo.1.addr hlo.2.1 hlo.2.2.1
          exact ⟨_, he _⟩
        | velp te sz i y o =>
          obtain ⟨b, n, cap, hl, -⟩ := hlo
          exact ⟨(⟨b, 0, none⟩ : Addr).add ((E.den Γ.ρ y).toNat * sz + o), by simp only [Lf.den, hl, elemAt]⟩
        | _ => simp [loadLf] at h1
      obtain ⟨ad, had⟩ := hp
      rw [had] at g1 g3
      simp only [resSem, g1, asAddr, pure_bind]
      simpa only [Instr.loadAt, Instr.sureAddr, pure_bind] using g3
    · cases h1
theorem run_all {P : Program} {F : Nat → Prop} {w0 : World} {Γ : Env} {st : St} {a : Act} {w : World} (hs : Sat P F w0 Γ st a w) : ∀ (rs : List ResultVar) (l : List S0), retAll P st rs = some l →
    (rs.mapM (resSem a.tmps)).run P w = .ok (l.map (S0.den Γ)) w ∧ ∀ s ∈ l, s.ok P w (Own Γ st) Γ
  | [], l, h => by simp [retAll] at h; subst h; simp
  | r :: rs, l, h => by
    simp only [retAll] at h
    split at h
    · rename_i s l' h1 h2
      cases h
      obtain ⟨i1, i2⟩ := run_all hs rs l' h2
      obtain ⟨j1, j2⟩ := run_one hs h1
      refine ⟨?_, fun x hx => ?_⟩
      · simp only [List.mapM_cons, Sem.run_bind, i1, j1, Result.andThen_ok, Sem.run_pure, List.map_cons]
      · rcases List.mem_cons.1 hx with rfl | hx
        · exact j2
        · exact i2 x hx
    · cases h
theorem run_results {P : Program} {fn : Func} {F : Nat → Prop} {w0 : World} {Γ : Env} {st : St} {a : Act} {w : World} (hs : Sat P F w0 Γ st a w) {l : List S0} (h : retAll P st fn.results.toList = some l) :
    (results fn a.tmps).run P w = .ok (match l.map (S0.den Γ) with | [x] => x | _ => .tuple (l.map (S0.den Γ)).toArray) w ∧ ∀ s ∈ l, s.ok P w (Own Γ st) Γ := by
  obtain ⟨k1, k2⟩ := run_all hs _ _ h
  refine ⟨?_, k2⟩
  rw [results_eq]
  simp only [Array.mapM_eq_mapM_toList, Sem.run_bind, Sem.run_map, k1, Result.andThen_ok, Sem.run_pure]
  congr 1
  match l.map (S0.den Γ) with
  | [] => simp
  | [x] => simp
  | x :: y :: l => simp

/-- A FUNCTION'S CONTRACT, out of its tree. -/
theorem look_argSl : ∀ (l : List S0) (i t : Nat) (sv : SV), look (argSl i l) t = some sv → ∃ j s, t = i + j ∧ l[j]? = some s ∧ sv = .one s
  | [], _, _, _, h => by cases h
  | s :: l, i, t, sv, h => by
    simp only [argSl, look] at h
    split at h
    · rename_i e; cases h; exact ⟨0, s, by omega, rfl, rfl⟩
    · obtain ⟨j, s', e, hj, hsv⟩ := look_argSl l (i + 1) t sv h
      exact ⟨j + 1, s', by omega, by simpa using hj, hsv⟩
theorem freshS_len (nb : Nat) : ∀ (l : List Sh0) (i : Nat), (freshS nb l i).length = l.length
  | [], _ => rfl
  | s :: l, i => by simp [freshS, freshS_len nb l]
theorem boxArg_none : ∀ {ss : List Sh0}, boxArg ss = none → ss.all (fun s => !s.isBox) = true
  | [], _ => rfl
  | .box t l :: _, h => by cases h
  | .lf k :: ss, h => by simp only [List.all_cons, Bool.and_eq_true]; exact ⟨rfl, boxArg_none (ss := ss) h⟩
  | .agg k :: ss, h => by simp only [List.all_cons, Bool.and_eq_true]; exact ⟨rfl, boxArg_none (ss := ss) h⟩
theorem filter_noBox {ss : List Sh0} (h : (ss.filter Sh0.isBox).length ≤ 0) : ss.all (fun s => !s.isBox) = true := by
  have h0 : (ss.filter Sh0.isBox) = [] := List.eq_nil_of_length_eq_zero (by omega)
  rw [List.all_eq_true]
  intro x hx
  cases hxb : x.isBox with
  | false => rfl
  | true => have := List.mem_filter.2 ⟨hx, hxb⟩; rw [h0] at this; cases this
theorem outs_none {P : Program} {w : World} {O : Nat → Nat → Prop} : ∀ {ss : List Sh0} {vs : List Value}, ss.all (fun s => !s.isBox) = true → Outs P w O ss vs []
  | [], vs, _ => by cases vs <;> rfl
  | s :: ss, [], _ => by cases s <;> rfl
  | s :: ss, v :: vs, hb => by
    simp only [List.all_cons, Bool.and_eq_true] at hb
    cases s with
    | box t l => cases hb.1
    | lf k => exact outs_none (ss := ss) (vs := vs) hb.2
    | agg l => exact outs_none (ss := ss) (vs := vs) hb.2
theorem box_start {P : Program} {w : World} {O : Nat → Nat → Prop} {ρ : List C} {t : TypeId} {ks : List Lk} : ∀ {ss : List Sh0} {vs : List Value} {cs : List C}, Reps P w O none ss vs cs → (ss.filter Sh0.isBox).length ≤ 1 → boxArg ss = some (t, ks) → ∀ i, (∀ j c, cs[j]? = some c → at_ ρ (i + j) = c) →
    ∃ (b : Nat) (us : List Value) (c1 : List C) (n : Nat), (∀ x, IsBox ss vs x ↔ x = b) ∧ Blk w b t us.toArray ∧ (∀ o, O b o) ∧ LReps P w (fun x o => O x o ∨ some b = some x) ks us c1 ∧ freshMem 0 ss i = [(0, some (t, freshL ks n))] ∧ (∀ j c, c1[j]? = some c → at_ ρ (n + j) = c) ∧
      ∀ w' O' us' c', Blk w' b t us'.toArray → LReps P w' O' ks us' c' → Outs P w' O' ss vs c'
  | [], _, _, _, _, hb, _, _ => by cases hb
  | s :: ss, [], _, h, _, _, _, _ => h.elim
  | s :: ss, v :: vs, cs, h, hl, hb, i, hi => by
    obtain ⟨c1, c2, rfl, h1, h2⟩ := h
    have hlen : c1.length = s.kinds.length := h1.ty.len
    have hi2 : ∀ j c, c2[j]? = some c → at_ ρ (i + s.kinds.length + j) = c := fun j c hj => by
      have := hi (c1.length + j) c (by rw [List.getElem?_append_right (by omega)]; simpa using hj)
      rwa [← hlen, Nat.add_assoc]
    have hi1 : ∀ j c, c1[j]? = some c → at_ ρ (i + j) = c := fun j c hj => hi j c (by
      have : j < c1.length := by
        rcases Nat.lt_or_ge j c1.length with h' | h'
        · exact h'
        · rw [List.getElem?_eq_none h'] at hj; cases hj
      rw [List.getElem?_append_left this]; exact hj)
    cases s with
    | box t' l =>
      cases hb
      have hno : ss.all (fun s => !s.isBox) = true := filter_noBox (by simp only [List.filter_cons, Sh0.isBox, if_true, List.length_cons] at hl; omega)
      obtain ⟨b, us, rfl, g1, g2, g3⟩ := h1
      refine ⟨b, us, c1, i, fun x => ⟨?_, fun e => .inl (by rw [e])⟩, g1, g2, g3, ?_, hi1, fun w' O' us' c' k1 k2 => ⟨c', [], b, us', by simp, rfl, k1, k2, outs_none hno⟩⟩
      · rintro (hx | hx)
        · cases hx; rfl
        · exact absurd hx (isBox_noBox hno)
      · simp only [freshMem]
        rw [freshMem_noBox 0 ss _ hno]
    | lf k =>
      obtain ⟨b, us, c, n, r1, r2, r3, r4, r5, r6, r7⟩ := box_start h2 hl hb _ hi2
      exact ⟨b, us, c, n, r1, r2, r3, r4, r5, r6, r7⟩
    | agg l =>
      obtain ⟨b, us, c, n, r1, r2, r3, r4, r5, r6, r7⟩ := box_start h2 hl hb _ hi2
      exact ⟨b, us, c, n, r1, r2, r3, r4, r5, r6, r7⟩
theorem St.look_one {t : TypeId} {l : List Lf} {j : Nat} {mb : TypeId × List Lf} (h : look [(0, some (t, l))] j = some mb) : j = 0 ∧ mb = (t, l) := by
  simp only [look] at h
  split at h
  · rename_i e; cases h; exact ⟨e.symm, rfl⟩
  · cases h
/-! What is handed on at the end -/
section
variable {P : Program} {F : Nat → Prop} {w0 : World} {Γ : Env} {st : St} {a : Act} {w : World}
theorem cntIdx_spec (h : Sat P F w0 Γ st a w) {l : Lf} {i : Nat} (hi : cntIdx st.vec l = some i) : ∃ te e, look st.vec i = some e ∧ l = .cnt te (mkJoin i e.2) ∧ e.1 = te ∧ (l.c Γ.ρ).loc = (at_ Γ.ρ i).loc := by
  unfold cntIdx at hi
  split at hi
  · rename_i te r
    split at hi
    · rename_i i' hi'
      split at hi
      · rename_i e he
        split at hi
        · rename_i hc
          cases hi
          refine ⟨te, e, he, by rw [hc.2], hc.1, ?_⟩
          simp only [Lf.c]
          rw [← hc.2, mkJoin_ev (h.vec _ e he).1]
          rfl
        · cases hi
      · cases hi
    · cases hi
  · cases hi
theorem nodupI_spec {vec : Vecs} : ∀ {ls : List Lf}, nodupI vec ls = true → ∀ l ∈ ls, l.isVec = false ∧ (l.isCnt = true → ∃ i, cntIdx vec l = some i)
  | [], _, l, hl => by cases hl
  | x :: ls, h, l, hl => by
    simp only [nodupI, Bool.and_eq_true, Bool.not_eq_true'] at h
    obtain ⟨⟨h1, h2⟩, h3⟩ := h
    rcases List.mem_cons.1 hl with rfl | hl
    · refine ⟨h1, fun hc => ?_⟩
      split at h2
      · rename_i i hi; exact ⟨i, hi⟩
      · rw [hc] at h2; cases h2
    · exact nodupI_spec h3 l hl
theorem kind_vec {l : Lf} {t : TypeId} (hk : l.kind = some (.vec t)) (hv : l.isVec = false) : l.isCnt = true := by
  cases l with
  | vec te i => cases hv
  | cnt te r => rfl
  | _ => cases hk
theorem vecB_cells (h : Sat P F w0 Γ st a w) : ∀ {ls : List Lf} {ks : List Lk}, kindsL ls = some ks → nodupI st.vec ls = true → (vecB ks (cs_ Γ.ρ ls)).Nodup ∧ ∀ b ∈ vecB ks (cs_ Γ.ρ ls), ∃ l ∈ ls, ∃ i, cntIdx st.vec l = some i ∧ Hold Γ st false i b
  | [], ks, hk, _ => by simp [kindsL] at hk; subst hk; simp [vecB, cs_]
  | l :: ls, ks, hk, hn => by
    have hn0 := hn
    simp only [nodupI, Bool.and_eq_true, Bool.not_eq_true'] at hn
    obtain ⟨⟨h1, h2⟩, h3⟩ := hn
    simp only [kindsL] at hk
    split at hk
    · rename_i k ks' hk1 hk2
      cases hk
      obtain ⟨i1, i2⟩ := vecB_cells h hk2 h3
      have tail : vecB (k :: ks') (cs_ Γ.ρ (l :: ls)) = vecB ks' (cs_ Γ.ρ ls) → (vecB (k :: ks') (cs_ Γ.ρ (l :: ls))).Nodup ∧ ∀ b ∈ vecB (k :: ks') (cs_ Γ.ρ (l :: ls)), ∃ x ∈ l :: ls, ∃ i, cntIdx st.vec x = some i ∧ Hold Γ st false i b := fun e => by
        rw [e]
        exact ⟨i1, fun b hb => by obtain ⟨x, hx, r⟩ := i2 b hb; exact ⟨x, by simp [hx], r⟩⟩
      cases k with
      | vec t =>
        have hc := kind_vec hk1 h1
        obtain ⟨i, hi⟩ := (nodupI_spec hn0 l (by simp)).2 hc
        obtain ⟨te, e, q1, q2, q3, q4⟩ := cntIdx_spec h hi
        rw [hi] at h2
        simp only [List.all_eq_true, Bool.not_eq_true', decide_eq_false_iff_not] at h2
        cases hob : (l.c Γ.ρ).loc.ownBlock with
        | none => exact tail (by simp [cs_, vecB, hob])
        | some b =>
          have hh : Hold Γ st false i b := .vec (Γ := Γ) q1 (by rw [← q4]; exact hob)
          have e' : vecB (.vec t :: ks') (cs_ Γ.ρ (l :: ls)) = b :: vecB ks' (cs_ Γ.ρ ls) := by simp [cs_, vecB, hob]
          rw [e']
          refine ⟨List.nodup_cons.2 ⟨fun hb => ?_, i1⟩, fun x hx => ?_⟩
          · obtain ⟨m, hm, j, hj, hhj⟩ := i2 b hb
            have := (h.inj _ _ _ _ _ hh hhj).2
            subst this
            exact h2 m hm hj
          · rcases List.mem_cons.1 hx with rfl | hx
            · exact ⟨l, by simp, i, hi, hh⟩
            · obtain ⟨m, hm, r⟩ := i2 x hx; exact ⟨m, by simp [hm], r⟩
      | int => exact tail rfl
      | bool => exact tail rfl
      | arr t => exact tail rfl
    · cases hk
theorem Lf.give_spec (h : Sat P F w0 Γ st a w) {O : Nat → Nat → Prop} (hO : ∀ b o, O b o → Own Γ st b o) {k : Lk} {l : Lf} (ho : l.ok P w (Own Γ st) Γ) (hnc : l.isCnt = false) :
    ((match k with | .vec _ => l.give P st.vec k | _ => l.adapt P [] k) : Lf).den Γ = l.den Γ ∧ (((match k with | .vec _ => l.give P st.vec k | _ => l.adapt P [] k) : Lf).isVec = false → ((match k with | .vec _ => l.give P st.vec k | _ => l.adapt P [] k) : Lf).okR P w O Γ) := by
  have plain : ∀ x : Lf, x.ok P w (Own Γ st) Γ → x.isCnt = false → x.isVec = false → x.okR P w O Γ := fun x hx hc hv => by
    cases x with
    | cnt te r => cases hc
    | vec te i => cases hv
    | _ => exact Lf.ok_anti hx hO
  have other : (l.adapt P [] k).den Γ = l.den Γ ∧ ((l.adapt P [] k).isVec = false → (l.adapt P [] k).okR P w O Γ) := by
    refine ⟨adapt_den0 P Γ k l, fun hv => plain _ (S0.adaptOk ho) ?_ hv⟩
    unfold Lf.adapt
    split
    · rfl
    · split <;> rfl
    · exact hnc
  cases k with
  | vec t =>
    by_cases hvv : ∃ te i, l = .vec te i
    · obtain ⟨te, i, rfl⟩ := hvv
      show (Lf.give P st.vec (.vec t) (.vec te i)).den Γ = _ ∧ ((Lf.give P st.vec (.vec t) (.vec te i)).isVec = false → (Lf.give P st.vec (.vec t) (.vec te i)).okR P w O Γ)
      simp only [Lf.give]
      split
      · rename_i e he
        split
        · rename_i hc
          have hj := mkJoin_ev (h.vec i e he).1
          refine ⟨by simp only [Lf.den, hj, C.loc], fun _ => ?_⟩
          obtain ⟨ks, us, k1, k2, k3, k4, k5⟩ := (h.vec i e he).1.anti hO
          simp only [Lf.okR, hj]
          rw [← hc]
          exact ⟨ks, us, k1, ⟨_, rfl⟩, k3, k4, k5⟩
        · exact ⟨rfl, fun hv => by cases hv⟩
      · exact ⟨rfl, fun hv => by cases hv⟩
    · have hg : Lf.give P st.vec (.vec t) l = l := by
        cases l with
        | vec te i => exact absurd ⟨te, i, rfl⟩ hvv
        | _ => rfl
      show (Lf.give P st.vec (.vec t) l).den Γ = _ ∧ ((Lf.give P st.vec (.vec t) l).isVec = false → (Lf.give P st.vec (.vec t) l).okR P w O Γ)
      rw [hg]
      exact ⟨rfl, plain l ho hnc⟩
  | int => exact other
  | bool => exact other
  | arr t => exact other
theorem gives_spec (h : Sat P F w0 Γ st a w) {O : Nat → Nat → Prop} (hO : ∀ b o, O b o → Own Γ st b o) : ∀ {shs : List Sh0} {ss : List S0}, (∀ s ∈ ss, s.ok P w (Own Γ st) Γ) → (ss.all fun s => s.cells.all fun x => !x.isCnt) = true →
    (gives P st.vec shs ss).map (S0.den Γ) = ss.map (S0.den Γ) ∧ ∀ s ∈ gives P st.vec shs ss, ∀ l ∈ s.cells, l.isVec = false → l.okR P w O Γ
  | [], ss, h1, h2 => by
    have key : ∀ s ∈ ss, ∀ l ∈ s.cells, l.isVec = false → l.okR P w O Γ := fun s hs l hl hv => by
      have hc := List.all_eq_true.1 (List.all_eq_true.1 h2 s hs) l hl
      have ho := h1 s hs l hl
      cases l with
      | cnt te r => cases hc
      | vec te i => cases hv
      | _ => exact Lf.ok_anti ho hO
    cases ss <;> exact ⟨rfl, key⟩
  | _ :: _, [], _, _ => ⟨rfl, fun l hl => by cases hl⟩
  | sh :: shs, s :: ss, h1, h2 => by
    simp only [List.all_cons, Bool.and_eq_true] at h2
    obtain ⟨g1, g2⟩ := gives_spec h hO (shs := shs) (ss := ss) (fun x hx => h1 x (by simp [hx])) h2.2
    have hcn : ∀ l ∈ s.cells, l.isCnt = false := fun l hl => by have := List.all_eq_true.1 h2.1 l hl; simpa using this
    have hso := h1 s (by simp)
    have hL : ∀ (ks : List Lk) (ls : List Lf), (∀ l ∈ ls, l.isCnt = false) → (∀ l ∈ ls, l.ok P w (Own Γ st) Γ) → (giveL P st.vec ks ls).map (Lf.den Γ) = ls.map (Lf.den Γ) ∧ ∀ l ∈ giveL P st.vec ks ls, l.isVec = false → l.okR P w O Γ := by
      intro ks
      induction ks with
      | nil =>
        intro ls k1 k2
        have key : ∀ l ∈ ls, l.isVec = false → l.okR P w O Γ := fun l hl hv => by
          have hc := k1 l hl
          have ho := k2 l hl
          cases l with
          | cnt te r => cases hc
          | vec te i => cases hv
          | _ => exact Lf.ok_anti ho hO
        cases ls <;> exact ⟨rfl, key⟩
      | cons k ks ih =>
        intro ls k1 k2
        cases ls with
        | nil => exact ⟨rfl, fun l hl => by cases hl⟩
        | cons l ls =>
          obtain ⟨q1, q2⟩ := ih ls (fun x hx => k1 x (by simp [hx])) (fun x hx => k2 x (by simp [hx]))
          obtain ⟨q3, q4⟩ := Lf.give_spec h hO (k := k) (k2 l (by simp)) (k1 l (by simp))
          refine ⟨by simp only [giveL, List.map_cons, q1, q3], fun x hx => ?_⟩
          rcases List.mem_cons.1 hx with rfl | hx
          · exact q4
          · exact q2 x hx
    have one : (s.give P st.vec sh).den Γ = s.den Γ ∧ ∀ l ∈ (s.give P st.vec sh).cells, l.isVec = false → l.okR P w O Γ := by
      unfold S0.give
      split
      · rename_i k l
        obtain ⟨q3, q4⟩ := Lf.give_spec h hO (k := k) (hso l (by simp [S0.cells])) (hcn l (by simp [S0.cells]))
        exact ⟨q3, fun x hx => by simp only [S0.cells, List.mem_singleton] at hx; subst hx; exact q4⟩
      · rename_i ks ls
        obtain ⟨q1, q2⟩ := hL ks ls hcn hso
        exact ⟨by simp only [S0.den, dens, q1], q2⟩
      · refine ⟨rfl, fun l hl hv => ?_⟩
        have hc := hcn l hl
        have ho := hso l hl
        cases l with
        | cnt te r => cases hc
        | vec te i => cases hv
        | _ => exact Lf.ok_anti ho hO
    refine ⟨by simp [gives, g1, one.1], fun x hx => ?_⟩
    rcases List.mem_cons.1 hx with rfl | hx
    · exact one.2
    · exact g2 x hx
theorem shapes_kindsL {mem : Mem} : ∀ {args : List S0} {ss : List Sh0}, shapes mem args = some ss → kindsL (cellsOf mem args) = some (kindsOf ss)
  | [], ss, h => by simp [shapes] at h; subst h; rfl
  | s :: args, ss, h => by
    simp only [shapes] at h
    split at h
    · rename_i sh hss h1 h2
      cases h
      have hc : cellsOf mem (s :: args) = s.cellsM mem ++ cellsOf mem args := by simp [cellsOf]
      have hk : kindsOf (sh :: hss) = sh.kinds ++ kindsOf hss := by simp [kindsOf]
      rw [hc, hk]
      have app : ∀ {l m : List Lf} {k n : List Lk}, kindsL l = some k → kindsL m = some n → kindsL (l ++ m) = some (k ++ n) := by
        intro l
        induction l with
        | nil => intro m k n h1 h2; simp [kindsL] at h1; subst h1; exact h2
        | cons x l ih =>
          intro m k n h1 h2
          simp only [kindsL] at h1
          split at h1
          · rename_i k' ks' e1 e2
            cases h1
            simp only [List.cons_append, kindsL, e1, ih e2 h2]
          · cases h1
      refine app ?_ (shapes_kindsL h2)
      have plain : s.shapeM mem = s.shape → s.cellsM mem = s.cells → kindsL (s.cellsM mem) = some sh.kinds := by
        intro e1 e2
        rw [e1] at h1
        rw [e2]
        cases s with
        | lf l =>
          simp only [S0.shape, Option.map_eq_some_iff] at h1
          obtain ⟨k, hk', rfl⟩ := h1
          simp [S0.cells, kindsL, hk', Sh0.kinds]
        | agg ls =>
          simp only [S0.shape, Option.map_eq_some_iff] at h1
          obtain ⟨k, hk', rfl⟩ := h1
          exact hk'
      by_cases hp : ∃ b, s = .lf (.ptr b 0)
      · obtain ⟨b, rfl⟩ := hp
        simp only [S0.shapeM] at h1
        split at h1
        · rename_i mb hmb
          simp only [Option.map_eq_some_iff] at h1
          obtain ⟨ks, hks, rfl⟩ := h1
          simp only [S0.cellsM, hmb]
          exact hks
        · cases h1
      · refine plain ?_ ?_
        · unfold S0.shapeM; split
          · exact absurd ⟨_, rfl⟩ hp
          · rfl
        · unfold S0.cellsM; split
          · exact absurd ⟨_, rfl⟩ hp
          · rfl
    · cases h
end
theorem cellsOf_box {mem : Mem} {args : List S0} {b : Nat} {mb : TypeId × List Lf} (hin : S0.lf (.ptr b 0) ∈ args) (hmb : look mem b = some mb) : ∀ l ∈ mb.2, l ∈ cellsOf mem args := fun l hl =>
  List.mem_flatMap.2 ⟨_, hin, by simp only [S0.cellsM, hmb]; exact hl⟩
theorem cellsOf_plain {mem : Mem} {args : List S0} {s : S0} (hs : s ∈ args) (hp : ¬ ∃ b, s = .lf (.ptr b 0)) : ∀ l ∈ s.cells, l ∈ cellsOf mem args := fun l hl =>
  List.mem_flatMap.2 ⟨s, hs, by
    unfold S0.cellsM; split
    · exact absurd ⟨_, rfl⟩ hp
    · exact hl⟩
theorem ct_start {cx : Cx} (hcx : CxOK cx) {f : FuncId} {fn : Func} (hf : cx.P.funcs[f]? = some fn) {ct : Ct} {bds : Bds} (hle' : ct.args.length ≤ fn.ntmps ∧ ct.args.length ≤ 1000 ∧ boxOk ct = true)
    {Base : Nat → Nat → Prop} {w : World} {vs : List Value} {cs : List C} (hBase : ∀ b o, Base b o → b < w.heap.size) (hreps : Reps cx.P w Base none ct.args vs cs) (hb : bds.ok cs) :
    ∃ Γ : Env, Γ.ρ = cs ∧ Γ.up.ds = [] ∧ Sat cx.P (fun i => i < w.heap.size ∧ ¬ IsBox ct.args vs i) w Γ (startOf fn ct bds cx.wr) { tmps := vs.toArray ++ Array.replicate (fn.ntmps - vs.toArray.size) undef, defers := [] } w ∧
      ∀ (st' : St) (T' : Tree) (Γ' : Env) (Ls' : List (List C → Prop)) (a' : Act) (w' : World), Ext Γ Γ' → VC cx (ct.post cs) T' Γ'.ρ Ls' → Sat cx.P (fun i => i < w.heap.size ∧ ¬ IsBox ct.args vs i) w Γ' st' a' w' → endOf cx fn ct st' = some T' →
        a'.defers = [] ∧ ∃ v, (results fn a'.tmps).run cx.P w' = .ok v w' ∧ ∃ v' rs outs, Ending.returned v = .returned v' ∧ Res cx.P w' Base w.heap.size ct.res v' rs ∧ Outs cx.P w' (fun b o => Base b o ∨ b ∈ vecB (kindsOf ct.res) rs) ct.args vs outs ∧ ct.post cs (rs ++ outs) ∧ Keeps (fun i => i < w.heap.size ∧ ¬ IsBox ct.args vs i) w w' := by
  have hty := hreps.ty
  obtain ⟨hle, hle2, hbx⟩ := hle'
  have hat : ∀ j c, cs[j]? = some c → at_ cs (0 + j) = c := fun j c hj => by rw [Nat.zero_add]; simp [at_, List.getD_eq_getElem?_getD, hj]
  have hbx' := hbx
  simp only [boxOk, Bool.and_eq_true, Bool.or_eq_true] at hbx'
  obtain ⟨⟨hb1, hb2⟩, hb3⟩ := hbx'
  have hb1 := Nat.le_of_ble_eq_true hb1
  have hbkn : (boxKinds ct.args).all Lk.noVec = true := by
    have : ∀ {ss : List Sh0}, (kindsOf ss).all Lk.noVec = true → (boxKinds ss).all Lk.noVec = true := by
      intro ss
      induction ss with
      | nil => intro _; rfl
      | cons s ss ih =>
        intro h
        have hk : kindsOf (s :: ss) = s.kinds ++ kindsOf ss := by simp [kindsOf]
        rw [hk, List.all_append, Bool.and_eq_true] at h
        cases s with
        | box t l => show (l ++ boxKinds ss).all Lk.noVec = true; rw [List.all_append, Bool.and_eq_true]; exact ⟨h.1, ih h.2⟩
        | _ => exact ih h.2
    exact this hb3
  have hsm : Smalls cs := by
    have := Smalls.nil.app (cs := cs) fun c hc => hty.small c hc
    simpa using this
  -- where the argument's block lies
  obtain ⟨B, hB1, hB2, hB3⟩ : ∃ B : Nat, (∀ x, IsBox ct.args vs x → x = B ∧ ∃ p, boxArg ct.args = some p) ∧
      (∀ Γ : Env, Γ.ρ = cs → Γ.blk 0 = B → Γ.base = Base → ∀ j mb, look (freshMem 0 ct.args 0) j = some mb → Blk w (Γ.blk j) mb.1 (dens Γ mb.2) ∧ (∀ l ∈ mb.2, l.ok cx.P w (fun x o => Base x o ∨ x = B) Γ) ∧ IsBox ct.args vs (Γ.blk j) ∧ j < (freshMem 0 ct.args 0).length ∧ j = 0 ∧ ∀ o, Base B o) ∧
      (∀ (st' : St) (o : List Lf) (w' : World) (Γ' : Env) (O' : Nat → Nat → Prop), outL st' ct = some o → Γ'.blk 0 = (if (freshMem 0 ct.args 0).length = 0 then Γ'.blk 0 else B) → (∀ mb, look st'.mem 0 = some mb → Blk w' (Γ'.blk 0) mb.1 (dens Γ' mb.2) ∧ ∀ l ∈ mb.2, l.ok cx.P w' O' Γ') → Num st'.bds Γ'.ρ → Obs Γ'.ρ (rngL st'.bds o) → Outs cx.P w' O' ct.args vs (cs_ Γ'.ρ o) ∧ ((∃ p, boxArg ct.args = some p) → ∃ mb, look st'.mem 0 = some mb ∧ Γ'.blk 0 = B)) := by
    cases hba : boxArg ct.args with
    | none =>
      have hno := boxArg_none hba
      refine ⟨0, fun x hx => absurd hx (isBox_noBox hno), fun Γ _ _ _ j mb hj => ?_, fun st' o w' Γ' O' ho _ _ _ _ => ?_⟩
      · rw [freshMem_noBox 0 ct.args 0 hno] at hj; cases hj
      · simp only [outL, hba, Option.some.injEq] at ho; subst ho; exact ⟨outs_none hno, fun ⟨p, hp⟩ => by cases hp⟩
    | some p =>
      obtain ⟨t, ks⟩ := p
      obtain ⟨b, us, c1, n, r1, r2, r3, r4, r5, r6, r7⟩ := box_start hreps hb1 hba 0 hat
      have hksn : ks.all Lk.noVec = true := by
        have : ∀ {ss : List Sh0}, boxArg ss = some (t, ks) → (boxKinds ss).all Lk.noVec = true → ks.all Lk.noVec = true := by
          intro ss
          induction ss with
          | nil => intro h _; cases h
          | cons s ss ih =>
            intro h hn
            cases s with
            | box t' l =>
              cases h
              have : (ks ++ boxKinds ss).all Lk.noVec = true := hn
              rw [List.all_append, Bool.and_eq_true] at this
              exact this.1
            | lf k => exact ih h hn
            | agg k => exact ih h hn
        exact this hba hbkn
      refine ⟨b, fun x hx => ⟨(r1 x).1 hx, _, rfl⟩, fun Γ hρ hblk hbase j mb hj => ?_, fun st' o w' Γ' O' ho hbl hm hn hob => ?_⟩
      · rw [r5] at hj
        obtain ⟨rfl, rfl⟩ := St.look_one hj
        obtain ⟨f1, f2⟩ := freshL_rep (Γ := Γ) r4 n (fun j c hj => by rw [hρ]; exact r6 j c hj)
        refine ⟨by rw [hblk]; unfold dens; rw [f1]; exact r2, fun l hl => Lf.ok_anti (f2 l hl) fun x o hx => hx.imp id fun e => by rw [e], by rw [hblk]; exact (r1 b).2 rfl, by rw [r5]; exact Nat.succ_pos _, rfl, r3⟩
      · rw [r5] at hbl
        simp only [List.length_cons, List.length_nil, Nat.zero_add, Nat.one_ne_zero, if_false] at hbl
        simp only [outL, hba] at ho
        split at ho
        · rename_i mb hmb
          split at ho
          · rename_i hc
            cases ho
            obtain ⟨m1, m2⟩ := hm mb hmb
            refine ⟨?_, fun _ => ⟨mb, hmb, hbl⟩⟩
            rw [hbl, hc.1] at m1
            exact r7 w' O' _ _ m1 (Ls_rep hn hc.2 (kindsL_noVec hc.2 hksn m2) hob)
          · cases ho
        · cases ho
  let Γ : Env := { ρ := cs, blk := fun _ => B, nb := (freshMem 0 ct.args 0).length, base := Base }
  obtain ⟨f1, f2⟩ := freshS_rep (Γ := Γ) (nb := 0) hreps (fun b hb => ((hB1 b hb).1).symm) 0 hat
  have hvl : vs.length = ct.args.length := by rw [← f1, List.length_map, freshS_len]
  have hmemB : ∀ j mb, look (freshMem 0 ct.args 0) j = some mb → ∀ o, Base (Γ.blk j) o := fun j mb hj o => (hB2 Γ rfl rfl rfl j mb hj).2.2.2.2.2 o
  have hown : ∀ b o, Own Γ (startOf fn ct bds cx.wr) b o → Base b o := by
    rintro b o (hb | ⟨j, mb, hj, rfl⟩ | ⟨i, e, hi, -⟩)
    · exact hb
    · exact hmemB j mb hj o
    · cases hi
  have hs : Sat cx.P (fun i => i < w.heap.size ∧ ¬ IsBox ct.args vs i) w Γ (startOf fn ct bds cx.wr) { tmps := vs.toArray ++ Array.replicate (fn.ntmps - vs.toArray.size) undef, defers := [] } w := by
    refine ⟨fun t sv ht => ?_, by simp [startOf]; omega, fun b mb hm => ?_, fun i e hi => (by cases hi), fun i e hi => (by cases hi), fun s j s' j' b h1 h2 => ?_, Keeps.refl _ _, fun i hi => hi.1, hBase, rfl, hty.len, rfl, ⟨hb, hsm⟩⟩
    · obtain ⟨j, s, e, hj, rfl⟩ := look_argSl _ _ _ _ ht
      have hjl : j < vs.length := by
        rw [hvl, ← freshS_len 0 ct.args 0]
        rcases Nat.lt_or_ge j (freshS 0 ct.args 0).length with h' | h'
        · exact h'
        · rw [List.getElem?_eq_none h'] at hj; cases hj
      have hmem := List.mem_of_getElem? hj
      refine ⟨?_, fun l hl => Lf.ok_anti (f2 s hmem l hl) hown⟩
      have : vs[j]? = some (s.den Γ) := by rw [← f1]; simp [hj]
      subst e
      unfold slotV
      rw [if_pos (by omega)]
      simp only [Nat.zero_add, Array.getD_eq_getD_getElem?]
      rw [Array.getElem?_append_left (by simpa using hjl)]
      simp [this, SV.den]
    · obtain ⟨m1, m2, m3, m4, m5, m6⟩ := hB2 Γ rfl rfl rfl b mb hm
      refine ⟨m1, fun l hl => Lf.ok_anti (m2 l hl) fun x o hx => .inl (hown x o hx), fun hn => hn.2 m3, m4⟩
    · rcases h1.inv with ⟨rfl, mb, hm, rfl⟩ | ⟨rfl, e, hm, -⟩
      · rcases h2.inv with ⟨rfl, mc, hm', -⟩ | ⟨rfl, e, hm', -⟩
        · have h1 := (hB2 Γ rfl rfl rfl j mb hm).2.2.2.2.1
          have h2 := (hB2 Γ rfl rfl rfl j' mc hm').2.2.2.2.1
          exact ⟨rfl, by rw [h1, h2]⟩
        · cases hm'
      · cases hm
  refine ⟨Γ, rfl, rfl, hs, ?_⟩
  intro st' T' Γ' Ls' a' w' he hv' hs' hend
  unfold endOf at hend
  split at hend
  · rename_i l o hl' ho
    split at hend
    rotate_left
    · cases hend; exact hv'.elim
    · rename_i hcc
      obtain ⟨hsh, hnd, hnc⟩ := hcc
      cases hend
      obtain ⟨hob, hret⟩ := VC.obT hv'
      obtain ⟨ob1, ob2⟩ := rngL_app hob
      obtain ⟨r1, r2⟩ := run_results hs' hl'
      generalize hl'' : resOf cx ct st' l = l' at *
      have hbase : ∀ b o, Base b o → Own Γ' st' b o := fun b o hb => .inl (by rw [he.base]; exact hb)
      obtain ⟨v1, v2⟩ := vecB_cells hs' (shapes_kindsL hsh) hnd
      generalize hrs : cs_ Γ'.ρ (cellsOf st'.mem l') = rs at *
      have hO : ∀ b o, (Base b o ∨ b ∈ vecB (kindsOf ct.res) rs) → Own Γ' st' b o := fun b o hb => hb.elim (hbase b o) fun hb => by
        obtain ⟨x, -, i, -, hh⟩ := v2 b hb; exact hh.own o
      -- the results' cells
      obtain ⟨hden, hokR⟩ : l'.map (S0.den Γ') = l.map (S0.den Γ') ∧ ∀ s ∈ l', ∀ x ∈ s.cells, x.isVec = false → x.okR cx.P w' (fun b o => Base b o ∨ b ∈ vecB (kindsOf ct.res) rs) Γ' := by
        unfold resOf at hl''
        split at hl''
        · rename_i hnv
          have hvb : vecB (kindsOf ct.res) rs = [] := vecB_noVec hnv
          obtain ⟨g1, g2⟩ := adapts_spec hs' (O' := fun b o => Base b o ∨ b ∈ vecB (kindsOf ct.res) rs) hO (shs := ct.res) (ss := l) (fun s _ l _ _ i e hi b hb o ho => by
            rw [hvb] at ho
            rcases ho with ho | ho
            · exact ((hs'.vec i e hi).2.2 b hb).2 o (by rw [he.base]; exact ho)
            · cases ho) r2
          rw [hl''] at g1 g2
          obtain ⟨q1, q2⟩ := shapes_okR (Γ := Γ') hsh hnv g2
          exact ⟨g1, fun s hs x hx _ => q1 s hs x hx⟩
        · obtain ⟨g1, g2⟩ := gives_spec hs' hO (shs := ct.res) (ss := l) r2 hnc
          rw [hl''] at g1 g2
          exact ⟨g1, g2⟩
      have hcv : ∀ x ∈ cellsOf st'.mem l', x.isVec = false := fun x hx => (nodupI_spec hnd x hx).1
      have hrep := cells_rep (P := cx.P) (w := w') (O := fun b o => Base b o ∨ b ∈ vecB (kindsOf ct.res) rs) (old := some w.heap.size) hs'.num hsh (fun s hs2 x hx => by
        by_cases hp : ∃ b, s = .lf (.ptr b 0)
        · obtain ⟨b, rfl⟩ := hp
          simp [S0.cells] at hx; subst hx; trivial
        · exact hokR s hs2 x hx (hcv x (cellsOf_plain hs2 hp x hx))) (fun b mb hin hmb => by
        obtain ⟨m1, m2, m3, m4⟩ := hs'.mem b mb hmb
        refine ⟨m1, fun x hx => ?_, ?_⟩
        · have hxv := hcv x (cellsOf_box hin hmb x hx)
          have hxc : x.isCnt = false ∨ ∃ i, cntIdx st'.vec x = some i := by
            cases hxc : x.isCnt with
            | false => exact .inl rfl
            | true => exact .inr ((nodupI_spec hnd x (cellsOf_box hin hmb x hx)).2 hxc)
          have hmo := m2 x hx
          have hO2 : ∀ y o, ((Base y o ∨ y ∈ vecB (kindsOf ct.res) rs) ∨ some (Γ'.blk b) = some y) → Own Γ' st' y o := fun y o hy => hy.elim (hO y o) fun e => by cases e; exact (Hold.mem (Γ := Γ') hmb).own o
          cases x with
          | vec te i => cases hxv
          | cnt te r =>
            rcases hxc with hxc | ⟨i, hi⟩
            · cases hxc
            · obtain ⟨te', e, k1, k2, k3, k4⟩ := cntIdx_spec hs' hi
              cases k2
              have hve := (hs'.vec i e k1).1
              obtain ⟨ks, us, p1, p2, p3, p4, p5⟩ := hve.anti hO2
              simp only [Lf.okR, mkJoin_ev hve]
              rw [← k3]
              exact ⟨ks, us, p1, ⟨_, rfl⟩, p3, p4, p5⟩
          | _ => exact Lf.ok_anti hmo hO2
        · rcases hb2 with h | h
          · exact absurd hin ((shapes_noBox hsh h).2.2.2 b)
          · rcases Nat.lt_or_ge (Γ'.blk b) w.heap.size with hlt | hge
            · exact absurd ⟨hlt, isBox_noBox h.1.2⟩ m3
            · exact hge) ob1
      rw [hrs] at hrep
      obtain ⟨houts, hboxm⟩ := hB3 st' o w' Γ' (fun b o => Base b o ∨ b ∈ vecB (kindsOf ct.res) rs) ho (by
        split
        · rfl
        · rename_i hne
          rw [he.blk 0 (show 0 < (freshMem 0 ct.args 0).length by omega)]) (fun mb hmb => ⟨(hs'.mem 0 mb hmb).1, fun l hl => Lf.ok_anti ((hs'.mem 0 mb hmb).2.1 l hl) hO⟩) hs'.num ob2
      refine ⟨hs'.defers.trans (by rw [he.up]), _, r1, _, rs, cs_ Γ'.ρ o, rfl, ⟨_, rfl, ?_, v1, fun b hb => ?_⟩, houts, ?_, hs'.keeps⟩
      · rw [← hden]; exact hrep
      · obtain ⟨x, hx, i, hi, hh⟩ := v2 b hb
        obtain ⟨e, he1, he2⟩ := hh
        have hnF := ((hs'.vec i e he1).2.2 b he2).1
        rcases Nat.lt_or_ge b w.heap.size with hlt | hge
        · exfalso
          refine hnF ⟨hlt, fun hbx => ?_⟩
          obtain ⟨e1, hp⟩ := hB1 b hbx
          obtain ⟨mb, hmb, hbl⟩ := hboxm hp
          have := (hs'.inj _ _ _ _ _ (Hold.mem (Γ := Γ') hmb) (show Hold Γ' st' false i (Γ'.blk 0) from ⟨e, he1, by rw [he2, e1, hbl]⟩)).1
          cases this
        · exact hge
      · have : rs ++ cs_ Γ'.ρ o = cs_ Γ'.ρ (cellsOf st'.mem l' ++ o) := by rw [← hrs]; simp [cs_]
        rw [this]; exact hret
  · cases hend; exact hv'.elim
  · cases hend; exact hv'.elim
theorem ct_ok_open {cx : Cx} (hcx : CxOK cx) {f : FuncId} {fn : Func} (hf : cx.P.funcs[f]? = some fn) {ct : Ct} {bds : Bds} {c : Code} (hbody : fn.body = some c) (hle' : ct.args.length ≤ fn.ntmps ∧ ct.args.length ≤ 1000 ∧ boxOk ct = true)
    (hvc : ∀ cs, CTy cx.P (kindsOf ct.args) cs → ct.pre cs → bds.ok cs ∧ ∀ (F : Nat → Prop) (w0 : World) (Γ : Env) (a : Act) (w : World) (Q : Exit → Act → World → Prop), Γ.ρ = cs → Sat cx.P F w0 Γ (startOf fn ct bds cx.wr) a w →
      KOK cx (ct.post cs) F w0 (fun x st => match x with
        | .ext _ => none
        | _ => endOf cx fn ct st) Γ [] Q → c.wp cx.P Q a w) : CtOK cx.P f ct := by
  intro Base w vs cs hBase hreps hpre
  obtain ⟨hb, hmain⟩ := hvc cs hreps.ty hpre
  obtain ⟨Γ, hρ, hds, hs, fin⟩ := ct_start hcx hf (fn := fn) hle' hBase hreps hb
  refine calls_of_wp hf hbody ?_
  refine hmain _ _ Γ _ w _ hρ hs ?_
  intro x st' T' Γ' Ls' hk he hl hlen hv' a' w' hs'
  cases x with
  | nrm => exact fin st' T' Γ' Ls' a' w' he hv' hs' hk
  | ret => exact fin st' T' Γ' Ls' a' w' he hv' hs' hk
  | ext i => cases hk
theorem ct_ok {cx : Cx} (hcx : CxOK cx) {f : FuncId} {fn : Func} (hf : cx.P.funcs[f]? = some fn) {ct : Ct} {bds : Bds} {T : Tree} (hT : execFn cx fn ct bds = some T)
    (hvc : allC cx.P (kindsOf ct.args) fun cs => ct.pre cs → bds.ok cs ∧ VC cx (ct.post cs) T cs []) : CtOK cx.P f ct := by
  unfold execFn at hT
  split at hT
  · cases hT
  · rename_i c hbody
    split at hT
    · rename_i hle'
      refine ct_ok_open (bds := bds) hcx hf hbody hle' fun cs hty hpre => ?_
      obtain ⟨hb, hv⟩ := allC_elim hvc cs hty hpre
      exact ⟨hb, fun F w0 Γ a w Q hρ hs hk => wpR_none.1 (exec_sound (R := ct.post cs) hcx c _ _ T hT Γ [] _ hk rfl (by rw [hρ]; exact hv) a w hs)⟩
    · cases hT

theorem allC_mono {P : Program} : ∀ {ks : List Lk} {p q : List C → Prop}, allC P ks p → (∀ cs, p cs → q cs) → allC P ks q
  | [], p, q, h, hh => hh _ h
  | .int :: ks, p, q, h, hh => fun n h1 h2 => allC_mono (h n h1 h2) fun cs hc => hh _ hc
  | .bool :: ks, p, q, h, hh => fun t => allC_mono (h t) fun cs hc => hh _ hc
  | .arr t :: ks, p, q, h, hh => fun v rows d h1 h2 => allC_mono (h v rows d h1 h2) fun cs hc => hh _ hc
  | .vec t :: ks, p, q, h, hh => fun v rows d h1 h2 => allC_mono (h v rows d h1 h2) fun cs hc => hh _ hc
/-! Functions carried out in place -/
def enterSt (fn : Func) (args : List S0) (st : St) : St := { st with sl := argSl 0 args ++ st.sl.map fun p => (p.1 + 1000, p.2), nt := fn.ntmps }
def leaveSl : List (Nat × Option SV) → List (Nat × Option SV)
  | [] => []
  | (k, v) :: l => if 1000 ≤ k then (k - 1000, v) :: leaveSl l else leaveSl l
def leaveSt (st st' : St) : St := { st' with sl := leaveSl st'.sl, nt := st.nt }
def hand (cx : Cx) (fns : Nat → Option Func) : Hd := fun f args st k =>
  match fns f with
  | some fn => match fn.body with
    | some c => if args.length ≤ fn.ntmps ∧ fn.ntmps ≤ 1000 then
        exec cx c (enterSt fn args st) fun x st' => match x with
          | .ext _ => none
          | _ => match retAll cx.P st' fn.results.toList with
            | some l => k l (leaveSt st st')
            | none => some (.fail 80001 [f, st'.path])
      else none
    | none => none
  | none => none
theorem look_leave : ∀ (l : List (Nat × Option SV)) (t : Nat), look (leaveSl l) t = look l (t + 1000)
  | [], _ => rfl
  | (k, v) :: l, t => by
    simp only [leaveSl]
    split
    · rename_i h
      simp only [look]
      by_cases hk : k - 1000 = t
      · rw [if_pos hk, if_pos (by omega)]
      · rw [if_neg hk, if_neg (by omega)]; exact look_leave l t
    · rename_i h
      simp only [look]
      rw [if_neg (by omega)]; exact look_leave l t
theorem look_shift : ∀ (l : List (Nat × Option SV)) (t : Nat), look (l.map fun p => (p.1 + 1000, p.2)) t = if 1000 ≤ t then look l (t - 1000) else none
  | [], t => by simp [look]
  | (k, v) :: l, t => by
    simp only [List.map_cons, look, look_shift l t]
    by_cases h : 1000 ≤ t
    · simp only [h, if_true]
      by_cases hk : k = t - 1000
      · rw [if_pos (by omega), if_pos hk]
      · rw [if_neg (by omega), if_neg hk]
    · rw [if_neg (by omega)]; simp [h]
theorem look_enter : ∀ (args : List S0) (i : Nat) (m : List (Nat × Option SV)) (t : Nat) (sv : SV), look (argSl i args ++ m) t = some sv → (∃ j s, t = i + j ∧ args[j]? = some s ∧ sv = .one s) ∨ look m t = some sv
  | [], _, _, _, _, h => .inr h
  | s :: l, i, m, t, sv, h => by
    simp only [argSl, List.cons_append, look] at h
    split at h
    · rename_i e; cases h; exact .inl ⟨0, s, by omega, rfl, rfl⟩
    · rcases look_enter l (i + 1) m t sv h with ⟨j, s', e, hj, hsv⟩ | h
      · exact .inl ⟨j + 1, s', by omega, by simpa using hj, hsv⟩
      · exact .inr h
theorem Lf.den_up (Γ : Env) (u : Up) (l : Lf) : l.den { Γ with up := u } = l.den Γ := by cases l <;> rfl
theorem dens_up (Γ : Env) (u : Up) (l : List Lf) : dens { Γ with up := u } l = dens Γ l := by
  unfold dens; rw [List.map_congr_left fun x _ => Lf.den_up Γ u x]
theorem S0.den_up (Γ : Env) (u : Up) (s : S0) : s.den { Γ with up := u } = s.den Γ := by
  cases s with
  | lf l => exact Lf.den_up Γ u l
  | agg l => simp only [S0.den, dens_up]
theorem SV.den_up (Γ : Env) (u : Up) (s : SV) : s.den { Γ with up := u } = s.den Γ := by
  cases s with
  | one s => exact S0.den_up Γ u s
  | tup l => simp only [SV.den]; rw [List.map_congr_left fun x _ => S0.den_up Γ u x]
  | fn f l => simp only [SV.den, dens_up]
theorem Lf.ok_up {P : Program} {w : World} {O : Nat → Nat → Prop} {Γ : Env} {u : Up} {l : Lf} : l.ok P w O { Γ with up := u } ↔ l.ok P w O Γ := by cases l <;> exact Iff.rfl
theorem S0.ok_up {P : Program} {w : World} {O : Nat → Nat → Prop} {Γ : Env} {u : Up} {s : S0} : s.ok P w O { Γ with up := u } ↔ s.ok P w O Γ := ⟨fun h l hl => Lf.ok_up.1 (h l hl), fun h l hl => Lf.ok_up.2 (h l hl)⟩
theorem SV.ok_up {P : Program} {w : World} {O : Nat → Nat → Prop} {Γ : Env} {u : Up} {s : SV} : s.ok P w O { Γ with up := u } ↔ s.ok P w O Γ := by
  cases s with
  | one s => exact S0.ok_up
  | tup l => exact ⟨fun h s hs => S0.ok_up.1 (h s hs), fun h s hs => S0.ok_up.2 (h s hs)⟩
  | fn f l => exact ⟨fun h l hl => Lf.ok_up.1 (h l hl), fun h l hl => Lf.ok_up.2 (h l hl)⟩
/-- Another frame. -/
theorem Sat.frame {P : Program} {F : Nat → Prop} {w0 : World} {Γ : Env} {st : St} {a : Act} {w : World} (h : Sat P F w0 Γ st a w) {u : Up} {sl : List (Nat × Option SV)} {nt : Nat} {a' : Act} (hsz : a'.tmps.size = nt) (hd : a'.defers = u.ds)
    (hs : ∀ t sv, look sl t = some sv → slotV { Γ with up := u } a' t = sv.den Γ ∧ sv.ok P w (Own Γ st) Γ) : Sat P F w0 { Γ with up := u } { st with sl := sl, nt := nt } a' w := by
  have hown : ∀ b o, Own { Γ with up := u } { st with sl := sl, nt := nt } b o → Own Γ st b o := fun b o h => h
  refine ⟨fun t sv ht => ?_, hsz, fun b mb hm => ?_, h.vec, fun i e hi => ?_, h.inj, h.keeps, h.fold, h.base, hd, h.len, h.nb, h.num⟩
  · obtain ⟨h1, h2⟩ := hs t sv ht
    exact ⟨by rw [SV.den_up]; exact h1, SV.ok_up.2 h2⟩
  · obtain ⟨h1, h2, h3, h4⟩ := h.mem b mb hm
    exact ⟨by rw [dens_up]; exact h1, fun l hl => Lf.ok_up.2 (h2 l hl), h3, h4⟩
  · obtain ⟨h1, h2, h3⟩ := h.clo i e hi
    refine ⟨?_, fun s hs => S0.ok_up.2 (h2 s hs), fun l hl => Lf.ok_up.2 (h3 l hl)⟩
    rw [List.map_congr_left fun s _ => S0.den_up Γ u s, List.map_congr_left fun l _ => Lf.den_up Γ u l]
    exact h1
theorem VC_congr {cx cx' : Cx} (hP : cx.P = cx'.P) (hct : cx.ct = cx'.ct) {R : List C → Prop} : ∀ {T : Tree} {ρ : List C} {Ls : List (List C → Prop)}, VC cx R T ρ Ls → VC cx' R T ρ Ls
  | .ret l, ρ, Ls, h => h
  | .split b t e, ρ, Ls, h => ⟨fun hb => VC_congr hP hct (h.1 hb), fun hb => VC_congr hP hct (h.2 hb)⟩
  | .ob b t, ρ, Ls, h => ⟨h.1, VC_congr hP hct h.2⟩
  | .call f args t, ρ, Ls, h => by
    simp only [VC] at h ⊢
    rw [← hct, ← hP]
    cases hc : cx.ct f with
    | none => rw [hc] at h; exact h.elim
    | some ct =>
      rw [hc] at h
      exact ⟨h.1, allC_mono h.2 fun rs hr hp => VC_congr hP hct (hr hp)⟩
  | .loop ks init t, ρ, Ls, h => by
    obtain ⟨I, μ, h0, h1⟩ := h
    refine ⟨I, μ, h0, ?_⟩
    rw [← hP]
    exact allC_mono h1 fun xs hx hi => VC_congr hP hct (hx hi)
  | .arr rows t, ρ, Ls, h => fun v => VC_congr hP hct (h v)
  | .dfn e t, ρ, Ls, h => VC_congr hP hct (T := t) h
  | .mk n row t, ρ, Ls, h => fun v => VC_congr hP hct (h v)
  | .cat a b t, ρ, Ls, h => fun v => VC_congr hP hct (h v)
  | .upd a x o l t, ρ, Ls, h => fun v => VC_congr hP hct (h v)
  | .both a b, ρ, Ls, h => ⟨VC_congr hP hct h.1, VC_congr hP hct h.2⟩
  | .join ks ws t, ρ, Ls, h => by
    obtain ⟨I, h0, h1⟩ := h
    refine ⟨I, VC_congr hP hct h0, ?_⟩
    rw [← hP]
    exact allC_mono h1 fun xs hx hi => VC_congr hP hct (hx hi)
  | .fail _ _, _, _, h => h
  | .back lvl vals, ρ, Ls, h => h
theorem hand_ok {cx cx' : Cx} (hcx : CxOK cx) {fns : Nat → Option Func} (hP : cx'.P = cx.P) (hct : cx'.ct = cx.ct) (hH : cx'.H = hand cx fns) (hf : ∀ f fn, fns f = some fn → cx.P.funcs[f]? = some fn ∧ Callable cx.P f) : HOK cx' := by
  intro f args st k T h
  rw [hH] at h
  rw [hP]
  unfold hand at h
  split at h
  · rename_i fn hfn
    obtain ⟨hfn1, hfn2⟩ := hf f fn hfn
    split at h
    · rename_i c hbody
      split at h
      · rename_i hle
        refine ⟨hfn2, fun R F w0 Γ Ls a w K hl hv hs hwf hargs hok hk => ?_⟩
        have hv := VC_congr hP hct hv
        have hlenA : (args.map (S0.den Γ)).toArray.size = args.length := by simp
        refine calls_of_wp hfn1 hbody ?_
        let ae : Act := { tmps := (args.map (S0.den Γ)).toArray ++ Array.replicate (fn.ntmps - (args.map (S0.den Γ)).toArray.size) undef, defers := [] }
        have hse : Sat cx.P F w0 { Γ with up := ⟨slotV Γ a, []⟩ } (enterSt fn args st) ae w := by
          refine hs.frame (by simp [ae]; omega) rfl fun t sv ht => ?_
          rcases look_enter _ _ _ _ _ ht with ⟨j, s, rfl, hj, rfl⟩ | ht
          · have hjl : j < args.length := by
              rcases Nat.lt_or_ge j args.length with h' | h'
              · exact h'
              · rw [List.getElem?_eq_none h'] at hj; cases hj
            refine ⟨?_, hok s (List.mem_of_getElem? hj)⟩
            unfold slotV
            rw [if_pos (by omega)]
            simp only [ae, Nat.zero_add, Array.getD_eq_getD_getElem?]
            rw [Array.getElem?_append_left (by simpa using hjl)]
            simp [hj, SV.den]
          · rw [look_shift] at ht
            split at ht
            · rename_i hge
              obtain ⟨g1, g2⟩ := hs.slots _ _ ht
              refine ⟨?_, g2⟩
              unfold slotV
              rw [if_neg (by omega)]
              dsimp only
              exact g1
            · cases ht
        have hlv : Ls.length = (enterSt fn args st).lvl := hl
        generalize enterSt fn args st = ste at *
        refine wpR_none.1 (exec_sound (R := R) (F := F) (w0 := w0) hcx c ste _ T h { Γ with up := ⟨slotV Γ a, []⟩ } Ls _ ?_ hlv hv ae w hse)
        intro x st' T' Γ' Ls' hk' he hl' hlen' hv' a' w' hs'
        have fin : (match retAll cx.P st' fn.results.toList with | some l => k l (leaveSt st st') | none => some (.fail 80001 [f, st'.path])) = some T' → a'.defers = [] ∧ ∃ v, (results fn a'.tmps).run cx.P w' = .ok v w' ∧ ∃ v', Ending.returned v = .returned v' ∧ K v' w' := by
          intro hend
          split at hend
          · rename_i l hl2
            obtain ⟨r1, r2⟩ := run_results hs' hl2
            refine ⟨hs'.defers.trans (by rw [he.up]), _, r1, _, rfl, ?_⟩
            have hleave : Sat cx.P F w0 { Γ' with up := Γ.up } (leaveSt st st') a w' := by
              refine hs'.frame hs.size hs.defers fun t sv ht => ?_
              rw [look_leave] at ht
              obtain ⟨g1, g2⟩ := hs'.slots _ _ ht
              refine ⟨?_, g2⟩
              rw [← g1]
              unfold slotV
              rw [if_neg (show ¬ t + 1000 < 1000 by omega), Nat.add_sub_cancel, he.up]
              rfl
            have := hk l (leaveSt st st') T' { Γ' with up := Γ.up } Ls' hend ⟨he.ρ, he.blk, he.nb, he.base, rfl⟩ hl' hlen' (VC_congr hP.symm hct.symm hv') w' hleave (fun s hs2 => S0.ok_up.2 (r2 s hs2))
            rw [List.map_congr_left fun s _ => S0.den_up Γ' Γ.up s] at this
            have hval : ∀ L : List Value, valOf L = (match L with | [x] => x | _ => .tuple L.toArray) := fun L => by
              match L with
              | [] => rfl
              | [x] => rfl
              | x :: y :: l => rfl
            rw [hval] at this
            exact this
          · cases hend; exact hv'.elim
        cases x with
        | nrm => exact fin hk'
        | ret => exact fin hk'
        | ext i => cases hk'
      · cases h
    · cases h
  · cases h
/-- So deep functions are carried out in place. -/
def Cx.deep (fns : Nat → Option Func) (cx : Cx) : Nat → Cx
  | 0 => { cx with H := fun _ _ _ _ => none }
  | n + 1 => { cx with H := hand (Cx.deep fns cx n) fns }
theorem Cx.deep_same (fns : Nat → Option Func) (cx : Cx) : ∀ n, (Cx.deep fns cx n).P = cx.P ∧ (Cx.deep fns cx n).ct = cx.ct ∧ (Cx.deep fns cx n).inl = cx.inl ∧ (Cx.deep fns cx n).sel = cx.sel
  | 0 => ⟨rfl, rfl, rfl, rfl⟩
  | _ + 1 => ⟨rfl, rfl, rfl, rfl⟩
theorem Cx.deep_ok {fns : Nat → Option Func} {cx : Cx} (hct : ∀ f ct, cx.ct f = some ct → Callable cx.P f ∧ CtOK cx.P f ct ∧ (ct.det = true → ∀ cs rs rs', ct.post cs rs → ct.post cs rs' → rs = rs')) (hm : cx.P.follows .mixedOrders = true) (hi : ∀ f g, cx.inl f = some g → Callable cx.P f ∧ InlOK cx.P f g) (hs : ∀ f g, cx.sel f = some g → Callable cx.P f ∧ SelOK cx.P f g)
    (hf : ∀ f fn, fns f = some fn → cx.P.funcs[f]? = some fn ∧ Callable cx.P f) : ∀ n, CxOK (Cx.deep fns cx n)
  | 0 => ⟨hct, hm, hi, hs, fun f args st k T h => by cases h⟩
  | n + 1 => ⟨hct, hm, hi, hs, by
      obtain ⟨h1, h2, -⟩ := Cx.deep_same fns cx n
      exact hand_ok (Cx.deep_ok hct hm hi hs hf n) (h1.symm) (h2.symm) rfl (by rw [h1]; exact hf)⟩
end Go.Proofs.Ytcglpbchejkolaa
/- The engine's last part: tables of contracts. -/
namespace Go.Proofs.Ytcglpbchejkolaa
open Go.RowKit
set_option linter.unusedSimpArgs false
set_option linter.unusedVariables false

/-- A contract whose result is a function of the arguments. -/
def ctF (args res : List Sh0) (pre : List C → Prop) (g : List C → List C) : Ct := ⟨args, res, pre, fun cs rs => rs = g cs, true⟩
/-- A statement: it returns true. -/
def ctLaw (args : List Sh0) : Ct := ⟨args, [.lf .bool], fun _ => True, fun _ rs => rs = [.b true], false⟩
theorem ctF_det {args res : List Sh0} {pre : List C → Prop} {g : List C → List C} : (ctF args res pre g).det = true → ∀ cs rs rs', (ctF args res pre g).post cs rs → (ctF args res pre g).post cs rs' → rs = rs' :=
  fun _ _ _ _ h h' => h.trans h'.symm
/-- What the program's tables hold of a function. -/
structure Tab where
  ct : Nat → Option Ct
  inl : Nat → Option Inl
  sel : Nat → Option Sel := fun _ => none
/-- Functions that are carried out in place. -/
def fnsOf : List (Nat × Func) → Nat → Option Func
  | [], _ => none
  | (k, fn) :: l, f => if k = f then some fn else fnsOf l f
def FnOK (p : Nat × Func) : Prop := Try.prog.funcs[p.1]? = some p.2 ∧ Callable Try.prog p.1
noncomputable def Tab.only (t : Tab) (l : List Nat) (hv : Nat → List Pl) (fns : List (Nat × Func) := []) (n : Nat := 0) (wr : List Nat := []) (jn : Nat → Option (List (Nat × Bool × List Lk) × List Pl) := fun _ => none) : Cx :=
  Cx.deep (fnsOf fns) { P := Try.prog, ct := fun f => if l.contains f then t.ct f else none, inl := fun f => if l.contains f then t.inl f else none, sel := fun f => if l.contains f then t.sel f else none, hv := hv, H := fun _ _ _ _ => none, wr := wr, jn := jn } n
/-- What is shown of one function of a table. -/
def Tab.ok (t : Tab) (f : Nat) : Prop := Callable Try.prog f ∧ (∀ ct, t.ct f = some ct → CtOK Try.prog f ct ∧ (ct.det = true → ∀ cs rs rs', ct.post cs rs → ct.post cs rs' → rs = rs')) ∧ (∀ g, t.inl f = some g → InlOK Try.prog f g) ∧ ∀ g, t.sel f = some g → SelOK Try.prog f g
theorem mixedOrders : Try.prog.follows .mixedOrders = true := by kernel_rfl
theorem fns_nil : ∀ p ∈ ([] : List (Nat × Func)), FnOK p := fun p hp => by cases hp
theorem fns_cons {p : Nat × Func} {l : List (Nat × Func)} (h : FnOK p) (h' : ∀ q ∈ l, FnOK q) : ∀ q ∈ p :: l, FnOK q := fun q hq => by
  rcases List.mem_cons.1 hq with rfl | hq
  · exact h
  · exact h' q hq
theorem fnsOf_ok : ∀ {l : List (Nat × Func)}, (∀ p ∈ l, FnOK p) → ∀ f fn, fnsOf l f = some fn → Try.prog.funcs[f]? = some fn ∧ Callable Try.prog f
  | [], _, f, fn, h => by cases h
  | (k, g) :: l, hl, f, fn, h => by
    simp only [fnsOf] at h
    split at h
    · rename_i e; subst e; cases h; exact hl (k, g) (by simp)
    · exact fnsOf_ok (fun p hp => hl p (by simp [hp])) f fn h
set_option maxRecDepth 100000 in
theorem Tab.cx_ok {t : Tab} {l : List Nat} {hv : Nat → List Pl} {fns : List (Nat × Func)} {n : Nat} {wr : List Nat} {jn : Nat → Option (List (Nat × Bool × List Lk) × List Pl)} (h : ∀ f ∈ l, t.ok f) (hf : ∀ p ∈ fns, FnOK p := by exact fns_nil) : CxOK (t.only l hv fns n wr jn) := by
  refine Cx.deep_ok (fun f ct hf => ?_) mixedOrders (fun f g hf => ?_) (fun f g hf => ?_) (fnsOf_ok hf) n
  · simp only [] at hf
    split at hf
    · rename_i hc
      obtain ⟨h1, h2, h3⟩ := h f (by simpa using hc)
      exact ⟨h1, h2 ct hf⟩
    · cases hf
  · simp only [] at hf
    split at hf
    · rename_i hc
      obtain ⟨h1, h2, h3, h4⟩ := h f (by simpa using hc)
      exact ⟨h1, h3 g hf⟩
    · cases hf
  · simp only [] at hf
    split at hf
    · rename_i hc
      obtain ⟨h1, h2, h3, h4⟩ := h f (by simpa using hc)
      exact ⟨h1, h4 g hf⟩
    · cases hf
theorem Tab.of_ct {t : Tab} {f : Nat} {ct : Ct} (h1 : t.ct f = some ct) (h2 : t.inl f = none) (hc : Callable Try.prog f) (hok : CtOK Try.prog f ct) (hdet : ct.det = true → ∀ cs rs rs', ct.post cs rs → ct.post cs rs' → rs = rs') (h3 : t.sel f = none := by rfl) : t.ok f :=
  ⟨hc, fun c h => (by rw [h1] at h; cases h; exact ⟨hok, hdet⟩), fun g h => (by rw [h2] at h; cases h), fun g h => (by rw [h3] at h; cases h)⟩
theorem Tab.of_inl {t : Tab} {f : Nat} {g : Inl} (h1 : t.ct f = none) (h2 : t.inl f = some g) (hc : Callable Try.prog f) (hok : InlOK Try.prog f g) (h3 : t.sel f = none := by rfl) : t.ok f :=
  ⟨hc, fun c h => (by rw [h1] at h; cases h), fun g' h => (by rw [h2] at h; cases h; exact hok), fun g h => (by rw [h3] at h; cases h)⟩
theorem all_nil {p : Nat → Prop} : ∀ f ∈ ([] : List Nat), p f := fun f h => by cases h
theorem all_cons {p : Nat → Prop} {a : Nat} {l : List Nat} (h : p a) (h' : ∀ f ∈ l, p f) : ∀ f ∈ a :: l, p f := fun f hf => by
  rcases List.mem_cons.1 hf with rfl | hf
  · exact h
  · exact h' f hf

/-! A function written out in place, out of its contract -/
theorem LReps.plain {P : Program} {w : World} {O : Nat → Nat → Prop} {Γ : Env} : ∀ {ls : List Lf} {ks : List Lk} {us : List Value}, kindsL ls = some ks → ls.all Lf.plain = true → LReps P w O ks us (cs_ Γ.ρ ls) → us = ls.map (Lf.den Γ)
  | [], ks, us, hk, _, h => by simp [kindsL] at hk; subst hk; cases us with | nil => rfl | cons u us => exact h.elim
  | l :: ls, ks, us, hk, hp, h => by
    simp only [kindsL] at hk
    split at hk
    · rename_i k ks' h1 h2
      cases hk
      simp only [List.all_cons, Bool.and_eq_true] at hp
      cases us with
      | nil => exact h.elim
      | cons u us =>
        obtain ⟨h3, h4⟩ := h
        rw [LReps.plain h2 hp.2 h4]
        have : u = l.den Γ := by
          cases l with
          | int e => cases h1; obtain ⟨n, rfl, hn⟩ := h3.2; cases hn; rfl
          | bool e => cases h1; obtain ⟨n, rfl, hn⟩ := h3.2; cases hn; rfl
          | _ => cases hp.1
        rw [this]; rfl
    · cases hk
theorem Rep0.plain {P : Program} {w : World} {O : Nat → Nat → Prop} {old : Option Nat} {Γ : Env} {s : S0} {sh : Sh0} {v : Value} (hs : s.shape = some sh) (hp : s.plain = true) (h : Rep0 P w O old sh v (cs_ Γ.ρ s.cells)) : v = s.den Γ := by
  cases s with
  | lf l =>
    simp only [S0.shape, Option.map_eq_some_iff] at hs
    obtain ⟨k, hk, rfl⟩ := hs
    obtain ⟨c, hc, hr⟩ := h
    have := LReps.plain (P := P) (w := w) (O := O) (Γ := Γ) (ls := [l]) (ks := [k]) (us := [v]) (by simp [kindsL, hk]) hp (by
      have e : cs_ Γ.ρ (S0.lf l).cells = [c] := hc
      show LReps P w O [k] [v] (cs_ Γ.ρ (S0.lf l).cells)
      rw [e]; exact ⟨hr, trivial⟩)
    simpa [S0.den] using this
  | agg ls =>
    simp only [S0.shape, Option.map_eq_some_iff] at hs
    obtain ⟨k, hk, rfl⟩ := hs
    obtain ⟨us, rfl, hr⟩ := h
    rw [LReps.plain hk hp hr]
    rfl
theorem shapes_nil_noBox : ∀ {args : List S0} {ss : List Sh0}, shapes [] args = some ss → ss.all (fun s => !s.isBox) = true
  | [], ss, h => by simp [shapes] at h; subst h; rfl
  | s :: args, ss, h => by
    simp only [shapes] at h
    split at h
    · rename_i sh hss h1 h2
      cases h
      simp only [List.all_cons, Bool.and_eq_true]
      refine ⟨?_, shapes_nil_noBox h2⟩
      unfold S0.shapeM at h1
      split at h1
      · cases h1
      · cases s with
        | lf l => simp only [S0.shape, Option.map_eq_some_iff] at h1; obtain ⟨k, -, rfl⟩ := h1; rfl
        | agg l => simp only [S0.shape, Option.map_eq_some_iff] at h1; obtain ⟨k, -, rfl⟩ := h1; rfl
    · cases h
theorem Keeps.noBox {ss : List Sh0} {vs : List Value} {w w' : World} (hn : ss.all (fun s => !s.isBox) = true) (h : Keeps (fun i => i < w.heap.size ∧ ¬ IsBox ss vs i) w w') : Below w.heap.size w w' :=
  ⟨h.os, h.tape, h.output, h.size, fun i hi => h.block i ⟨hi, isBox_noBox hn⟩⟩
theorem Inl.of_ct {f : Nat} {g : Inl} {args : List Sh0} {r : Sh0} {pre : List C → Prop} {fn : List C → List C} (hf : CtOK Try.prog f (ctF args [r] pre fn))
    (h : ∀ bd ρ l obs s, g bd l = some (obs, s) → Num bd ρ → Obs ρ obs → shapes [] l = some args ∧ l.all S0.plain = true ∧ Obs ρ (rngL bd (cellsOf [] l)) ∧ pre (cs_ ρ (cellsOf [] l)) ∧ s.plain = true ∧ s.shape = some r ∧ fn (cs_ ρ (cellsOf [] l)) = cs_ ρ s.cells) : InlOK Try.prog f g := by
  intro Γ bd l obs s hn hg ho
  obtain ⟨h1, h2, h3, h4, h5, h6, h7⟩ := h bd Γ.ρ l obs s hg hn ho
  refine ⟨h5, fun w => ?_⟩
  have hno := shapes_nil_noBox h1
  have hreps := cells_rep (P := Try.prog) (w := w) (O := fun _ _ => False) (Γ := Γ) (old := none) hn h1 (fun s hs l hl => by
    have := List.all_eq_true.1 (List.all_eq_true.1 h2 s hs) l hl
    cases l <;> first | trivial | cases this) (fun b mb _ hb => by cases hb) h3
  refine (hf (fun _ _ => False) w _ _ (fun b o hb => hb.elim) hreps h4).mono ?_
  rintro e w' ⟨v, rs, outs, rfl, ⟨vs, rfl, hr, -⟩, hout, hpost, hb⟩
  refine ⟨?_, hb.noBox hno⟩
  have ho := outs_noBox hno hout
  subst ho
  have hrs : rs = cs_ Γ.ρ s.cells := by have := hpost.trans h7; rwa [List.append_nil] at this
  subst hrs
  match vs, hr with
  | [v], hr =>
    obtain ⟨c1, c2, hc, hr1, hr2⟩ := hr
    cases hr2
    rw [List.append_nil] at hc
    subst hc
    rw [Rep0.plain h6 h5 hr1]

/-! A statement's call -/
theorem law_walk {f : Nat} {ss : List Sh0} (h : CtOK Try.prog f (ctLaw ss)) (hno : ss.all (fun s => !s.isBox) = true) {W : World} {vs : List Value} {cs : List C} (hr : Reps Try.prog W (fun _ _ => False) none ss vs cs) :
    Calls Try.prog f vs.toArray W fun e w' => e = .returned (.bool true) ∧ Below W.heap.size W w' := by
  refine (h (fun _ _ => False) W vs cs (fun _ _ hb => hb.elim) hr trivial).mono ?_
  rintro e w' ⟨v, rs, outs, rfl, ⟨us, rfl, hres, -⟩, hout, hpost, hb⟩
  refine ⟨?_, hb.noBox hno⟩
  have ho := outs_noBox hno hout
  subst ho
  have hrs : rs = [.b true] := by have : rs ++ [] = [.b true] := hpost; rwa [List.append_nil] at this
  subst hrs
  match us, hres with
  | [v], hres =>
    obtain ⟨c1, c2, hc, ⟨c, rfl, hr1⟩, hr2⟩ := hres
    cases hr2
    cases hc
    obtain ⟨t, rfl, ht⟩ := hr1.2
    cases ht
    rfl
/-! Reading a tree -/
theorem den_cmp_le (ρ : List C) (a b : E) : ((B.cmp .le a b).den ρ = true) = (a.den ρ ≤ b.den ρ) := by simp [B.den, Cmp.den]
theorem den_cmp_lt (ρ : List C) (a b : E) : ((B.cmp .lt a b).den ρ = true) = (a.den ρ < b.den ρ) := by simp [B.den, Cmp.den]
theorem den_cmp_eq (ρ : List C) (a b : E) : ((B.cmp .eq a b).den ρ = true) = (a.den ρ = b.den ρ) := by simp [B.den, Cmp.den]
theorem den_cmp_ne (ρ : List C) (a b : E) : ((B.cmp .ne a b).den ρ = true) = (a.den ρ ≠ b.den ρ) := by simp [B.den, Cmp.den]
theorem den_cmp_le' (ρ : List C) (a b : E) : ((B.cmp .le a b).den ρ = false) = (b.den ρ < a.den ρ) := by simp [B.den, Cmp.den]
theorem den_cmp_lt' (ρ : List C) (a b : E) : ((B.cmp .lt a b).den ρ = false) = (b.den ρ ≤ a.den ρ) := by simp [B.den, Cmp.den]
theorem den_cmp_eq' (ρ : List C) (a b : E) : ((B.cmp .eq a b).den ρ = false) = (a.den ρ ≠ b.den ρ) := by simp [B.den, Cmp.den]
theorem den_cmp_ne' (ρ : List C) (a b : E) : ((B.cmp .ne a b).den ρ = false) = (a.den ρ = b.den ρ) := by simp [B.den, Cmp.den]
theorem den_and (ρ : List C) (a b : B) : ((B.and a b).den ρ = true) = (a.den ρ = true ∧ b.den ρ = true) := by simp [B.den]
theorem den_and' (ρ : List C) (a b : B) : ((B.and a b).den ρ = false) = (a.den ρ = true → b.den ρ = false) := by
  simp only [B.den]; cases a.den ρ <;> cases b.den ρ <;> simp
theorem den_or (ρ : List C) (a b : B) : ((B.or a b).den ρ = true) = (a.den ρ = true ∨ b.den ρ = true) := by simp [B.den]
theorem den_or' (ρ : List C) (a b : B) : ((B.or a b).den ρ = false) = (a.den ρ = false ∧ b.den ρ = false) := by simp [B.den]
theorem den_not (ρ : List C) (a : B) : ((B.not a).den ρ = true) = (a.den ρ = false) := by simp [B.den]
theorem den_not' (ρ : List C) (a : B) : ((B.not a).den ρ = false) = (a.den ρ = true) := by simp [B.den]
theorem den_blit (ρ : List C) (t : Bool) : (B.lit t).den ρ = t := rfl
theorem den_of (ρ : List C) (e : E) : (B.of e).den ρ = (e.ev ρ).bool := rfl
theorem ev_var (ρ : List C) (i : Nat) : (E.var i).ev ρ = at_ ρ i := rfl
theorem at_0 (a : C) (l : List C) : at_ (a :: l) 0 = a := rfl
theorem at_1 (a b : C) (l : List C) : at_ (a :: b :: l) 1 = b := rfl
theorem at_2 (a b c : C) (l : List C) : at_ (a :: b :: c :: l) 2 = c := rfl
theorem at_3 (a b c d : C) (l : List C) : at_ (a :: b :: c :: d :: l) 3 = d := rfl
theorem at_4 (a b c d e : C) (l : List C) : at_ (a :: b :: c :: d :: e :: l) 4 = e := rfl
theorem at_5 (a b c d e f : C) (l : List C) : at_ (a :: b :: c :: d :: e :: f :: l) 5 = f := rfl
theorem at_6 (a b c d e f g : C) (l : List C) : at_ (a :: b :: c :: d :: e :: f :: g :: l) 6 = g := rfl
theorem at_7 (a b c d e f g h : C) (l : List C) : at_ (a :: b :: c :: d :: e :: f :: g :: h :: l) 7 = h := rfl
theorem at_skip (a b c d e f g h : C) (l : List C) (i : Nat) : at_ (a :: b :: c :: d :: e :: f :: g :: h :: l) (i + 8) = at_ l i := rfl
theorem c_int (ρ : List C) (e : E) : (Lf.int e).c ρ = .i (e.den ρ) := rfl
theorem c_bool (ρ : List C) (b : B) : (Lf.bool b).c ρ = .b (b.den ρ) := rfl
theorem c_arr (ρ : List C) (t : TypeId) (e : E) : (Lf.arr t e).c ρ = e.ev ρ := rfl
theorem c_cnt (ρ : List C) (t : TypeId) (e : E) : (Lf.cnt t e).c ρ = e.ev ρ := rfl
theorem c_vec (ρ : List C) (t : TypeId) (i : Nat) : (Lf.vec t i).c ρ = at_ ρ i := rfl
theorem ev_nil (ρ : List C) : E.nil.ev ρ = .s (.slice none 0 0) [] := rfl
theorem ev_join (ρ : List C) (l r : E) : (E.join l r).ev ρ = .s (l.ev ρ).loc (r.ev ρ).rows := rfl
theorem ev_sub3 (ρ : List C) (a lo hi : E) (sz : Nat) : (E.sub3 a lo hi sz).ev ρ = .s (partLoc (a.ev ρ).loc (lo.den ρ).toNat (hi.den ρ).toNat sz) (((a.ev ρ).rows.take (hi.den ρ).toNat).drop (lo.den ρ).toNat) := rfl
theorem ev_cell (ρ : List C) (a x : E) (o : Nat) : (E.cell a x o).ev ρ = (a.ev ρ).at (x.den ρ).toNat o := rfl
theorem loc_s (v : Value) (r : List (List C)) : (C.s v r).loc = v := rfl
theorem int_i (n : Int) : (C.i n).int = n := rfl
theorem bool_b (t : Bool) : (C.b t).bool = t := rfl
theorem rows_s (v : Value) (r : List (List C)) : (C.s v r).rows = r := rfl
theorem cs_nil (ρ : List C) : cs_ ρ [] = [] := rfl
theorem cs_cons (ρ : List C) (l : Lf) (ls : List Lf) : cs_ ρ (l :: ls) = l.c ρ :: cs_ ρ ls := rfl
theorem kindsOf_nil : kindsOf [] = [] := rfl
theorem kindsOf_lf (k : Lk) (l : List Sh0) : kindsOf (.lf k :: l) = k :: kindsOf l := rfl
theorem kindsOf_box (t : TypeId) (ks : List Lk) (l : List Sh0) : kindsOf (.box t ks :: l) = ks ++ kindsOf l := rfl
theorem boxKinds_nil : boxKinds [] = [] := rfl
theorem boxKinds_lf (k : Lk) (l : List Sh0) : boxKinds (.lf k :: l) = boxKinds l := rfl
theorem boxKinds_agg (k : List Lk) (l : List Sh0) : boxKinds (.agg k :: l) = boxKinds l := rfl
theorem boxKinds_box (t : TypeId) (k : List Lk) (l : List Sh0) : boxKinds (.box t k :: l) = k ++ boxKinds l := rfl
theorem kindsOf_agg (ks : List Lk) (l : List Sh0) : kindsOf (.agg ks :: l) = ks ++ kindsOf l := rfl
theorem bds_nil (ρ : List C) : Bds.ok [] ρ := fun x lo hi h => by cases h
theorem cell_at (v : Value) (rows : List (List C)) (i o : Nat) : (C.s v rows).at i o = (rows.getD i []).getD o (.i 0) := rfl
end Go.Proofs.Ytcglpbchejkolaa
/- Maps with numbers as keys: what a block holds, looked up, written, ranged over. -/
namespace Go.Proofs.Ytcglpbchejkolaa
open Go.RowKit
open Go.ChangeMaps (setBlock heap_setBlock_same heap_setBlock_other)
set_option linter.unusedSimpArgs false
set_option linter.unusedVariables false

abbrev Prs := List (Int × Value)
def valAt : Prs → Int → Value → Value
  | [], _, z => z
  | (j, v) :: l, k, z => if j = k then v else valAt l k z
def putG : Prs → Int → Value → Prs
  | [], k, v => [(k, v)]
  | (j, u) :: l, k, v => if j = k then (k, v) :: l else (j, u) :: putG l k v
theorem valAt_none {k : Int} {z : Value} : ∀ {G : Prs}, (∀ g ∈ G, g.1 ≠ k) → valAt G k z = z
  | [], _ => rfl
  | (j, v) :: l, h => by
    simp only [valAt, if_neg (h (j, v) (by simp))]
    exact valAt_none fun g hg => h g (by simp [hg])
theorem valAt_some {k : Int} {v z : Value} : ∀ {G : Prs}, (G.map (·.1)).Nodup → (k, v) ∈ G → valAt G k z = v
  | [], _, h => by cases h
  | (j, u) :: l, hn, h => by
    simp only [List.map_cons, List.nodup_cons] at hn
    rcases List.mem_cons.1 h with h | h
    · cases h; simp [valAt]
    · have : j ≠ k := fun e => hn.1 (e ▸ List.mem_map_of_mem (f := (·.1)) h)
      simp only [valAt, if_neg this]
      exact valAt_some hn.2 h
theorem putG_none {k : Int} {v : Value} : ∀ {G : Prs}, (∀ g ∈ G, g.1 ≠ k) → putG G k v = G ++ [(k, v)]
  | [], _ => rfl
  | (j, u) :: l, h => by
    simp only [putG, if_neg (h (j, u) (by simp)), List.cons_append]
    rw [putG_none fun g hg => h g (by simp [hg])]
theorem putG_set {k : Int} {v : Value} : ∀ {G : Prs}, (G.map (·.1)).Nodup → ∀ {i : Nat} {u : Value}, G[i]? = some (k, u) → putG G k v = G.set i (k, v)
  | [], _, i, u, h => by simp at h
  | (j, w) :: l, hn, 0, u, h => by simp at h; obtain ⟨rfl, rfl⟩ := h; simp [putG]
  | (j, w) :: l, hn, i + 1, u, h => by
    simp only [List.map_cons, List.nodup_cons] at hn
    have h : l[i]? = some (k, u) := by simpa using h
    have : j ≠ k := fun e => hn.1 (e ▸ List.mem_map_of_mem (f := (·.1)) (List.mem_of_getElem? h))
    simp only [putG, if_neg this, List.set_cons_succ]
    rw [putG_set hn.2 h]
def PairsOf (es : Array MapEntry) (G : Prs) : Prop := es.toList.map (fun x => (x.key, x.val)) = G.map fun g => (Value.int .i64 g.1, g.2)
/-- A map's block, by its entries. -/
def MapAt (w : World) (b : Nat) (G : Prs) : Prop := ∃ es clock, w.heap[b]? = some (.map es clock) ∧ es.size ≤ maxLen ∧ MapKept.Stamped es clock ∧ PairsOf es G
theorem PairsOf.nodup {es : Array MapEntry} {G : Prs} {clock : Nat} (h : PairsOf es G) (hs : MapKept.Stamped es clock) : (G.map (·.1)).Nodup := by
  have h1 : es.toList.map (·.key) = G.map fun g => Value.int .i64 g.1 := by
    have := congrArg (List.map Prod.fst) h
    simpa [List.map_map, Function.comp_def] using this
  have h2 := hs.2.2
  rw [h1] at h2
  have e : (G.map fun g => Value.int .i64 g.1) = (G.map (·.1)).map (Value.int .i64) := by simp [List.map_map, Function.comp_def]
  rw [e] at h2
  exact (List.pairwise_map.1 h2).imp fun h e => h (by rw [e])
theorem PairsOf.at {es : Array MapEntry} {G : Prs} (h : PairsOf es G) {j : Nat} {x : MapEntry} (hx : es.toList[j]? = some x) : ∃ g, G[j]? = some g ∧ x.key = .int .i64 g.1 ∧ x.val = g.2 := by
  have := congrArg (fun l => l[j]?) h
  simp only [List.getElem?_map, hx, Option.map_some] at this
  cases hg : G[j]? with
  | none => rw [hg] at this; cases this
  | some g => rw [hg] at this; simp only [Option.map_some, Option.some.injEq, Prod.mk.injEq] at this; exact ⟨g, rfl, this.1, this.2⟩
theorem PairsOf.of {es : Array MapEntry} {G : Prs} (h : PairsOf es G) {j : Nat} {g : Int × Value} (hg : G[j]? = some g) : ∃ x, es.toList[j]? = some x ∧ x.key = .int .i64 g.1 ∧ x.val = g.2 := by
  have := congrArg (fun l => l[j]?) h
  simp only [List.getElem?_map, hg, Option.map_some] at this
  cases hx : es.toList[j]? with
  | none => rw [hx] at this; cases this
  | some x => rw [hx] at this; simp only [Option.map_some, Option.some.injEq, Prod.mk.injEq] at this; exact ⟨x, rfl, this.1, this.2⟩
theorem PairsOf.key {es : Array MapEntry} {G : Prs} (h : PairsOf es G) {x : MapEntry} (hx : x ∈ es.toList) : ∃ g ∈ G, x.key = .int .i64 g.1 ∧ x.val = g.2 := by
  obtain ⟨j, hj, e⟩ := List.getElem_of_mem hx
  obtain ⟨g, hg, h1, h2⟩ := h.at (show es.toList[j]? = some x by rw [List.getElem?_eq_getElem hj, e])
  exact ⟨g, List.mem_of_getElem? hg, h1, h2⟩
section
variable {P : Program} {t k e : TypeId} (ht : P.underlying t = some (.map k e)) (hk : P.underlying k = some (.int .i64)) {w : World} {b : Nat} {G : Prs}
theorem lit_wf {n : Int} (h : -9223372036854775808 ≤ n ∧ n ≤ 9223372036854775807) : (Lit.int .i64 n).wf = true := by
  have e1 : IntKind.i64.min = -9223372036854775808 := rfl
  have e2 : IntKind.i64.max = 9223372036854775807 := rfl
  simp [Lit.wf, e1, e2]
  omega
theorem MapAt.lt (h : MapAt w b G) : b < w.heap.size := by obtain ⟨es, clock, hb, -⟩ := h; exact (Array.getElem?_eq_some_iff.1 hb).1
theorem MapAt.nodup (h : MapAt w b G) : (G.map (·.1)).Nodup := by obtain ⟨es, clock, -, -, hs, hp⟩ := h; exact hp.nodup hs
theorem MapAt.made (w : World) : MapAt (w.alloc (.map #[] 0)) w.heap.size [] := ⟨#[], 0, (MapKept.heap_alloc w _).1, by simp, MapKept.stamped_empty 0, rfl⟩
include ht hk
theorem MapAt.look (h : MapAt w b G) (hG : ∀ g ∈ G, -9223372036854775808 ≤ g.1 ∧ g.1 ≤ 9223372036854775807) {n : Int} (hn : -9223372036854775808 ≤ n ∧ n ≤ 9223372036854775807) {z : Value} (hz : (zeroValue e).run P w = .ok z w) : (Instr.lookup t (.map (some b)) (.int .i64 n) false).run P w = .ok (valAt G n z) w := by
  obtain ⟨es, clock, hb, hsz, hst, hp⟩ := h
  have K := Maps.int_keyed hk
  have hkey := Maps.keyOf_int_mk hk (lit_wf hn)
  rcases K.find w hkey es.toList (fun x hx => by
    obtain ⟨g, hg, h1, -⟩ := hp.key hx
    rw [h1]
    exact ⟨_, Maps.keyOf_int_mk hk (lit_wf (hG g hg))⟩) with ⟨h1, h2⟩ | ⟨j, e0, h1, h2, h3⟩
  · rw [valAt_none fun g hg hgn => ?_]
    · simp [Instr.lookup, run_underlying ht, MapKept.run_getObj_map hb, K.check w _ hkey, h1, hz, Result.andThen]
    · obtain ⟨j, hj, ej⟩ := List.getElem_of_mem hg
      obtain ⟨x, hx, hx1, -⟩ := hp.of (show G[j]? = some g by rw [List.getElem?_eq_getElem hj, ej])
      exact h2 x (List.mem_of_getElem? hx) (by rw [hx1, hgn])
  · obtain ⟨g, hg, hg1, hg2⟩ := hp.at h2
    rw [h3] at hg1
    cases hg1
    rw [valAt_some (hp.nodup hst) (show (g.1, e0.val) ∈ G by rw [hg2]; exact List.mem_of_getElem? hg)]
    simp [Instr.lookup, run_underlying ht, MapKept.run_getObj_map hb, K.check w _ hkey, h1, Result.andThen]
theorem MapAt.store (h : MapAt w b G) (hG : ∀ g ∈ G, -9223372036854775808 ≤ g.1 ∧ g.1 ≤ 9223372036854775807) (hroom : G.length < maxLen) {n : Int} (hn : -9223372036854775808 ≤ n ∧ n ≤ 9223372036854775807) (v : Value) :
    ∃ o, (Instr.mapUpdate t (.map (some b)) (.int .i64 n) v).run P w = .ok () (setBlock w b o) ∧ MapAt (setBlock w b o) b (putG G n v) ∧ ∀ i, i ≠ b → (setBlock w b o).heap[i]? = w.heap[i]? := by
  obtain ⟨es, clock, hb, hsz, hst, hp⟩ := h
  have K := Maps.int_keyed hk
  have hkey := Maps.keyOf_int_mk hk (lit_wf hn)
  have hlen : es.size = G.length := by have := congrArg List.length hp; simpa using this
  rcases K.find w hkey es.toList (fun x hx => by
    obtain ⟨g, hg, h1, -⟩ := hp.key hx
    rw [h1]
    exact ⟨_, Maps.keyOf_int_mk hk (lit_wf (hG g hg))⟩) with ⟨h1, h2⟩ | ⟨j, e0, h1, h2, h3⟩
  · refine ⟨.map (es.push ⟨.int .i64 n, v, clock⟩) (clock + 1), ?_, ⟨_, _, heap_setBlock_same hb _, by simp; omega, MapKept.stamped_push hst h2, ?_⟩, fun i hi => heap_setBlock_other hb _ hi⟩
    · simp [Instr.mapUpdate, run_underlying ht, MapKept.run_getObj_map hb, K.check w false hkey, h1, MapKept.run_setObj_map _ hb, Result.andThen, setBlock]
    · rw [putG_none fun g hg hgn => ?_]
      · unfold PairsOf at hp ⊢
        simp [hp]
      · obtain ⟨j, hj, ej⟩ := List.getElem_of_mem hg
        obtain ⟨x, hx, hx1, -⟩ := hp.of (show G[j]? = some g by rw [List.getElem?_eq_getElem hj, ej])
        exact h2 x (List.mem_of_getElem? hx) (by rw [hx1, hgn])
  · have hj : es[j]? = some e0 := by simpa using h2
    obtain ⟨g, hg, hg1, hg2⟩ := hp.at h2
    rw [h3] at hg1
    cases hg1
    refine ⟨.map (es.modify j (fun e' => { e' with key := .int .i64 g.1, val := v })) clock, ?_, ⟨_, _, heap_setBlock_same hb _, by simpa using hsz, MapKept.stamped_modify hst _ _ (fun _ _ => rfl) (fun e' _ he' => by rw [hj] at he'; cases he'; exact h3.symm), ?_⟩, fun i hi => heap_setBlock_other hb _ hi⟩
    · simp [Instr.mapUpdate, run_underlying ht, MapKept.run_getObj_map hb, K.check w false hkey, h1, hj, h3, K.stays w hkey, MapKept.run_setObj_map _ hb, Result.andThen, setBlock]
    · rw [putG_set (hp.nodup hst) (show G[j]? = some (g.1, g.2) from hg)]
      unfold PairsOf at hp ⊢
      have hlist : (es.modify j (fun e' => { e' with key := Value.int .i64 g.1, val := v })).toList = es.toList.set j { e0 with key := .int .i64 g.1, val := v } := by
        rw [Array.toList_modify]
        apply List.ext_getElem?
        intro i
        simp only [List.getElem?_modify, List.getElem?_set]
        by_cases hij : j = i
        · subst hij
          simp only [if_true, h2, Option.map_some]
          have : j < es.toList.length := (List.getElem?_eq_some_iff.1 h2).1
          rw [if_pos (by simpa using this)]
          rfl
        · simp [hij]
      rw [hlist, List.map_set, List.map_set, hp]
omit ht hk in
/-- An iterator over a map: which keys it has handed out. -/
def IterAt (w : World) (r b : Nat) (G : Prs) (seen : List Int) : Prop :=
  ∃ es clock since sn c0, w.heap[b]? = some (.map es clock) ∧ MapKept.Stamped es clock ∧ PairsOf es G ∧ w.heap[r]? = some (.mapIter (some b) since sn c0) ∧ (∀ x ∈ es.toList, x.born < since) ∧ since ≤ c0 ∧ since ≤ clock ∧ ∀ x ∈ es.toList, ∀ g ∈ G, x.key = .int .i64 g.1 → (sn.contains x.born = true ↔ g.1 ∈ seen)
end
section
variable {P : Program} {t k e : TypeId} {w : World} {b r : Nat} {G : Prs} {seen : List Int}
theorem IterAt.start (ht : P.underlying t = some (.map k e)) (h : MapAt w b G) : ∃ o, (Instr.range t (.map (some b))).run P w = .ok (.pointer (some ⟨w.heap.size, 0, none⟩)) (w.alloc o) ∧ IterAt (w.alloc o) w.heap.size b G [] := by
  obtain ⟨es, clock, hb, hsz, hst, hp⟩ := h
  have hlt : b < w.heap.size := (Array.getElem?_eq_some_iff.1 hb).1
  refine ⟨.mapIter (some b) clock #[] clock, run_range_map w t k e b es clock ht hb, es, clock, clock, #[], clock, (heap_alloc_old w _ hlt).trans hb, hst, hp, heap_alloc_new w _, hst.1, Nat.le_refl _, Nat.le_refl _, fun x hx g hg hxg => by simp⟩
/-- The next round: nothing is left, or some key comes that had not come. -/
theorem IterAt.next (ty : TypeId) (hbr : b ≠ r) (h : IterAt w r b G seen) :
    ((∀ g ∈ G, g.1 ∈ seen) ∧ (Instr.next (.pointer (some ⟨r, 0, none⟩)) false ty).run P w = .ok (.tuple #[.bool false]) w) ∨
    ∃ g ∈ G, g.1 ∉ seen ∧ ∃ w', (Instr.next (.pointer (some ⟨r, 0, none⟩)) false ty).run P w = .ok (.tuple #[.bool true, .int .i64 g.1, g.2]) w' ∧ IterAt w' r b G (g.1 :: seen) ∧
      w'.heap.size = w.heap.size ∧ (∀ i, i ≠ r → w'.heap[i]? = w.heap[i]?) ∧ w'.os = w.os ∧ w'.tape = w.tape ∧ w'.output = w.output ∧
      ∀ u, u.heap[b]? = w'.heap[b]? → u.heap[r]? = w'.heap[r]? → (Instr.entry (.pointer (some ⟨r, 0, none⟩))).run P u = .ok (.tuple #[.int .i64 g.1, g.2]) u := by
  obtain ⟨es, clock, since, sn, c0, hb, hst, hp, hr, hold, hsc, hcl, hseen⟩ := h
  rcases run_next_at (P := P) w ty r b since c0 sn es clock hr hb hold hsc with ⟨h0, hrun⟩ | ⟨x, hx, w1, hw1, hrun⟩
  · refine .inl ⟨fun g hg => ?_, hrun⟩
    obtain ⟨j, hj, ej⟩ := List.getElem_of_mem hg
    obtain ⟨x, hx, hx1, -⟩ := hp.of (show G[j]? = some g by rw [List.getElem?_eq_getElem hj, ej])
    have hxm := List.mem_of_getElem? hx
    exact (hseen x hxm g hg hx1).1 (all_seen es sn h0 x hxm)
  · obtain ⟨hxm, hxs⟩ := mem_left hx
    obtain ⟨g, hg, hg1, hg2⟩ := hp.key hxm
    have hns : g.1 ∉ seen := fun hin => by rw [(hseen x hxm g hg hg1).2 hin] at hxs; cases hxs
    have hr1 : w1.heap[r]? = some (.mapIter (some b) since sn c0) := by rcases hw1 with rfl | rfl <;> exact hr
    have hw1h : w1.heap = w.heap := by rcases hw1 with rfl | rfl <;> rfl
    have hset : ∀ i, i ≠ r → (setBlock w1 r (.mapIter (some b) since (sn.push x.born) clock)).heap[i]? = w.heap[i]? := fun i hi => by
      simp only [setBlock, Array.getElem?_setIfInBounds, if_neg (Ne.symm hi), hw1h]
    have hsame : (setBlock w1 r (.mapIter (some b) since (sn.push x.born) clock)).heap[r]? = some (.mapIter (some b) since (sn.push x.born) clock) := by
      have : r < w1.heap.size := (Array.getElem?_eq_some_iff.1 hr1).1
      simp [setBlock, this]
    refine .inr ⟨g, hg, hns, setBlock w1 r (.mapIter (some b) since (sn.push x.born) clock), by rw [hrun, hg1, hg2], ?_, by simp [setBlock, hw1h], hset, ?_, ?_, ?_, ?_⟩
    · refine ⟨es, clock, since, sn.push x.born, clock, (hset b hbr).trans hb, hst, hp, hsame, hold, hcl, hcl, fun y hy g' hg' hyg => ?_⟩
      · rw [contains_push]
        simp only [Bool.or_eq_true, beq_iff_eq, List.mem_cons]
        rw [hseen y hy g' hg' hyg]
        have hnod := hst.2.1
        constructor
        · rintro (h | h)
          · exact .inr h
          · have := born_inj hnod hy hxm h
            subst this
            rw [hyg] at hg1
            exact .inl (by simpa using hg1)
        · rintro (h | h)
          · have hkk : y.key = x.key := by rw [hyg, hg1, h]
            have hpk : es.toList.Pairwise (fun x y => x.key ≠ y.key) := ((MapKept.stamped_iff es clock).1 hst).2.2
            refine .inr ?_
            rw [entry_eq_of_key hpk hy hxm hkk]
          · exact .inl h
    · rcases hw1 with rfl | rfl <;> rfl
    · rcases hw1 with rfl | rfl <;> rfl
    · rcases hw1 with rfl | rfl <;> rfl
    · intro u hub hur
      rw [← hg1, ← hg2]
      exact run_entry_at u r b since sn es clock x (hur.trans hsame) (hub.trans ((hset b hbr).trans hb)) hxm hst.2.1
end
end Go.Proofs.Ytcglpbchejkolaa
/- Pieces of a code by hand: what a state says where blocks of nobody's have turned. -/
namespace Go.Proofs.Ytcglpbchejkolaa
open Go.RowKit
set_option linter.unusedSimpArgs false
set_option linter.unusedVariables false

/-! Operations by hand -/
section
variable {P : Program} {ops : Array Oper} {Q : Exit → Act → World → Prop} {o : Oper} {rest : List Oper} {a : Act} {w w' : World} {v : Value}
theorem op_val {K : Act → World → Prop} (h : (execOp a.eval o).run P w = .ok (.value v) w') (hk : K (a.put o.dst v) w') : o.wp P a w K Q := by
  unfold Oper.wp; rw [h]; exact hk
theorem list_val (hg : o.guard = none) (h : (execOp a.eval o).run P w = .ok (.value v) w') (hk : wpList P ops Q rest (a.put o.dst v) w') : wpList P ops Q (o :: rest) a w := by
  unfold wpList
  rw [if_pos (by simp [Region.wanted, hg])]
  exact .inl (op_val h hk)
theorem eval_same {d : Nat} (h : d < a.tmps.size) : (a.put (some d) v).eval (.tmp d) = v := by
  simp [Act.put, Act.eval, h]
theorem put_size {d : Option Tmp} : (a.put d v).tmps.size = a.tmps.size := by cases d <;> simp [Act.put]
end
end Go.Proofs.Ytcglpbchejkolaa
/- Codes in parts, by the executor and by hand. -/
namespace Go.Proofs.Ytcglpbchejkolaa
open Go.RowKit
set_option linter.unusedSimpArgs false
set_option linter.unusedVariables false

/-- The way to a part of a code. -/
def nav : List Nat → Code → Code
  | [], c => c
  | n :: l, .seq a b => if n = 0 then nav l a else nav l b
  | n :: l, .cond _ a b => if n = 0 then nav l a else nav l b
  | _ :: l, .block _ c => nav l c
  | _ :: l, .loop c => nav l c
  | _, c => c
def bodyOf (f : Func) : Code := f.body.getD .skip
/-- The first parts, one behind another, and what follows. -/
def heads : Nat → Code → List Code
  | n + 1, .seq a b => a :: heads n b
  | _, _ => []
def pre : List Code → Code → Code
  | [], c => c
  | a :: l, c => .seq a (pre l c)
def execL (cx : Cx) : List Code → St → (Ex → St → Option Tree) → Option Tree
  | [], st, k => k .nrm st
  | a :: l, st, k => exec cx a st fun x st' => match x with
    | .nrm => execL cx l st' k
    | x => k x st'
theorem pre_sound_r {r : Option Nat} {cx : Cx} {R : List C → Prop} {F : Nat → Prop} {w0 : World} (hcx : CxOK cx) : ∀ (l : List Code) (st : St) (k : Ex → St → Option Tree) (T : Tree), execL cx l st k = some T →
    ∀ (Γ : Env) (Ls : List (List C → Prop)) (c : Code) (Q : Exit → Act → World → Prop), KOK cx R F w0 k Γ Ls (Exit.then (wpR r cx.P c Q) Q) → Ls.length = st.lvl → VC cx R T Γ.ρ Ls → ∀ a w, Sat cx.P F w0 Γ st a w → wpR r cx.P (pre l c) Q a w
  | [], st, k, T, h, Γ, Ls, c, Q, hk, hl, hv, a, w, hs => hk .nrm st T Γ Ls h (Ext.refl _) (List.prefix_refl _) hl hv a w hs
  | b :: l, st, k, T, h, Γ, Ls, c, Q, hk, hl, hv, a, w, hs => by
    refine wpIn_seq (exec_sound (R := R) (F := F) (w0 := w0) hcx b st _ T h Γ Ls _ ?_ hl hv a w hs)
    intro x st' T' Γ' Ls' hk' he hl' hlen hv' a' w' hs'
    cases x with
    | nrm => exact pre_sound_r hcx l st' k T' hk' Γ' Ls' c Q (hk.mono he hl') hlen hv' a' w' hs'
    | ret => exact hk .ret st' T' Γ' Ls' hk' he hl' hlen hv' a' w' hs'
    | ext i => exact hk (.ext i) st' T' Γ' Ls' hk' he hl' hlen hv' a' w' hs'
theorem join_KOK {cx : Cx} {R : List C → Prop} {F : Nat → Prop} {w0 : World} {st st1 : St} {ps : List Pl} {ks : List Lk} {k : Ex → St → Option Tree} (hok : joinOk st st1 ps ks = true)
    {Γ : Env} {Ls : List (List C → Prop)} (hl : Ls.length = st.lvl) {I : List C → Prop} {a : Act} {w : World} (hs : Sat cx.P F w0 Γ st a w) {Q : Exit → Act → World → Prop}
    (hn : ∀ xs Γx a' w', CTy cx.P ks xs → I xs → Γx.ρ = Γ.ρ ++ xs → Ext Γ Γx → Sat cx.P F w0 Γx st1 a' w' → Q .normal a' w')
    (hk : ∀ x st' T' Γ' Ls', x ≠ .nrm → k x st' = some T' → Ext Γ Γ' → Ls'.length = st'.lvl → VC cx R T' Γ'.ρ Ls' → ∀ a w, Sat cx.P F w0 Γ' st' a w → Q x.out a w) : KOK cx R F w0 (joinK st st1 ps ks k) Γ (Ls ++ [I]) Q := by
  obtain ⟨c2, c4, c5, c6, c7, c8⟩ := joinOk_spec hok
  have hlen : Γ.ρ.length = st.nx := hs.len
  have hnum1 : Num st1.bds Γ.ρ := by rw [c7]; exact hs.num
  intro e st' T' Γ' Ls' hk' he' hl' hlen' hv' a' w' hs'
  cases e with
  | ext i => exact hk (.ext i) st' T' Γ' Ls' (by intro h; cases h) hk' he' hlen' hv' a' w' hs'
  | ret => exact hk .ret st' T' Γ' Ls' (by intro h; cases h) hk' he' hlen' hv' a' w' hs'
  | nrm =>
    simp only [joinK, joinEnd] at hk'
    split at hk'
    · rename_i hc
      simp only [Bool.and_eq_true] at hc
      obtain ⟨⟨d1, d2⟩, d3⟩ := hc
      split at hk'
      · rename_i vals hvals
        split at hk'
        · rename_i hks'
          cases hk'
          obtain ⟨hob', hback⟩ := VC.obT hv'
          obtain ⟨l, hl2⟩ := he'.ρ
          obtain ⟨hty', hsat'⟩ := hs'.rebase (st1 := st1) (ρ0 := Γ.ρ) ⟨l, hl2⟩ (by rw [hlen]; exact d1) (by rw [hlen]; exact hvals) hks' hob' (by rw [hlen]; exact c2) (Nat.eq_of_beq_eq_true d3) (Nat.le_of_ble_eq_true d2) (by rw [hlen]; exact c4) hnum1
          have hget : Ls'[st.lvl]? = some I := by
            obtain ⟨m, rfl⟩ := hl'
            rw [List.append_assoc, List.getElem?_append_right (by omega), hl]
            simp
          simp only [VC, hget] at hback
          exact hn _ { Γ' with ρ := Γ.ρ ++ cs_ Γ'.ρ vals, nb := st1.nb } a' w' hty' hback rfl ⟨⟨_, rfl⟩, fun b hb => he'.blk b hb, by rw [hs.nb]; exact c5, he'.base, he'.up⟩ hsat'
        · cases hk'; exact hv'.elim
      · cases hk'; exact hv'.elim
    · cases hk'; exact hv'.elim
/-- A code's first parts by the executor, that end in a known state. -/
theorem pre_seg_r {r : Option Nat} {cx : Cx} {R : List C → Prop} {F : Nat → Prop} {w0 : World} (hcx : CxOK cx) {l : List Code} {c : Code} {st st1 : St} {ps : List Pl} {ks : List Lk} {k : Ex → St → Option Tree} {T : Tree} (hT : execL cx l { st with lvl := st.lvl + 1 } (joinK st st1 ps ks k) = some T) (hok : joinOk st st1 ps ks = true)
    {Γ : Env} {Ls : List (List C → Prop)} (hl : Ls.length = st.lvl) {I : List C → Prop} (hv : VC cx R T Γ.ρ (Ls ++ [I])) {a : Act} {w : World} (hs : Sat cx.P F w0 Γ st a w) {Q : Exit → Act → World → Prop}
    (hn : ∀ xs Γx a' w', CTy cx.P ks xs → I xs → Γx.ρ = Γ.ρ ++ xs → Ext Γ Γx → Sat cx.P F w0 Γx st1 a' w' → wpR r cx.P c Q a' w')
    (hk : ∀ x st' T' Γ' Ls', x ≠ .nrm → k x st' = some T' → Ext Γ Γ' → Ls'.length = st'.lvl → VC cx R T' Γ'.ρ Ls' → ∀ a w, Sat cx.P F w0 Γ' st' a w → Q x.out a w) : wpR r cx.P (pre l c) Q a w := by
  refine pre_sound_r (R := R) (F := F) (w0 := w0) hcx l _ _ T hT Γ (Ls ++ [I]) c Q (join_KOK hok hl hs (fun xs Γx a' w' h1 h2 h3 h4 h5 => hn xs Γx a' w' h1 h2 h3 h4 h5) fun x st' T' Γ' Ls' hx hk' he hlen hv' a' w' hs' => ?_) (by simp [hl]) hv a w (hs.relvl _)
  have := hk x st' T' Γ' Ls' hx hk' he hlen hv' a' w' hs'
  cases x with
  | nrm => exact absurd rfl hx
  | ret => exact this
  | ext i => exact this
theorem pre_seg {cx : Cx} {R : List C → Prop} {F : Nat → Prop} {w0 : World} (hcx : CxOK cx) {l : List Code} {c : Code} {st st1 : St} {ps : List Pl} {ks : List Lk} {k : Ex → St → Option Tree} {T : Tree} (hT : execL cx l { st with lvl := st.lvl + 1 } (joinK st st1 ps ks k) = some T) (hok : joinOk st st1 ps ks = true)
    {Γ : Env} {Ls : List (List C → Prop)} (hl : Ls.length = st.lvl) {I : List C → Prop} (hv : VC cx R T Γ.ρ (Ls ++ [I])) {a : Act} {w : World} (hs : Sat cx.P F w0 Γ st a w) {Q : Exit → Act → World → Prop}
    (hn : ∀ xs Γx a' w', CTy cx.P ks xs → I xs → Γx.ρ = Γ.ρ ++ xs → Ext Γ Γx → Sat cx.P F w0 Γx st1 a' w' → c.wp cx.P Q a' w')
    (hk : ∀ x st' T' Γ' Ls', x ≠ .nrm → k x st' = some T' → Ext Γ Γ' → Ls'.length = st'.lvl → VC cx R T' Γ'.ρ Ls' → ∀ a w, Sat cx.P F w0 Γ' st' a w → Q x.out a w) : (pre l c).wp cx.P Q a w :=
  wpR_none.1 (pre_seg_r hcx hT hok hl hv hs (fun xs Γx a' w' h1 h2 h3 h4 h5 => wpR_none.2 (hn xs Γx a' w' h1 h2 h3 h4 h5)) hk)
/-- A call, by hand. -/
theorem op_call {P : Program} {o : Oper} {a : Act} {w : World} {f : FuncId} {args : Array Value} {K : Act → World → Prop} {Q : Exit → Act → World → Prop} (h : (execOp a.eval o).run P w = .ok (.enter f args) w) (hk : Calls P f args w fun e w' => ∃ v, e = .returned v ∧ K (a.put o.dst v) w') : o.wp P a w K Q := by
  unfold Oper.wp
  rw [h]
  refine Calls.mono hk fun e w' he => ?_
  obtain ⟨v, rfl, h⟩ := he
  exact h
theorem list_call {P : Program} {ops : Array Oper} {Q : Exit → Act → World → Prop} {o : Oper} {rest : List Oper} {a : Act} {w : World} {f : FuncId} {args : Array Value} (hg : o.guard = none) (h : (execOp a.eval o).run P w = .ok (.enter f args) w) (hk : Calls P f args w fun e w' => ∃ v, e = .returned v ∧ wpList P ops Q rest (a.put o.dst v) w') : wpList P ops Q (o :: rest) a w := by
  unfold wpList
  rw [if_pos (by simp [Region.wanted, hg])]
  exact .inl (op_call h hk)
/-- What an iterator has not handed out yet. -/
def left : Prs → List Int → Nat
  | [], _ => 0
  | g :: G, seen => (if g.1 ∈ seen then 0 else 1) + left G seen
end Go.Proofs.Ytcglpbchejkolaa
/- A loop over a map, by hand. -/
namespace Go.Proofs.Ytcglpbchejkolaa
open Go.RowKit
set_option linter.unusedSimpArgs false
set_option linter.unusedVariables false

end Go.Proofs.Ytcglpbchejkolaa
/- Earth: what each function of the program computes: lines, earths. -/
namespace Go.Proofs.Ytcglpbchejkolaa
set_option linter.unusedVariables false

abbrev Kn := Int × Int
def knots (rows : List (List C)) : List Kn := rows.map fun r => ((r.getD 0 (.i 0)).int, (r.getD 1 (.i 0)).int)
def n_ (cs : List C) (i : Nat) : Int := (at_ cs i).int
def k_ (cs : List C) (i : Nat) : List Kn := knots (at_ cs i).rows
def inV (n a b : Int) : Bool := decide (a ≤ n) && decide (n ≤ b)
/-! Lines -/
def badKs (a v : Int) : Int → List Kn → Int
  | _, [] => 0
  | last, k :: l => if inV k.1 0 a && inV k.2 0 v then (if k.1 ≤ last then 11 else badKs a v k.1 l) else 2
def lineV (ks : List Kn) (a v : Int) : Int := if inV a 0 1099511627776 && inV v 0 68719476736 then (if ks.length = 0 then 6 else if 24 < ks.length then 8 else badKs a v (-1) ks) else 2
def rightB (ks : List Kn) : Bool := lineV ks 1048576 68719476736 == 0 || lineV ks 1099511627776 1048576 == 0
def segP (a b : Kn) (x : Int) : Int × Int × Int := (a.2 + (b.2 - a.2) * (x - a.1) / (b.1 - a.1), (b.2 - a.2) * (x - a.1) % (b.1 - a.1), b.1 - a.1)
def partAt (p : Kn × Kn) (x : Int) : Int × Int × Int := if p.1 = p.2 then (p.1.2, 0, 1) else segP p.1 p.2 x
def findG : Kn → List Kn → Int → Kn × Kn
  | p, [], _ => (p, p)
  | p, k :: l, x => if k.1 < x then findG k l x else if k.1 = x then (k, k) else (p, k)
def findV : List Kn → Int → Kn × Kn
  | [], _ => ((0, 0), (0, 0))
  | k :: l, x => if k.1 < x then findG k l x else (k, k)
def valP (ks : List Kn) (x : Int) : Int × Int × Int := partAt (findV ks x) x
def rangeP (ks : List Kn) (x : Int) : Kn := ((valP ks x).1, (valP ks x).1 + min (valP ks x).2.1 1)
inductive Asc : List Kn → Prop
  | nil : Asc []
  | one (k : Kn) : Asc [k]
  | cons {a b : Kn} {l : List Kn} (h : a.1 < b.1) (ht : Asc (b :: l)) : Asc (a :: b :: l)
def atV (ks : List Kn) (x : Int) : Kn := if rightB ks = true then rangeP ks x else (0, 0)
/-- At least, as fractions. -/
def geP (p q : Int × Int × Int) : Bool := decide (q.1 < p.1) || (p.1 == q.1 && decide (q.2.1 * p.2.2 ≤ p.2.1 * q.2.2))
def aboveV (a b : List Kn) (to : Int) : Bool := (a ++ b).all fun k => decide (to < k.1) || geP (valP a k.1) (valP b k.1)

def lineSh : Sh0 := .agg [.arr 44]
def rangeSh : Sh0 := .agg [.int, .int]
def ofKn (k : Kn) : List C := [.i k.1, .i k.2]
def withinI : Inl := fun bd l => match l with
  | [.lf (.int n), .lf (.int a), .lf (.int b)] => some (rngL bd (cellsOf [] l), .lf (.bool (.and (B.mkCmp bd .le a n) (B.mkCmp bd .le n b))))
  | _ => none
def ctWithin : Ct := ctF [.lf .int, .lf .int, .lf .int] [.lf .bool] (fun _ => True) (fun cs => [.b (inV (n_ cs 0) (n_ cs 1) (n_ cs 2))])
def nanI : Inl := fun bd l => match l with
  | [.lf (.int n)] => some (rngL bd (cellsOf [] l), .lf (.bool (.lit false)))
  | _ => none
def ctNan : Ct := ctF [.lf .int] [.lf .bool] (fun _ => True) (fun cs => [.b false])
def ctLine : Ct := ctF [lineSh, .lf .int, .lf .int] [.lf .int] (fun _ => True) (fun cs => [.i (lineV (k_ cs 0) (n_ cs 1) (n_ cs 2))])
def ctRight : Ct := ctF [.lf (.arr 24)] [.lf .bool] (fun _ => True) (fun cs => [.b ((at_ cs 0).rows.all fun r => rightB (knots (r.getD 0 (.i 0)).rows))])
def ctRRight : Ct := ctF [lineSh] [.lf .bool] (fun _ => True) (fun cs => [.b (rightB (k_ cs 0))])
def ctFloor : Ct := ctF [.lf .int, .lf .int] [.lf .int] (fun cs => 0 < n_ cs 1 ∧ -9223372036854775807 ≤ n_ cs 0) (fun cs => [.i (n_ cs 0 / n_ cs 1)])
def ctFind : Ct := ctF [lineSh, .lf .int] [.agg [.int, .int, .int, .int]] (fun cs => Asc (k_ cs 0) ∧ k_ cs 0 ≠ [] ∧ (k_ cs 0).length ≤ 1000) (fun cs => ofKn (findV (k_ cs 0) (n_ cs 1)).1 ++ ofKn (findV (k_ cs 0) (n_ cs 1)).2)
/-- A part that can be reckoned with. -/
def PartOK (p : Kn × Kn) (x : Int) : Prop := 0 ≤ p.1.2 ∧ p.1.2 ≤ 68719476736 ∧ (p.1 = p.2 ∨ (0 ≤ p.1.1 ∧ p.1.1 < p.2.1 ∧ p.2.1 ≤ 1099511627776 ∧ p.1.1 ≤ x ∧ x ≤ p.2.1 ∧ 0 ≤ p.2.2 ∧ p.2.2 ≤ 68719476736 ∧ -1152921504606846976 ≤ (p.2.2 - p.1.2) * (x - p.1.1) ∧ (p.2.2 - p.1.2) * (x - p.1.1) ≤ 1152921504606846976))
def ctAt4 : Ct := ctF [.agg [.int, .int, .int, .int], .lf .int] [.lf .int, .lf .int, .lf .int] (fun cs => PartOK ((n_ cs 0, n_ cs 1), (n_ cs 2, n_ cs 3)) (n_ cs 4)) (fun cs => [.i (partAt ((n_ cs 0, n_ cs 1), (n_ cs 2, n_ cs 3)) (n_ cs 4)).1, .i (partAt ((n_ cs 0, n_ cs 1), (n_ cs 2, n_ cs 3)) (n_ cs 4)).2.1, .i (partAt ((n_ cs 0, n_ cs 1), (n_ cs 2, n_ cs 3)) (n_ cs 4)).2.2])
def ctValue : Ct := ctF [lineSh, .lf .int] [rangeSh] (fun cs => rightB (k_ cs 0) = true) (fun cs => ofKn (rangeP (k_ cs 0) (n_ cs 1)))
def ctAt : Ct := ctF [lineSh, .lf .int] [rangeSh] (fun _ => True) (fun cs => ofKn (atV (k_ cs 0) (n_ cs 1)))
/-- Two parts whose fractions can be compared. -/
def GeOK (p q : Int × Int × Int) : Prop := -9223372036854775808 ≤ q.2.1 * p.2.2 ∧ q.2.1 * p.2.2 ≤ 9223372036854775807 ∧ -9223372036854775808 ≤ p.2.1 * q.2.2 ∧ p.2.1 * q.2.2 ≤ 9223372036854775807
def ctAtLeast : Ct := ctF [lineSh, lineSh, .lf .int] [.lf .bool] (fun cs => rightB (k_ cs 0) = true ∧ rightB (k_ cs 1) = true ∧ GeOK (valP (k_ cs 0) (n_ cs 2)) (valP (k_ cs 1) (n_ cs 2))) (fun cs => [.b (geP (valP (k_ cs 0) (n_ cs 2)) (valP (k_ cs 1) (n_ cs 2)))])
def ctAboveI : Ct := ctF [lineSh, lineSh, .lf .int] [.lf .bool] (fun cs => rightB (k_ cs 0) = true ∧ rightB (k_ cs 1) = true) (fun cs => [.b (aboveV (k_ cs 0) (k_ cs 1) (n_ cs 2))])
def ctAbove : Ct := ctF [lineSh, lineSh] [.lf .bool] (fun _ => True) (fun cs => [.b (rightB (k_ cs 0) && rightB (k_ cs 1) && aboveV (k_ cs 0) (k_ cs 1) 2199023255552)])
def ctRAboveI : Ct := ctF [lineSh, lineSh] [.lf .bool] (fun cs => rightB (k_ cs 0) = true ∧ rightB (k_ cs 1) = true) (fun cs => [.b (aboveV (k_ cs 0) (k_ cs 1) 2199023255552)])
def tab : Tab where
  ct := fun f => match f with
    | 18 | 19 => some ctLine
    | 63 => some ctRight
    | 71 => some ctRRight
    | 115 | 101 => some ctFloor
    | 93 => some ctFind
    | 94 => some ctAt4
    | 65 | 72 => some ctValue
    | 23 | 38 => some ctAt
    | 92 => some ctAtLeast
    | 64 => some ctAboveI
    | 21 | 43 => some ctAbove
    | 77 => some ctRAboveI
    | _ => none
  inl := fun f => match f with
    | 60 => some withinI
    | 123 => some nanI
    | _ => none
end Go.Proofs.Ytcglpbchejkolaa
/- What is to be shown of each function, as the executor has it. Printed by trees.py. -/
namespace Go.Proofs.Ytcglpbchejkolaa
noncomputable def cwithin : Cx := tab.only [] (fun _ => []) [] 0 [] (fun _ => none)
def twithin : Tree :=
  (.split (.cmp .le (.var 1) (.var 0)) (.ret [(.bool (.cmp .le (.var 0) (.var 2)))]) (.ret [(.bool (.lit false))]))
noncomputable def cnan : Cx := tab.only [] (fun _ => []) [] 0 [] (fun _ => none)
def tnan : Tree :=
  (.ret [(.bool (.cmp .ne (.var 0) (.var 0)))])
noncomputable def cline : Cx := tab.only [60] (fun _ => []) [] 0 [] (fun _ => none)
def tline : Tree :=
  (.split (.not (.and (.cmp .le (.lit 0) (.var 1)) (.cmp .le (.var 1) (.lit 1099511627776)))) (.ret [(.int (.lit 2))]) (.split (.not (.and (.cmp .le (.lit 0) (.var 2)) (.cmp .le (.var 2) (.lit 68719476736)))) (.ret [(.int (.lit 2))]) (.split (.cmp .eq (.len (.var 0)) (.lit 0)) (.ret [(.int (.lit 6))]) (.split (.cmp .lt (.lit 24) (.len (.var 0))) (.ret [(.int (.lit 8))]) (.loop [.int, .int, .int] [(.int (.lit 0)), (.int (.lit (-1))), (.int (.lit 0))] (.split (.cmp .lt (.var 5) (.len (.var 0))) (.ob (.cmp .le (.lit 0) (.var 5)) (.ob (.cmp .lt (.var 5) (.len (.var 0))) (.split (.not (.and (.cmp .le (.lit 0) (.cell (.var 0) (.var 5) 0)) (.cmp .le (.cell (.var 0) (.var 5) 0) (.var 1)))) (.ret [(.int (.lit 2))]) (.split (.not (.and (.cmp .le (.lit 0) (.cell (.var 0) (.var 5) 1)) (.cmp .le (.cell (.var 0) (.var 5) 1) (.var 2)))) (.ret [(.int (.lit 2))]) (.split (.cmp .le (.cell (.var 0) (.var 5) 0) (.var 4)) (.ret [(.int (.lit 11))]) (.back 0 [(.int (.var 3)), (.int (.cell (.var 0) (.var 5) 0)), (.int (.add (.var 5) (.lit 1)))])))))) (.ret [(.int (.lit 0))])))))))
noncomputable def flright : List (Nat × Func) := [(90, Try.f90), (111, Try.f111), (91, Try.f91)]
theorem fxright : ∀ p ∈ flright, FnOK p := fns_cons ⟨Try.func90, ⟨_, Try.func90, by decide, rfl⟩⟩ (fns_cons ⟨Try.func111, ⟨_, Try.func111, by decide, rfl⟩⟩ (fns_cons ⟨Try.func91, ⟨_, Try.func91, by decide, rfl⟩⟩ (fns_nil)))
noncomputable def cright : Cx := tab.only [18] (fun _ => []) flright 3 [] (fun _ => none)
def tright : Tree :=
  (.loop [.int, .int] [(.int (.lit 0)), (.int (.lit 0))] (.split (.cmp .lt (.var 2) (.len (.var 0))) (.ob (.cmp .le (.lit 0) (.var 2)) (.ob (.cmp .lt (.var 2) (.len (.var 0))) (.call 18 [(.arr 44 (.cell (.var 0) (.var 2) 0)), (.int (.lit 1048576)), (.int (.lit 68719476736))] (.split (.cmp .ne (.var 3) (.lit 0)) (.call 18 [(.arr 44 (.cell (.var 0) (.var 2) 0)), (.int (.lit 1099511627776)), (.int (.lit 1048576))] (.split (.cmp .ne (.var 4) (.lit 0)) (.ret [(.bool (.lit false))]) (.back 0 [(.int (.var 1)), (.int (.add (.var 2) (.lit 1)))]))) (.back 0 [(.int (.var 1)), (.int (.add (.var 2) (.lit 1)))]))))) (.ret [(.bool (.lit true))])))
noncomputable def cfloor : Cx := tab.only [] (fun _ => []) [] 0 [] (fun _ => none)
def tfloor : Tree :=
  (.ob (.cmp .ne (.var 1) (.lit 0)) (.ob (.and (.cmp .le (.lit (-9223372036854775808)) (.quo (.var 0) (.var 1))) (.cmp .le (.quo (.var 0) (.var 1)) (.lit 9223372036854775807))) (.ob (.cmp .ne (.var 1) (.lit 0)) (.split (.cmp .lt (.rem (.var 0) (.var 1)) (.lit 0)) (.ob (.and (.cmp .le (.lit (-9223372036854775808)) (.sub (.quo (.var 0) (.var 1)) (.lit 1))) (.cmp .le (.sub (.quo (.var 0) (.var 1)) (.lit 1)) (.lit 9223372036854775807))) (.ob (.and (.cmp .le (.lit (-9223372036854775808)) (.sub (.quo (.var 0) (.var 1)) (.lit 1))) (.cmp .le (.sub (.quo (.var 0) (.var 1)) (.lit 1)) (.lit 9223372036854775807))) (.ret [(.int (.sub (.quo (.var 0) (.var 1)) (.lit 1)))]))) (.ob (.and (.cmp .le (.lit (-9223372036854775808)) (.quo (.var 0) (.var 1))) (.cmp .le (.quo (.var 0) (.var 1)) (.lit 9223372036854775807))) (.ret [(.int (.quo (.var 0) (.var 1)))]))))))
noncomputable def flfind : List (Nat × Func) := [(112, Try.f112), (113, Try.f113), (114, Try.f114)]
theorem fxfind : ∀ p ∈ flfind, FnOK p := fns_cons ⟨Try.func112, ⟨_, Try.func112, by decide, rfl⟩⟩ (fns_cons ⟨Try.func113, ⟨_, Try.func113, by decide, rfl⟩⟩ (fns_cons ⟨Try.func114, ⟨_, Try.func114, by decide, rfl⟩⟩ (fns_nil)))
noncomputable def cfind : Cx := tab.only [123] (fun _ => []) flfind 3 [] (fun _ => none)
def tfind : Tree :=
  (.loop [.int, .int] [(.int (.lit 0)), (.int (.len (.var 0)))] (.split (.cmp .lt (.var 2) (.var 3)) (.ob (.and (.cmp .le (.lit (-9223372036854775808)) (.add (.var 2) (.var 3))) (.cmp .le (.add (.var 2) (.var 3)) (.lit 9223372036854775807))) (.ob (.cmp .le (.lit 0) (.add (.var 2) (.var 3))) (.ob (.cmp .le (.add (.var 2) (.var 3)) (.lit 9223372036854775807)) (.ob (.cmp .le (.lit 0) (.add (.var 2) (.var 3))) (.ob (.cmp .le (.lit 0) (.quo (.add (.var 2) (.var 3)) (.lit 2))) (.ob (.cmp .le (.quo (.add (.var 2) (.var 3)) (.lit 2)) (.lit 9223372036854775807)) (.ob (.cmp .le (.lit 0) (.quo (.add (.var 2) (.var 3)) (.lit 2))) (.ob (.cmp .lt (.quo (.add (.var 2) (.var 3)) (.lit 2)) (.len (.var 0))) (.split (.cmp .lt (.cell (.var 0) (.quo (.add (.var 2) (.var 3)) (.lit 2)) 0) (.var 1)) (.ob (.and (.cmp .le (.lit (-9223372036854775808)) (.add (.quo (.add (.var 2) (.var 3)) (.lit 2)) (.lit 1))) (.cmp .le (.add (.quo (.add (.var 2) (.var 3)) (.lit 2)) (.lit 1)) (.lit 9223372036854775807))) (.ob (.and (.cmp .le (.lit (-9223372036854775808)) (.add (.quo (.add (.var 2) (.var 3)) (.lit 2)) (.lit 1))) (.cmp .le (.add (.quo (.add (.var 2) (.var 3)) (.lit 2)) (.lit 1)) (.lit 9223372036854775807))) (.back 0 [(.int (.add (.quo (.add (.var 2) (.var 3)) (.lit 2)) (.lit 1))), (.int (.var 3))]))) (.split (.cmp .lt (.var 1) (.cell (.var 0) (.quo (.add (.var 2) (.var 3)) (.lit 2)) 0)) (.ob (.and (.cmp .le (.lit (-9223372036854775808)) (.quo (.add (.var 2) (.var 3)) (.lit 2))) (.cmp .le (.quo (.add (.var 2) (.var 3)) (.lit 2)) (.lit 9223372036854775807))) (.back 0 [(.int (.var 2)), (.int (.quo (.add (.var 2) (.var 3)) (.lit 2)))])) (.ob (.and (.cmp .le (.lit (-9223372036854775808)) (.quo (.add (.var 2) (.var 3)) (.lit 2))) (.cmp .le (.quo (.add (.var 2) (.var 3)) (.lit 2)) (.lit 9223372036854775807))) (.back 0 [(.int (.var 2)), (.int (.quo (.add (.var 2) (.var 3)) (.lit 2)))])))))))))))) (.split (.cmp .lt (.var 2) (.len (.var 0))) (.ob (.cmp .le (.lit 0) (.var 2)) (.ob (.cmp .lt (.var 2) (.len (.var 0))) (.split (.cmp .lt (.cell (.var 0) (.var 2) 0) (.var 1)) (.ob (.cmp .lt (.max (.sub (.var 2) (.lit 1)) (.lit 0)) (.len (.var 0))) (.ob (.cmp .le (.lit 0) (.min (.var 2) (.sub (.len (.var 0)) (.lit 1)))) (.ob (.cmp .lt (.min (.var 2) (.sub (.len (.var 0)) (.lit 1))) (.len (.var 0))) (.ret [(.int (.cell (.var 0) (.max (.sub (.var 2) (.lit 1)) (.lit 0)) 0)), (.int (.cell (.var 0) (.max (.sub (.var 2) (.lit 1)) (.lit 0)) 1)), (.int (.cell (.var 0) (.min (.var 2) (.sub (.len (.var 0)) (.lit 1))) 0)), (.int (.cell (.var 0) (.min (.var 2) (.sub (.len (.var 0)) (.lit 1))) 1))])))) (.split (.cmp .lt (.var 1) (.cell (.var 0) (.var 2) 0)) (.ob (.cmp .lt (.max (.sub (.var 2) (.lit 1)) (.lit 0)) (.len (.var 0))) (.ob (.cmp .le (.lit 0) (.min (.var 2) (.sub (.len (.var 0)) (.lit 1)))) (.ob (.cmp .lt (.min (.var 2) (.sub (.len (.var 0)) (.lit 1))) (.len (.var 0))) (.ret [(.int (.cell (.var 0) (.max (.sub (.var 2) (.lit 1)) (.lit 0)) 0)), (.int (.cell (.var 0) (.max (.sub (.var 2) (.lit 1)) (.lit 0)) 1)), (.int (.cell (.var 0) (.min (.var 2) (.sub (.len (.var 0)) (.lit 1))) 0)), (.int (.cell (.var 0) (.min (.var 2) (.sub (.len (.var 0)) (.lit 1))) 1))])))) (.ob (.cmp .le (.lit 0) (.min (.var 2) (.sub (.len (.var 0)) (.lit 1)))) (.ob (.cmp .lt (.min (.var 2) (.sub (.len (.var 0)) (.lit 1))) (.len (.var 0))) (.ob (.cmp .le (.lit 0) (.min (.var 2) (.sub (.len (.var 0)) (.lit 1)))) (.ob (.cmp .lt (.min (.var 2) (.sub (.len (.var 0)) (.lit 1))) (.len (.var 0))) (.ret [(.int (.cell (.var 0) (.min (.var 2) (.sub (.len (.var 0)) (.lit 1))) 0)), (.int (.cell (.var 0) (.min (.var 2) (.sub (.len (.var 0)) (.lit 1))) 1)), (.int (.cell (.var 0) (.min (.var 2) (.sub (.len (.var 0)) (.lit 1))) 0)), (.int (.cell (.var 0) (.min (.var 2) (.sub (.len (.var 0)) (.lit 1))) 1))]))))))))) (.ob (.cmp .lt (.max (.sub (.var 2) (.lit 1)) (.lit 0)) (.len (.var 0))) (.ob (.cmp .le (.lit 0) (.min (.var 2) (.sub (.len (.var 0)) (.lit 1)))) (.ob (.cmp .lt (.min (.var 2) (.sub (.len (.var 0)) (.lit 1))) (.len (.var 0))) (.ret [(.int (.cell (.var 0) (.max (.sub (.var 2) (.lit 1)) (.lit 0)) 0)), (.int (.cell (.var 0) (.max (.sub (.var 2) (.lit 1)) (.lit 0)) 1)), (.int (.cell (.var 0) (.min (.var 2) (.sub (.len (.var 0)) (.lit 1))) 0)), (.int (.cell (.var 0) (.min (.var 2) (.sub (.len (.var 0)) (.lit 1))) 1))])))))))
noncomputable def cat4 : Cx := tab.only [115] (fun _ => []) [] 0 [] (fun _ => none)
def tat4 : Tree :=
  (.split (.and (.cmp .eq (.var 0) (.var 2)) (.cmp .eq (.var 1) (.var 3))) (.ret [(.int (.var 1)), (.int (.lit 0)), (.int (.lit 1))]) (.ob (.and (.cmp .le (.lit (-9223372036854775808)) (.sub (.var 2) (.var 0))) (.cmp .le (.sub (.var 2) (.var 0)) (.lit 9223372036854775807))) (.ob (.and (.cmp .le (.lit (-9223372036854775808)) (.sub (.var 3) (.var 1))) (.cmp .le (.sub (.var 3) (.var 1)) (.lit 9223372036854775807))) (.ob (.and (.cmp .le (.lit (-9223372036854775808)) (.sub (.var 4) (.var 0))) (.cmp .le (.sub (.var 4) (.var 0)) (.lit 9223372036854775807))) (.ob (.and (.cmp .le (.lit (-9223372036854775808)) (.mul (.sub (.var 3) (.var 1)) (.sub (.var 4) (.var 0)))) (.cmp .le (.mul (.sub (.var 3) (.var 1)) (.sub (.var 4) (.var 0))) (.lit 9223372036854775807))) (.ob (.and (.cmp .le (.lit (-9223372036854775808)) (.mul (.sub (.var 3) (.var 1)) (.sub (.var 4) (.var 0)))) (.cmp .le (.mul (.sub (.var 3) (.var 1)) (.sub (.var 4) (.var 0))) (.lit 9223372036854775807))) (.ob (.and (.cmp .le (.lit (-9223372036854775808)) (.sub (.var 2) (.var 0))) (.cmp .le (.sub (.var 2) (.var 0)) (.lit 9223372036854775807))) (.call 115 [(.int (.mul (.sub (.var 3) (.var 1)) (.sub (.var 4) (.var 0)))), (.int (.sub (.var 2) (.var 0)))] (.ob (.and (.cmp .le (.lit (-9223372036854775808)) (.add (.var 1) (.var 5))) (.cmp .le (.add (.var 1) (.var 5)) (.lit 9223372036854775807))) (.ob (.and (.cmp .le (.lit (-9223372036854775808)) (.mul (.var 5) (.sub (.var 2) (.var 0)))) (.cmp .le (.mul (.var 5) (.sub (.var 2) (.var 0))) (.lit 9223372036854775807))) (.ob (.and (.cmp .le (.lit (-9223372036854775808)) (.sub (.mul (.sub (.var 3) (.var 1)) (.sub (.var 4) (.var 0))) (.mul (.var 5) (.sub (.var 2) (.var 0))))) (.cmp .le (.sub (.mul (.sub (.var 3) (.var 1)) (.sub (.var 4) (.var 0))) (.mul (.var 5) (.sub (.var 2) (.var 0)))) (.lit 9223372036854775807))) (.ob (.and (.cmp .le (.lit (-9223372036854775808)) (.add (.var 1) (.var 5))) (.cmp .le (.add (.var 1) (.var 5)) (.lit 9223372036854775807))) (.ob (.and (.cmp .le (.lit (-9223372036854775808)) (.sub (.mul (.sub (.var 3) (.var 1)) (.sub (.var 4) (.var 0))) (.mul (.var 5) (.sub (.var 2) (.var 0))))) (.cmp .le (.sub (.mul (.sub (.var 3) (.var 1)) (.sub (.var 4) (.var 0))) (.mul (.var 5) (.sub (.var 2) (.var 0)))) (.lit 9223372036854775807))) (.ob (.and (.cmp .le (.lit (-9223372036854775808)) (.sub (.var 2) (.var 0))) (.cmp .le (.sub (.var 2) (.var 0)) (.lit 9223372036854775807))) (.ret [(.int (.add (.var 1) (.var 5))), (.int (.sub (.mul (.sub (.var 3) (.var 1)) (.sub (.var 4) (.var 0))) (.mul (.var 5) (.sub (.var 2) (.var 0))))), (.int (.sub (.var 2) (.var 0)))])))))))))))))))
noncomputable def cvalue : Cx := tab.only [93, 94] (fun _ => []) [] 0 [] (fun _ => none)
def tvalue : Tree :=
  (.call 93 [(.arr 44 (.var 0)), (.int (.var 1))] (.call 94 [(.int (.var 2)), (.int (.var 3)), (.int (.var 4)), (.int (.var 5)), (.int (.var 1))] (.ob (.and (.cmp .le (.lit (-9223372036854775808)) (.add (.var 6) (.min (.var 7) (.lit 1)))) (.cmp .le (.add (.var 6) (.min (.var 7) (.lit 1))) (.lit 9223372036854775807))) (.ob (.and (.cmp .le (.lit (-9223372036854775808)) (.add (.var 6) (.min (.var 7) (.lit 1)))) (.cmp .le (.add (.var 6) (.min (.var 7) (.lit 1))) (.lit 9223372036854775807))) (.ret [(.int (.var 6)), (.int (.add (.var 6) (.min (.var 7) (.lit 1))))])))))
noncomputable def cat : Cx := tab.only [63, 65] (fun _ => []) [] 0 [] (fun _ => none)
def tat : Tree :=
  (.arr [[(.arr 44 (.var 0))]] (.call 63 [(.arr 24 (.var 2))] (.split (.not (.of (.var 3))) (.ret [(.int (.lit 0)), (.int (.lit 0))]) (.call 65 [(.arr 44 (.var 0)), (.int (.var 1))] (.ret [(.int (.var 4)), (.int (.var 5))])))))
noncomputable def catleast : Cx := tab.only [93, 94] (fun _ => []) [] 0 [] (fun _ => none)
def tatleast : Tree :=
  (.call 93 [(.arr 44 (.var 0)), (.int (.var 2))] (.call 94 [(.int (.var 3)), (.int (.var 4)), (.int (.var 5)), (.int (.var 6)), (.int (.var 2))] (.call 93 [(.arr 44 (.var 1)), (.int (.var 2))] (.call 94 [(.int (.var 10)), (.int (.var 11)), (.int (.var 12)), (.int (.var 13)), (.int (.var 2))] (.split (.cmp .lt (.var 14) (.var 7)) (.ret [(.bool (.lit true))]) (.split (.cmp .eq (.var 7) (.var 14)) (.ob (.and (.cmp .le (.lit (-9223372036854775808)) (.mul (.var 8) (.var 16))) (.cmp .le (.mul (.var 8) (.var 16)) (.lit 9223372036854775807))) (.ob (.and (.cmp .le (.lit (-9223372036854775808)) (.mul (.var 15) (.var 9))) (.cmp .le (.mul (.var 15) (.var 9)) (.lit 9223372036854775807))) (.ret [(.bool (.cmp .le (.mul (.var 15) (.var 9)) (.mul (.var 8) (.var 16))))]))) (.ret [(.bool (.lit false))])))))))
noncomputable def cabove : Cx := tab.only [92] (fun r => match r with
  | 2 => [.blk 2000003]
  | _ => []) [] 0 [] (fun _ => none)
def tabove : Tree :=
  (.dfn .nil (.loop [.bool, .int] [(.bool (.lit false)), (.int (.lit 0))] (.split (.cmp .lt (.var 5) (.len (.var 0))) (.ob (.cmp .le (.lit 0) (.var 5)) (.ob (.cmp .lt (.var 5) (.len (.var 0))) (.split (.cmp .le (.cell (.var 0) (.var 5) 0) (.var 2)) (.call 92 [(.arr 44 (.var 0)), (.arr 44 (.var 1)), (.int (.cell (.var 0) (.var 5) 0))] (.split (.not (.of (.var 6))) (.ret [(.bool (.lit false))]) (.back 0 [(.bool (.of (.var 4))), (.int (.add (.var 5) (.lit 1)))]))) (.back 0 [(.bool (.of (.var 4))), (.int (.add (.var 5) (.lit 1)))])))) (.dfn .nil (.loop [.bool, .int, .bool] [(.bool (.of (.var 4))), (.int (.lit 0)), (.bool (.cmp .lt (.var 5) (.len (.var 0))))] (.split (.cmp .lt (.var 8) (.len (.var 1))) (.ob (.cmp .le (.lit 0) (.var 8)) (.ob (.cmp .lt (.var 8) (.len (.var 1))) (.split (.cmp .le (.cell (.var 1) (.var 8) 0) (.var 2)) (.call 92 [(.arr 44 (.var 0)), (.arr 44 (.var 1)), (.int (.cell (.var 1) (.var 8) 0))] (.split (.not (.of (.var 10))) (.ret [(.bool (.lit false))]) (.back 1 [(.bool (.of (.var 7))), (.int (.add (.var 8) (.lit 1))), (.bool (.cmp .lt (.var 8) (.len (.var 1))))]))) (.back 1 [(.bool (.of (.var 7))), (.int (.add (.var 8) (.lit 1))), (.bool (.cmp .lt (.var 8) (.len (.var 1))))])))) (.ret [(.bool (.lit true))])))))))
noncomputable def cabove2 : Cx := tab.only [63, 64] (fun _ => []) [] 0 [] (fun _ => none)
def tabove2 : Tree :=
  (.arr [[(.arr 44 (.var 0))], [(.arr 44 (.var 1))]] (.call 63 [(.arr 24 (.var 2))] (.split (.of (.var 3)) (.call 64 [(.arr 44 (.var 0)), (.arr 44 (.var 1)), (.int (.lit 2199023255552))] (.ret [(.bool (.of (.var 4)))])) (.ret [(.bool (.lit false))]))))
end Go.Proofs.Ytcglpbchejkolaa
/- Earth: which lines are valid. -/
namespace Go.Proofs.Ytcglpbchejkolaa
open Go.RowKit
set_option linter.unusedSimpArgs false
set_option linter.unusedVariables false

theorem knots_len (rows : List (List C)) : (knots rows).length = rows.length := by simp [knots]
theorem kn1 (v : Value) (rows : List (List C)) (i : Nat) : ((C.s v rows).at i 0).int = ((knots rows).getD i (0, 0)).1 := by
  simp only [cell_at, knots, List.getD_eq_getElem?_getD, List.getElem?_map]
  cases rows[i]? <;> rfl
theorem kn2 (v : Value) (rows : List (List C)) (i : Nat) : ((C.s v rows).at i 1).int = ((knots rows).getD i (0, 0)).2 := by
  simp only [cell_at, knots, List.getD_eq_getElem?_getD, List.getElem?_map]
  cases rows[i]? <;> rfl
theorem take_snoc {α : Type} {l : List α} {i : Nat} (h : i < l.length) (d : α) : l.take (i + 1) = l.take i ++ [l.getD i d] := by
  rw [List.take_succ_eq_append_getElem h, List.getD_eq_getElem?_getD, List.getElem?_eq_getElem h]; rfl
theorem drop_cons {α : Type} {l : List α} {i : Nat} (h : i < l.length) (d : α) : l.drop i = l.getD i d :: l.drop (i + 1) := by
  rw [List.drop_eq_getElem_cons h, List.getD_eq_getElem?_getD, List.getElem?_eq_getElem h]; rfl
theorem getD_mem {α : Type} {l : List α} {i : Nat} (h : i < l.length) (d : α) : l.getD i d ∈ l := by
  rw [List.getD_eq_getElem?_getD, List.getElem?_eq_getElem h]; exact List.getElem_mem _
theorem within_ok : tab.ok 60 := by
  refine Tab.of_inl rfl rfl ⟨_, Try.func60, by decide, rfl⟩ ?_
  refine Inl.of_ct (args := [.lf .int, .lf .int, .lf .int]) (r := .lf .bool) (pre := fun _ => True) (fn := fun cs => [.b (inV (n_ cs 0) (n_ cs 1) (n_ cs 2))]) (ct_ok (cx := cwithin) (Tab.cx_ok all_nil) Try.func60 (bds := []) (T := twithin) (by kernel_rfl) ?_) ?_
  · unfold twithin
    simp only [VC, allC, List.map_cons, List.map_nil, List.length_cons, List.length_nil, List.getElem?_cons_zero, List.getElem?_cons_succ, List.cons.injEq, C.i.injEq, C.b.injEq, and_true, true_and, forall_const, kindsOf_nil, kindsOf_lf, kindsOf_agg, kindsOf_box, boxKinds_nil, boxKinds_lf, boxKinds_agg, boxKinds_box, List.append_nil, List.cons_append, List.nil_append, den_cmp_le, den_cmp_lt, den_cmp_eq, den_cmp_ne, den_cmp_le', den_cmp_lt', den_cmp_eq', den_cmp_ne', den_and, den_and', den_or, den_or', den_not, den_not', den_blit, den_of, ev_var, at_0, at_1, at_2, at_3, at_4, at_5, at_6, at_7, at_skip, c_int, c_bool, c_arr, c_cnt, c_vec, ev_nil, ev_join, ev_sub3, loc_s, int_i, bool_b, rows_s, cs_nil, cs_cons, E.den_lit, E.den_var, E.den_add, E.den_sub, E.den_mul, E.den_quo, E.den_rem, E.den_max, E.den_min, E.den_len, E.den_wr, E.den_cell, ctWithin, ctF, n_, inV]
    intro n _ _ a _ _ b _ _
    refine ⟨bds_nil _, ?_⟩
    simp only [B.den, Cmp.den, E.den_var, at_0, at_1, at_2, int_i]
    show (a ≤ n → decide (n ≤ b) = (decide (a ≤ n) && decide (n ≤ b))) ∧ (n < a → false = (decide (a ≤ n) && decide (n ≤ b)))
    exact ⟨fun h => by rw [decide_eq_true h, Bool.true_and], fun h => by rw [decide_eq_false (p := a ≤ n) (by omega), Bool.false_and]⟩
  · intro bd ρ l obs s hg hn ho
    unfold withinI at hg
    split at hg
    · rename_i n a b
      cases hg
      refine ⟨rfl, rfl, ho, trivial, rfl, rfl, ?_⟩
      simp [cs_, cellsOf, S0.cells, S0.cellsM, Lf.c, B.den, B.den_mkCmp hn, Cmp.den, inV, n_, at_0, at_1, at_2, int_i]
    · cases hg
theorem nan_ok : tab.ok 123 := by
  refine Tab.of_inl rfl rfl ⟨_, Try.func123, by decide, rfl⟩ ?_
  refine Inl.of_ct (args := [.lf .int]) (r := .lf .bool) (pre := fun _ => True) (fn := fun cs => [.b false]) (ct_ok (cx := cnan) (Tab.cx_ok all_nil) Try.func123 (bds := []) (T := tnan) (by kernel_rfl) ?_) ?_
  · unfold tnan
    simp only [VC, allC, List.map_cons, List.map_nil, List.length_cons, List.length_nil, List.getElem?_cons_zero, List.getElem?_cons_succ, List.cons.injEq, C.i.injEq, C.b.injEq, and_true, true_and, forall_const, kindsOf_nil, kindsOf_lf, kindsOf_agg, kindsOf_box, boxKinds_nil, boxKinds_lf, boxKinds_agg, boxKinds_box, List.append_nil, List.cons_append, List.nil_append, den_cmp_le, den_cmp_lt, den_cmp_eq, den_cmp_ne, den_cmp_le', den_cmp_lt', den_cmp_eq', den_cmp_ne', den_and, den_and', den_or, den_or', den_not, den_not', den_blit, den_of, ev_var, at_0, at_1, at_2, at_3, at_4, at_5, at_6, at_7, at_skip, c_int, c_bool, c_arr, c_cnt, c_vec, ev_nil, ev_join, ev_sub3, loc_s, int_i, bool_b, rows_s, cs_nil, cs_cons, E.den_lit, E.den_var, E.den_add, E.den_sub, E.den_mul, E.den_quo, E.den_rem, E.den_max, E.den_min, E.den_len, E.den_wr, E.den_cell, ctNan, ctF, n_]
    intro n _ _
    exact bds_nil _
  · intro bd ρ l obs s hg hn ho
    unfold nanI at hg
    split at hg
    · cases hg
      exact ⟨rfl, rfl, ho, trivial, rfl, rfl, rfl⟩
    · cases hg
/-! Lines -/
theorem inV_iff {n a b : Int} : inV n a b = true ↔ a ≤ n ∧ n ≤ b := by simp [inV]
theorem badKs_range {a v last : Int} {k : Kn} {l : List Kn} (h : k.1 < 0 ∨ a < k.1 ∨ k.2 < 0 ∨ v < k.2) : badKs a v last (k :: l) = 2 := by
  rw [badKs, if_neg]
  rw [Bool.and_eq_true, inV_iff, inV_iff]; omega
theorem badKs_order {a v last : Int} {k : Kn} {l : List Kn} (h : 0 ≤ k.1 ∧ k.1 ≤ a ∧ 0 ≤ k.2 ∧ k.2 ≤ v) (h2 : k.1 ≤ last) : badKs a v last (k :: l) = 11 := by
  rw [badKs, if_pos, if_pos h2]
  rw [Bool.and_eq_true, inV_iff, inV_iff]; omega
theorem badKs_next {a v last : Int} {k : Kn} {l : List Kn} (h : 0 ≤ k.1 ∧ k.1 ≤ a ∧ 0 ≤ k.2 ∧ k.2 ≤ v) (h2 : last < k.1) : badKs a v last (k :: l) = badKs a v k.1 l := by
  rw [badKs, if_pos, if_neg (by omega)]
  rw [Bool.and_eq_true, inV_iff, inV_iff]; omega
section
variable {ks : List Kn} {a v : Int}
theorem lineV_range (h : a < 0 ∨ 1099511627776 < a ∨ v < 0 ∨ 68719476736 < v) : lineV ks a v = 2 := by
  unfold lineV
  rw [if_neg]
  rw [Bool.and_eq_true, inV_iff, inV_iff]; omega
theorem lineV_in (h : 0 ≤ a ∧ a ≤ 1099511627776 ∧ 0 ≤ v ∧ v ≤ 68719476736) : lineV ks a v = if ks.length = 0 then 6 else if 24 < ks.length then 8 else badKs a v (-1) ks := by
  unfold lineV
  rw [if_pos]
  rw [Bool.and_eq_true, inV_iff, inV_iff]; omega
end
theorem line_ok : tab.ok 18 := by
  refine Tab.of_ct rfl rfl ⟨_, Try.func18, by decide, rfl⟩ ?_ ctF_det
  refine ct_ok (cx := cline) (Tab.cx_ok (all_cons within_ok all_nil)) Try.func18 (bds := []) (T := tline) (by kernel_rfl) ?_
  unfold tline
  simp only [VC, allC, List.map_cons, List.map_nil, List.length_cons, List.length_nil, List.getElem?_cons_zero, List.getElem?_cons_succ, List.cons.injEq, C.i.injEq, C.b.injEq, and_true, true_and, forall_const, kindsOf_nil, kindsOf_lf, kindsOf_agg, kindsOf_box, boxKinds_nil, boxKinds_lf, boxKinds_agg, boxKinds_box, List.append_nil, List.cons_append, List.nil_append, den_cmp_le, den_cmp_lt, den_cmp_eq, den_cmp_ne, den_cmp_le', den_cmp_lt', den_cmp_eq', den_cmp_ne', den_and, den_and', den_or, den_or', den_not, den_not', den_blit, den_of, ev_var, at_0, at_1, at_2, at_3, at_4, at_5, at_6, at_7, at_skip, c_int, c_bool, c_arr, c_cnt, c_vec, ev_nil, ev_join, ev_sub3, loc_s, int_i, bool_b, rows_s, cs_nil, cs_cons, E.den_lit, E.den_var, E.den_add, E.den_sub, E.den_mul, E.den_quo, E.den_rem, E.den_max, E.den_min, E.den_len, E.den_wr, E.den_cell, ev_cell, kn1, kn2, ctLine, ctF, lineSh, n_, k_]
  intro u r d ty hs a _ _ v _ _
  have hk := knots_len r
  generalize hks : knots r = ks at *
  rw [← hk]
  refine ⟨bds_nil _, fun h => (lineV_range (by omega)).symm, fun h1 => ⟨fun h => (lineV_range (by omega)).symm, fun h2 => ?_⟩⟩
  rw [lineV_in (by omega)]
  refine ⟨fun h => by rw [if_pos (by omega)], fun h3 => ?_⟩
  rw [if_neg (by omega)]
  refine ⟨fun h => by rw [if_pos (by omega)], fun h4 => ?_⟩
  rw [if_neg (by omega)]
  refine ⟨fun xs => match xs with | [_, .i last, .i i] => 0 ≤ i ∧ i ≤ ks.length ∧ badKs a v (-1) ks = badKs a v last (ks.drop i.toNat) | _ => False, fun xs => match xs with | [_, _, .i i] => ((ks.length : Int) - i).toNat | _ => 0, ⟨by omega, by omega, rfl⟩, ?_⟩
  rintro x _ _ last _ _ i _ _ ⟨i0, i1, hi⟩
  refine ⟨fun hlt => ⟨i0, hlt, ?_⟩, fun hge => ?_⟩
  · rw [drop_cons (by omega) (0, 0), ← show (i + 1).toNat = i.toNat + 1 by omega] at hi
    generalize ks.getD i.toNat (0, 0) = k at *
    refine ⟨fun h => by rw [hi, badKs_range (by omega)], fun h5 => ⟨fun h => by rw [hi, badKs_range (by omega)], fun h6 => ⟨fun h => by rw [hi, badKs_order (by omega) h], fun h7 => ?_⟩⟩⟩
    exact ⟨⟨by omega, by omega, by rw [hi, badKs_next (by omega) h7]⟩, (show ((ks.length : Int) - (i + 1)).toNat < ((ks.length : Int) - i).toNat by omega)⟩
  · rw [hi, List.drop_of_length_le (by omega)]; rfl
theorem right_ok : tab.ok 63 := by
  refine Tab.of_ct rfl rfl ⟨_, Try.func63, by decide, rfl⟩ ?_ ctF_det
  refine ct_ok (cx := cright) (Tab.cx_ok (all_cons line_ok all_nil) fxright) Try.func63 (bds := []) (T := tright) (by kernel_rfl) ?_
  have h1 : cright.ct 18 = some ctLine := rfl
  unfold tright
  simp only [VC, allC, List.map_cons, List.map_nil, List.length_cons, List.length_nil, List.getElem?_cons_zero, List.getElem?_cons_succ, List.cons.injEq, C.i.injEq, C.b.injEq, and_true, true_and, forall_const, kindsOf_nil, kindsOf_lf, kindsOf_agg, kindsOf_box, boxKinds_nil, boxKinds_lf, boxKinds_agg, boxKinds_box, List.append_nil, List.cons_append, List.nil_append, den_cmp_le, den_cmp_lt, den_cmp_eq, den_cmp_ne, den_cmp_le', den_cmp_lt', den_cmp_eq', den_cmp_ne', den_and, den_and', den_or, den_or', den_not, den_not', den_blit, den_of, ev_var, at_0, at_1, at_2, at_3, at_4, at_5, at_6, at_7, at_skip, c_int, c_bool, c_arr, c_cnt, c_vec, ev_nil, ev_join, ev_sub3, loc_s, int_i, bool_b, rows_s, cs_nil, cs_cons, E.den_lit, E.den_var, E.den_add, E.den_sub, E.den_mul, E.den_quo, E.den_rem, E.den_max, E.den_min, E.den_len, E.den_wr, E.den_cell, ev_cell, h1, ctLine, ctRight, ctF, lineSh, n_, k_]
  intro u r d ty hs
  refine ⟨bds_nil _, fun xs => match xs with | [_, .i i] => 0 ≤ i ∧ i ≤ r.length ∧ ∀ x ∈ r.take i.toNat, rightB (knots (x.getD 0 (.i 0)).rows) = true | _ => False, fun xs => match xs with | [_, .i i] => ((r.length : Int) - i).toNat | _ => 0, ⟨by omega, by omega, fun x hx => by simp at hx⟩, ?_⟩
  rintro x _ _ i _ _ ⟨i0, i1, hi⟩
  refine ⟨fun hlt => ⟨i0, hlt, ?_⟩, fun hge => ?_⟩
  · have hcell : ((C.s u r).at i.toNat 0).rows = ((r.getD i.toNat []).getD 0 (.i 0)).rows := rfl
    rw [hcell]
    generalize hx : r.getD i.toNat [] = x at *
    have hmem : x ∈ r := by rw [← hx]; exact getD_mem (by omega) []
    have next : rightB (knots (x.getD 0 (.i 0)).rows) = true → ∀ y ∈ r.take (i + 1).toNat, rightB (knots (y.getD 0 (.i 0)).rows) = true := fun h y hy => by
      rw [show (i + 1).toNat = i.toNat + 1 by omega, take_snoc (by omega) [], hx] at hy
      rcases List.mem_append.1 hy with hy | hy
      · exact hi y hy
      · rw [List.mem_singleton] at hy; subst hy; exact h
    rintro e1 _ _ he1
    refine ⟨fun hne => ?_, fun he => ?_⟩
    · rintro e2 _ _ he2
      refine ⟨fun hne2 => ?_, fun he' => ?_⟩
      · symm
        rw [List.all_eq_false]
        refine ⟨x, hmem, ?_⟩
        unfold rightB
        rw [← he1, ← he2]
        simp [hne, hne2]
      · exact ⟨⟨by omega, by omega, next (by unfold rightB; rw [← he1, ← he2, he']; simp)⟩, (show ((r.length : Int) - (i + 1)).toNat < ((r.length : Int) - i).toNat by omega)⟩
    · exact ⟨⟨by omega, by omega, next (by unfold rightB; rw [← he1, he]; simp)⟩, (show ((r.length : Int) - (i + 1)).toNat < ((r.length : Int) - i).toNat by omega)⟩
  · rw [List.take_of_length_le (by omega)] at hi
    exact (List.all_eq_true.2 hi).symm
theorem floor_law {x y : Int} (hy : 0 < y) : (x.tmod y < 0 → x / y = x.tdiv y - 1) ∧ (0 ≤ x.tmod y → x / y = x.tdiv y) := by
  have h1 := Int.emod_nonneg x (b := y) (by omega)
  have h2 := Int.emod_lt_of_pos x hy
  have h3 := Int.mul_ediv_add_emod x y
  have h4 := Int.mul_tdiv_add_tmod x y
  have h5 : (x.tmod y).natAbs < y.natAbs := by rw [Int.natAbs_tmod]; exact Nat.mod_lt _ (by omega)
  have h6 : -y < x.tmod y ∧ x.tmod y < y := by omega
  generalize x / y = p at *
  generalize x.tdiv y = q at *
  generalize x % y = r at *
  generalize x.tmod y = s at *
  have h7 : y * (p - q) = s - r := by rw [Int.mul_sub]; omega
  refine ⟨fun h => ?_, fun h => ?_⟩
  · have : p - q = -1 := by
      have a1 : y * (p - q) < y * 0 := by omega
      have a2 : y * (-2) < y * (p - q) := by omega
      have b1 := Int.lt_of_mul_lt_mul_left a1 (by omega)
      have b2 := Int.lt_of_mul_lt_mul_left a2 (by omega)
      omega
    omega
  · have : p - q = 0 := by
      have a1 : y * (p - q) < y * 1 := by omega
      have a2 : y * (-1) < y * (p - q) := by omega
      have b1 := Int.lt_of_mul_lt_mul_left a1 (by omega)
      have b2 := Int.lt_of_mul_lt_mul_left a2 (by omega)
      omega
    omega
theorem floor_ok : tab.ok 115 := by
  refine Tab.of_ct rfl rfl ⟨_, Try.func115, by decide, rfl⟩ ?_ ctF_det
  refine ct_ok (cx := cfloor) (Tab.cx_ok all_nil) Try.func115 (bds := []) (T := tfloor) (by kernel_rfl) ?_
  unfold tfloor
  simp only [VC, allC, List.map_cons, List.map_nil, List.length_cons, List.length_nil, List.getElem?_cons_zero, List.getElem?_cons_succ, List.cons.injEq, C.i.injEq, C.b.injEq, and_true, true_and, forall_const, kindsOf_nil, kindsOf_lf, kindsOf_agg, kindsOf_box, boxKinds_nil, boxKinds_lf, boxKinds_agg, boxKinds_box, List.append_nil, List.cons_append, List.nil_append, den_cmp_le, den_cmp_lt, den_cmp_eq, den_cmp_ne, den_cmp_le', den_cmp_lt', den_cmp_eq', den_cmp_ne', den_and, den_and', den_or, den_or', den_not, den_not', den_blit, den_of, ev_var, at_0, at_1, at_2, at_3, at_4, at_5, at_6, at_7, at_skip, c_int, c_bool, c_arr, c_cnt, c_vec, ev_nil, ev_join, ev_sub3, loc_s, int_i, bool_b, rows_s, cs_nil, cs_cons, E.den_lit, E.den_var, E.den_add, E.den_sub, E.den_mul, E.den_quo, E.den_rem, E.den_max, E.den_min, E.den_len, E.den_wr, E.den_cell, ctFloor, ctF, n_]
  intro x x0 x1 y y0 y1 hp; refine ⟨bds_nil _, ?_⟩; obtain ⟨f1, f2⟩ := floor_law (x := x) hp.1; have f3 := tdiv_abs x y hp.2 x1; refine ⟨by omega, ⟨by omega, by omega⟩, by omega, fun h => ?_, fun h => ?_⟩
  · exact ⟨⟨by omega, by omega⟩, ⟨by omega, by omega⟩, (f1 h).symm⟩
  · exact ⟨⟨by omega, by omega⟩, (f2 h).symm⟩
end Go.Proofs.Ytcglpbchejkolaa
