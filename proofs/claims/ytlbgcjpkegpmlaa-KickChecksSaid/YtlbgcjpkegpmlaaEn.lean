/- The engine, part 14: a code carried out by symbols; a function's contract. -/
import Derived.Test.YtlbgcjpkegpmlaaEm
namespace Go.Proofs.Ytlbgcjpkegpmlaa
open Go.RowKit
set_option linter.unusedSimpArgs false
set_option linter.unusedVariables false

def Ex.out : Ex → Exit
  | .nrm => .normal
  | .ext id => .exit id
  | .ret => .ret
section
variable {cx : Cx} {R : List C → Prop} {F : Nat → Prop} {w0 : World}
/-- What follows a code. -/
def KOK (cx : Cx) (R : List C → Prop) (F : Nat → Prop) (w0 : World) (k : Ex → St → Option Tree) (Γ : Env) (Ls : List (List C → Prop)) (Q : Exit → Act → World → Prop) : Prop :=
  ∀ x st' T' Γ' Ls', k x st' = some T' → Ext Γ Γ' → Ls <+: Ls' → Ls'.length = st'.lvl → VC cx R T' Γ'.ρ Ls' → ∀ a w, Sat cx.P F w0 Γ' st' a w → Q x.out a w
theorem KOK.mono {k : Ex → St → Option Tree} {Γ Γ1 : Env} {Ls Ls1 : List (List C → Prop)} {Q : Exit → Act → World → Prop} (h : KOK cx R F w0 k Γ Ls Q) (he : Ext Γ Γ1) (hl : Ls <+: Ls1) : KOK cx R F w0 k Γ1 Ls1 Q :=
  fun x st' T' Γ' Ls' hk he' hl' => h x st' T' Γ' Ls' hk (he.trans he') (hl.trans hl')
theorem Sat.learn1 {P : Program} {Γ : Env} {st : St} {a : Act} {w : World} (hs : Sat P F w0 Γ st a w) {b : B} {t : Bool} (hb : b.den Γ.ρ = t) : Sat P F w0 Γ { st with bds := Go.Proofs.Ytlbgcjpkegpmlaa.learn st.nx st.bds b t } a w :=
  ⟨hs.slots, hs.size, hs.mem, hs.inj, hs.keeps, hs.fold, hs.base, hs.defers, hs.len, hs.nb, ⟨learn_ok hs.num.len (by rw [hs.len]; exact Nat.le_refl _) b st.bds t hs.num.bds hb, hs.num.len⟩⟩

theorem take_free {α : Type} (p : α → Bool) : ∀ (l : List α), ∀ x ∈ l.take (l.takeWhile p).length, p x = true
  | [], x, h => by simp at h
  | y :: l, x, h => by
    by_cases hp : p y = true
    · simp only [List.takeWhile_cons, hp, if_true, List.length_cons, List.take_succ_cons] at h
      rcases List.mem_cons.1 h with rfl | h
      · exact hp
      · exact take_free p l x h
    · simp [List.takeWhile_cons, hp] at h
theorem zero_dens {P : Program} {t : TypeId} {cs : List Lf} (h : zeroLf P t = some cs) (Γ Γ' : Env) : dens Γ cs = dens Γ' cs := by
  obtain ⟨it, z, h1, h2, h3⟩ := zeroLf_spec h Γ
  obtain ⟨it', z', h1', h2', h3'⟩ := zeroLf_spec h Γ'
  rw [h1] at h1'
  cases h1'
  rw [h2] at h2'
  cases h2'
  rw [← h3, h3']
theorem zero_ok {P : Program} {t : TypeId} {cs : List Lf} (h : zeroLf P t = some cs) (w : World) (O : Nat → Nat → Prop) (Γ : Env) : ∀ l ∈ cs, l.ok P w O Γ := fun l hl => by
  unfold zeroLf at h
  split at h
  · rename_i it hi
    cases hzz : it.zero with
    | none => simp [hzz] at h
    | some zv =>
      simp [hzz] at h
      subst h
      obtain ⟨v, -, rfl⟩ := List.mem_map.1 hl
      unfold Lf.ofValue
      split <;> trivial
  · cases h
theorem run_alloc {P : Program} {o : Oper} {t : TypeId} (ho : o.op = .alloc t) {cs : List Lf} (hz : zeroLf P t = some cs) (Γ : Env) (a : Act) (w : World) :
    (execOp a.eval o).run P w = .ok (.value (.pointer (some ⟨w.heap.size, 0, none⟩))) (w.alloc (.cells (dens Γ cs) t)) := by
  obtain ⟨it, z, hi, hzz, hc⟩ := zeroLf_spec hz Γ
  unfold execOp
  rw [ho]
  simp [Instr.alloc, zeroValue, run_typeInfo' hi, hzz, newVar, newRow, hc]
theorem draw_sound (hcx : CxOK cx) {id : Nat} {ops : Array Oper} (hcond : drawOk cx ops = true) {Γ : Env} {st : St} {a : Act} {w : World} (hs : Sat cx.P F w0 Γ st a w) {k : St → Option Tree} {T : Tree}
    (h : execOps cx ops ops.toList st k = some T) {Ls : List (List C → Prop)} (hv : VC cx R T Γ.ρ Ls) {Q : Exit → Act → World → Prop} (hk : Next cx R F w0 k Γ st.lvl Ls (fun a w => Q .normal a w)) :
    (Code.region id ops true).wp cx.P Q a w := by
  simp only [drawOk, Bool.and_eq_true] at hcond
  obtain ⟨hh, ht⟩ := hcond
  generalize hn : headLen cx ops = n
  have hfree : ∀ o ∈ ops.toList.take n, freeOp cx o = true := by rw [← hn]; exact take_free _ _
  have hw1 : Sat cx.P F w0 Γ st a { w with drawn := w.drawn + 1 } := hs.below ⟨rfl, rfl, rfl, Nat.le_refl _, fun _ _ => rfl⟩
  have hsplit : ops.toList = ops.toList.take n ++ ops.toList.drop n := (List.take_append_drop n _).symm
  rw [hsplit] at h
  generalize hta : (match ops[n]? with | some o => (match o.op with | .alloc t => t | _ => 0) | none => 0) = ta
  generalize hca : (zeroLf cx.P ta).getD [] = ca
  let Cl : Option Nat → World → Prop := fun ob w => Sat cx.P F w0 (Γ.addO ob) st a w ∧ ∀ b, ob = some b → Blk w b ta (dens Γ ca) ∧ w0.heap.size ≤ b ∧ ∀ j mb, look st.mem j = some mb → Γ.blk j ≠ b
  have hcl1 : Cl none { w with drawn := w.drawn + 1 } := ⟨by rw [Env.addO_none]; exact hw1, fun b hb => by cases hb⟩
  obtain ⟨vs, st', T', Γ', g1, g2, g3, g4, g5, g6, g7, g8⟩ := head_lex (R := R) (F := F) (w0 := w0) hcx (Cl := Cl) hcl1 (ops.toList.take n) hfree st T h Γ Ls hv a
    ⟨fun ob w hw => hw.1, fun ob w w' hw hb => ⟨hw.1.below hb, fun b hb' => ⟨((hw.2 b hb').1).below hb, (hw.2 b hb').2⟩⟩⟩
  have hle : drawLen cx ops ≤ ops.size := by
    simp only [tailOk, Bool.and_eq_true, decide_eq_true_eq] at ht
    exact ht.1.1.1
  have start : ∀ m, m = drawLen cx ops → n ≤ m → Head cx.P ops Cl n m vs a none (Array.replicate ops.size false) a { w with drawn := w.drawn + 1 } := by
    intro m hm hnm
    refine ⟨hcl1, ⟨by simp, fun j oj _ hj => ?_, fun t _ ht => ?_⟩, rfl, rfl, fun _ => ?_, fun _ => rfl, fun t hall => ?_⟩
    · rw [getD_replicate_false] at hj; cases hj
    · exact getD_in (by simpa using ht) (getD_replicate_false _ _)
    · rw [getD_replicate_false]; rfl
    · refine (putAll_other _ _ _ t fun x hx hxd => ?_).symm
      obtain ⟨j, hj⟩ := List.getElem?_of_mem hx
      rw [List.getElem?_take] at hj
      split at hj
      · rename_i hjn
        have := hall j (by omega) (by unfold dstOf; simp at hj; rw [hj]; exact hxd)
        rw [getD_replicate_false] at this
        cases this
      · cases hj
  have hcount : ∀ m, m ≤ ops.size → ops.size = (List.range m).countP (fun j => !(Array.replicate ops.size false).getD j false) + (ops.size - m) := by
    intro m hm
    have : (List.range m).countP (fun j => !(Array.replicate ops.size false).getD j false) = m := by
      rw [List.countP_eq_length.2 (fun j _ => by rw [getD_replicate_false]; rfl)]
      simp
    omega
  by_cases hal : allocAt ops n = true
  · have hm : drawLen cx ops = n + 1 := by unfold drawLen; rw [hn, if_pos hal]
    rw [hm] at hh ht hle
    unfold allocAt at hal
    split at hal
    · rename_i o ho
      simp only [Bool.and_eq_true, Option.isNone_iff_eq_none] at hal
      obtain ⟨⟨⟨hop, hg⟩, hdst⟩, -⟩ := hal
      split at hop
      · rename_i t hopeq
        have hta' : ta = t := by rw [← hta, ho]; simp only [hopeq]
        subst hta'
        have hdrop : ops.toList.drop n = o :: ops.toList.drop (n + 1) := by
          have hlt : n < ops.toList.length := by simp; omega
          rw [List.drop_eq_getElem_cons hlt]
          congr 1
          have : ops.toList[n]? = some o := by simp [ho]
          rw [List.getElem?_eq_getElem hlt] at this
          exact Option.some.inj this
        rw [hdrop] at g2
        simp only [execOps, hg] at g2
        have hov : opVal cx.P st' o = none := by unfold opVal; rw [hopeq]
        simp only [doOp, hov, hopeq] at g2
        split at g2
        · rename_i cs hz
          have hcs : ca = cs := by rw [← hca, hz]; rfl
          subst hcs
          cases hf : st'.fresh ta ca with
          | none => simp [hf] at g2
          | some st1 =>
            cases hp : st1.put o.dst (some (.one (.lf (.ptr st'.nb 0)))) with
            | none => simp [hf, hp] at g2
            | some st2 =>
              simp [hf, hp] at g2
              refine wp_region_any hcx.mixed (any_order g1 hh ht (Nat.le_succ n) (Nat.le_refl _) (fun _ => ⟨o, ho, hg, fun a1 w1 hw1 K Q1 hK => ?_⟩) (fun ob w1 hw1 hsome _ => ?_) ops.size _ a _ none (start (n + 1) hm.symm (Nat.le_succ n)) (hcount (n + 1) hle))
              · unfold Oper.wp
                rw [run_alloc hopeq hz Γ]
                refine hK _ ⟨?_, fun b hb => ?_⟩
                · have hsw := hw1.1
                  rw [Env.addO_none] at hsw
                  have hbel := below_alloc w1 (.cells (dens Γ ca) ta)
                  have h2 := hsw.below hbel
                  refine ⟨fun t' sv hsv => ?_, h2.size, fun b mb hb => ?_, h2.inj, h2.keeps, h2.fold, fun b o' hb => ?_, h2.defers, h2.len, h2.nb, h2.num⟩
                  · obtain ⟨q1, q2⟩ := hsw.slots t' sv hsv
                    refine ⟨by rw [SV.den_addO]; exact q1, ?_⟩
                    have hkeep : ∀ b o', b < w1.heap.size → ¬ Own Γ st b o' → (w1.alloc (.cells (dens Γ ca) ta)).cell? ⟨b, o', none⟩ = w1.cell? ⟨b, o', none⟩ ∧ ¬ Own (Γ.addO (some w1.heap.size)) st b o' :=
                      fun b o' hb hno => ⟨World.cell?_of_block (hbel.block b hb), fun hx => hx.elim (fun hx => hx.elim (fun hx => hno (.inl hx)) (fun hx => by cases hx; omega)) (fun hx => hno (.inr hx))⟩
                    have q3 := SV.ok_keep q2 hbel.size hkeep
                    cases sv with
                    | one s => exact fun l hl => by have := q3 l hl; cases l <;> exact this
                    | tup ss => exact fun s hs' l hl => by have := q3 s hs' l hl; cases l <;> exact this
                    | fn f ls => exact fun l hl => by have := q3 l hl; cases l <;> exact this
                  · obtain ⟨q1, q2, q3, q4⟩ := hsw.mem b mb hb
                    have hkeep : ∀ b o', b < w1.heap.size → ¬ Own Γ st b o' → (w1.alloc (.cells (dens Γ ca) ta)).cell? ⟨b, o', none⟩ = w1.cell? ⟨b, o', none⟩ ∧ ¬ Own (Γ.addO (some w1.heap.size)) st b o' :=
                      fun b o' hb hno => ⟨World.cell?_of_block (hbel.block b hb), fun hx => hx.elim (fun hx => hx.elim (fun hx => hno (.inl hx)) (fun hx => by cases hx; omega)) (fun hx => hno (.inr hx))⟩
                    have hd : dens (Γ.addO (some w1.heap.size)) mb.2 = dens Γ mb.2 := by
                      unfold dens; rw [List.map_congr_left fun l _ => show l.den (Γ.addO (some w1.heap.size)) = l.den Γ by cases l <;> rfl]
                    rw [hd]
                    exact ⟨q1.alloc _, fun l hl => by have := Lf.ok_keep (q2 l hl) hbel.size hkeep; cases l <;> exact this, q3, q4⟩
                  · rcases hb with hb | hb
                    · exact Nat.lt_of_lt_of_le (hsw.base b o' hb) hbel.size
                    · cases hb; simp
                · cases hb
                  have hsw := hw1.1
                  rw [Env.addO_none] at hsw
                  exact ⟨Blk.new w1 ta _, hsw.keeps.size, fun j mb hj e => by have := (hsw.mem j mb hj).1.lt; omega⟩
              · cases ob with
                | none => have := hsome (Nat.lt_succ_self n); cases this
                | some b =>
                  obtain ⟨hb1, hb2, hb3⟩ := hw1.2 b rfl
                  have hsat := g6.sat (some b) w1 hw1
                  obtain ⟨Γ2, e1, e2, e3, e4, e5⟩ := hsat.adopt hf (by rw [zero_dens hz Γ' Γ]; exact hb1) hb2 (fun j mb hj => by
                    rw [g7] at hj
                    have hlt : j < Γ.nb := by
                      have := (hs.mem j mb hj).2.2.2
                      rw [hs.nb]; exact this
                    rw [g3.blk j hlt]
                    exact hb3 j mb hj) (fun l hl => zero_ok hz _ _ _ l hl)
                  have hput := e4.put hp (one_ok trivial)
                  simp only [SV.den, S0.den, Lf.den, e3] at hput
                  have hact : endAct ops n vs a (some b) = (putAll (ops.toList.take n) vs a).put o.dst (.pointer (some ⟨b, 0, none⟩)) := by
                    unfold endAct
                    rw [show dstOf ops n = o.dst by unfold dstOf; rw [ho]; rfl]
                  rw [hact]
                  exact execOps_sound hcx (ops.toList.drop (n + 1)) st2 T' g2 Γ2 Ls (by rw [e2]; exact g5) _ w1 hput fun st3 T3 Γ3 h3 he3 hl3 => hk st3 T3 Γ3 h3 ((g3.trans e1).trans he3) (by rw [hl3, St.put_lvl hp, e5, g4])
        · cases g2
      · cases hop
    · cases hal
  · have hm : drawLen cx ops = n := by unfold drawLen; rw [hn, if_neg hal]
    rw [hm] at hh ht hle
    refine wp_region_any hcx.mixed (any_order g1 hh ht (Nat.le_refl n) (Nat.le_succ n) (fun h => by omega) (fun ob w1 hw1 _ hnone => ?_) ops.size _ a _ none (start n hm.symm (Nat.le_refl n)) (hcount n hle))
    have := hnone rfl
    subst this
    have hsat := g6.sat none w1 hw1
    rw [Env.addO_none] at hsat
    exact execOps_sound hcx (ops.toList.drop n) st' T' g2 Γ' Ls g5 _ w1 hsat fun st3 T3 Γ3 h3 he3 hl3 => hk st3 T3 Γ3 h3 (g3.trans he3) (by rw [hl3, g4])
theorem exec_sound (hcx : CxOK cx) : ∀ (c : Code) (st : St) (k : Ex → St → Option Tree) (T : Tree), exec cx c st k = some T →
    ∀ (Γ : Env) (Ls : List (List C → Prop)) (Q : Exit → Act → World → Prop), KOK cx R F w0 k Γ Ls Q → Ls.length = st.lvl → VC cx R T Γ.ρ Ls → ∀ a w, Sat cx.P F w0 Γ st a w → c.wp cx.P Q a w := by
  intro c
  induction c with
  | skip => intro st k T h Γ Ls Q hk hl hv a w hs; exact wp_skip (hk .nrm st T Γ Ls h (Ext.refl _) (List.prefix_refl _) hl hv a w hs)
  | label l => intro st k T h Γ Ls Q hk hl hv a w hs; exact wp_label (hk .nrm st T Γ Ls h (Ext.refl _) (List.prefix_refl _) hl hv a w hs)
  | exit id => intro st k T h Γ Ls Q hk hl hv a w hs; exact wp_exit (hk (.ext id) st T Γ Ls h (Ext.refl _) (List.prefix_refl _) hl hv a w hs)
  | ret => intro st k T h Γ Ls Q hk hl hv a w hs; exact wp_ret (hk .ret st T Γ Ls h (Ext.refl _) (List.prefix_refl _) hl hv a w hs)
  | goto l => intro st k T h; cases h
  | refuse y => intro st k T h; cases h
  | rangeFunc f ps x y => intro st k T h; cases h
  | scope c => intro st k T h; cases h
  | seq x y ihx ihy =>
    intro st k T h Γ Ls Q hk hl hv a w hs
    simp only [exec] at h
    refine wp_seq (ihx st _ T h Γ Ls _ ?_ hl hv a w hs)
    intro e st' T' Γ' Ls' hk' he' hl' hlen hv' a' w' hs'
    cases e with
    | nrm => exact ihy st' k T' hk' Γ' Ls' Q (hk.mono he' hl') hlen hv' a' w' hs'
    | ext id => exact hk (.ext id) st' T' Γ' Ls' hk' he' hl' hlen hv' a' w' hs'
    | ret => exact hk .ret st' T' Γ' Ls' hk' he' hl' hlen hv' a' w' hs'
  | cond c x y ihx ihy =>
    intro st k T h Γ Ls Q hk hl hv a w hs
    simp only [exec] at h
    split at h
    · rename_i t hc
      have he := ((hs.view #[c]).lf (by simp) hc).1
      simp only [Lf.den, B.den] at he
      refine wp_cond he ?_
      cases t
      · simp at h ⊢; exact ihy st k T h Γ Ls Q hk hl hv a w hs
      · simp at h ⊢; exact ihx st k T h Γ Ls Q hk hl hv a w hs
    · rename_i b hlit hc
      have he := ((hs.view #[c]).lf (by simp) hc).1
      simp only [Lf.den] at he
      split at h
      · rename_i t f h1 h2
        cases h
        refine wp_cond_split he (fun hb => ?_) (fun hb => ?_)
        · exact ihx _ k t h1 Γ Ls Q hk hl (hv.1 hb) a w (hs.learn1 hb)
        · exact ihy _ k f h2 Γ Ls Q hk hl (hv.2 hb) a w (hs.learn1 hb)
      · cases h
    · cases h
  | block id c ih =>
    intro st k T h Γ Ls Q hk hl hv a w hs
    simp only [exec] at h
    refine wp_block (ih st _ T h Γ Ls _ ?_ hl hv a w hs)
    intro e st' T' Γ' Ls' hk' he' hl' hlen hv' a' w' hs'
    cases e with
    | nrm => exact hk .nrm st' T' Γ' Ls' hk' he' hl' hlen hv' a' w' hs'
    | ret => exact hk .ret st' T' Γ' Ls' hk' he' hl' hlen hv' a' w' hs'
    | ext i =>
      simp only [Ex.out, Exit.inBlock]
      simp only [] at hk'
      by_cases hi : i = id
      · rw [if_pos hi] at hk' ⊢; exact hk .nrm st' T' Γ' Ls' hk' he' hl' hlen hv' a' w' hs'
      · rw [if_neg hi] at hk' ⊢; exact hk (.ext i) st' T' Γ' Ls' hk' he' hl' hlen hv' a' w' hs'
  | region id ops draw =>
    intro st k T h Γ Ls Q hk hl hv a w hs
    simp only [exec] at h
    split at h
    · rename_i hcond
      have hnext : ∀ Γ1, Ext Γ Γ1 → Next cx R F w0 (k .nrm) Γ1 st.lvl Ls (fun a w => Q .normal a w) := fun Γ1 he1 st' T' Γ' hk' he' hlvl hv' a' w' hs' =>
        hk .nrm st' T' Γ' Ls hk' (he1.trans he') (List.prefix_refl _) (by rw [hlvl]; exact hl) hv' a' w' hs'
      cases draw with
      | false => exact wp_region_list (execOps_sound hcx ops.toList st T h Γ Ls hv a w hs (hnext Γ (Ext.refl Γ)))
      | true =>
        simp only [Bool.not_true, Bool.false_or] at hcond
        exact draw_sound hcx hcond hs h hv (hnext Γ (Ext.refl Γ))
    · rename_i hcond
      split at h
      · rename_i hc
        cases draw with
        | false => simp at hcond
        | true => exact any_sound hcx hc h hv hs fun st' T' Γ' hk' he' hlvl hv' a' w' hs' => hk .nrm st' T' Γ' Ls hk' he' (List.prefix_refl _) (by rw [hlvl]; exact hl) hv' a' w' hs'
      · cases h
  | loop c ih =>
    intro st k T h Γ Ls Q hk hl hv a w hs
    simp only [exec] at h
    have hs0 : Sat cx.P F w0 Γ (loopSt0 cx c st) a w := hs.forget _
    have hl1 : (loopSt1 cx c st).lvl = st.lvl + 1 := rfl
    have e1 : (loopSt0 cx c st).nb = st.nb := rfl
    have e2 : (loopSt0 cx c st).nt = st.nt := rfl
    have e3 : (loopSt0 cx c st).bds = st.bds := rfl
    generalize loopSt1 cx c st = st1 at *
    generalize loopSt0 cx c st = st0 at *
    generalize loopPs cx c st = ps at *
    split at h
    · cases h
    · rename_i init hinit
      split at h
      · cases h
      · rename_i ks hks
        split at h
        · rename_i hcond
          simp only [Bool.and_eq_true, decide_eq_true_eq] at hcond
          obtain ⟨⟨⟨⟨⟨⟨c1, c2⟩, c3⟩, c4⟩, c5⟩, c6⟩, c7⟩ := hcond
          have c4 := Nat.eq_of_beq_eq_true c4
          have c5 := Nat.eq_of_beq_eq_true c5
          have c6 := Nat.eq_of_beq_eq_true c6
          generalize hkl : (fun (x : Ex) (st' : St) => match x with
            | .nrm => if sameRest st1 st' ps && Nat.ble st1.nb st'.nb && Nat.beq st1.nt st'.nt then match backPs st1 st' st.nx ps with
                | some vals => if kindsL vals = some ks then some (obT (rngL st'.bds vals) (.back st.lvl vals)) else none
                | none => none
              else none
            | x => k x st' : Ex → St → Option Tree) = kl at h
          cases hb : exec cx c st1 kl with
          | none => simp [hb] at h
          | some t =>
            simp [hb] at h
            subst h
            obtain ⟨hob, I, μ, hI0, hall⟩ := VC.obT hv
            have hlen : Γ.ρ.length = st.nx := hs.len
            have hnum1 : Num st1.bds Γ.ρ := by rw [c7]; exact hs.num
            obtain ⟨hty0, hsat0⟩ := hs0.rebase (st1 := st1) (ρ0 := Γ.ρ) ⟨[], by simp⟩ c3 (by rw [hlen]; exact hinit) hks (by rw [e3]; exact hob) (by rw [hlen]; exact c2) (by rw [c6, e2]) (by rw [c5, e1]; exact Nat.le_refl _) (by rw [hlen]; exact c4) hnum1
            refine wp_loop_ghost (fun n a w => ∃ xs Γx, CTy cx.P ks xs ∧ I xs ∧ μ xs = n ∧ Γx.ρ = Γ.ρ ++ xs ∧ Ext Γ Γx ∧ Sat cx.P F w0 Γx st1 a w) (μ (cs_ Γ.ρ init))
              ⟨cs_ Γ.ρ init, { Γ with ρ := Γ.ρ ++ cs_ Γ.ρ init, nb := st1.nb }, hty0, hI0, rfl, rfl, ⟨⟨_, rfl⟩, fun _ _ => rfl, by simp only [c5]; rw [hs.nb]; exact Nat.le_refl _, rfl⟩, hsat0⟩ ?_
            rintro n a1 w1 ⟨xs, Γx, hty, hI, hn, hρ, he, hsx⟩
            have hvx := allC_elim hall xs hty hI
            rw [← hρ] at hvx
            refine ih st1 kl t hb Γx (Ls ++ [fun ys => I ys ∧ μ ys < μ xs]) _ ?_ (by simp [hl, hl1]) hvx a1 w1 hsx
            intro e st' T' Γ' Ls' hk' he' hl' hlen' hv' a' w' hs'
            subst hkl
            cases e with
            | ext i => exact hk (.ext i) st' T' Γ' Ls' hk' (he.trans he') ((List.prefix_append _ _).trans hl') hlen' hv' a' w' hs'
            | ret => exact hk .ret st' T' Γ' Ls' hk' (he.trans he') ((List.prefix_append _ _).trans hl') hlen' hv' a' w' hs'
            | nrm =>
              simp only [] at hk'
              split at hk'
              · rename_i hc
                simp only [Bool.and_eq_true] at hc
                obtain ⟨⟨d1, d2⟩, d3⟩ := hc
                split at hk'
                · rename_i vals hvals
                  split at hk'
                  · rename_i hks'
                    cases hk'
                    obtain ⟨hob', hback⟩ := VC.obT hv'
                    obtain ⟨l, hl2⟩ := (he.trans he').ρ
                    obtain ⟨hty', hsat'⟩ := hs'.rebase (st1 := st1) (ρ0 := Γ.ρ) ⟨l, hl2⟩ d1 (by rw [hlen]; exact hvals) hks' hob' (by rw [hlen]; exact c2) (Nat.eq_of_beq_eq_true d3) (Nat.le_of_ble_eq_true d2) (by rw [hlen]; exact c4) hnum1
                    have hget : Ls'[st.lvl]? = some (fun ys => I ys ∧ μ ys < μ xs) := by
                      obtain ⟨m, rfl⟩ := hl'
                      rw [List.append_assoc, List.getElem?_append_right (by omega), hl]
                      simp
                    simp only [VC, hget] at hback
                    simp only [Ex.out, Exit.then]
                    refine ⟨μ (cs_ Γ'.ρ vals), by rw [← hn]; exact hback.2, cs_ Γ'.ρ vals, { Γ' with ρ := Γ.ρ ++ cs_ Γ'.ρ vals, nb := st1.nb }, hty', hback.1, rfl, rfl, ⟨⟨_, rfl⟩, fun b hb => ?_, by simp only [c5]; rw [hs.nb]; exact Nat.le_refl _, (he.trans he').base⟩, hsat'⟩
                    exact (he.trans he').blk b hb
                  · cases hk'
                · cases hk'
              · cases hk'
        · cases h
end

/-! A function's beginning and end -/
def retOne (P : Program) (st : St) : ResultVar → Option S0
  | .tmp t => st.s0 (.tmp t)
  | .cell a t => match st.lf (.tmp a) with
    | some l => loadLf P st.mem t l
    | none => none
def retAll (P : Program) (st : St) : List ResultVar → Option (List S0)
  | [] => some []
  | r :: rs => match retOne P st r, retAll P st rs with
    | some s, some l => some (s :: l)
    | _, _ => none
def argSl : Nat → List S0 → List (Nat × Option SV)
  | _, [] => []
  | i, s :: l => (i, some (.one s)) :: argSl (i + 1) l
/-- The pointer among the arguments. -/
def boxArg : List Sh0 → Option (TypeId × List Lk)
  | [] => none
  | .box t l :: _ => some (t, l)
  | _ :: ss => boxArg ss
/-- What lies behind the pointer at the end. -/
def outL (st : St) (ct : Ct) : Option (List Lf) :=
  match boxArg ct.args with
  | none => some []
  | some (t, ks) => match look st.mem 0 with
    | some mb => if mb.1 = t ∧ kindsL mb.2 = some ks then some mb.2 else none
    | none => none
def endOf (cx : Cx) (fn : Func) (ct : Ct) (st : St) : Option Tree :=
  match retAll cx.P st fn.results.toList, outL st ct with
  | some l, some o => if shapes st.mem l = some ct.res then some (obT (rngL st.bds (cellsOf st.mem l ++ o)) (.ret (cellsOf st.mem l ++ o))) else none
  | _, _ => none
def startOf (fn : Func) (ct : Ct) (bds : Bds) : St :=
  { sl := argSl 0 (freshS 0 ct.args 0), mem := freshMem 0 ct.args 0, nt := fn.ntmps, nb := (freshMem 0 ct.args 0).length, nx := (kindsOf ct.args).length, lvl := 0, bds := bds }
def execFn (cx : Cx) (fn : Func) (ct : Ct) (bds : Bds) : Option Tree :=
  match fn.body with
  | none => none
  | some c =>
    if ct.args.length ≤ fn.ntmps ∧ boxOk ct = true then
      exec cx c (startOf fn ct bds) fun x st => match x with
        | .ext _ => none
        | _ => endOf cx fn ct st
    else none

def resSem (tmps : Array Value) : ResultVar → Sem Value
  | .tmp t => pure (tmps.getD t undef)
  | .cell x t => do loadVar t (← asAddr (tmps.getD x undef))
theorem results_eq (fn : Func) (tmps : Array Value) : results fn tmps = (fn.results.mapM (resSem tmps) >>= fun vs => pure (if h : vs.size = 1 then vs[0] else .tuple vs)) := by
  unfold results
  congr 1
theorem run_one {P : Program} {F : Nat → Prop} {w0 : World} {Γ : Env} {st : St} {a : Act} {w : World} (hs : Sat P F w0 Γ st a w) {r : ResultVar} {s : S0} (h1 : retOne P st r = some s) :
    (resSem a.tmps r).run P w = .ok (s.den Γ) w ∧ s.ok P w (Own Γ st) Γ := by
  have hv := hs.view (P := P) #[.tmp 0]
  cases r with
  | tmp t =>
    simp only [retOne] at h1
    obtain ⟨g1, g2⟩ := hs.slots t _ (St.s0_ev h1)
    refine ⟨?_, g2⟩
    simp only [resSem, g1, Sem.run_pure]
    rfl
  | cell x t =>
    simp only [retOne] at h1
    split at h1
    · rename_i lf hlf
      obtain ⟨g1, g2⟩ := hs.slots x _ (St.lf_ev hlf)
      have hlo := g2 lf (by simp [S0.cells])
      obtain ⟨g3, g4⟩ := run_loadLf hv h1 hlo
      refine ⟨?_, g4⟩
      rw [show (SV.one (S0.lf lf)).den Γ = lf.den Γ from rfl] at g1
      have hp : ∃ ad, lf.den Γ = .pointer (some ad) := by
        cases lf with
        | ptr b o => exact ⟨_, rfl⟩
        | elp te sz e y o =>
          obtain ⟨b, p, he, -⟩ := hlo.1.addr hlo.2.1 hlo.2.2.1
          exact ⟨_, he _⟩
        | _ => simp [loadLf] at h1
      obtain ⟨ad, had⟩ := hp
      rw [had] at g1 g3
      simp only [resSem, g1, asAddr, pure_bind]
      simpa only [Instr.loadAt, Instr.sureAddr, pure_bind] using g3
    · cases h1
theorem run_all {P : Program} {F : Nat → Prop} {w0 : World} {Γ : Env} {st : St} {a : Act} {w : World} (hs : Sat P F w0 Γ st a w) : ∀ (rs : List ResultVar) (l : List S0), retAll P st rs = some l →
    (rs.mapM (resSem a.tmps)).run P w = .ok (l.map (S0.den Γ)) w ∧ ∀ s ∈ l, s.ok P w (Own Γ st) Γ
  | [], l, h => by simp [retAll] at h; subst h; simp
  | r :: rs, l, h => by
    simp only [retAll] at h
    split at h
    · rename_i s l' h1 h2
      cases h
      obtain ⟨i1, i2⟩ := run_all hs rs l' h2
      obtain ⟨j1, j2⟩ := run_one hs h1
      refine ⟨?_, fun x hx => ?_⟩
      · simp only [List.mapM_cons, Sem.run_bind, i1, j1, Result.andThen_ok, Sem.run_pure, List.map_cons]
      · rcases List.mem_cons.1 hx with rfl | hx
        · exact j2
        · exact i2 x hx
    · cases h
theorem run_results {P : Program} {fn : Func} {F : Nat → Prop} {w0 : World} {Γ : Env} {st : St} {a : Act} {w : World} (hs : Sat P F w0 Γ st a w) {l : List S0} (h : retAll P st fn.results.toList = some l) :
    (results fn a.tmps).run P w = .ok (match l.map (S0.den Γ) with | [x] => x | _ => .tuple (l.map (S0.den Γ)).toArray) w ∧ ∀ s ∈ l, s.ok P w (Own Γ st) Γ := by
  obtain ⟨k1, k2⟩ := run_all hs _ _ h
  refine ⟨?_, k2⟩
  rw [results_eq]
  simp only [Array.mapM_eq_mapM_toList, Sem.run_bind, Sem.run_map, k1, Result.andThen_ok, Sem.run_pure]
  congr 1
  match l.map (S0.den Γ) with
  | [] => simp
  | [x] => simp
  | x :: y :: l => simp

/-- A FUNCTION'S CONTRACT, out of its tree. -/
theorem look_argSl : ∀ (l : List S0) (i t : Nat) (sv : SV), look (argSl i l) t = some sv → ∃ j s, t = i + j ∧ l[j]? = some s ∧ sv = .one s
  | [], _, _, _, h => by cases h
  | s :: l, i, t, sv, h => by
    simp only [argSl, look] at h
    split at h
    · rename_i e; cases h; exact ⟨0, s, by omega, rfl, rfl⟩
    · obtain ⟨j, s', e, hj, hsv⟩ := look_argSl l (i + 1) t sv h
      exact ⟨j + 1, s', by omega, by simpa using hj, hsv⟩
theorem freshS_len (nb : Nat) : ∀ (l : List Sh0) (i : Nat), (freshS nb l i).length = l.length
  | [], _ => rfl
  | s :: l, i => by simp [freshS, freshS_len nb l]
theorem boxArg_none : ∀ {ss : List Sh0}, boxArg ss = none → ss.all (fun s => !s.isBox) = true
  | [], _ => rfl
  | .box t l :: _, h => by cases h
  | .lf k :: ss, h => by simp only [List.all_cons, Bool.and_eq_true]; exact ⟨rfl, boxArg_none (ss := ss) h⟩
  | .agg k :: ss, h => by simp only [List.all_cons, Bool.and_eq_true]; exact ⟨rfl, boxArg_none (ss := ss) h⟩
theorem boxArg_some : ∀ {ss : List Sh0} {p : TypeId × List Lk}, boxArg ss = some p → ss.all (fun s => !s.isBox) = false
  | [], _, h => by cases h
  | .box t l :: _, _, _ => rfl
  | .lf k :: ss, _, h => by have := boxArg_some (ss := ss) h; simpa [Sh0.isBox] using this
  | .agg k :: ss, _, h => by have := boxArg_some (ss := ss) h; simpa [Sh0.isBox] using this
theorem filter_noBox {ss : List Sh0} (h : (ss.filter Sh0.isBox).length ≤ 0) : ss.all (fun s => !s.isBox) = true := by
  have h0 : (ss.filter Sh0.isBox) = [] := List.eq_nil_of_length_eq_zero (by omega)
  rw [List.all_eq_true]
  intro x hx
  cases hxb : x.isBox with
  | false => rfl
  | true => have := List.mem_filter.2 ⟨hx, hxb⟩; rw [h0] at this; cases this
theorem outs_none {P : Program} {w : World} {O : Nat → Nat → Prop} : ∀ {ss : List Sh0} {vs : List Value}, ss.all (fun s => !s.isBox) = true → Outs P w O ss vs []
  | [], vs, _ => by cases vs <;> rfl
  | s :: ss, [], _ => by cases s <;> rfl
  | s :: ss, v :: vs, hb => by
    simp only [List.all_cons, Bool.and_eq_true] at hb
    cases s with
    | box t l => cases hb.1
    | lf k => exact outs_none (ss := ss) (vs := vs) hb.2
    | agg l => exact outs_none (ss := ss) (vs := vs) hb.2
theorem box_start {P : Program} {w : World} {O : Nat → Nat → Prop} {ρ : List C} {t : TypeId} {ks : List Lk} : ∀ {ss : List Sh0} {vs : List Value} {cs : List C}, Reps P w O none ss vs cs → (ss.filter Sh0.isBox).length ≤ 1 → boxArg ss = some (t, ks) → ∀ i, (∀ j c, cs[j]? = some c → at_ ρ (i + j) = c) →
    ∃ (b : Nat) (us : List Value) (c1 : List C) (n : Nat), (∀ x, IsBox ss vs x ↔ x = b) ∧ Blk w b t us.toArray ∧ (∀ o, O b o) ∧ LReps P w (fun x o => O x o ∨ some b = some x) ks us c1 ∧ freshMem 0 ss i = [(0, some (t, freshL ks n))] ∧ (∀ j c, c1[j]? = some c → at_ ρ (n + j) = c) ∧
      ∀ w' O' us' c', Blk w' b t us'.toArray → LReps P w' O' ks us' c' → Outs P w' O' ss vs c'
  | [], _, _, _, _, hb, _, _ => by cases hb
  | s :: ss, [], _, h, _, _, _, _ => h.elim
  | s :: ss, v :: vs, cs, h, hl, hb, i, hi => by
    obtain ⟨c1, c2, rfl, h1, h2⟩ := h
    have hlen : c1.length = s.kinds.length := h1.ty.len
    have hi2 : ∀ j c, c2[j]? = some c → at_ ρ (i + s.kinds.length + j) = c := fun j c hj => by
      have := hi (c1.length + j) c (by rw [List.getElem?_append_right (by omega)]; simpa using hj)
      rwa [← hlen, Nat.add_assoc]
    have hi1 : ∀ j c, c1[j]? = some c → at_ ρ (i + j) = c := fun j c hj => hi j c (by
      have : j < c1.length := by
        rcases Nat.lt_or_ge j c1.length with h' | h'
        · exact h'
        · rw [List.getElem?_eq_none h'] at hj; cases hj
      rw [List.getElem?_append_left this]; exact hj)
    cases s with
    | box t' l =>
      cases hb
      have hno : ss.all (fun s => !s.isBox) = true := filter_noBox (by simp only [List.filter_cons, Sh0.isBox, if_true, List.length_cons] at hl; omega)
      obtain ⟨b, us, rfl, g1, g2, g3⟩ := h1
      refine ⟨b, us, c1, i, fun x => ⟨?_, fun e => .inl (by rw [e])⟩, g1, g2, g3, ?_, hi1, fun w' O' us' c' k1 k2 => ⟨c', [], b, us', by simp, rfl, k1, k2, outs_none hno⟩⟩
      · rintro (hx | hx)
        · cases hx; rfl
        · exact absurd hx (isBox_noBox hno)
      · simp only [freshMem]
        rw [freshMem_noBox 0 ss _ hno]
    | lf k =>
      obtain ⟨b, us, c, n, r1, r2, r3, r4, r5, r6, r7⟩ := box_start h2 hl hb _ hi2
      exact ⟨b, us, c, n, r1, r2, r3, r4, r5, r6, r7⟩
    | agg l =>
      obtain ⟨b, us, c, n, r1, r2, r3, r4, r5, r6, r7⟩ := box_start h2 hl hb _ hi2
      exact ⟨b, us, c, n, r1, r2, r3, r4, r5, r6, r7⟩
theorem St.look_one {t : TypeId} {l : List Lf} {j : Nat} {mb : TypeId × List Lf} (h : look [(0, some (t, l))] j = some mb) : j = 0 ∧ mb = (t, l) := by
  simp only [look] at h
  split at h
  · rename_i e; cases h; exact ⟨e.symm, rfl⟩
  · cases h
theorem ct_ok {cx : Cx} (hcx : CxOK cx) {f : FuncId} {fn : Func} (hf : cx.P.funcs[f]? = some fn) {ct : Ct} {bds : Bds} {T : Tree} (hT : execFn cx fn ct bds = some T)
    (hvc : allC cx.P (kindsOf ct.args) fun cs => ct.pre cs → bds.ok cs ∧ VC cx (ct.post cs) T cs []) : CtOK cx.P f ct := by
  intro Base w vs cs hBase hreps hpre
  have hty := hreps.ty
  obtain ⟨hb, hv⟩ := allC_elim hvc cs hty hpre
  unfold execFn at hT
  split at hT
  · cases hT
  · rename_i c hbody
    split at hT
    · rename_i hle'
      obtain ⟨hle, hbx⟩ := hle'
      refine calls_of_wp hf hbody ?_
      have hat : ∀ j c, cs[j]? = some c → at_ cs (0 + j) = c := fun j c hj => by rw [Nat.zero_add]; simp [at_, List.getD_eq_getElem?_getD, hj]
      have hbx' := hbx
      simp only [boxOk, Bool.and_eq_true, Bool.or_eq_true] at hbx'
      obtain ⟨hb1, hb2⟩ := hbx'
      have hb1 := Nat.le_of_ble_eq_true hb1
      have hsm : Smalls cs := by
        have := Smalls.nil.app (cs := cs) fun c hc => hty.small c hc
        simpa using this
      -- where the argument's block lies
      obtain ⟨B, hB1, hB2, hB3⟩ : ∃ B : Nat, (∀ x, IsBox ct.args vs x → x = B) ∧
          (∀ Γ : Env, Γ.ρ = cs → Γ.blk 0 = B → Γ.base = Base → ∀ j mb, look (freshMem 0 ct.args 0) j = some mb → Blk w (Γ.blk j) mb.1 (dens Γ mb.2) ∧ (∀ l ∈ mb.2, l.ok cx.P w (fun x o => Base x o ∨ x = B) Γ) ∧ IsBox ct.args vs (Γ.blk j) ∧ j < (freshMem 0 ct.args 0).length ∧ j = 0 ∧ ∀ o, Base B o) ∧
          (∀ (st' : St) (o : List Lf) (w' : World) (Γ' : Env) (O' : Nat → Nat → Prop), outL st' ct = some o → Γ'.blk 0 = (if (freshMem 0 ct.args 0).length = 0 then Γ'.blk 0 else B) → (∀ mb, look st'.mem 0 = some mb → Blk w' (Γ'.blk 0) mb.1 (dens Γ' mb.2) ∧ ∀ l ∈ mb.2, l.ok cx.P w' O' Γ') → Num st'.bds Γ'.ρ → Obs Γ'.ρ (rngL st'.bds o) → Outs cx.P w' O' ct.args vs (cs_ Γ'.ρ o)) := by
        cases hba : boxArg ct.args with
        | none =>
          have hno := boxArg_none hba
          refine ⟨0, fun x hx => absurd hx (isBox_noBox hno), fun Γ _ _ _ j mb hj => ?_, fun st' o w' Γ' O' ho _ _ _ _ => ?_⟩
          · rw [freshMem_noBox 0 ct.args 0 hno] at hj; cases hj
          · simp only [outL, hba, Option.some.injEq] at ho; subst ho; exact outs_none hno
        | some p =>
          obtain ⟨t, ks⟩ := p
          obtain ⟨b, us, c1, n, r1, r2, r3, r4, r5, r6, r7⟩ := box_start hreps hb1 hba 0 hat
          refine ⟨b, fun x hx => (r1 x).1 hx, fun Γ hρ hblk hbase j mb hj => ?_, fun st' o w' Γ' O' ho hbl hm hn hob => ?_⟩
          · rw [r5] at hj
            obtain ⟨rfl, rfl⟩ := St.look_one hj
            obtain ⟨f1, f2⟩ := freshL_rep (Γ := Γ) r4 n (fun j c hj => by rw [hρ]; exact r6 j c hj)
            refine ⟨by rw [hblk]; unfold dens; rw [f1]; exact r2, fun l hl => Lf.ok_anti (f2 l hl) fun x o hx => hx.imp id fun e => by rw [e], by rw [hblk]; exact (r1 b).2 rfl, by rw [r5]; exact Nat.succ_pos _, rfl, r3⟩
          · rw [r5] at hbl
            simp only [List.length_cons, List.length_nil, Nat.zero_add, Nat.one_ne_zero, if_false] at hbl
            simp only [outL, hba] at ho
            split at ho
            · rename_i mb hmb
              split at ho
              · rename_i hc
                cases ho
                obtain ⟨m1, m2⟩ := hm mb hmb
                rw [hbl, hc.1] at m1
                exact r7 w' O' _ _ m1 (Ls_rep hn hc.2 m2 hob)
              · cases ho
            · cases ho
      let Γ : Env := { ρ := cs, blk := fun _ => B, nb := (freshMem 0 ct.args 0).length, base := Base }
      obtain ⟨f1, f2⟩ := freshS_rep (Γ := Γ) (nb := 0) hreps (fun b hb => (hB1 b hb).symm) 0 hat
      have hvl : vs.length = ct.args.length := by rw [← f1, List.length_map, freshS_len]
      have hs : Sat cx.P (fun i => i < w.heap.size ∧ ¬ IsBox ct.args vs i) w Γ (startOf fn ct bds) { tmps := vs.toArray ++ Array.replicate (fn.ntmps - vs.toArray.size) undef, defers := [] } w := by
        refine ⟨fun t sv ht => ?_, by simp [startOf]; omega, fun b mb hm => ?_, fun b c mb mc hm hm' _ => ?_, Keeps.refl _ _, fun i hi => hi.1, hBase, rfl, hty.len, rfl, ⟨hb, hsm⟩⟩
        · obtain ⟨j, s, e, hj, rfl⟩ := look_argSl _ _ _ _ ht
          have hjl : j < vs.length := by
            rw [hvl, ← freshS_len 0 ct.args 0]
            rcases Nat.lt_or_ge j (freshS 0 ct.args 0).length with h' | h'
            · exact h'
            · rw [List.getElem?_eq_none h'] at hj; cases hj
          have hmem := List.mem_of_getElem? hj
          refine ⟨?_, fun l hl => Lf.ok_anti (f2 s hmem l hl) fun b o hb => ?_⟩
          · have : vs[j]? = some (s.den Γ) := by rw [← f1]; simp [hj]
            subst e
            simp only [Nat.zero_add, Array.getD_eq_getD_getElem?]
            rw [Array.getElem?_append_left (by simpa using hjl)]
            simp [this, SV.den]
          · rcases hb with hb | ⟨j, mb, hj, hjb⟩
            · exact hb
            · have := (hB2 Γ rfl rfl rfl j mb hj).2.2.2.2.2 o
              rw [← show B = b from hjb]; exact this
        · obtain ⟨m1, m2, m3, m4, m5, m6⟩ := hB2 Γ rfl rfl rfl b mb hm
          refine ⟨m1, fun l hl => Lf.ok_anti (m2 l hl) fun x o hx => ?_, fun hn => hn.2 m3, m4⟩
          rcases hx with hx | ⟨j, mj, hj, hjb⟩
          · exact .inl hx
          · exact .inr (show x = B from hjb.symm)
        · have h1 := (hB2 Γ rfl rfl rfl b mb hm).2.2.2.2.1
          have h2 := (hB2 Γ rfl rfl rfl c mc hm').2.2.2.2.1
          rw [h1, h2]
      refine exec_sound (R := ct.post cs) hcx c _ _ T hT Γ [] _ ?_ rfl hv _ w hs
      intro x st' T' Γ' Ls' hk he hl hlen hv' a' w' hs'
      have fin : endOf cx fn ct st' = some T' → a'.defers = [] ∧ ∃ v, (results fn a'.tmps).run cx.P w' = .ok v w' ∧ ∃ v' rs outs, Ending.returned v = .returned v' ∧ Res cx.P w' Base w.heap.size ct.res v' rs ∧ Outs cx.P w' Base ct.args vs outs ∧ ct.post cs (rs ++ outs) ∧ Keeps (fun i => i < w.heap.size ∧ ¬ IsBox ct.args vs i) w w' := by
        intro hend
        unfold endOf at hend
        split at hend
        · rename_i l o hl' ho
          split at hend
          · rename_i hsh
            cases hend
            obtain ⟨hob, hret⟩ := VC.obT hv'
            obtain ⟨ob1, ob2⟩ := rngL_app hob
            obtain ⟨r1, r2⟩ := run_results hs' hl'
            have hbase : ∀ b o, Base b o → Own Γ' st' b o := fun b o hb => .inl (by rw [he.base]; exact hb)
            have hrep := cells_rep (P := cx.P) (w := w') (O := Base) (old := some w.heap.size) hs'.num hsh (fun s hs2 l hl2 => Lf.ok_anti (r2 s hs2 l hl2) hbase) (fun b mb hin hmb => by
              obtain ⟨m1, m2, m3, m4⟩ := hs'.mem b mb hmb
              refine ⟨m1, fun l hl => Lf.ok_anti (m2 l hl) fun x o hx => ?_, ?_⟩
              · rcases hx with hx | hx
                · exact hbase x o hx
                · exact .inr ⟨b, mb, hmb, by cases hx; rfl⟩
              · rcases hb2 with h | h
                · exact absurd hin ((shapes_noBox hsh h).2.2.2 b)
                · rcases Nat.lt_or_ge (Γ'.blk b) w.heap.size with hlt | hge
                  · exact absurd ⟨hlt, isBox_noBox h.2⟩ m3
                  · exact hge) ob1
            have houts := hB3 st' o w' Γ' Base ho (by
              split
              · rfl
              · rename_i hne
                rw [he.blk 0 (show 0 < (freshMem 0 ct.args 0).length by omega)]) (fun mb hmb => ⟨(hs'.mem 0 mb hmb).1, fun l hl => Lf.ok_anti ((hs'.mem 0 mb hmb).2.1 l hl) hbase⟩) hs'.num ob2
            refine ⟨hs'.defers, _, r1, _, _, _, rfl, ⟨_, rfl, hrep⟩, houts, ?_, hs'.keeps⟩
            have : cs_ Γ'.ρ (cellsOf st'.mem l) ++ cs_ Γ'.ρ o = cs_ Γ'.ρ (cellsOf st'.mem l ++ o) := by simp [cs_]
            rw [this]; exact hret
          · cases hend
        · cases hend
      cases x with
      | nrm => exact fin hk
      | ret => exact fin hk
      | ext i => cases hk
    · cases hT
end Go.Proofs.Ytlbgcjpkegpmlaa
