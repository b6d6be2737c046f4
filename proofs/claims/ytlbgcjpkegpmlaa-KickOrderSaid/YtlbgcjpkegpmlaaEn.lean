/- The engine, part 14: a code carried out by symbols; a function's contract. -/
import Derived.Test.YtlbgcjpkegpmlaaEm
import Derived.Scope
namespace Go.Proofs.Ytlbgcjpkegpmlaa
open Go.RowKit
set_option linter.unusedSimpArgs false
set_option linter.unusedVariables false

def Ex.out : Ex → Exit
  | .nrm => .normal
  | .ext id => .exit id
  | .ret => .ret
section
variable {cx : Cx} {R : List C → Prop} {F : Nat → Prop} {w0 : World}
/-- What follows a code. -/
def KOK (cx : Cx) (R : List C → Prop) (F : Nat → Prop) (w0 : World) (k : Ex → St → Option Tree) (Γ : Env) (Ls : List (List C → Prop)) (Q : Exit → Act → World → Prop) : Prop :=
  ∀ x st' T' Γ' Ls', k x st' = some T' → Ext Γ Γ' → Ls <+: Ls' → Ls'.length = st'.lvl → VC cx R T' Γ'.ρ Ls' → ∀ a w, Sat cx.P F w0 Γ' st' a w → Q x.out a w
theorem KOK.mono {k : Ex → St → Option Tree} {Γ Γ1 : Env} {Ls Ls1 : List (List C → Prop)} {Q : Exit → Act → World → Prop} (h : KOK cx R F w0 k Γ Ls Q) (he : Ext Γ Γ1) (hl : Ls <+: Ls1) : KOK cx R F w0 k Γ1 Ls1 Q :=
  fun x st' T' Γ' Ls' hk he' hl' => h x st' T' Γ' Ls' hk (he.trans he') (hl.trans hl')
theorem Sat.learn1 {P : Program} {Γ : Env} {st : St} {a : Act} {w : World} (hs : Sat P F w0 Γ st a w) {b : B} {t : Bool} (hb : b.den Γ.ρ = t) : Sat P F w0 Γ { st with bds := Go.Proofs.Ytlbgcjpkegpmlaa.learn st.nx st.bds b t } a w :=
  hs.slots' hs.slots hs.size hs.defers ⟨learn_ok hs.num.len (by rw [hs.len]; exact Nat.le_refl _) b st.bds t hs.num.bds hb, hs.num.len⟩

theorem take_free {α : Type} (p : α → Bool) : ∀ (l : List α), ∀ x ∈ l.take (l.takeWhile p).length, p x = true
  | [], x, h => by simp at h
  | y :: l, x, h => by
    by_cases hp : p y = true
    · simp only [List.takeWhile_cons, hp, if_true, List.length_cons, List.take_succ_cons] at h
      rcases List.mem_cons.1 h with rfl | h
      · exact hp
      · exact take_free p l x h
    · simp [List.takeWhile_cons, hp] at h
theorem zero_dens {P : Program} {t : TypeId} {cs : List Lf} (h : zeroLf P t = some cs) (Γ Γ' : Env) : dens Γ cs = dens Γ' cs := by
  obtain ⟨it, z, h1, h2, h3⟩ := zeroLf_spec h Γ
  obtain ⟨it', z', h1', h2', h3'⟩ := zeroLf_spec h Γ'
  rw [h1] at h1'
  cases h1'
  rw [h2] at h2'
  cases h2'
  rw [← h3, h3']
theorem zero_ok {P : Program} {t : TypeId} {cs : List Lf} (h : zeroLf P t = some cs) (w : World) (O : Nat → Nat → Prop) (Γ : Env) : ∀ l ∈ cs, l.ok P w O Γ := fun l hl => by
  unfold zeroLf at h
  split at h
  · rename_i it hi
    cases hzz : it.zero with
    | none => simp [hzz] at h
    | some zv =>
      simp [hzz] at h
      subst h
      obtain ⟨v, -, rfl⟩ := List.mem_map.1 hl
      unfold Lf.ofValue
      split <;> trivial
  · cases h
theorem run_alloc {P : Program} {o : Oper} {t : TypeId} (ho : o.op = .alloc t) {cs : List Lf} (hz : zeroLf P t = some cs) (Γ : Env) (a : Act) (w : World) :
    (execOp a.eval o).run P w = .ok (.value (.pointer (some ⟨w.heap.size, 0, none⟩))) (w.alloc (.cells (dens Γ cs) t)) := by
  obtain ⟨it, z, hi, hzz, hc⟩ := zeroLf_spec hz Γ
  unfold execOp
  rw [ho]
  simp [Instr.alloc, zeroValue, run_typeInfo' hi, hzz, newVar, newRow, hc]
theorem draw_sound (hcx : CxOK cx) {id : Nat} {ops : Array Oper} (hcond : drawOk cx ops = true) {Γ : Env} {st : St} {a : Act} {w : World} (hs : Sat cx.P F w0 Γ st a w) {k : St → Option Tree} {T : Tree}
    (h : execOps cx ops ops.toList st k = some T) {Ls : List (List C → Prop)} (hl : Ls.length = st.lvl) (hv : VC cx R T Γ.ρ Ls) {Q : Exit → Act → World → Prop} (hk : Next cx R F w0 k Γ Ls (fun a w => Q .normal a w)) :
    (Code.region id ops true).wp cx.P Q a w := by
  simp only [drawOk, Bool.and_eq_true] at hcond
  obtain ⟨hh, ht⟩ := hcond
  generalize hn : headLen cx ops = n
  have hfree : ∀ o ∈ ops.toList.take n, freeOp cx o = true := by rw [← hn]; exact take_free _ _
  have hw1 : Sat cx.P F w0 Γ st a { w with drawn := w.drawn + 1 } := hs.below ⟨rfl, rfl, rfl, Nat.le_refl _, fun _ _ => rfl⟩
  have hsplit : ops.toList = ops.toList.take n ++ ops.toList.drop n := (List.take_append_drop n _).symm
  rw [hsplit] at h
  generalize hta : (match ops[n]? with | some o => (match o.op with | .alloc t => t | _ => 0) | none => 0) = ta
  generalize hca : (zeroLf cx.P ta).getD [] = ca
  let Cl : Option Nat → World → Prop := fun ob w => Sat cx.P F w0 (Γ.addO ob) st a w ∧ ∀ b, ob = some b → Blk w b ta (dens Γ ca) ∧ w0.heap.size ≤ b ∧ ∃ w1, Sat cx.P F w0 Γ st a w1 ∧ w1.heap.size ≤ b
  have hcl1 : Cl none { w with drawn := w.drawn + 1 } := ⟨by rw [Env.addO_none]; exact hw1, fun b hb => by cases hb⟩
  obtain ⟨vs, st', T', Γ', g1, g2, g3, g4, g5, g6, g7, g8⟩ := head_lex (R := R) (F := F) (w0 := w0) hcx (Cl := Cl) hcl1 (ops.toList.take n) hfree st T h Γ Ls hv a
    ⟨fun ob w hw => hw.1, fun ob w w' hw hb => ⟨hw.1.below hb, fun b hb' => ⟨((hw.2 b hb').1).below hb, (hw.2 b hb').2⟩⟩⟩
  have hle : drawLen cx ops ≤ ops.size := by
    simp only [tailOk, Bool.and_eq_true, decide_eq_true_eq] at ht
    exact ht.1.1.1
  have start : ∀ m, m = drawLen cx ops → n ≤ m → Head cx.P ops Cl n m vs a none (Array.replicate ops.size false) a { w with drawn := w.drawn + 1 } := by
    intro m hm hnm
    refine ⟨hcl1, ⟨by simp, fun j oj _ hj => ?_, fun t _ ht => ?_⟩, rfl, rfl, fun _ => ?_, fun _ => rfl, fun t hall => ?_⟩
    · rw [getD_replicate_false] at hj; cases hj
    · exact getD_in (by simpa using ht) (getD_replicate_false _ _)
    · rw [getD_replicate_false]; rfl
    · refine (putAll_other _ _ _ t fun x hx hxd => ?_).symm
      obtain ⟨j, hj⟩ := List.getElem?_of_mem hx
      rw [List.getElem?_take] at hj
      split at hj
      · rename_i hjn
        have := hall j (by omega) (by unfold dstOf; simp at hj; rw [hj]; exact hxd)
        rw [getD_replicate_false] at this
        cases this
      · cases hj
  have hcount : ∀ m, m ≤ ops.size → ops.size = (List.range m).countP (fun j => !(Array.replicate ops.size false).getD j false) + (ops.size - m) := by
    intro m hm
    have : (List.range m).countP (fun j => !(Array.replicate ops.size false).getD j false) = m := by
      rw [List.countP_eq_length.2 (fun j _ => by rw [getD_replicate_false]; rfl)]
      simp
    omega
  by_cases hal : allocAt ops n = true
  · have hm : drawLen cx ops = n + 1 := by unfold drawLen; rw [hn, if_pos hal]
    rw [hm] at hh ht hle
    unfold allocAt at hal
    split at hal
    · rename_i o ho
      simp only [Bool.and_eq_true, Option.isNone_iff_eq_none] at hal
      obtain ⟨⟨⟨hop, hg⟩, hdst⟩, -⟩ := hal
      split at hop
      · rename_i t hopeq
        have hta' : ta = t := by rw [← hta, ho]; simp only [hopeq]
        subst hta'
        have hdrop : ops.toList.drop n = o :: ops.toList.drop (n + 1) := by
          have hlt : n < ops.toList.length := by simp; omega
          rw [List.drop_eq_getElem_cons hlt]
          congr 1
          have : ops.toList[n]? = some o := by simp [ho]
          rw [List.getElem?_eq_getElem hlt] at this
          exact Option.some.inj this
        rw [hdrop] at g2
        simp only [execOps, hg] at g2
        have g2 := orF_some g2 g5
        have hfz : toFreeze cx st' o = [] := by unfold toFreeze; rw [hopeq]
        have hov : opVal cx.P st' o = none := by unfold opVal; rw [hopeq]
        simp only [doOpF, hfz, freezeAll, doOp, hov, hopeq] at g2
        split at g2
        · rename_i cs hz
          have hcs : ca = cs := by rw [← hca, hz]; rfl
          subst hcs
          have hfirst : ∀ (ob : Option Nat) (w1 : World), True := fun _ _ => trivial
          have hact : ∀ b, endAct ops n vs a (some b) = (putAll (ops.toList.take n) vs a).put o.dst (.pointer (some ⟨b, 0, none⟩)) := fun b => by
            unfold endAct
            rw [show dstOf ops n = o.dst by unfold dstOf; rw [ho]; rfl]
          have halloc : ∀ a1 w1, Cl none w1 → ∀ K Q1, (∀ w', Cl (some w1.heap.size) w' → K (a1.put o.dst (.pointer (some ⟨w1.heap.size, 0, none⟩))) w') → o.wp cx.P a1 w1 K Q1 := fun a1 w1 hw1 K Q1 hK => by
            unfold Oper.wp
            rw [run_alloc hopeq hz Γ]
            have hsw := hw1.1
            rw [Env.addO_none] at hsw
            have hbel := below_alloc w1 (.cells (dens Γ ca) ta)
            refine hK _ ⟨hsw.belowO hbel (Nat.le_refl _) (by simp), fun b hb => ?_⟩
            cases hb
            exact ⟨Blk.new w1 ta _, hsw.keeps.size, w1, hsw, Nat.le_refl _⟩
          refine wp_region_any hcx.mixed (any_order g1 hh ht (Nat.le_succ n) (Nat.le_refl _) (fun _ => ⟨o, ho, hg, halloc⟩) (fun ob w1 hw1 hsome _ => ?_) ops.size _ a _ none (start (n + 1) hm.symm (Nat.le_succ n)) (hcount (n + 1) hle))
          cases ob with
          | none => have := hsome (Nat.lt_succ_self n); cases this
          | some b =>
            obtain ⟨hb1, hb2, hb3⟩ := hw1.2 b rfl
            have hsat := g6.sat (some b) w1 hw1
            obtain ⟨w2, hw2, hge2⟩ := hb3
            have hsat0 := g6.sat none w2 ⟨by rw [Env.addO_none]; exact hw2, fun b hb => by cases hb⟩
            rw [Env.addO_none] at hsat0
            have hnb : ∀ s j, ¬ Hold Γ' st' s j b := fun s j hh => by have := hsat0.hold_lt hh; omega
            have hz' : dens Γ' ca = dens Γ ca := zero_dens hz Γ' Γ
            split at g2
            · rename_i s' st0 m hn
              obtain ⟨f1, f2, f3, f4, f5, f6, f7, f8, f9⟩ := hsat.nils hn (s := .agg ca) (zero_ok hz _ _ _)
              cases hf : st0.fresh ta s'.cells with
              | none => simp [hf] at g2
              | some st1 =>
                cases hp : st1.put o.dst (some (.one (.lf (.ptr st'.nb 0)))) with
                | none => simp [hf, hp] at g2
                | some st2 =>
                  cases hk2 : execOps cx ops (ops.toList.drop (n + 1)) st2 k with
                  | none => simp [hf, hp, hk2] at g2
                  | some T2 =>
                    simp [hf, hp, hk2] at g2
                    subst g2
                    have hvc2 := VC.dfnN g5
                    have hd : dens { Γ' with ρ := Γ'.ρ ++ List.replicate m nilC } s'.cells = dens Γ ca := by
                      rw [← hz']
                      unfold dens
                      have := f9
                      rw [show ({ (Γ'.addO (some b)) with ρ := (Γ'.addO (some b)).ρ ++ List.replicate m nilC } : Env) = ({ Γ' with ρ := Γ'.ρ ++ List.replicate m nilC } : Env).addO (some b) from rfl] at this
                      rw [List.map_congr_left fun l _ => Lf.den_addO _ (some b) l, List.map_congr_left fun l _ => Lf.den_addO Γ' (some b) l] at this
                      rw [this]; rfl
                    have hsat2 : Sat cx.P F w0 (({ Γ' with ρ := Γ'.ρ ++ List.replicate m nilC } : Env).addO (some b)) st0 (putAll (ops.toList.take n) vs a) w1 := f2
                    obtain ⟨Γ2, e1, e2, e3, e4, e5⟩ := hsat2.adopt hf (by rw [hd]; exact hb1) hb2 (fun s j hh => by have := (hsat0.nils hn (s := .agg ca) (zero_ok hz _ _ _)).2.1.hold_lt hh; omega) (fun l hl => Lf.ok_addO.1 (f4 l hl))
                    have hput := e4.put hp (one_ok trivial)
                    simp only [SV.den, S0.den, Lf.den] at hput
                    rw [← f6, e3] at hput
                    rw [hact]
                    have hext : Ext Γ' { Γ' with ρ := Γ'.ρ ++ List.replicate m nilC } := ⟨⟨_, rfl⟩, fun _ _ => rfl, Nat.le_refl _, rfl, rfl⟩
                    exact execOps_sound hcx (ops.toList.drop (n + 1)) st2 T2 hk2 Γ2 Ls (by rw [St.put_lvl hp, e5, f5, g4]; exact hl) (by rw [e2]; exact hvc2) _ w1 hput (hk.mono ((g3.trans hext).trans e1) (List.prefix_refl _))
            · cases hf : st'.fresh ta ca with
              | none => simp [hf] at g2
              | some st1 =>
                cases hp : st1.put o.dst (some (.one (.lf (.ptr st'.nb 0)))) with
                | none => simp [hf, hp] at g2
                | some st2 =>
                  simp [hf, hp] at g2
                  obtain ⟨Γ2, e1, e2, e3, e4, e5⟩ := hsat.adopt hf (by rw [hz']; exact hb1) hb2 hnb (fun l hl => zero_ok hz _ _ _ l hl)
                  have hput := e4.put hp (one_ok trivial)
                  simp only [SV.den, S0.den, Lf.den, e3] at hput
                  rw [hact]
                  exact execOps_sound hcx (ops.toList.drop (n + 1)) st2 T' g2 Γ2 Ls (by rw [St.put_lvl hp, e5, g4]; exact hl) (by rw [e2]; exact g5) _ w1 hput (hk.mono (g3.trans e1) (List.prefix_refl _))
        · cases g2
      · cases hop
    · cases hal
  · have hm : drawLen cx ops = n := by unfold drawLen; rw [hn, if_neg hal]
    rw [hm] at hh ht hle
    refine wp_region_any hcx.mixed (any_order g1 hh ht (Nat.le_refl n) (Nat.le_succ n) (fun h => by omega) (fun ob w1 hw1 _ hnone => ?_) ops.size _ a _ none (start n hm.symm (Nat.le_refl n)) (hcount n hle))
    have := hnone rfl
    subst this
    have hsat := g6.sat none w1 hw1
    rw [Env.addO_none] at hsat
    exact execOps_sound hcx (ops.toList.drop n) st' T' g2 Γ' Ls (by rw [g4]; exact hl) g5 _ w1 hsat (hk.mono g3 (List.prefix_refl _))
theorem exec_sound (hcx : CxOK cx) : ∀ (c : Code) (st : St) (k : Ex → St → Option Tree) (T : Tree), exec cx c st k = some T →
    ∀ (Γ : Env) (Ls : List (List C → Prop)) (Q : Exit → Act → World → Prop), KOK cx R F w0 k Γ Ls Q → Ls.length = st.lvl → VC cx R T Γ.ρ Ls → ∀ a w, Sat cx.P F w0 Γ st a w → c.wp cx.P Q a w := by
  intro c
  induction c with
  | skip => intro st k T h Γ Ls Q hk hl hv a w hs; exact wp_skip (hk .nrm st T Γ Ls h (Ext.refl _) (List.prefix_refl _) hl hv a w hs)
  | label l => intro st k T h Γ Ls Q hk hl hv a w hs; exact wp_label (hk .nrm st T Γ Ls h (Ext.refl _) (List.prefix_refl _) hl hv a w hs)
  | exit id => intro st k T h Γ Ls Q hk hl hv a w hs; exact wp_exit (hk (.ext id) st T Γ Ls h (Ext.refl _) (List.prefix_refl _) hl hv a w hs)
  | ret => intro st k T h Γ Ls Q hk hl hv a w hs; exact wp_ret (hk .ret st T Γ Ls h (Ext.refl _) (List.prefix_refl _) hl hv a w hs)
  | goto l => intro st k T h; cases h
  | refuse y => intro st k T h; cases h
  | rangeFunc f ps x y => intro st k T h; cases h
  | scope c ih =>
    intro st k T h Γ Ls Q hk hl hv a w hs
    simp only [exec] at h
    refine wp_scope_straight (ih st k T h Γ Ls _ ?_ hl hv a w hs)
    intro e st' T' Γ' Ls' hk' he' hl' hlen hv' a' w' hs'
    cases e with
    | nrm => exact hk .nrm st' T' Γ' Ls' hk' he' hl' hlen hv' a' w' hs'
    | ext id => exact hk (.ext id) st' T' Γ' Ls' hk' he' hl' hlen hv' a' w' hs'
    | ret => exact hk .ret st' T' Γ' Ls' hk' he' hl' hlen hv' a' w' hs'
  | seq x y ihx ihy =>
    intro st k T h Γ Ls Q hk hl hv a w hs
    simp only [exec] at h
    refine wp_seq (ihx st _ T h Γ Ls _ ?_ hl hv a w hs)
    intro e st' T' Γ' Ls' hk' he' hl' hlen hv' a' w' hs'
    cases e with
    | nrm => exact ihy st' k T' hk' Γ' Ls' Q (hk.mono he' hl') hlen hv' a' w' hs'
    | ext id => exact hk (.ext id) st' T' Γ' Ls' hk' he' hl' hlen hv' a' w' hs'
    | ret => exact hk .ret st' T' Γ' Ls' hk' he' hl' hlen hv' a' w' hs'
  | cond c x y ihx ihy =>
    intro st k T h Γ Ls Q hk hl hv a w hs
    simp only [exec] at h
    split at h
    · rename_i t hc
      have he := ((hs.view #[c]).lf (by simp) hc).1
      simp only [Lf.den, B.den] at he
      refine wp_cond he ?_
      cases t
      · simp at h ⊢; exact ihy st k T h Γ Ls Q hk hl hv a w hs
      · simp at h ⊢; exact ihx st k T h Γ Ls Q hk hl hv a w hs
    · rename_i b hlit hc
      have he := ((hs.view #[c]).lf (by simp) hc).1
      simp only [Lf.den] at he
      split at h
      · rename_i t f h1 h2
        cases h
        refine wp_cond_split he (fun hb => ?_) (fun hb => ?_)
        · exact ihx _ k t h1 Γ Ls Q hk hl (hv.1 hb) a w (hs.learn1 hb)
        · exact ihy _ k f h2 Γ Ls Q hk hl (hv.2 hb) a w (hs.learn1 hb)
      · cases h
    · cases h
  | block id c ih =>
    intro st k T h Γ Ls Q hk hl hv a w hs
    simp only [exec] at h
    refine wp_block (ih st _ T h Γ Ls _ ?_ hl hv a w hs)
    intro e st' T' Γ' Ls' hk' he' hl' hlen hv' a' w' hs'
    cases e with
    | nrm => exact hk .nrm st' T' Γ' Ls' hk' he' hl' hlen hv' a' w' hs'
    | ret => exact hk .ret st' T' Γ' Ls' hk' he' hl' hlen hv' a' w' hs'
    | ext i =>
      simp only [Ex.out, Exit.inBlock]
      simp only [] at hk'
      by_cases hi : i = id
      · rw [if_pos hi] at hk' ⊢; exact hk .nrm st' T' Γ' Ls' hk' he' hl' hlen hv' a' w' hs'
      · rw [if_neg hi] at hk' ⊢; exact hk (.ext i) st' T' Γ' Ls' hk' he' hl' hlen hv' a' w' hs'
  | region id ops draw =>
    intro st k T h Γ Ls Q hk hl hv a w hs
    simp only [exec] at h
    have hnext : Next cx R F w0 (k .nrm) Γ Ls (fun a w => Q .normal a w) := fun st' T' Γ' Ls' hk' he' hp' hlen hv' a' w' hs' =>
      hk .nrm st' T' Γ' Ls' hk' he' hp' hlen hv' a' w' hs'
    split at h
    · rename_i hcond
      cases draw with
      | false => exact wp_region_list (execOps_sound hcx ops.toList st T h Γ Ls hl hv a w hs hnext)
      | true =>
        simp only [Bool.not_true, Bool.false_or] at hcond
        exact draw_sound hcx hcond hs h hl hv hnext
    · rename_i hcond
      have h := orF_some h hv
      split at h
      · rename_i hc
        cases draw with
        | false => simp at hcond
        | true => exact any_sound hcx hc h hl hv hs hnext
      · cases h
  | loop c ih =>
    intro st k T h Γ Ls Q hk hl hv a w hs
    simp only [exec] at h
    have hs0 : Sat cx.P F w0 Γ (loopSt0 cx c st) a w := hs.forget _
    have hl1 : (loopSt1 cx c st).lvl = st.lvl + 1 := rfl
    have e1 : (loopSt0 cx c st).nb = st.nb := rfl
    have e2 : (loopSt0 cx c st).nt = st.nt := rfl
    have e3 : (loopSt0 cx c st).bds = st.bds := rfl
    generalize loopSt1 cx c st = st1 at *
    generalize loopSt0 cx c st = st0 at *
    generalize loopPs cx c st = ps at *
    split at h
    · cases h; exact hv.elim
    · rename_i init hinit
      split at h
      · cases h; exact hv.elim
      · rename_i ks hks
        split at h
        rotate_left
        · cases h; exact hv.elim
        · rename_i hcond
          simp only [Bool.and_eq_true, decide_eq_true_eq] at hcond
          obtain ⟨⟨⟨⟨⟨⟨c1, c2⟩, c3⟩, c4⟩, c5⟩, c6⟩, c7⟩ := hcond
          have c4 := Nat.eq_of_beq_eq_true c4
          have c5 := Nat.eq_of_beq_eq_true c5
          have c6 := Nat.eq_of_beq_eq_true c6
          generalize hkl : (fun (x : Ex) (st' : St) => match x with
            | .nrm => if sameRest st1 st' st.nx ps && Nat.ble st1.nb st'.nb && Nat.beq st1.nt st'.nt then match backPs st1 st' st.nx ps with
                | some vals => if kindsL vals = some ks then some (obT (rngL st'.bds vals) (.back st.lvl vals)) else some (.fail 60004 [st.path, (firstReg c).getD 0])
                | none => some (.fail 60005 [st.path, (firstReg c).getD 0])
              else some (.fail 60003 ([st.path, (firstReg c).getD 0] ++ diffs st1 st' st.nx ps))
            | x => k x st' : Ex → St → Option Tree) = kl at h
          cases hb : exec cx c st1 kl with
          | none => simp [hb] at h
          | some t =>
            simp [hb] at h
            subst h
            obtain ⟨hob, I, μ, hI0, hall⟩ := VC.obT hv
            have hlen : Γ.ρ.length = st.nx := hs.len
            have hnum1 : Num st1.bds Γ.ρ := by rw [c7]; exact hs.num
            obtain ⟨hty0, hsat0⟩ := hs0.rebase (st1 := st1) (ρ0 := Γ.ρ) ⟨[], by simp⟩ (by rw [hlen]; exact c3) (by rw [hlen]; exact hinit) hks (by rw [e3]; exact hob) (by rw [hlen]; exact c2) (by rw [c6, e2]) (by rw [c5, e1]; exact Nat.le_refl _) (by rw [hlen]; exact c4) hnum1
            refine wp_loop_ghost (fun n a w => ∃ xs Γx, CTy cx.P ks xs ∧ I xs ∧ μ xs = n ∧ Γx.ρ = Γ.ρ ++ xs ∧ Ext Γ Γx ∧ Sat cx.P F w0 Γx st1 a w) (μ (cs_ Γ.ρ init))
              ⟨cs_ Γ.ρ init, { Γ with ρ := Γ.ρ ++ cs_ Γ.ρ init, nb := st1.nb }, hty0, hI0, rfl, rfl, ⟨⟨_, rfl⟩, fun _ _ => rfl, by simp only [c5]; rw [hs.nb]; exact Nat.le_refl _, rfl, rfl⟩, hsat0⟩ ?_
            rintro n a1 w1 ⟨xs, Γx, hty, hI, hn, hρ, he, hsx⟩
            have hvx := allC_elim hall xs hty hI
            rw [← hρ] at hvx
            refine ih st1 kl t hb Γx (Ls ++ [fun ys => I ys ∧ μ ys < μ xs]) _ ?_ (by simp [hl, hl1]) hvx a1 w1 hsx
            intro e st' T' Γ' Ls' hk' he' hl' hlen' hv' a' w' hs'
            subst hkl
            cases e with
            | ext i => exact hk (.ext i) st' T' Γ' Ls' hk' (he.trans he') ((List.prefix_append _ _).trans hl') hlen' hv' a' w' hs'
            | ret => exact hk .ret st' T' Γ' Ls' hk' (he.trans he') ((List.prefix_append _ _).trans hl') hlen' hv' a' w' hs'
            | nrm =>
              simp only [] at hk'
              split at hk'
              · rename_i hc
                simp only [Bool.and_eq_true] at hc
                obtain ⟨⟨d1, d2⟩, d3⟩ := hc
                split at hk'
                · rename_i vals hvals
                  split at hk'
                  · rename_i hks'
                    cases hk'
                    obtain ⟨hob', hback⟩ := VC.obT hv'
                    obtain ⟨l, hl2⟩ := (he.trans he').ρ
                    obtain ⟨hty', hsat'⟩ := hs'.rebase (st1 := st1) (ρ0 := Γ.ρ) ⟨l, hl2⟩ (by rw [hlen]; exact d1) (by rw [hlen]; exact hvals) hks' hob' (by rw [hlen]; exact c2) (Nat.eq_of_beq_eq_true d3) (Nat.le_of_ble_eq_true d2) (by rw [hlen]; exact c4) hnum1
                    have hget : Ls'[st.lvl]? = some (fun ys => I ys ∧ μ ys < μ xs) := by
                      obtain ⟨m, rfl⟩ := hl'
                      rw [List.append_assoc, List.getElem?_append_right (by omega), hl]
                      simp
                    simp only [VC, hget] at hback
                    simp only [Ex.out, Exit.then]
                    refine ⟨μ (cs_ Γ'.ρ vals), by rw [← hn]; exact hback.2, cs_ Γ'.ρ vals, { Γ' with ρ := Γ.ρ ++ cs_ Γ'.ρ vals, nb := st1.nb }, hty', hback.1, rfl, rfl, ⟨⟨_, rfl⟩, fun b hb => ?_, by simp only [c5]; rw [hs.nb]; exact Nat.le_refl _, (he.trans he').base, (he.trans he').up⟩, hsat'⟩
                    exact (he.trans he').blk b hb
                  · cases hk'; exact hv'.elim
                · cases hk'; exact hv'.elim
              · cases hk'; exact hv'.elim
end

/-! A function's beginning and end -/
def retOne (P : Program) (st : St) : ResultVar → Option S0
  | .tmp t => st.s0 (.tmp t)
  | .cell a t => match st.lf (.tmp a) with
    | some l => loadLf P st.mem st.vec t l
    | none => none
def retAll (P : Program) (st : St) : List ResultVar → Option (List S0)
  | [] => some []
  | r :: rs => match retOne P st r, retAll P st rs with
    | some s, some l => some (s :: l)
    | _, _ => none
def argSl : Nat → List S0 → List (Nat × Option SV)
  | _, [] => []
  | i, s :: l => (i, some (.one s)) :: argSl (i + 1) l
/-- The pointer among the arguments. -/
def boxArg : List Sh0 → Option (TypeId × List Lk)
  | [] => none
  | .box t l :: _ => some (t, l)
  | _ :: ss => boxArg ss
/-- What lies behind the pointer at the end. -/
def outL (st : St) (ct : Ct) : Option (List Lf) :=
  match boxArg ct.args with
  | none => some []
  | some (t, ks) => match look st.mem 0 with
    | some mb => if mb.1 = t ∧ kindsL mb.2 = some ks then some mb.2 else none
    | none => none
/-- Slices of one's own are handed on with what they hold. -/
def giveL (P : Program) (vec : Vecs) : List Lk → List Lf → List Lf
  | k :: ks, l :: ls => (match k with | .vec _ => l.give P vec k | _ => l.adapt P [] k) :: giveL P vec ks ls
  | _, ls => ls
def S0.give (P : Program) (vec : Vecs) (sh : Sh0) (s : S0) : S0 :=
  match sh, s with
  | .lf k, .lf l => .lf (match k with | .vec _ => l.give P vec k | _ => l.adapt P [] k)
  | .agg ks, .agg ls => .agg (giveL P vec ks ls)
  | _, s => s
def gives (P : Program) (vec : Vecs) : List Sh0 → List S0 → List S0
  | sh :: shs, s :: ss => s.give P vec sh :: gives P vec shs ss
  | _, ss => ss
/-- The variable of a slice that is handed on. -/
def cntIdx (vec : Vecs) : Lf → Option Nat
  | .cnt te r => match (match r with | .var i => some i | .join (.var i) _ => some i | _ => none : Option Nat) with
    | some i => match look vec i with
      | some e => if e.1 = te ∧ mkJoin i e.2 = r then some i else none
      | none => none
    | none => none
  | _ => none
def Lf.isCnt : Lf → Bool
  | .cnt _ _ => true
  | _ => false
def nodupI (vec : Vecs) : List Lf → Bool
  | [] => true
  | l :: ls => !l.isVec && (match cntIdx vec l with | some i => ls.all fun m => !decide (cntIdx vec m = some i) | none => !l.isCnt) && nodupI vec ls
def resOf (cx : Cx) (ct : Ct) (st : St) (l : List S0) : List S0 := if (kindsOf ct.res).all Lk.noVec then adapts cx.P st.vec ct.res l else gives cx.P st.vec ct.res l
def endOf (cx : Cx) (fn : Func) (ct : Ct) (st : St) : Option Tree :=
  match retAll cx.P st fn.results.toList, outL st ct with
  | some l, some o => if shapes st.mem (resOf cx ct st l) = some ct.res ∧ nodupI st.vec (cellsOf st.mem (resOf cx ct st l)) = true ∧ (l.all fun s => s.cells.all fun x => !x.isCnt) = true then
      some (obT (rngL st.bds (cellsOf st.mem (resOf cx ct st l) ++ o)) (.ret (cellsOf st.mem (resOf cx ct st l) ++ o)))
    else some (.fail 70001 [])
  | none, _ => some (.fail 70002 [])
  | _, none => some (.fail 70003 [])
def startOf (fn : Func) (ct : Ct) (bds : Bds) (wr : List Nat) : St :=
  { sl := argSl 0 (freshS 0 ct.args 0), mem := freshMem 0 ct.args 0, nt := fn.ntmps, nb := (freshMem 0 ct.args 0).length, nx := (kindsOf ct.args).length, lvl := 0, bds := bds, wr := wr }
def execFn (cx : Cx) (fn : Func) (ct : Ct) (bds : Bds) : Option Tree :=
  match fn.body with
  | none => none
  | some c =>
    if ct.args.length ≤ fn.ntmps ∧ ct.args.length ≤ 1000 ∧ boxOk ct = true then
      exec cx c (startOf fn ct bds cx.wr) fun x st => match x with
        | .ext _ => none
        | _ => endOf cx fn ct st
    else none

def resSem (tmps : Array Value) : ResultVar → Sem Value
  | .tmp t => pure (tmps.getD t undef)
  | .cell x t => do loadVar t (← asAddr (tmps.getD x undef))
theorem results_eq (fn : Func) (tmps : Array Value) : results fn tmps = (fn.results.mapM (resSem tmps) >>= fun vs => pure (if h : vs.size = 1 then vs[0] else .tuple vs)) := by
  unfold results
  congr 1
theorem run_one {P : Program} {F : Nat → Prop} {w0 : World} {Γ : Env} {st : St} {a : Act} {w : World} (hs : Sat P F w0 Γ st a w) {r : ResultVar} {s : S0} (h1 : retOne P st r = some s) :
    (resSem a.tmps r).run P w = .ok (s.den Γ) w ∧ s.ok P w (Own Γ st) Γ := by
  have hv := hs.view (P := P) #[.tmp 0]
  cases r with
  | tmp t =>
    simp only [retOne] at h1
    obtain ⟨g1, g2⟩ := hs.tmp (St.s0_ev h1)
    refine ⟨?_, g2⟩
    simp only [resSem, g1, Sem.run_pure]
    rfl
  | cell x t =>
    simp only [retOne] at h1
    split at h1
    · rename_i lf hlf
      obtain ⟨g1, g2⟩ := hs.tmp (St.lf_ev hlf)
      have hlo := g2 lf (by simp [S0.cells])
      obtain ⟨g3, g4⟩ := run_loadLf hv h1 hlo
      refine ⟨?_, g4⟩
      rw [show (SV.one (S0.lf lf)).den Γ = lf.den Γ from rfl] at g1
      have hp : ∃ ad, lf.den Γ = .pointer (some ad) := by
        cases lf with
        | ptr b o => exact ⟨_, rfl⟩
        | elp te sz e y o =>
          obtain ⟨b, p, he, -⟩ := hlo.1.addr hlo.2.1 hlo.2.2.1
          exact ⟨_, he _⟩
        | velp te sz i y o =>
          obtain ⟨b, n, cap, hl, -⟩ := hlo
          exact ⟨(⟨b, 0, none⟩ : Addr).add ((E.den Γ.ρ y).toNat * sz + o), by simp only [Lf.den, hl, elemAt]⟩
        | _ => simp [loadLf] at h1
      obtain ⟨ad, had⟩ := hp
      rw [had] at g1 g3
      simp only [resSem, g1, asAddr, pure_bind]
      simpa only [Instr.loadAt, Instr.sureAddr, pure_bind] using g3
    · cases h1
theorem run_all {P : Program} {F : Nat → Prop} {w0 : World} {Γ : Env} {st : St} {a : Act} {w : World} (hs : Sat P F w0 Γ st a w) : ∀ (rs : List ResultVar) (l : List S0), retAll P st rs = some l →
    (rs.mapM (resSem a.tmps)).run P w = .ok (l.map (S0.den Γ)) w ∧ ∀ s ∈ l, s.ok P w (Own Γ st) Γ
  | [], l, h => by simp [retAll] at h; subst h; simp
  | r :: rs, l, h => by
    simp only [retAll] at h
    split at h
    · rename_i s l' h1 h2
      cases h
      obtain ⟨i1, i2⟩ := run_all hs rs l' h2
      obtain ⟨j1, j2⟩ := run_one hs h1
      refine ⟨?_, fun x hx => ?_⟩
      · simp only [List.mapM_cons, Sem.run_bind, i1, j1, Result.andThen_ok, Sem.run_pure, List.map_cons]
      · rcases List.mem_cons.1 hx with rfl | hx
        · exact j2
        · exact i2 x hx
    · cases h
theorem run_results {P : Program} {fn : Func} {F : Nat → Prop} {w0 : World} {Γ : Env} {st : St} {a : Act} {w : World} (hs : Sat P F w0 Γ st a w) {l : List S0} (h : retAll P st fn.results.toList = some l) :
    (results fn a.tmps).run P w = .ok (match l.map (S0.den Γ) with | [x] => x | _ => .tuple (l.map (S0.den Γ)).toArray) w ∧ ∀ s ∈ l, s.ok P w (Own Γ st) Γ := by
  obtain ⟨k1, k2⟩ := run_all hs _ _ h
  refine ⟨?_, k2⟩
  rw [results_eq]
  simp only [Array.mapM_eq_mapM_toList, Sem.run_bind, Sem.run_map, k1, Result.andThen_ok, Sem.run_pure]
  congr 1
  match l.map (S0.den Γ) with
  | [] => simp
  | [x] => simp
  | x :: y :: l => simp

/-- A FUNCTION'S CONTRACT, out of its tree. -/
theorem look_argSl : ∀ (l : List S0) (i t : Nat) (sv : SV), look (argSl i l) t = some sv → ∃ j s, t = i + j ∧ l[j]? = some s ∧ sv = .one s
  | [], _, _, _, h => by cases h
  | s :: l, i, t, sv, h => by
    simp only [argSl, look] at h
    split at h
    · rename_i e; cases h; exact ⟨0, s, by omega, rfl, rfl⟩
    · obtain ⟨j, s', e, hj, hsv⟩ := look_argSl l (i + 1) t sv h
      exact ⟨j + 1, s', by omega, by simpa using hj, hsv⟩
theorem freshS_len (nb : Nat) : ∀ (l : List Sh0) (i : Nat), (freshS nb l i).length = l.length
  | [], _ => rfl
  | s :: l, i => by simp [freshS, freshS_len nb l]
theorem boxArg_none : ∀ {ss : List Sh0}, boxArg ss = none → ss.all (fun s => !s.isBox) = true
  | [], _ => rfl
  | .box t l :: _, h => by cases h
  | .lf k :: ss, h => by simp only [List.all_cons, Bool.and_eq_true]; exact ⟨rfl, boxArg_none (ss := ss) h⟩
  | .agg k :: ss, h => by simp only [List.all_cons, Bool.and_eq_true]; exact ⟨rfl, boxArg_none (ss := ss) h⟩
theorem boxArg_some : ∀ {ss : List Sh0} {p : TypeId × List Lk}, boxArg ss = some p → ss.all (fun s => !s.isBox) = false
  | [], _, h => by cases h
  | .box t l :: _, _, _ => rfl
  | .lf k :: ss, _, h => by have := boxArg_some (ss := ss) h; simpa [Sh0.isBox] using this
  | .agg k :: ss, _, h => by have := boxArg_some (ss := ss) h; simpa [Sh0.isBox] using this
theorem filter_noBox {ss : List Sh0} (h : (ss.filter Sh0.isBox).length ≤ 0) : ss.all (fun s => !s.isBox) = true := by
  have h0 : (ss.filter Sh0.isBox) = [] := List.eq_nil_of_length_eq_zero (by omega)
  rw [List.all_eq_true]
  intro x hx
  cases hxb : x.isBox with
  | false => rfl
  | true => have := List.mem_filter.2 ⟨hx, hxb⟩; rw [h0] at this; cases this
theorem outs_none {P : Program} {w : World} {O : Nat → Nat → Prop} : ∀ {ss : List Sh0} {vs : List Value}, ss.all (fun s => !s.isBox) = true → Outs P w O ss vs []
  | [], vs, _ => by cases vs <;> rfl
  | s :: ss, [], _ => by cases s <;> rfl
  | s :: ss, v :: vs, hb => by
    simp only [List.all_cons, Bool.and_eq_true] at hb
    cases s with
    | box t l => cases hb.1
    | lf k => exact outs_none (ss := ss) (vs := vs) hb.2
    | agg l => exact outs_none (ss := ss) (vs := vs) hb.2
theorem box_start {P : Program} {w : World} {O : Nat → Nat → Prop} {ρ : List C} {t : TypeId} {ks : List Lk} : ∀ {ss : List Sh0} {vs : List Value} {cs : List C}, Reps P w O none ss vs cs → (ss.filter Sh0.isBox).length ≤ 1 → boxArg ss = some (t, ks) → ∀ i, (∀ j c, cs[j]? = some c → at_ ρ (i + j) = c) →
    ∃ (b : Nat) (us : List Value) (c1 : List C) (n : Nat), (∀ x, IsBox ss vs x ↔ x = b) ∧ Blk w b t us.toArray ∧ (∀ o, O b o) ∧ LReps P w (fun x o => O x o ∨ some b = some x) ks us c1 ∧ freshMem 0 ss i = [(0, some (t, freshL ks n))] ∧ (∀ j c, c1[j]? = some c → at_ ρ (n + j) = c) ∧
      ∀ w' O' us' c', Blk w' b t us'.toArray → LReps P w' O' ks us' c' → Outs P w' O' ss vs c'
  | [], _, _, _, _, hb, _, _ => by cases hb
  | s :: ss, [], _, h, _, _, _, _ => h.elim
  | s :: ss, v :: vs, cs, h, hl, hb, i, hi => by
    obtain ⟨c1, c2, rfl, h1, h2⟩ := h
    have hlen : c1.length = s.kinds.length := h1.ty.len
    have hi2 : ∀ j c, c2[j]? = some c → at_ ρ (i + s.kinds.length + j) = c := fun j c hj => by
      have := hi (c1.length + j) c (by rw [List.getElem?_append_right (by omega)]; simpa using hj)
      rwa [← hlen, Nat.add_assoc]
    have hi1 : ∀ j c, c1[j]? = some c → at_ ρ (i + j) = c := fun j c hj => hi j c (by
      have : j < c1.length := by
        rcases Nat.lt_or_ge j c1.length with h' | h'
        · exact h'
        · rw [List.getElem?_eq_none h'] at hj; cases hj
      rw [List.getElem?_append_left this]; exact hj)
    cases s with
    | box t' l =>
      cases hb
      have hno : ss.all (fun s => !s.isBox) = true := filter_noBox (by simp only [List.filter_cons, Sh0.isBox, if_true, List.length_cons] at hl; omega)
      obtain ⟨b, us, rfl, g1, g2, g3⟩ := h1
      refine ⟨b, us, c1, i, fun x => ⟨?_, fun e => .inl (by rw [e])⟩, g1, g2, g3, ?_, hi1, fun w' O' us' c' k1 k2 => ⟨c', [], b, us', by simp, rfl, k1, k2, outs_none hno⟩⟩
      · rintro (hx | hx)
        · cases hx; rfl
        · exact absurd hx (isBox_noBox hno)
      · simp only [freshMem]
        rw [freshMem_noBox 0 ss _ hno]
    | lf k =>
      obtain ⟨b, us, c, n, r1, r2, r3, r4, r5, r6, r7⟩ := box_start h2 hl hb _ hi2
      exact ⟨b, us, c, n, r1, r2, r3, r4, r5, r6, r7⟩
    | agg l =>
      obtain ⟨b, us, c, n, r1, r2, r3, r4, r5, r6, r7⟩ := box_start h2 hl hb _ hi2
      exact ⟨b, us, c, n, r1, r2, r3, r4, r5, r6, r7⟩
theorem St.look_one {t : TypeId} {l : List Lf} {j : Nat} {mb : TypeId × List Lf} (h : look [(0, some (t, l))] j = some mb) : j = 0 ∧ mb = (t, l) := by
  simp only [look] at h
  split at h
  · rename_i e; cases h; exact ⟨e.symm, rfl⟩
  · cases h
/-! What is handed on at the end -/
section
variable {P : Program} {F : Nat → Prop} {w0 : World} {Γ : Env} {st : St} {a : Act} {w : World}
theorem cntIdx_spec (h : Sat P F w0 Γ st a w) {l : Lf} {i : Nat} (hi : cntIdx st.vec l = some i) : ∃ te e, look st.vec i = some e ∧ l = .cnt te (mkJoin i e.2) ∧ e.1 = te ∧ (l.c Γ.ρ).loc = (at_ Γ.ρ i).loc := by
  unfold cntIdx at hi
  split at hi
  · rename_i te r
    split at hi
    · rename_i i' hi'
      split at hi
      · rename_i e he
        split at hi
        · rename_i hc
          cases hi
          refine ⟨te, e, he, by rw [hc.2], hc.1, ?_⟩
          simp only [Lf.c]
          rw [← hc.2, mkJoin_ev (h.vec _ e he).1]
          rfl
        · cases hi
      · cases hi
    · cases hi
  · cases hi
theorem nodupI_spec {vec : Vecs} : ∀ {ls : List Lf}, nodupI vec ls = true → ∀ l ∈ ls, l.isVec = false ∧ (l.isCnt = true → ∃ i, cntIdx vec l = some i)
  | [], _, l, hl => by cases hl
  | x :: ls, h, l, hl => by
    simp only [nodupI, Bool.and_eq_true, Bool.not_eq_true'] at h
    obtain ⟨⟨h1, h2⟩, h3⟩ := h
    rcases List.mem_cons.1 hl with rfl | hl
    · refine ⟨h1, fun hc => ?_⟩
      split at h2
      · rename_i i hi; exact ⟨i, hi⟩
      · rw [hc] at h2; cases h2
    · exact nodupI_spec h3 l hl
theorem kind_vec {l : Lf} {t : TypeId} (hk : l.kind = some (.vec t)) (hv : l.isVec = false) : l.isCnt = true := by
  cases l with
  | vec te i => cases hv
  | cnt te r => rfl
  | _ => cases hk
theorem vecB_cells (h : Sat P F w0 Γ st a w) : ∀ {ls : List Lf} {ks : List Lk}, kindsL ls = some ks → nodupI st.vec ls = true → (vecB ks (cs_ Γ.ρ ls)).Nodup ∧ ∀ b ∈ vecB ks (cs_ Γ.ρ ls), ∃ l ∈ ls, ∃ i, cntIdx st.vec l = some i ∧ Hold Γ st false i b
  | [], ks, hk, _ => by simp [kindsL] at hk; subst hk; simp [vecB, cs_]
  | l :: ls, ks, hk, hn => by
    have hn0 := hn
    simp only [nodupI, Bool.and_eq_true, Bool.not_eq_true'] at hn
    obtain ⟨⟨h1, h2⟩, h3⟩ := hn
    simp only [kindsL] at hk
    split at hk
    · rename_i k ks' hk1 hk2
      cases hk
      obtain ⟨i1, i2⟩ := vecB_cells h hk2 h3
      have tail : vecB (k :: ks') (cs_ Γ.ρ (l :: ls)) = vecB ks' (cs_ Γ.ρ ls) → (vecB (k :: ks') (cs_ Γ.ρ (l :: ls))).Nodup ∧ ∀ b ∈ vecB (k :: ks') (cs_ Γ.ρ (l :: ls)), ∃ x ∈ l :: ls, ∃ i, cntIdx st.vec x = some i ∧ Hold Γ st false i b := fun e => by
        rw [e]
        exact ⟨i1, fun b hb => by obtain ⟨x, hx, r⟩ := i2 b hb; exact ⟨x, by simp [hx], r⟩⟩
      cases k with
      | vec t =>
        have hc := kind_vec hk1 h1
        obtain ⟨i, hi⟩ := (nodupI_spec hn0 l (by simp)).2 hc
        obtain ⟨te, e, q1, q2, q3, q4⟩ := cntIdx_spec h hi
        rw [hi] at h2
        simp only [List.all_eq_true, Bool.not_eq_true', decide_eq_false_iff_not] at h2
        cases hob : (l.c Γ.ρ).loc.ownBlock with
        | none => exact tail (by simp [cs_, vecB, hob])
        | some b =>
          have hh : Hold Γ st false i b := .vec (Γ := Γ) q1 (by rw [← q4]; exact hob)
          have e' : vecB (.vec t :: ks') (cs_ Γ.ρ (l :: ls)) = b :: vecB ks' (cs_ Γ.ρ ls) := by simp [cs_, vecB, hob]
          rw [e']
          refine ⟨List.nodup_cons.2 ⟨fun hb => ?_, i1⟩, fun x hx => ?_⟩
          · obtain ⟨m, hm, j, hj, hhj⟩ := i2 b hb
            have := (h.inj _ _ _ _ _ hh hhj).2
            subst this
            exact h2 m hm hj
          · rcases List.mem_cons.1 hx with rfl | hx
            · exact ⟨l, by simp, i, hi, hh⟩
            · obtain ⟨m, hm, r⟩ := i2 x hx; exact ⟨m, by simp [hm], r⟩
      | int => exact tail rfl
      | bool => exact tail rfl
      | arr t => exact tail rfl
    · cases hk
theorem Lf.give_spec (h : Sat P F w0 Γ st a w) {O : Nat → Nat → Prop} (hO : ∀ b o, O b o → Own Γ st b o) {k : Lk} {l : Lf} (ho : l.ok P w (Own Γ st) Γ) (hnc : l.isCnt = false) :
    ((match k with | .vec _ => l.give P st.vec k | _ => l.adapt P [] k) : Lf).den Γ = l.den Γ ∧ (((match k with | .vec _ => l.give P st.vec k | _ => l.adapt P [] k) : Lf).isVec = false → ((match k with | .vec _ => l.give P st.vec k | _ => l.adapt P [] k) : Lf).okR P w O Γ) := by
  have plain : ∀ x : Lf, x.ok P w (Own Γ st) Γ → x.isCnt = false → x.isVec = false → x.okR P w O Γ := fun x hx hc hv => by
    cases x with
    | cnt te r => cases hc
    | vec te i => cases hv
    | _ => exact Lf.ok_anti hx hO
  have other : (l.adapt P [] k).den Γ = l.den Γ ∧ ((l.adapt P [] k).isVec = false → (l.adapt P [] k).okR P w O Γ) := by
    refine ⟨adapt_den0 P Γ k l, fun hv => plain _ (S0.adaptOk ho) ?_ hv⟩
    unfold Lf.adapt
    split
    · rfl
    · split <;> rfl
    · exact hnc
  cases k with
  | vec t =>
    by_cases hvv : ∃ te i, l = .vec te i
    · obtain ⟨te, i, rfl⟩ := hvv
      show (Lf.give P st.vec (.vec t) (.vec te i)).den Γ = _ ∧ ((Lf.give P st.vec (.vec t) (.vec te i)).isVec = false → (Lf.give P st.vec (.vec t) (.vec te i)).okR P w O Γ)
      simp only [Lf.give]
      split
      · rename_i e he
        split
        · rename_i hc
          have hj := mkJoin_ev (h.vec i e he).1
          refine ⟨by simp only [Lf.den, hj, C.loc], fun _ => ?_⟩
          obtain ⟨ks, us, k1, k2, k3, k4, k5⟩ := (h.vec i e he).1.anti hO
          simp only [Lf.okR, hj]
          rw [← hc]
          exact ⟨ks, us, k1, ⟨_, rfl⟩, k3, k4, k5⟩
        · exact ⟨rfl, fun hv => by cases hv⟩
      · exact ⟨rfl, fun hv => by cases hv⟩
    · have hg : Lf.give P st.vec (.vec t) l = l := by
        cases l with
        | vec te i => exact absurd ⟨te, i, rfl⟩ hvv
        | _ => rfl
      show (Lf.give P st.vec (.vec t) l).den Γ = _ ∧ ((Lf.give P st.vec (.vec t) l).isVec = false → (Lf.give P st.vec (.vec t) l).okR P w O Γ)
      rw [hg]
      exact ⟨rfl, plain l ho hnc⟩
  | int => exact other
  | bool => exact other
  | arr t => exact other
theorem gives_spec (h : Sat P F w0 Γ st a w) {O : Nat → Nat → Prop} (hO : ∀ b o, O b o → Own Γ st b o) : ∀ {shs : List Sh0} {ss : List S0}, (∀ s ∈ ss, s.ok P w (Own Γ st) Γ) → (ss.all fun s => s.cells.all fun x => !x.isCnt) = true →
    (gives P st.vec shs ss).map (S0.den Γ) = ss.map (S0.den Γ) ∧ ∀ s ∈ gives P st.vec shs ss, ∀ l ∈ s.cells, l.isVec = false → l.okR P w O Γ
  | [], ss, h1, h2 => by
    have key : ∀ s ∈ ss, ∀ l ∈ s.cells, l.isVec = false → l.okR P w O Γ := fun s hs l hl hv => by
      have hc := List.all_eq_true.1 (List.all_eq_true.1 h2 s hs) l hl
      have ho := h1 s hs l hl
      cases l with
      | cnt te r => cases hc
      | vec te i => cases hv
      | _ => exact Lf.ok_anti ho hO
    cases ss <;> exact ⟨rfl, key⟩
  | _ :: _, [], _, _ => ⟨rfl, fun l hl => by cases hl⟩
  | sh :: shs, s :: ss, h1, h2 => by
    simp only [List.all_cons, Bool.and_eq_true] at h2
    obtain ⟨g1, g2⟩ := gives_spec h hO (shs := shs) (ss := ss) (fun x hx => h1 x (by simp [hx])) h2.2
    have hcn : ∀ l ∈ s.cells, l.isCnt = false := fun l hl => by have := List.all_eq_true.1 h2.1 l hl; simpa using this
    have hso := h1 s (by simp)
    have hL : ∀ (ks : List Lk) (ls : List Lf), (∀ l ∈ ls, l.isCnt = false) → (∀ l ∈ ls, l.ok P w (Own Γ st) Γ) → (giveL P st.vec ks ls).map (Lf.den Γ) = ls.map (Lf.den Γ) ∧ ∀ l ∈ giveL P st.vec ks ls, l.isVec = false → l.okR P w O Γ := by
      intro ks
      induction ks with
      | nil =>
        intro ls k1 k2
        have key : ∀ l ∈ ls, l.isVec = false → l.okR P w O Γ := fun l hl hv => by
          have hc := k1 l hl
          have ho := k2 l hl
          cases l with
          | cnt te r => cases hc
          | vec te i => cases hv
          | _ => exact Lf.ok_anti ho hO
        cases ls <;> exact ⟨rfl, key⟩
      | cons k ks ih =>
        intro ls k1 k2
        cases ls with
        | nil => exact ⟨rfl, fun l hl => by cases hl⟩
        | cons l ls =>
          obtain ⟨q1, q2⟩ := ih ls (fun x hx => k1 x (by simp [hx])) (fun x hx => k2 x (by simp [hx]))
          obtain ⟨q3, q4⟩ := Lf.give_spec h hO (k := k) (k2 l (by simp)) (k1 l (by simp))
          refine ⟨by simp only [giveL, List.map_cons, q1, q3], fun x hx => ?_⟩
          rcases List.mem_cons.1 hx with rfl | hx
          · exact q4
          · exact q2 x hx
    have one : (s.give P st.vec sh).den Γ = s.den Γ ∧ ∀ l ∈ (s.give P st.vec sh).cells, l.isVec = false → l.okR P w O Γ := by
      unfold S0.give
      split
      · rename_i k l
        obtain ⟨q3, q4⟩ := Lf.give_spec h hO (k := k) (hso l (by simp [S0.cells])) (hcn l (by simp [S0.cells]))
        exact ⟨q3, fun x hx => by simp only [S0.cells, List.mem_singleton] at hx; subst hx; exact q4⟩
      · rename_i ks ls
        obtain ⟨q1, q2⟩ := hL ks ls hcn hso
        exact ⟨by simp only [S0.den, dens, q1], q2⟩
      · refine ⟨rfl, fun l hl hv => ?_⟩
        have hc := hcn l hl
        have ho := hso l hl
        cases l with
        | cnt te r => cases hc
        | vec te i => cases hv
        | _ => exact Lf.ok_anti ho hO
    refine ⟨by simp [gives, g1, one.1], fun x hx => ?_⟩
    rcases List.mem_cons.1 hx with rfl | hx
    · exact one.2
    · exact g2 x hx
theorem shapes_kindsL {mem : Mem} : ∀ {args : List S0} {ss : List Sh0}, shapes mem args = some ss → kindsL (cellsOf mem args) = some (kindsOf ss)
  | [], ss, h => by simp [shapes] at h; subst h; rfl
  | s :: args, ss, h => by
    simp only [shapes] at h
    split at h
    · rename_i sh hss h1 h2
      cases h
      have hc : cellsOf mem (s :: args) = s.cellsM mem ++ cellsOf mem args := by simp [cellsOf]
      have hk : kindsOf (sh :: hss) = sh.kinds ++ kindsOf hss := by simp [kindsOf]
      rw [hc, hk]
      have app : ∀ {l m : List Lf} {k n : List Lk}, kindsL l = some k → kindsL m = some n → kindsL (l ++ m) = some (k ++ n) := by
        intro l
        induction l with
        | nil => intro m k n h1 h2; simp [kindsL] at h1; subst h1; exact h2
        | cons x l ih =>
          intro m k n h1 h2
          simp only [kindsL] at h1
          split at h1
          · rename_i k' ks' e1 e2
            cases h1
            simp only [List.cons_append, kindsL, e1, ih e2 h2]
          · cases h1
      refine app ?_ (shapes_kindsL h2)
      have plain : s.shapeM mem = s.shape → s.cellsM mem = s.cells → kindsL (s.cellsM mem) = some sh.kinds := by
        intro e1 e2
        rw [e1] at h1
        rw [e2]
        cases s with
        | lf l =>
          simp only [S0.shape, Option.map_eq_some_iff] at h1
          obtain ⟨k, hk', rfl⟩ := h1
          simp [S0.cells, kindsL, hk', Sh0.kinds]
        | agg ls =>
          simp only [S0.shape, Option.map_eq_some_iff] at h1
          obtain ⟨k, hk', rfl⟩ := h1
          exact hk'
      by_cases hp : ∃ b, s = .lf (.ptr b 0)
      · obtain ⟨b, rfl⟩ := hp
        simp only [S0.shapeM] at h1
        split at h1
        · rename_i mb hmb
          simp only [Option.map_eq_some_iff] at h1
          obtain ⟨ks, hks, rfl⟩ := h1
          simp only [S0.cellsM, hmb]
          exact hks
        · cases h1
      · refine plain ?_ ?_
        · unfold S0.shapeM; split
          · exact absurd ⟨_, rfl⟩ hp
          · rfl
        · unfold S0.cellsM; split
          · exact absurd ⟨_, rfl⟩ hp
          · rfl
    · cases h
end
theorem cellsOf_box {mem : Mem} {args : List S0} {b : Nat} {mb : TypeId × List Lf} (hin : S0.lf (.ptr b 0) ∈ args) (hmb : look mem b = some mb) : ∀ l ∈ mb.2, l ∈ cellsOf mem args := fun l hl =>
  List.mem_flatMap.2 ⟨_, hin, by simp only [S0.cellsM, hmb]; exact hl⟩
theorem cellsOf_plain {mem : Mem} {args : List S0} {s : S0} (hs : s ∈ args) (hp : ¬ ∃ b, s = .lf (.ptr b 0)) : ∀ l ∈ s.cells, l ∈ cellsOf mem args := fun l hl =>
  List.mem_flatMap.2 ⟨s, hs, by
    unfold S0.cellsM; split
    · exact absurd ⟨_, rfl⟩ hp
    · exact hl⟩
theorem ct_ok {cx : Cx} (hcx : CxOK cx) {f : FuncId} {fn : Func} (hf : cx.P.funcs[f]? = some fn) {ct : Ct} {bds : Bds} {T : Tree} (hT : execFn cx fn ct bds = some T)
    (hvc : allC cx.P (kindsOf ct.args) fun cs => ct.pre cs → bds.ok cs ∧ VC cx (ct.post cs) T cs []) : CtOK cx.P f ct := by
  intro Base w vs cs hBase hreps hpre
  have hty := hreps.ty
  obtain ⟨hb, hv⟩ := allC_elim hvc cs hty hpre
  unfold execFn at hT
  split at hT
  · cases hT
  · rename_i c hbody
    split at hT
    · rename_i hle'
      obtain ⟨hle, hle2, hbx⟩ := hle'
      refine calls_of_wp hf hbody ?_
      have hat : ∀ j c, cs[j]? = some c → at_ cs (0 + j) = c := fun j c hj => by rw [Nat.zero_add]; simp [at_, List.getD_eq_getElem?_getD, hj]
      have hbx' := hbx
      simp only [boxOk, Bool.and_eq_true, Bool.or_eq_true] at hbx'
      obtain ⟨⟨hb1, hb2⟩, hb3⟩ := hbx'
      have hb1 := Nat.le_of_ble_eq_true hb1
      have hbkn : (boxKinds ct.args).all Lk.noVec = true := by
        have : ∀ {ss : List Sh0}, (kindsOf ss).all Lk.noVec = true → (boxKinds ss).all Lk.noVec = true := by
          intro ss
          induction ss with
          | nil => intro _; rfl
          | cons s ss ih =>
            intro h
            have hk : kindsOf (s :: ss) = s.kinds ++ kindsOf ss := by simp [kindsOf]
            rw [hk, List.all_append, Bool.and_eq_true] at h
            cases s with
            | box t l => show (l ++ boxKinds ss).all Lk.noVec = true; rw [List.all_append, Bool.and_eq_true]; exact ⟨h.1, ih h.2⟩
            | _ => exact ih h.2
        exact this hb3
      have hsm : Smalls cs := by
        have := Smalls.nil.app (cs := cs) fun c hc => hty.small c hc
        simpa using this
      -- where the argument's block lies
      obtain ⟨B, hB1, hB2, hB3⟩ : ∃ B : Nat, (∀ x, IsBox ct.args vs x → x = B ∧ ∃ p, boxArg ct.args = some p) ∧
          (∀ Γ : Env, Γ.ρ = cs → Γ.blk 0 = B → Γ.base = Base → ∀ j mb, look (freshMem 0 ct.args 0) j = some mb → Blk w (Γ.blk j) mb.1 (dens Γ mb.2) ∧ (∀ l ∈ mb.2, l.ok cx.P w (fun x o => Base x o ∨ x = B) Γ) ∧ IsBox ct.args vs (Γ.blk j) ∧ j < (freshMem 0 ct.args 0).length ∧ j = 0 ∧ ∀ o, Base B o) ∧
          (∀ (st' : St) (o : List Lf) (w' : World) (Γ' : Env) (O' : Nat → Nat → Prop), outL st' ct = some o → Γ'.blk 0 = (if (freshMem 0 ct.args 0).length = 0 then Γ'.blk 0 else B) → (∀ mb, look st'.mem 0 = some mb → Blk w' (Γ'.blk 0) mb.1 (dens Γ' mb.2) ∧ ∀ l ∈ mb.2, l.ok cx.P w' O' Γ') → Num st'.bds Γ'.ρ → Obs Γ'.ρ (rngL st'.bds o) → Outs cx.P w' O' ct.args vs (cs_ Γ'.ρ o) ∧ ((∃ p, boxArg ct.args = some p) → ∃ mb, look st'.mem 0 = some mb ∧ Γ'.blk 0 = B)) := by
        cases hba : boxArg ct.args with
        | none =>
          have hno := boxArg_none hba
          refine ⟨0, fun x hx => absurd hx (isBox_noBox hno), fun Γ _ _ _ j mb hj => ?_, fun st' o w' Γ' O' ho _ _ _ _ => ?_⟩
          · rw [freshMem_noBox 0 ct.args 0 hno] at hj; cases hj
          · simp only [outL, hba, Option.some.injEq] at ho; subst ho; exact ⟨outs_none hno, fun ⟨p, hp⟩ => by cases hp⟩
        | some p =>
          obtain ⟨t, ks⟩ := p
          obtain ⟨b, us, c1, n, r1, r2, r3, r4, r5, r6, r7⟩ := box_start hreps hb1 hba 0 hat
          have hksn : ks.all Lk.noVec = true := by
            have : ∀ {ss : List Sh0}, boxArg ss = some (t, ks) → (boxKinds ss).all Lk.noVec = true → ks.all Lk.noVec = true := by
              intro ss
              induction ss with
              | nil => intro h _; cases h
              | cons s ss ih =>
                intro h hn
                cases s with
                | box t' l =>
                  cases h
                  have : (ks ++ boxKinds ss).all Lk.noVec = true := hn
                  rw [List.all_append, Bool.and_eq_true] at this
                  exact this.1
                | lf k => exact ih h hn
                | agg k => exact ih h hn
            exact this hba hbkn
          refine ⟨b, fun x hx => ⟨(r1 x).1 hx, _, rfl⟩, fun Γ hρ hblk hbase j mb hj => ?_, fun st' o w' Γ' O' ho hbl hm hn hob => ?_⟩
          · rw [r5] at hj
            obtain ⟨rfl, rfl⟩ := St.look_one hj
            obtain ⟨f1, f2⟩ := freshL_rep (Γ := Γ) r4 n (fun j c hj => by rw [hρ]; exact r6 j c hj)
            refine ⟨by rw [hblk]; unfold dens; rw [f1]; exact r2, fun l hl => Lf.ok_anti (f2 l hl) fun x o hx => hx.imp id fun e => by rw [e], by rw [hblk]; exact (r1 b).2 rfl, by rw [r5]; exact Nat.succ_pos _, rfl, r3⟩
          · rw [r5] at hbl
            simp only [List.length_cons, List.length_nil, Nat.zero_add, Nat.one_ne_zero, if_false] at hbl
            simp only [outL, hba] at ho
            split at ho
            · rename_i mb hmb
              split at ho
              · rename_i hc
                cases ho
                obtain ⟨m1, m2⟩ := hm mb hmb
                refine ⟨?_, fun _ => ⟨mb, hmb, hbl⟩⟩
                rw [hbl, hc.1] at m1
                exact r7 w' O' _ _ m1 (Ls_rep hn hc.2 (kindsL_noVec hc.2 hksn m2) hob)
              · cases ho
            · cases ho
      let Γ : Env := { ρ := cs, blk := fun _ => B, nb := (freshMem 0 ct.args 0).length, base := Base }
      obtain ⟨f1, f2⟩ := freshS_rep (Γ := Γ) (nb := 0) hreps (fun b hb => ((hB1 b hb).1).symm) 0 hat
      have hvl : vs.length = ct.args.length := by rw [← f1, List.length_map, freshS_len]
      have hmemB : ∀ j mb, look (freshMem 0 ct.args 0) j = some mb → ∀ o, Base (Γ.blk j) o := fun j mb hj o => (hB2 Γ rfl rfl rfl j mb hj).2.2.2.2.2 o
      have hown : ∀ b o, Own Γ (startOf fn ct bds cx.wr) b o → Base b o := by
        rintro b o (hb | ⟨j, mb, hj, rfl⟩ | ⟨i, e, hi, -⟩)
        · exact hb
        · exact hmemB j mb hj o
        · cases hi
      have hs : Sat cx.P (fun i => i < w.heap.size ∧ ¬ IsBox ct.args vs i) w Γ (startOf fn ct bds cx.wr) { tmps := vs.toArray ++ Array.replicate (fn.ntmps - vs.toArray.size) undef, defers := [] } w := by
        refine ⟨fun t sv ht => ?_, by simp [startOf]; omega, fun b mb hm => ?_, fun i e hi => (by cases hi), fun i e hi => (by cases hi), fun s j s' j' b h1 h2 => ?_, Keeps.refl _ _, fun i hi => hi.1, hBase, rfl, hty.len, rfl, ⟨hb, hsm⟩⟩
        · obtain ⟨j, s, e, hj, rfl⟩ := look_argSl _ _ _ _ ht
          have hjl : j < vs.length := by
            rw [hvl, ← freshS_len 0 ct.args 0]
            rcases Nat.lt_or_ge j (freshS 0 ct.args 0).length with h' | h'
            · exact h'
            · rw [List.getElem?_eq_none h'] at hj; cases hj
          have hmem := List.mem_of_getElem? hj
          refine ⟨?_, fun l hl => Lf.ok_anti (f2 s hmem l hl) hown⟩
          have : vs[j]? = some (s.den Γ) := by rw [← f1]; simp [hj]
          subst e
          unfold slotV
          rw [if_pos (by omega)]
          simp only [Nat.zero_add, Array.getD_eq_getD_getElem?]
          rw [Array.getElem?_append_left (by simpa using hjl)]
          simp [this, SV.den]
        · obtain ⟨m1, m2, m3, m4, m5, m6⟩ := hB2 Γ rfl rfl rfl b mb hm
          refine ⟨m1, fun l hl => Lf.ok_anti (m2 l hl) fun x o hx => .inl (hown x o hx), fun hn => hn.2 m3, m4⟩
        · rcases h1.inv with ⟨rfl, mb, hm, rfl⟩ | ⟨rfl, e, hm, -⟩
          · rcases h2.inv with ⟨rfl, mc, hm', -⟩ | ⟨rfl, e, hm', -⟩
            · have h1 := (hB2 Γ rfl rfl rfl j mb hm).2.2.2.2.1
              have h2 := (hB2 Γ rfl rfl rfl j' mc hm').2.2.2.2.1
              exact ⟨rfl, by rw [h1, h2]⟩
            · cases hm'
          · cases hm
      refine exec_sound (R := ct.post cs) hcx c _ _ T hT Γ [] _ ?_ rfl hv _ w hs
      intro x st' T' Γ' Ls' hk he hl hlen hv' a' w' hs'
      have fin : endOf cx fn ct st' = some T' → a'.defers = [] ∧ ∃ v, (results fn a'.tmps).run cx.P w' = .ok v w' ∧ ∃ v' rs outs, Ending.returned v = .returned v' ∧ Res cx.P w' Base w.heap.size ct.res v' rs ∧ Outs cx.P w' (fun b o => Base b o ∨ b ∈ vecB (kindsOf ct.res) rs) ct.args vs outs ∧ ct.post cs (rs ++ outs) ∧ Keeps (fun i => i < w.heap.size ∧ ¬ IsBox ct.args vs i) w w' := by
        intro hend
        unfold endOf at hend
        split at hend
        · rename_i l o hl' ho
          split at hend
          rotate_left
          · cases hend; exact hv'.elim
          · rename_i hcc
            obtain ⟨hsh, hnd, hnc⟩ := hcc
            cases hend
            obtain ⟨hob, hret⟩ := VC.obT hv'
            obtain ⟨ob1, ob2⟩ := rngL_app hob
            obtain ⟨r1, r2⟩ := run_results hs' hl'
            generalize hl'' : resOf cx ct st' l = l' at *
            have hbase : ∀ b o, Base b o → Own Γ' st' b o := fun b o hb => .inl (by rw [he.base]; exact hb)
            obtain ⟨v1, v2⟩ := vecB_cells hs' (shapes_kindsL hsh) hnd
            generalize hrs : cs_ Γ'.ρ (cellsOf st'.mem l') = rs at *
            have hO : ∀ b o, (Base b o ∨ b ∈ vecB (kindsOf ct.res) rs) → Own Γ' st' b o := fun b o hb => hb.elim (hbase b o) fun hb => by
              obtain ⟨x, -, i, -, hh⟩ := v2 b hb; exact hh.own o
            -- the results' cells
            obtain ⟨hden, hokR⟩ : l'.map (S0.den Γ') = l.map (S0.den Γ') ∧ ∀ s ∈ l', ∀ x ∈ s.cells, x.isVec = false → x.okR cx.P w' (fun b o => Base b o ∨ b ∈ vecB (kindsOf ct.res) rs) Γ' := by
              unfold resOf at hl''
              split at hl''
              · rename_i hnv
                have hvb : vecB (kindsOf ct.res) rs = [] := vecB_noVec hnv
                obtain ⟨g1, g2⟩ := adapts_spec hs' (O' := fun b o => Base b o ∨ b ∈ vecB (kindsOf ct.res) rs) hO (shs := ct.res) (ss := l) (fun s _ l _ _ i e hi b hb o ho => by
                  rw [hvb] at ho
                  rcases ho with ho | ho
                  · exact ((hs'.vec i e hi).2.2 b hb).2 o (by rw [he.base]; exact ho)
                  · cases ho) r2
                rw [hl''] at g1 g2
                obtain ⟨q1, q2⟩ := shapes_okR (Γ := Γ') hsh hnv g2
                exact ⟨g1, fun s hs x hx _ => q1 s hs x hx⟩
              · obtain ⟨g1, g2⟩ := gives_spec hs' hO (shs := ct.res) (ss := l) r2 hnc
                rw [hl''] at g1 g2
                exact ⟨g1, g2⟩
            have hcv : ∀ x ∈ cellsOf st'.mem l', x.isVec = false := fun x hx => (nodupI_spec hnd x hx).1
            have hrep := cells_rep (P := cx.P) (w := w') (O := fun b o => Base b o ∨ b ∈ vecB (kindsOf ct.res) rs) (old := some w.heap.size) hs'.num hsh (fun s hs2 x hx => by
              by_cases hp : ∃ b, s = .lf (.ptr b 0)
              · obtain ⟨b, rfl⟩ := hp
                simp [S0.cells] at hx; subst hx; trivial
              · exact hokR s hs2 x hx (hcv x (cellsOf_plain hs2 hp x hx))) (fun b mb hin hmb => by
              obtain ⟨m1, m2, m3, m4⟩ := hs'.mem b mb hmb
              refine ⟨m1, fun x hx => ?_, ?_⟩
              · have hxv := hcv x (cellsOf_box hin hmb x hx)
                have hxc : x.isCnt = false ∨ ∃ i, cntIdx st'.vec x = some i := by
                  cases hxc : x.isCnt with
                  | false => exact .inl rfl
                  | true => exact .inr ((nodupI_spec hnd x (cellsOf_box hin hmb x hx)).2 hxc)
                have hmo := m2 x hx
                have hO2 : ∀ y o, ((Base y o ∨ y ∈ vecB (kindsOf ct.res) rs) ∨ some (Γ'.blk b) = some y) → Own Γ' st' y o := fun y o hy => hy.elim (hO y o) fun e => by cases e; exact (Hold.mem (Γ := Γ') hmb).own o
                cases x with
                | vec te i => cases hxv
                | cnt te r =>
                  rcases hxc with hxc | ⟨i, hi⟩
                  · cases hxc
                  · obtain ⟨te', e, k1, k2, k3, k4⟩ := cntIdx_spec hs' hi
                    cases k2
                    have hve := (hs'.vec i e k1).1
                    obtain ⟨ks, us, p1, p2, p3, p4, p5⟩ := hve.anti hO2
                    simp only [Lf.okR, mkJoin_ev hve]
                    rw [← k3]
                    exact ⟨ks, us, p1, ⟨_, rfl⟩, p3, p4, p5⟩
                | _ => exact Lf.ok_anti hmo hO2
              · rcases hb2 with h | h
                · exact absurd hin ((shapes_noBox hsh h).2.2.2 b)
                · rcases Nat.lt_or_ge (Γ'.blk b) w.heap.size with hlt | hge
                  · exact absurd ⟨hlt, isBox_noBox h.1.2⟩ m3
                  · exact hge) ob1
            rw [hrs] at hrep
            obtain ⟨houts, hboxm⟩ := hB3 st' o w' Γ' (fun b o => Base b o ∨ b ∈ vecB (kindsOf ct.res) rs) ho (by
              split
              · rfl
              · rename_i hne
                rw [he.blk 0 (show 0 < (freshMem 0 ct.args 0).length by omega)]) (fun mb hmb => ⟨(hs'.mem 0 mb hmb).1, fun l hl => Lf.ok_anti ((hs'.mem 0 mb hmb).2.1 l hl) hO⟩) hs'.num ob2
            refine ⟨hs'.defers, _, r1, _, rs, cs_ Γ'.ρ o, rfl, ⟨_, rfl, ?_, v1, fun b hb => ?_⟩, houts, ?_, hs'.keeps⟩
            · rw [← hden]; exact hrep
            · obtain ⟨x, hx, i, hi, hh⟩ := v2 b hb
              obtain ⟨e, he1, he2⟩ := hh
              have hnF := ((hs'.vec i e he1).2.2 b he2).1
              rcases Nat.lt_or_ge b w.heap.size with hlt | hge
              · exfalso
                refine hnF ⟨hlt, fun hbx => ?_⟩
                obtain ⟨e1, hp⟩ := hB1 b hbx
                obtain ⟨mb, hmb, hbl⟩ := hboxm hp
                have := (hs'.inj _ _ _ _ _ (Hold.mem (Γ := Γ') hmb) (show Hold Γ' st' false i (Γ'.blk 0) from ⟨e, he1, by rw [he2, e1, hbl]⟩)).1
                cases this
              · exact hge
            · have : rs ++ cs_ Γ'.ρ o = cs_ Γ'.ρ (cellsOf st'.mem l' ++ o) := by rw [← hrs]; simp [cs_]
              rw [this]; exact hret
        · cases hend; exact hv'.elim
        · cases hend; exact hv'.elim
      cases x with
      | nrm => exact fin hk
      | ret => exact fin hk
      | ext i => cases hk
    · cases hT

theorem allC_mono {P : Program} : ∀ {ks : List Lk} {p q : List C → Prop}, allC P ks p → (∀ cs, p cs → q cs) → allC P ks q
  | [], p, q, h, hh => hh _ h
  | .int :: ks, p, q, h, hh => fun n h1 h2 => allC_mono (h n h1 h2) fun cs hc => hh _ hc
  | .bool :: ks, p, q, h, hh => fun t => allC_mono (h t) fun cs hc => hh _ hc
  | .arr t :: ks, p, q, h, hh => fun v rows d h1 h2 => allC_mono (h v rows d h1 h2) fun cs hc => hh _ hc
  | .vec t :: ks, p, q, h, hh => fun v rows d h1 h2 => allC_mono (h v rows d h1 h2) fun cs hc => hh _ hc
/-! Functions carried out in place -/
def enterSt (fn : Func) (args : List S0) (st : St) : St := { st with sl := argSl 0 args ++ st.sl.map fun p => (p.1 + 1000, p.2), nt := fn.ntmps }
def leaveSl : List (Nat × Option SV) → List (Nat × Option SV)
  | [] => []
  | (k, v) :: l => if 1000 ≤ k then (k - 1000, v) :: leaveSl l else leaveSl l
def leaveSt (st st' : St) : St := { st' with sl := leaveSl st'.sl, nt := st.nt }
def hand (cx : Cx) (fns : Nat → Option Func) : Hd := fun f args st k =>
  match fns f with
  | some fn => match fn.body with
    | some c => if args.length ≤ fn.ntmps ∧ fn.ntmps ≤ 1000 then
        exec cx c (enterSt fn args st) fun x st' => match x with
          | .ext _ => none
          | _ => match retAll cx.P st' fn.results.toList with
            | some l => k l (leaveSt st st')
            | none => some (.fail 80001 [f, st'.path])
      else none
    | none => none
  | none => none
theorem look_leave : ∀ (l : List (Nat × Option SV)) (t : Nat), look (leaveSl l) t = look l (t + 1000)
  | [], _ => rfl
  | (k, v) :: l, t => by
    simp only [leaveSl]
    split
    · rename_i h
      simp only [look]
      by_cases hk : k - 1000 = t
      · rw [if_pos hk, if_pos (by omega)]
      · rw [if_neg hk, if_neg (by omega)]; exact look_leave l t
    · rename_i h
      simp only [look]
      rw [if_neg (by omega)]; exact look_leave l t
theorem look_shift : ∀ (l : List (Nat × Option SV)) (t : Nat), look (l.map fun p => (p.1 + 1000, p.2)) t = if 1000 ≤ t then look l (t - 1000) else none
  | [], t => by simp [look]
  | (k, v) :: l, t => by
    simp only [List.map_cons, look, look_shift l t]
    by_cases h : 1000 ≤ t
    · simp only [h, if_true]
      by_cases hk : k = t - 1000
      · rw [if_pos (by omega), if_pos hk]
      · rw [if_neg (by omega), if_neg hk]
    · rw [if_neg (by omega)]; simp [h]
theorem look_enter : ∀ (args : List S0) (i : Nat) (m : List (Nat × Option SV)) (t : Nat) (sv : SV), look (argSl i args ++ m) t = some sv → (∃ j s, t = i + j ∧ args[j]? = some s ∧ sv = .one s) ∨ look m t = some sv
  | [], _, _, _, _, h => .inr h
  | s :: l, i, m, t, sv, h => by
    simp only [argSl, List.cons_append, look] at h
    split at h
    · rename_i e; cases h; exact .inl ⟨0, s, by omega, rfl, rfl⟩
    · rcases look_enter l (i + 1) m t sv h with ⟨j, s', e, hj, hsv⟩ | h
      · exact .inl ⟨j + 1, s', by omega, by simpa using hj, hsv⟩
      · exact .inr h
theorem Lf.den_up (Γ : Env) (u : Nat → Value) (l : Lf) : l.den { Γ with up := u } = l.den Γ := by cases l <;> rfl
theorem dens_up (Γ : Env) (u : Nat → Value) (l : List Lf) : dens { Γ with up := u } l = dens Γ l := by
  unfold dens; rw [List.map_congr_left fun x _ => Lf.den_up Γ u x]
theorem S0.den_up (Γ : Env) (u : Nat → Value) (s : S0) : s.den { Γ with up := u } = s.den Γ := by
  cases s with
  | lf l => exact Lf.den_up Γ u l
  | agg l => simp only [S0.den, dens_up]
theorem SV.den_up (Γ : Env) (u : Nat → Value) (s : SV) : s.den { Γ with up := u } = s.den Γ := by
  cases s with
  | one s => exact S0.den_up Γ u s
  | tup l => simp only [SV.den]; rw [List.map_congr_left fun x _ => S0.den_up Γ u x]
  | fn f l => simp only [SV.den, dens_up]
theorem Lf.ok_up {P : Program} {w : World} {O : Nat → Nat → Prop} {Γ : Env} {u : Nat → Value} {l : Lf} : l.ok P w O { Γ with up := u } ↔ l.ok P w O Γ := by cases l <;> exact Iff.rfl
theorem S0.ok_up {P : Program} {w : World} {O : Nat → Nat → Prop} {Γ : Env} {u : Nat → Value} {s : S0} : s.ok P w O { Γ with up := u } ↔ s.ok P w O Γ := ⟨fun h l hl => Lf.ok_up.1 (h l hl), fun h l hl => Lf.ok_up.2 (h l hl)⟩
theorem SV.ok_up {P : Program} {w : World} {O : Nat → Nat → Prop} {Γ : Env} {u : Nat → Value} {s : SV} : s.ok P w O { Γ with up := u } ↔ s.ok P w O Γ := by
  cases s with
  | one s => exact S0.ok_up
  | tup l => exact ⟨fun h s hs => S0.ok_up.1 (h s hs), fun h s hs => S0.ok_up.2 (h s hs)⟩
  | fn f l => exact ⟨fun h l hl => Lf.ok_up.1 (h l hl), fun h l hl => Lf.ok_up.2 (h l hl)⟩
/-- Another frame. -/
theorem Sat.frame {P : Program} {F : Nat → Prop} {w0 : World} {Γ : Env} {st : St} {a : Act} {w : World} (h : Sat P F w0 Γ st a w) {u : Nat → Value} {sl : List (Nat × Option SV)} {nt : Nat} {a' : Act} (hsz : a'.tmps.size = nt) (hd : a'.defers = [])
    (hs : ∀ t sv, look sl t = some sv → slotV { Γ with up := u } a' t = sv.den Γ ∧ sv.ok P w (Own Γ st) Γ) : Sat P F w0 { Γ with up := u } { st with sl := sl, nt := nt } a' w := by
  have hown : ∀ b o, Own { Γ with up := u } { st with sl := sl, nt := nt } b o → Own Γ st b o := fun b o h => h
  refine ⟨fun t sv ht => ?_, hsz, fun b mb hm => ?_, h.vec, fun i e hi => ?_, h.inj, h.keeps, h.fold, h.base, hd, h.len, h.nb, h.num⟩
  · obtain ⟨h1, h2⟩ := hs t sv ht
    exact ⟨by rw [SV.den_up]; exact h1, SV.ok_up.2 h2⟩
  · obtain ⟨h1, h2, h3, h4⟩ := h.mem b mb hm
    exact ⟨by rw [dens_up]; exact h1, fun l hl => Lf.ok_up.2 (h2 l hl), h3, h4⟩
  · obtain ⟨h1, h2, h3⟩ := h.clo i e hi
    refine ⟨?_, fun s hs => S0.ok_up.2 (h2 s hs), fun l hl => Lf.ok_up.2 (h3 l hl)⟩
    rw [List.map_congr_left fun s _ => S0.den_up Γ u s, List.map_congr_left fun l _ => Lf.den_up Γ u l]
    exact h1
theorem VC_congr {cx cx' : Cx} (hP : cx.P = cx'.P) (hct : cx.ct = cx'.ct) {R : List C → Prop} : ∀ {T : Tree} {ρ : List C} {Ls : List (List C → Prop)}, VC cx R T ρ Ls → VC cx' R T ρ Ls
  | .ret l, ρ, Ls, h => h
  | .split b t e, ρ, Ls, h => ⟨fun hb => VC_congr hP hct (h.1 hb), fun hb => VC_congr hP hct (h.2 hb)⟩
  | .ob b t, ρ, Ls, h => ⟨h.1, VC_congr hP hct h.2⟩
  | .call f args t, ρ, Ls, h => by
    simp only [VC] at h ⊢
    rw [← hct, ← hP]
    cases hc : cx.ct f with
    | none => rw [hc] at h; exact h.elim
    | some ct =>
      rw [hc] at h
      exact ⟨h.1, allC_mono h.2 fun rs hr hp => VC_congr hP hct (hr hp)⟩
  | .loop ks init t, ρ, Ls, h => by
    obtain ⟨I, μ, h0, h1⟩ := h
    refine ⟨I, μ, h0, ?_⟩
    rw [← hP]
    exact allC_mono h1 fun xs hx hi => VC_congr hP hct (hx hi)
  | .arr rows t, ρ, Ls, h => fun v => VC_congr hP hct (h v)
  | .dfn e t, ρ, Ls, h => VC_congr hP hct (T := t) h
  | .mk n row t, ρ, Ls, h => fun v => VC_congr hP hct (h v)
  | .cat a b t, ρ, Ls, h => fun v => VC_congr hP hct (h v)
  | .upd a x o l t, ρ, Ls, h => fun v => VC_congr hP hct (h v)
  | .fail _ _, _, _, h => h
  | .back lvl vals, ρ, Ls, h => h
theorem hand_ok {cx cx' : Cx} (hcx : CxOK cx) {fns : Nat → Option Func} (hP : cx'.P = cx.P) (hct : cx'.ct = cx.ct) (hH : cx'.H = hand cx fns) (hf : ∀ f fn, fns f = some fn → cx.P.funcs[f]? = some fn ∧ Callable cx.P f) : HOK cx' := by
  intro f args st k T h
  rw [hH] at h
  rw [hP]
  unfold hand at h
  split at h
  · rename_i fn hfn
    obtain ⟨hfn1, hfn2⟩ := hf f fn hfn
    split at h
    · rename_i c hbody
      split at h
      · rename_i hle
        refine ⟨hfn2, fun R F w0 Γ Ls a w K hl hv hs hwf hargs hok hk => ?_⟩
        have hv := VC_congr hP hct hv
        have hlenA : (args.map (S0.den Γ)).toArray.size = args.length := by simp
        refine calls_of_wp hfn1 hbody ?_
        let ae : Act := { tmps := (args.map (S0.den Γ)).toArray ++ Array.replicate (fn.ntmps - (args.map (S0.den Γ)).toArray.size) undef, defers := [] }
        have hse : Sat cx.P F w0 { Γ with up := slotV Γ a } (enterSt fn args st) ae w := by
          refine hs.frame (by simp [ae]; omega) rfl fun t sv ht => ?_
          rcases look_enter _ _ _ _ _ ht with ⟨j, s, rfl, hj, rfl⟩ | ht
          · have hjl : j < args.length := by
              rcases Nat.lt_or_ge j args.length with h' | h'
              · exact h'
              · rw [List.getElem?_eq_none h'] at hj; cases hj
            refine ⟨?_, hok s (List.mem_of_getElem? hj)⟩
            unfold slotV
            rw [if_pos (by omega)]
            simp only [ae, Nat.zero_add, Array.getD_eq_getD_getElem?]
            rw [Array.getElem?_append_left (by simpa using hjl)]
            simp [hj, SV.den]
          · rw [look_shift] at ht
            split at ht
            · rename_i hge
              obtain ⟨g1, g2⟩ := hs.slots _ _ ht
              refine ⟨?_, g2⟩
              unfold slotV
              rw [if_neg (by omega)]
              dsimp only
              exact g1
            · cases ht
        have hlv : Ls.length = (enterSt fn args st).lvl := hl
        generalize enterSt fn args st = ste at *
        refine exec_sound (R := R) (F := F) (w0 := w0) hcx c ste _ T h { Γ with up := slotV Γ a } Ls _ ?_ hlv hv ae w hse
        intro x st' T' Γ' Ls' hk' he hl' hlen' hv' a' w' hs'
        have fin : (match retAll cx.P st' fn.results.toList with | some l => k l (leaveSt st st') | none => some (.fail 80001 [f, st'.path])) = some T' → a'.defers = [] ∧ ∃ v, (results fn a'.tmps).run cx.P w' = .ok v w' ∧ ∃ v', Ending.returned v = .returned v' ∧ K v' w' := by
          intro hend
          split at hend
          · rename_i l hl2
            obtain ⟨r1, r2⟩ := run_results hs' hl2
            refine ⟨hs'.defers, _, r1, _, rfl, ?_⟩
            have hleave : Sat cx.P F w0 { Γ' with up := Γ.up } (leaveSt st st') a w' := by
              refine hs'.frame hs.size hs.defers fun t sv ht => ?_
              rw [look_leave] at ht
              obtain ⟨g1, g2⟩ := hs'.slots _ _ ht
              refine ⟨?_, g2⟩
              rw [← g1]
              unfold slotV
              rw [if_neg (show ¬ t + 1000 < 1000 by omega), Nat.add_sub_cancel, he.up]
              rfl
            have := hk l (leaveSt st st') T' { Γ' with up := Γ.up } Ls' hend ⟨he.ρ, he.blk, he.nb, he.base, rfl⟩ hl' hlen' (VC_congr hP.symm hct.symm hv') w' hleave (fun s hs2 => S0.ok_up.2 (r2 s hs2))
            rw [List.map_congr_left fun s _ => S0.den_up Γ' Γ.up s] at this
            have hval : ∀ L : List Value, valOf L = (match L with | [x] => x | _ => .tuple L.toArray) := fun L => by
              match L with
              | [] => rfl
              | [x] => rfl
              | x :: y :: l => rfl
            rw [hval] at this
            exact this
          · cases hend; exact hv'.elim
        cases x with
        | nrm => exact fin hk'
        | ret => exact fin hk'
        | ext i => cases hk'
      · cases h
    · cases h
  · cases h
/-- So deep functions are carried out in place. -/
def Cx.deep (fns : Nat → Option Func) (cx : Cx) : Nat → Cx
  | 0 => { cx with H := fun _ _ _ _ => none }
  | n + 1 => { cx with H := hand (Cx.deep fns cx n) fns }
theorem Cx.deep_same (fns : Nat → Option Func) (cx : Cx) : ∀ n, (Cx.deep fns cx n).P = cx.P ∧ (Cx.deep fns cx n).ct = cx.ct ∧ (Cx.deep fns cx n).inl = cx.inl ∧ (Cx.deep fns cx n).sel = cx.sel
  | 0 => ⟨rfl, rfl, rfl, rfl⟩
  | _ + 1 => ⟨rfl, rfl, rfl, rfl⟩
theorem Cx.deep_ok {fns : Nat → Option Func} {cx : Cx} (hct : ∀ f ct, cx.ct f = some ct → Callable cx.P f ∧ CtOK cx.P f ct ∧ (ct.det = true → ∀ cs rs rs', ct.post cs rs → ct.post cs rs' → rs = rs')) (hm : cx.P.follows .mixedOrders = true) (hi : ∀ f g, cx.inl f = some g → Callable cx.P f ∧ InlOK cx.P f g) (hs : ∀ f g, cx.sel f = some g → Callable cx.P f ∧ SelOK cx.P f g)
    (hf : ∀ f fn, fns f = some fn → cx.P.funcs[f]? = some fn ∧ Callable cx.P f) : ∀ n, CxOK (Cx.deep fns cx n)
  | 0 => ⟨hct, hm, hi, hs, fun f args st k T h => by cases h⟩
  | n + 1 => ⟨hct, hm, hi, hs, by
      obtain ⟨h1, h2, -⟩ := Cx.deep_same fns cx n
      exact hand_ok (Cx.deep_ok hct hm hi hs hf n) (h1.symm) (h2.symm) rfl (by rw [h1]; exact hf)⟩
end Go.Proofs.Ytlbgcjpkegpmlaa
