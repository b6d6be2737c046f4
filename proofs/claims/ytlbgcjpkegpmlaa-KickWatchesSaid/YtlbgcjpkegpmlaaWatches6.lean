/- Texts laid into one: En Ez XS XS2 XS3 S T XS4 XS5 X14 X8. -/
import Derived.Test.YtlbgcjpkegpmlaaWatches5
import Derived.Scope
import Derived.Test.YtlbgcjpkegpmlaaProg
import Derived.Below
/- The engine, part 14: a code carried out by symbols; a function's contract. -/
namespace Go.Proofs.Ytlbgcjpkegpmlaa
open Go.RowKit
set_option linter.unusedSimpArgs false
set_option linter.unusedVariables false

def Ex.out : Ex → Exit
  | .nrm => .normal
  | .ext id => .exit id
  | .ret => .ret
section
variable {cx : Cx} {R : List C → Prop} {F : Nat → Prop} {w0 : World}
/-- What follows a code. -/
def KOK (cx : Cx) (R : List C → Prop) (F : Nat → Prop) (w0 : World) (k : Ex → St → Option Tree) (Γ : Env) (Ls : List (List C → Prop)) (Q : Exit → Act → World → Prop) : Prop :=
  ∀ x st' T' Γ' Ls', k x st' = some T' → Ext Γ Γ' → Ls <+: Ls' → Ls'.length = st'.lvl → VC cx R T' Γ'.ρ Ls' → ∀ a w, Sat cx.P F w0 Γ' st' a w → Q x.out a w
theorem KOK.mono {k : Ex → St → Option Tree} {Γ Γ1 : Env} {Ls Ls1 : List (List C → Prop)} {Q : Exit → Act → World → Prop} (h : KOK cx R F w0 k Γ Ls Q) (he : Ext Γ Γ1) (hl : Ls <+: Ls1) : KOK cx R F w0 k Γ1 Ls1 Q :=
  fun x st' T' Γ' Ls' hk he' hl' => h x st' T' Γ' Ls' hk (he.trans he') (hl.trans hl')
theorem Sat.learn1 {P : Program} {Γ : Env} {st : St} {a : Act} {w : World} (hs : Sat P F w0 Γ st a w) {b : B} {t : Bool} (hb : b.den Γ.ρ = t) : Sat P F w0 Γ { st with bds := Go.Proofs.Ytlbgcjpkegpmlaa.learn st.nx st.bds b t } a w :=
  hs.slots' hs.slots hs.size hs.defers ⟨learn_ok hs.num.len (by rw [hs.len]; exact Nat.le_refl _) b st.bds t hs.num.bds hb, hs.num.len⟩

theorem take_free {α : Type} (p : α → Bool) : ∀ (l : List α), ∀ x ∈ l.take (l.takeWhile p).length, p x = true
  | [], x, h => by simp at h
  | y :: l, x, h => by
    by_cases hp : p y = true
    · simp only [List.takeWhile_cons, hp, if_true, List.length_cons, List.take_succ_cons] at h
      rcases List.mem_cons.1 h with rfl | h
      · exact hp
      · exact take_free p l x h
    · simp [List.takeWhile_cons, hp] at h
theorem zero_dens {P : Program} {t : TypeId} {cs : List Lf} (h : zeroLf P t = some cs) (Γ Γ' : Env) : dens Γ cs = dens Γ' cs := by
  obtain ⟨it, z, h1, h2, h3⟩ := zeroLf_spec h Γ
  obtain ⟨it', z', h1', h2', h3'⟩ := zeroLf_spec h Γ'
  rw [h1] at h1'
  cases h1'
  rw [h2] at h2'
  cases h2'
  rw [← h3, h3']
theorem zero_ok {P : Program} {t : TypeId} {cs : List Lf} (h : zeroLf P t = some cs) (w : World) (O : Nat → Nat → Prop) (Γ : Env) : ∀ l ∈ cs, l.ok P w O Γ := fun l hl => by
  unfold zeroLf at h
  split at h
  · rename_i it hi
    cases hzz : it.zero with
    | none => simp [hzz] at h
    | some zv =>
      simp [hzz] at h
      subst h
      obtain ⟨v, -, rfl⟩ := List.mem_map.1 hl
      unfold Lf.ofValue
      split <;> trivial
  · cases h
theorem run_alloc {P : Program} {o : Oper} {t : TypeId} (ho : o.op = .alloc t) {cs : List Lf} (hz : zeroLf P t = some cs) (Γ : Env) (a : Act) (w : World) :
    (execOp a.eval o).run P w = .ok (.value (.pointer (some ⟨w.heap.size, 0, none⟩))) (w.alloc (.cells (dens Γ cs) t)) := by
  obtain ⟨it, z, hi, hzz, hc⟩ := zeroLf_spec hz Γ
  unfold execOp
  rw [ho]
  simp [Instr.alloc, zeroValue, run_typeInfo' hi, hzz, newVar, newRow, hc]
theorem draw_sound (hcx : CxOK cx) {id : Nat} {ops : Array Oper} (hcond : drawOk cx ops = true) {Γ : Env} {st : St} {a : Act} {w : World} (hs : Sat cx.P F w0 Γ st a w) {k : St → Option Tree} {T : Tree}
    (h : execOps cx ops ops.toList st k = some T) {Ls : List (List C → Prop)} (hl : Ls.length = st.lvl) (hv : VC cx R T Γ.ρ Ls) {Q : Exit → Act → World → Prop} (hk : Next cx R F w0 k Γ Ls (fun a w => Q .normal a w)) :
    (Code.region id ops true).wp cx.P Q a w := by
  simp only [drawOk, Bool.and_eq_true] at hcond
  obtain ⟨hh, ht⟩ := hcond
  generalize hn : headLen cx ops = n
  have hfree : ∀ o ∈ ops.toList.take n, freeOp cx o = true := by rw [← hn]; exact take_free _ _
  have hw1 : Sat cx.P F w0 Γ st a { w with drawn := w.drawn + 1 } := hs.below ⟨rfl, rfl, rfl, Nat.le_refl _, fun _ _ => rfl⟩
  have hsplit : ops.toList = ops.toList.take n ++ ops.toList.drop n := (List.take_append_drop n _).symm
  rw [hsplit] at h
  generalize hta : (match ops[n]? with | some o => (match o.op with | .alloc t => t | _ => 0) | none => 0) = ta
  generalize hca : (zeroLf cx.P ta).getD [] = ca
  let Cl : Option Nat → World → Prop := fun ob w => Sat cx.P F w0 (Γ.addO ob) st a w ∧ ∀ b, ob = some b → Blk w b ta (dens Γ ca) ∧ w0.heap.size ≤ b ∧ ∃ w1, Sat cx.P F w0 Γ st a w1 ∧ w1.heap.size ≤ b
  have hcl1 : Cl none { w with drawn := w.drawn + 1 } := ⟨by rw [Env.addO_none]; exact hw1, fun b hb => by cases hb⟩
  obtain ⟨vs, st', T', Γ', g1, g2, g3, g4, g5, g6, g7, g8⟩ := head_lex (R := R) (F := F) (w0 := w0) hcx (Cl := Cl) hcl1 (ops.toList.take n) hfree st T h Γ Ls hv a
    ⟨fun ob w hw => hw.1, fun ob w w' hw hb => ⟨hw.1.below hb, fun b hb' => ⟨((hw.2 b hb').1).below hb, (hw.2 b hb').2⟩⟩⟩
  have hle : drawLen cx ops ≤ ops.size := by
    simp only [tailOk, Bool.and_eq_true, decide_eq_true_eq] at ht
    exact ht.1.1.1
  have start : ∀ m, m = drawLen cx ops → n ≤ m → Head cx.P ops Cl n m vs a none (Array.replicate ops.size false) a { w with drawn := w.drawn + 1 } := by
    intro m hm hnm
    refine ⟨hcl1, ⟨by simp, fun j oj _ hj => ?_, fun t _ ht => ?_⟩, rfl, rfl, fun _ => ?_, fun _ => rfl, fun t hall => ?_⟩
    · rw [getD_replicate_false] at hj; cases hj
    · exact getD_in (by simpa using ht) (getD_replicate_false _ _)
    · rw [getD_replicate_false]; rfl
    · refine (putAll_other _ _ _ t fun x hx hxd => ?_).symm
      obtain ⟨j, hj⟩ := List.getElem?_of_mem hx
      rw [List.getElem?_take] at hj
      split at hj
      · rename_i hjn
        have := hall j (by omega) (by unfold dstOf; simp at hj; rw [hj]; exact hxd)
        rw [getD_replicate_false] at this
        cases this
      · cases hj
  have hcount : ∀ m, m ≤ ops.size → ops.size = (List.range m).countP (fun j => !(Array.replicate ops.size false).getD j false) + (ops.size - m) := by
    intro m hm
    have : (List.range m).countP (fun j => !(Array.replicate ops.size false).getD j false) = m := by
      rw [List.countP_eq_length.2 (fun j _ => by rw [getD_replicate_false]; rfl)]
      simp
    omega
  by_cases hal : allocAt ops n = true
  · have hm : drawLen cx ops = n + 1 := by unfold drawLen; rw [hn, if_pos hal]
    rw [hm] at hh ht hle
    unfold allocAt at hal
    split at hal
    · rename_i o ho
      simp only [Bool.and_eq_true, Option.isNone_iff_eq_none] at hal
      obtain ⟨⟨⟨hop, hg⟩, hdst⟩, -⟩ := hal
      split at hop
      · rename_i t hopeq
        have hta' : ta = t := by rw [← hta, ho]; simp only [hopeq]
        subst hta'
        have hdrop : ops.toList.drop n = o :: ops.toList.drop (n + 1) := by
          have hlt : n < ops.toList.length := by simp; omega
          rw [List.drop_eq_getElem_cons hlt]
          congr 1
          have : ops.toList[n]? = some o := by simp [ho]
          rw [List.getElem?_eq_getElem hlt] at this
          exact Option.some.inj this
        rw [hdrop] at g2
        simp only [execOps, hg] at g2
        have g2 := orF_some g2 g5
        have hfz : toFreeze cx st' o = [] := by unfold toFreeze; rw [hopeq]
        have hov : opVal cx.P st' o = none := by unfold opVal; rw [hopeq]
        simp only [doOpF, hfz, freezeAll, doOp, hov, hopeq] at g2
        split at g2
        · rename_i cs hz
          have hcs : ca = cs := by rw [← hca, hz]; rfl
          subst hcs
          have hfirst : ∀ (ob : Option Nat) (w1 : World), True := fun _ _ => trivial
          have hact : ∀ b, endAct ops n vs a (some b) = (putAll (ops.toList.take n) vs a).put o.dst (.pointer (some ⟨b, 0, none⟩)) := fun b => by
            unfold endAct
            rw [show dstOf ops n = o.dst by unfold dstOf; rw [ho]; rfl]
          have halloc : ∀ a1 w1, Cl none w1 → ∀ K Q1, (∀ w', Cl (some w1.heap.size) w' → K (a1.put o.dst (.pointer (some ⟨w1.heap.size, 0, none⟩))) w') → o.wp cx.P a1 w1 K Q1 := fun a1 w1 hw1 K Q1 hK => by
            unfold Oper.wp
            rw [run_alloc hopeq hz Γ]
            have hsw := hw1.1
            rw [Env.addO_none] at hsw
            have hbel := below_alloc w1 (.cells (dens Γ ca) ta)
            refine hK _ ⟨hsw.belowO hbel (Nat.le_refl _) (by simp), fun b hb => ?_⟩
            cases hb
            exact ⟨Blk.new w1 ta _, hsw.keeps.size, w1, hsw, Nat.le_refl _⟩
          refine wp_region_any hcx.mixed (any_order g1 hh ht (Nat.le_succ n) (Nat.le_refl _) (fun _ => ⟨o, ho, hg, halloc⟩) (fun ob w1 hw1 hsome _ => ?_) ops.size _ a _ none (start (n + 1) hm.symm (Nat.le_succ n)) (hcount (n + 1) hle))
          cases ob with
          | none => have := hsome (Nat.lt_succ_self n); cases this
          | some b =>
            obtain ⟨hb1, hb2, hb3⟩ := hw1.2 b rfl
            have hsat := g6.sat (some b) w1 hw1
            obtain ⟨w2, hw2, hge2⟩ := hb3
            have hsat0 := g6.sat none w2 ⟨by rw [Env.addO_none]; exact hw2, fun b hb => by cases hb⟩
            rw [Env.addO_none] at hsat0
            have hnb : ∀ s j, ¬ Hold Γ' st' s j b := fun s j hh => by have := hsat0.hold_lt hh; omega
            have hz' : dens Γ' ca = dens Γ ca := zero_dens hz Γ' Γ
            split at g2
            · rename_i s' st0 m hn
              obtain ⟨f1, f2, f3, f4, f5, f6, f7, f8, f9⟩ := hsat.nils hn (s := .agg ca) (zero_ok hz _ _ _)
              cases hf : st0.fresh ta s'.cells with
              | none => simp [hf] at g2
              | some st1 =>
                cases hp : st1.put o.dst (some (.one (.lf (.ptr st'.nb 0)))) with
                | none => simp [hf, hp] at g2
                | some st2 =>
                  cases hk2 : execOps cx ops (ops.toList.drop (n + 1)) st2 k with
                  | none => simp [hf, hp, hk2] at g2
                  | some T2 =>
                    simp [hf, hp, hk2] at g2
                    subst g2
                    have hvc2 := VC.dfnN g5
                    have hd : dens { Γ' with ρ := Γ'.ρ ++ List.replicate m nilC } s'.cells = dens Γ ca := by
                      rw [← hz']
                      unfold dens
                      have := f9
                      rw [show ({ (Γ'.addO (some b)) with ρ := (Γ'.addO (some b)).ρ ++ List.replicate m nilC } : Env) = ({ Γ' with ρ := Γ'.ρ ++ List.replicate m nilC } : Env).addO (some b) from rfl] at this
                      rw [List.map_congr_left fun l _ => Lf.den_addO _ (some b) l, List.map_congr_left fun l _ => Lf.den_addO Γ' (some b) l] at this
                      rw [this]; rfl
                    have hsat2 : Sat cx.P F w0 (({ Γ' with ρ := Γ'.ρ ++ List.replicate m nilC } : Env).addO (some b)) st0 (putAll (ops.toList.take n) vs a) w1 := f2
                    obtain ⟨Γ2, e1, e2, e3, e4, e5⟩ := hsat2.adopt hf (by rw [hd]; exact hb1) hb2 (fun s j hh => by have := (hsat0.nils hn (s := .agg ca) (zero_ok hz _ _ _)).2.1.hold_lt hh; omega) (fun l hl => Lf.ok_addO.1 (f4 l hl))
                    have hput := e4.put hp (one_ok trivial)
                    simp only [SV.den, S0.den, Lf.den] at hput
                    rw [← f6, e3] at hput
                    rw [hact]
                    have hext : Ext Γ' { Γ' with ρ := Γ'.ρ ++ List.replicate m nilC } := ⟨⟨_, rfl⟩, fun _ _ => rfl, Nat.le_refl _, rfl, rfl⟩
                    exact execOps_sound hcx (ops.toList.drop (n + 1)) st2 T2 hk2 Γ2 Ls (by rw [St.put_lvl hp, e5, f5, g4]; exact hl) (by rw [e2]; exact hvc2) _ w1 hput (hk.mono ((g3.trans hext).trans e1) (List.prefix_refl _))
            · cases hf : st'.fresh ta ca with
              | none => simp [hf] at g2
              | some st1 =>
                cases hp : st1.put o.dst (some (.one (.lf (.ptr st'.nb 0)))) with
                | none => simp [hf, hp] at g2
                | some st2 =>
                  simp [hf, hp] at g2
                  obtain ⟨Γ2, e1, e2, e3, e4, e5⟩ := hsat.adopt hf (by rw [hz']; exact hb1) hb2 hnb (fun l hl => zero_ok hz _ _ _ l hl)
                  have hput := e4.put hp (one_ok trivial)
                  simp only [SV.den, S0.den, Lf.den, e3] at hput
                  rw [hact]
                  exact execOps_sound hcx (ops.toList.drop (n + 1)) st2 T' g2 Γ2 Ls (by rw [St.put_lvl hp, e5, g4]; exact hl) (by rw [e2]; exact g5) _ w1 hput (hk.mono (g3.trans e1) (List.prefix_refl _))
        · cases g2
      · cases hop
    · cases hal
  · have hm : drawLen cx ops = n := by unfold drawLen; rw [hn, if_neg hal]
    rw [hm] at hh ht hle
    refine wp_region_any hcx.mixed (any_order g1 hh ht (Nat.le_refl n) (Nat.le_succ n) (fun h => by omega) (fun ob w1 hw1 _ hnone => ?_) ops.size _ a _ none (start n hm.symm (Nat.le_refl n)) (hcount n hle))
    have := hnone rfl
    subst this
    have hsat := g6.sat none w1 hw1
    rw [Env.addO_none] at hsat
    exact execOps_sound hcx (ops.toList.drop n) st' T' g2 Γ' Ls (by rw [g4]; exact hl) g5 _ w1 hsat (hk.mono g3 (List.prefix_refl _))
theorem joinOk_spec {st st1 : St} {ps : List Pl} {ks : List Lk} (hc : joinOk st st1 ps ks = true) : headWf st1 st.nx ps = true ∧ st1.nx = st.nx + ks.length ∧ st.nb ≤ st1.nb ∧ st1.nt = st.nt ∧ st1.bds = st.bds ∧ st1.lvl = st.lvl + 1 := by
  simp only [joinOk, Bool.and_eq_true, decide_eq_true_eq] at hc
  obtain ⟨⟨⟨⟨⟨c2, c4⟩, c5⟩, c6⟩, c7⟩, c8⟩ := hc
  exact ⟨c2, Nat.eq_of_beq_eq_true c4, Nat.le_of_ble_eq_true c5, Nat.eq_of_beq_eq_true c6, c7, Nat.eq_of_beq_eq_true c8⟩
/-- A way ends; what follows from where the ways meet. -/
theorem joinEnd_sound {st st1 : St} {ps : List Pl} {ks : List Lk} (hc : joinOk st st1 ps ks = true) {k : St → Option Tree} {t : Tree} (ht : k st1 = some t) {Γ : Env} {Ls : List (List C → Prop)} (hl : Ls.length = st.lvl) {a : Act} {w : World} (hs : Sat cx.P F w0 Γ st a w)
    {I : List C → Prop} (hall : allC cx.P ks fun xs => I xs → VC cx R t (Γ.ρ ++ xs) (Ls ++ [I])) {Q : Act → World → Prop} (hk : Next cx R F w0 k Γ Ls Q) {id : Nat} : Next cx R F w0 (joinEnd st st1 ps ks id) Γ (Ls ++ [I]) Q := by
  obtain ⟨c2, c4, c5, c6, c7, c8⟩ := joinOk_spec hc
  have hlen : Γ.ρ.length = st.nx := hs.len
  have hnum1 : Num st1.bds Γ.ρ := by rw [c7]; exact hs.num
  intro st' T' Γ' Ls' hk' he' hl' hlen' hv' a' w' hs'
  unfold joinEnd at hk'
  split at hk'
  · rename_i hc
    simp only [Bool.and_eq_true] at hc
    obtain ⟨⟨d1, d2⟩, d3⟩ := hc
    split at hk'
    · rename_i vals hvals
      split at hk'
      · rename_i hks'
        cases hk'
        obtain ⟨hob', hback⟩ := VC.obT hv'
        obtain ⟨l, hl2⟩ := he'.ρ
        obtain ⟨hty', hsat'⟩ := hs'.rebase (st1 := st1) (ρ0 := Γ.ρ) ⟨l, hl2⟩ (by rw [hlen]; exact d1) (by rw [hlen]; exact hvals) hks' hob' (by rw [hlen]; exact c2) (Nat.eq_of_beq_eq_true d3) (Nat.le_of_ble_eq_true d2) (by rw [hlen]; exact c4) hnum1
        have hget : Ls'[st.lvl]? = some I := by
          obtain ⟨m, rfl⟩ := hl'
          rw [List.append_assoc, List.getElem?_append_right (by omega), hl]
          simp
        simp only [VC, hget] at hback
        have hvx := allC_elim hall _ hty' hback
        refine hk st1 t { Γ' with ρ := Γ.ρ ++ cs_ Γ'.ρ vals, nb := st1.nb } (Ls ++ [I]) ht ⟨⟨_, rfl⟩, fun b hb => he'.blk b hb, by rw [hs.nb]; exact c5, he'.base, he'.up⟩ (List.prefix_append _ _) (by simp [hl, c8]) hvx a' w' hsat'
      · cases hk'; exact hv'.elim
    · cases hk'; exact hv'.elim
  · cases hk'; exact hv'.elim
theorem join_sound (hcx : CxOK cx) {id : Nat} {ops : Array Oper} {j : List (Nat × Bool × List Lk) × List Pl} {st : St} {k : St → Option Tree} {T : Tree} (h : joinT cx id ops j st k = some T) {Γ : Env} {Ls : List (List C → Prop)} (hl : Ls.length = st.lvl) (hv : VC cx R T Γ.ρ Ls) {a : Act} {w : World} (hs : Sat cx.P F w0 Γ st a w)
    {Q : Exit → Act → World → Prop} (hk : Next cx R F w0 k Γ Ls (fun a w => Q .normal a w)) : (Code.region id ops true).wp cx.P Q a w := by
  unfold joinT at h
  split at h
  rotate_left
  · cases h; exact hv.elim
  rename_i hcond
  simp only [Bool.and_eq_true] at hcond
  obtain ⟨hc, hsel, hwf⟩ := hcond
  split at h
  · rename_i ws t hws ht
    cases h
    obtain ⟨I, hvw, hall⟩ := hv
    exact any_sound (R := R) hcx (by simp only [Bool.and_eq_true]; exact ⟨hsel, hwf⟩) hws (Ls := Ls ++ [I]) (by simp [hl]) hvw (hs.relvl _) (joinEnd_sound hc ht hl hs hall hk)
  · cases h
theorem exec_sound (hcx : CxOK cx) : ∀ (c : Code) (st : St) (k : Ex → St → Option Tree) (T : Tree), exec cx c st k = some T →
    ∀ (Γ : Env) (Ls : List (List C → Prop)) (Q : Exit → Act → World → Prop), KOK cx R F w0 k Γ Ls Q → Ls.length = st.lvl → VC cx R T Γ.ρ Ls → ∀ a w, Sat cx.P F w0 Γ st a w → c.wp cx.P Q a w := by
  intro c
  induction c with
  | skip => intro st k T h Γ Ls Q hk hl hv a w hs; exact wp_skip (hk .nrm st T Γ Ls h (Ext.refl _) (List.prefix_refl _) hl hv a w hs)
  | label l => intro st k T h Γ Ls Q hk hl hv a w hs; exact wp_label (hk .nrm st T Γ Ls h (Ext.refl _) (List.prefix_refl _) hl hv a w hs)
  | exit id => intro st k T h Γ Ls Q hk hl hv a w hs; exact wp_exit (hk (.ext id) st T Γ Ls h (Ext.refl _) (List.prefix_refl _) hl hv a w hs)
  | ret => intro st k T h Γ Ls Q hk hl hv a w hs; exact wp_ret (hk .ret st T Γ Ls h (Ext.refl _) (List.prefix_refl _) hl hv a w hs)
  | goto l => intro st k T h; cases h
  | refuse y => intro st k T h; cases h
  | rangeFunc f ps x y => intro st k T h; cases h
  | scope c ih =>
    intro st k T h Γ Ls Q hk hl hv a w hs
    simp only [exec] at h
    refine wp_scope_straight (ih st k T h Γ Ls _ ?_ hl hv a w hs)
    intro e st' T' Γ' Ls' hk' he' hl' hlen hv' a' w' hs'
    cases e with
    | nrm => exact hk .nrm st' T' Γ' Ls' hk' he' hl' hlen hv' a' w' hs'
    | ext id => exact hk (.ext id) st' T' Γ' Ls' hk' he' hl' hlen hv' a' w' hs'
    | ret => exact hk .ret st' T' Γ' Ls' hk' he' hl' hlen hv' a' w' hs'
  | seq x y ihx ihy =>
    intro st k T h Γ Ls Q hk hl hv a w hs
    simp only [exec] at h
    refine wp_seq (ihx st _ T h Γ Ls _ ?_ hl hv a w hs)
    intro e st' T' Γ' Ls' hk' he' hl' hlen hv' a' w' hs'
    cases e with
    | nrm => exact ihy st' k T' hk' Γ' Ls' Q (hk.mono he' hl') hlen hv' a' w' hs'
    | ext id => exact hk (.ext id) st' T' Γ' Ls' hk' he' hl' hlen hv' a' w' hs'
    | ret => exact hk .ret st' T' Γ' Ls' hk' he' hl' hlen hv' a' w' hs'
  | cond c x y ihx ihy =>
    intro st k T h Γ Ls Q hk hl hv a w hs
    simp only [exec] at h
    split at h
    · rename_i t hc
      have he := ((hs.view #[c]).lf (by simp) hc).1
      simp only [Lf.den, B.den] at he
      refine wp_cond he ?_
      cases t
      · simp at h ⊢; exact ihy st k T h Γ Ls Q hk hl hv a w hs
      · simp at h ⊢; exact ihx st k T h Γ Ls Q hk hl hv a w hs
    · rename_i b hlit hc
      have he := ((hs.view #[c]).lf (by simp) hc).1
      simp only [Lf.den] at he
      split at h
      · split at h
        · rename_i t f h1 h2
          cases h
          refine wp_cond_split he (fun hb => ?_) (fun hb => ?_)
          · exact ihx _ k t h1 Γ Ls Q hk hl (hv.1 hb) a w (hs.learn1 hb)
          · exact ihy _ k f h2 Γ Ls Q hk hl (hv.2 hb) a w (hs.learn1 hb)
        · cases h
      · rename_i j hj
        split at h
        · rename_i hok
          split at h
          · rename_i t f r h1 h2 h3
            cases h
            obtain ⟨I, hvw, hall⟩ := hv
            have hend := joinEnd_sound (R := R) (id := 90000) hok h3 hl hs hall (Q := fun a w => Q .normal a w) fun st' T' Γ' Ls' hk' he' hp' hlen hv' a' w' hs' => hk .nrm st' T' Γ' Ls' hk' he' hp' hlen hv' a' w' hs'
            have hkk : KOK cx R F w0 (joinK st (joinSt1 j (asg x ++ asg y) st) (joinPs j) (joinKs j st) k) Γ (Ls ++ [I]) Q := fun e st' T' Γ' Ls' hk' he' hl' hlen' hv' a' w' hs' => by
              cases e with
              | nrm => exact hend st' T' Γ' Ls' hk' he' hl' hlen' hv' a' w' hs'
              | ext i => exact hk (.ext i) st' T' Γ' Ls' hk' he' ((List.prefix_append _ _).trans hl') hlen' hv' a' w' hs'
              | ret => exact hk .ret st' T' Γ' Ls' hk' he' ((List.prefix_append _ _).trans hl') hlen' hv' a' w' hs'
            refine wp_cond_split he (fun hb => ?_) (fun hb => ?_)
            · exact ihx _ _ t h1 Γ (Ls ++ [I]) Q hkk (by simp [hl]) (hvw.1 hb) a w ((hs.learn1 hb).relvl _)
            · exact ihy _ _ f h2 Γ (Ls ++ [I]) Q hkk (by simp [hl]) (hvw.2 hb) a w ((hs.learn1 hb).relvl _)
          · cases h
        · cases h; exact hv.elim
    · cases h
  | block id c ih =>
    intro st k T h Γ Ls Q hk hl hv a w hs
    simp only [exec] at h
    refine wp_block (ih st _ T h Γ Ls _ ?_ hl hv a w hs)
    intro e st' T' Γ' Ls' hk' he' hl' hlen hv' a' w' hs'
    cases e with
    | nrm => exact hk .nrm st' T' Γ' Ls' hk' he' hl' hlen hv' a' w' hs'
    | ret => exact hk .ret st' T' Γ' Ls' hk' he' hl' hlen hv' a' w' hs'
    | ext i =>
      simp only [Ex.out, Exit.inBlock]
      simp only [] at hk'
      by_cases hi : i = id
      · rw [if_pos hi] at hk' ⊢; exact hk .nrm st' T' Γ' Ls' hk' he' hl' hlen hv' a' w' hs'
      · rw [if_neg hi] at hk' ⊢; exact hk (.ext i) st' T' Γ' Ls' hk' he' hl' hlen hv' a' w' hs'
  | region id ops draw =>
    intro st k T h Γ Ls Q hk hl hv a w hs
    simp only [exec] at h
    have hnext : Next cx R F w0 (k .nrm) Γ Ls (fun a w => Q .normal a w) := fun st' T' Γ' Ls' hk' he' hp' hlen hv' a' w' hs' =>
      hk .nrm st' T' Γ' Ls' hk' he' hp' hlen hv' a' w' hs'
    split at h
    · rename_i hcond
      have two : ∀ {st : St} {k : St → Option Tree} {T : Tree} {Ls : List (List C → Prop)}, execOps cx ops ops.toList st k = some T → Ls.length = st.lvl → VC cx R T Γ.ρ Ls → Sat cx.P F w0 Γ st a w → Next cx R F w0 k Γ Ls (fun a w => Q .normal a w) → (Code.region id ops draw).wp cx.P Q a w := by
        intro st k T Ls h hl hv hs hnext
        cases draw with
        | false => exact wp_region_list (execOps_sound hcx ops.toList st T h Γ Ls hl hv a w hs hnext)
        | true =>
          simp only [Bool.not_true, Bool.false_or] at hcond
          exact draw_sound hcx hcond hs h hl hv hnext
      split at h
      · exact two h hl hv hs hnext
      · rename_i j hj
        split at h
        · rename_i hok
          split at h
          · rename_i ws t hws ht
            cases h
            obtain ⟨I, hvw, hall⟩ := hv
            exact two hws (Ls := Ls ++ [I]) (by simp [hl]) hvw (hs.relvl _) (joinEnd_sound hok ht hl hs hall hnext)
          · cases h
        · cases h; exact hv.elim
    · rename_i hcond
      cases draw with
      | false => simp at hcond
      | true =>
        split at h
        · rename_i j hj
          have h := orF_some h hv
          exact join_sound hcx h hl hv hs hnext
        · have h := orF_some h hv
          split at h
          · rename_i hc; exact any_sound hcx hc h hl hv hs hnext
          · cases h
  | loop c ih =>
    intro st k T h Γ Ls Q hk hl hv a w hs
    simp only [exec] at h
    have hs0 : Sat cx.P F w0 Γ (loopSt0 cx c st) a w := hs.forget _
    have hl1 : (loopSt1 cx c st).lvl = st.lvl + 1 := rfl
    have e1 : (loopSt0 cx c st).nb = st.nb := rfl
    have e2 : (loopSt0 cx c st).nt = st.nt := rfl
    have e3 : (loopSt0 cx c st).bds = st.bds := rfl
    generalize loopSt1 cx c st = st1 at *
    generalize loopSt0 cx c st = st0 at *
    generalize loopPs cx c st = ps at *
    split at h
    · cases h; exact hv.elim
    · rename_i init hinit
      split at h
      · cases h; exact hv.elim
      · rename_i ks hks
        split at h
        rotate_left
        · cases h; exact hv.elim
        · rename_i hcond
          simp only [Bool.and_eq_true, decide_eq_true_eq] at hcond
          obtain ⟨⟨⟨⟨⟨⟨c1, c2⟩, c3⟩, c4⟩, c5⟩, c6⟩, c7⟩ := hcond
          have c4 := Nat.eq_of_beq_eq_true c4
          have c5 := Nat.eq_of_beq_eq_true c5
          have c6 := Nat.eq_of_beq_eq_true c6
          generalize hkl : (fun (x : Ex) (st' : St) => match x with
            | .nrm => if sameRest st1 st' st.nx ps && Nat.ble st1.nb st'.nb && Nat.beq st1.nt st'.nt then match backPs st1 st' st.nx ps with
                | some vals => if kindsL vals = some ks then some (obT (rngL st'.bds vals) (.back st.lvl vals)) else some (.fail 60004 [st.path, (firstReg c).getD 0])
                | none => some (.fail 60005 [st.path, (firstReg c).getD 0])
              else some (.fail 60003 ([st.path, (firstReg c).getD 0] ++ diffs st1 st' st.nx ps))
            | x => k x st' : Ex → St → Option Tree) = kl at h
          cases hb : exec cx c st1 kl with
          | none => simp [hb] at h
          | some t =>
            simp [hb] at h
            subst h
            obtain ⟨hob, I, μ, hI0, hall⟩ := VC.obT hv
            have hlen : Γ.ρ.length = st.nx := hs.len
            have hnum1 : Num st1.bds Γ.ρ := by rw [c7]; exact hs.num
            obtain ⟨hty0, hsat0⟩ := hs0.rebase (st1 := st1) (ρ0 := Γ.ρ) ⟨[], by simp⟩ (by rw [hlen]; exact c3) (by rw [hlen]; exact hinit) hks (by rw [e3]; exact hob) (by rw [hlen]; exact c2) (by rw [c6, e2]) (by rw [c5, e1]; exact Nat.le_refl _) (by rw [hlen]; exact c4) hnum1
            refine wp_loop_ghost (fun n a w => ∃ xs Γx, CTy cx.P ks xs ∧ I xs ∧ μ xs = n ∧ Γx.ρ = Γ.ρ ++ xs ∧ Ext Γ Γx ∧ Sat cx.P F w0 Γx st1 a w) (μ (cs_ Γ.ρ init))
              ⟨cs_ Γ.ρ init, { Γ with ρ := Γ.ρ ++ cs_ Γ.ρ init, nb := st1.nb }, hty0, hI0, rfl, rfl, ⟨⟨_, rfl⟩, fun _ _ => rfl, by simp only [c5]; rw [hs.nb]; exact Nat.le_refl _, rfl, rfl⟩, hsat0⟩ ?_
            rintro n a1 w1 ⟨xs, Γx, hty, hI, hn, hρ, he, hsx⟩
            have hvx := allC_elim hall xs hty hI
            rw [← hρ] at hvx
            refine ih st1 kl t hb Γx (Ls ++ [fun ys => I ys ∧ μ ys < μ xs]) _ ?_ (by simp [hl, hl1]) hvx a1 w1 hsx
            intro e st' T' Γ' Ls' hk' he' hl' hlen' hv' a' w' hs'
            subst hkl
            cases e with
            | ext i => exact hk (.ext i) st' T' Γ' Ls' hk' (he.trans he') ((List.prefix_append _ _).trans hl') hlen' hv' a' w' hs'
            | ret => exact hk .ret st' T' Γ' Ls' hk' (he.trans he') ((List.prefix_append _ _).trans hl') hlen' hv' a' w' hs'
            | nrm =>
              simp only [] at hk'
              split at hk'
              · rename_i hc
                simp only [Bool.and_eq_true] at hc
                obtain ⟨⟨d1, d2⟩, d3⟩ := hc
                split at hk'
                · rename_i vals hvals
                  split at hk'
                  · rename_i hks'
                    cases hk'
                    obtain ⟨hob', hback⟩ := VC.obT hv'
                    obtain ⟨l, hl2⟩ := (he.trans he').ρ
                    obtain ⟨hty', hsat'⟩ := hs'.rebase (st1 := st1) (ρ0 := Γ.ρ) ⟨l, hl2⟩ (by rw [hlen]; exact d1) (by rw [hlen]; exact hvals) hks' hob' (by rw [hlen]; exact c2) (Nat.eq_of_beq_eq_true d3) (Nat.le_of_ble_eq_true d2) (by rw [hlen]; exact c4) hnum1
                    have hget : Ls'[st.lvl]? = some (fun ys => I ys ∧ μ ys < μ xs) := by
                      obtain ⟨m, rfl⟩ := hl'
                      rw [List.append_assoc, List.getElem?_append_right (by omega), hl]
                      simp
                    simp only [VC, hget] at hback
                    simp only [Ex.out, Exit.then]
                    refine ⟨μ (cs_ Γ'.ρ vals), by rw [← hn]; exact hback.2, cs_ Γ'.ρ vals, { Γ' with ρ := Γ.ρ ++ cs_ Γ'.ρ vals, nb := st1.nb }, hty', hback.1, rfl, rfl, ⟨⟨_, rfl⟩, fun b hb => ?_, by simp only [c5]; rw [hs.nb]; exact Nat.le_refl _, (he.trans he').base, (he.trans he').up⟩, hsat'⟩
                    exact (he.trans he').blk b hb
                  · cases hk'; exact hv'.elim
                · cases hk'; exact hv'.elim
              · cases hk'; exact hv'.elim
end

/-! A function's beginning and end -/
def retOne (P : Program) (st : St) : ResultVar → Option S0
  | .tmp t => st.s0 (.tmp t)
  | .cell a t => match st.lf (.tmp a) with
    | some l => loadLf P st.mem st.vec t l
    | none => none
def retAll (P : Program) (st : St) : List ResultVar → Option (List S0)
  | [] => some []
  | r :: rs => match retOne P st r, retAll P st rs with
    | some s, some l => some (s :: l)
    | _, _ => none
def argSl : Nat → List S0 → List (Nat × Option SV)
  | _, [] => []
  | i, s :: l => (i, some (.one s)) :: argSl (i + 1) l
/-- The pointer among the arguments. -/
def boxArg : List Sh0 → Option (TypeId × List Lk)
  | [] => none
  | .box t l :: _ => some (t, l)
  | _ :: ss => boxArg ss
/-- What lies behind the pointer at the end. -/
def outL (st : St) (ct : Ct) : Option (List Lf) :=
  match boxArg ct.args with
  | none => some []
  | some (t, ks) => match look st.mem 0 with
    | some mb => if mb.1 = t ∧ kindsL mb.2 = some ks then some mb.2 else none
    | none => none
/-- Slices of one's own are handed on with what they hold. -/
def giveL (P : Program) (vec : Vecs) : List Lk → List Lf → List Lf
  | k :: ks, l :: ls => (match k with | .vec _ => l.give P vec k | _ => l.adapt P [] k) :: giveL P vec ks ls
  | _, ls => ls
def S0.give (P : Program) (vec : Vecs) (sh : Sh0) (s : S0) : S0 :=
  match sh, s with
  | .lf k, .lf l => .lf (match k with | .vec _ => l.give P vec k | _ => l.adapt P [] k)
  | .agg ks, .agg ls => .agg (giveL P vec ks ls)
  | _, s => s
def gives (P : Program) (vec : Vecs) : List Sh0 → List S0 → List S0
  | sh :: shs, s :: ss => s.give P vec sh :: gives P vec shs ss
  | _, ss => ss
/-- The variable of a slice that is handed on. -/
def cntIdx (vec : Vecs) : Lf → Option Nat
  | .cnt te r => match (match r with | .var i => some i | .join (.var i) _ => some i | _ => none : Option Nat) with
    | some i => match look vec i with
      | some e => if e.1 = te ∧ mkJoin i e.2 = r then some i else none
      | none => none
    | none => none
  | _ => none
def Lf.isCnt : Lf → Bool
  | .cnt _ _ => true
  | _ => false
def nodupI (vec : Vecs) : List Lf → Bool
  | [] => true
  | l :: ls => !l.isVec && (match cntIdx vec l with | some i => ls.all fun m => !decide (cntIdx vec m = some i) | none => !l.isCnt) && nodupI vec ls
def resOf (cx : Cx) (ct : Ct) (st : St) (l : List S0) : List S0 := if (kindsOf ct.res).all Lk.noVec then adapts cx.P st.vec ct.res l else gives cx.P st.vec ct.res l
def endOf (cx : Cx) (fn : Func) (ct : Ct) (st : St) : Option Tree :=
  match retAll cx.P st fn.results.toList, outL st ct with
  | some l, some o => if shapes st.mem (resOf cx ct st l) = some ct.res ∧ nodupI st.vec (cellsOf st.mem (resOf cx ct st l)) = true ∧ (l.all fun s => s.cells.all fun x => !x.isCnt) = true then
      some (obT (rngL st.bds (cellsOf st.mem (resOf cx ct st l) ++ o)) (.ret (cellsOf st.mem (resOf cx ct st l) ++ o)))
    else some (.fail 70001 [])
  | none, _ => some (.fail 70002 [])
  | _, none => some (.fail 70003 [])
def startOf (fn : Func) (ct : Ct) (bds : Bds) (wr : List Nat) : St :=
  { sl := argSl 0 (freshS 0 ct.args 0), mem := freshMem 0 ct.args 0, nt := fn.ntmps, nb := (freshMem 0 ct.args 0).length, nx := (kindsOf ct.args).length, lvl := 0, bds := bds, wr := wr }
def execFn (cx : Cx) (fn : Func) (ct : Ct) (bds : Bds) : Option Tree :=
  match fn.body with
  | none => none
  | some c =>
    if ct.args.length ≤ fn.ntmps ∧ ct.args.length ≤ 1000 ∧ boxOk ct = true then
      exec cx c (startOf fn ct bds cx.wr) fun x st => match x with
        | .ext _ => none
        | _ => endOf cx fn ct st
    else none

def resSem (tmps : Array Value) : ResultVar → Sem Value
  | .tmp t => pure (tmps.getD t undef)
  | .cell x t => do loadVar t (← asAddr (tmps.getD x undef))
theorem results_eq (fn : Func) (tmps : Array Value) : results fn tmps = (fn.results.mapM (resSem tmps) >>= fun vs => pure (if h : vs.size = 1 then vs[0] else .tuple vs)) := by
  unfold results
  congr 1
theorem run_one {P : Program} {F : Nat → Prop} {w0 : World} {Γ : Env} {st : St} {a : Act} {w : World} (hs : Sat P F w0 Γ st a w) {r : ResultVar} {s : S0} (h1 : retOne P st r = some s) :
    (resSem a.tmps r).run P w = .ok (s.den Γ) w ∧ s.ok P w (Own Γ st) Γ := by
  have hv := hs.view (P := P) #[.tmp 0]
  cases r with
  | tmp t =>
    simp only [retOne] at h1
    obtain ⟨g1, g2⟩ := hs.tmp (St.s0_ev h1)
    refine ⟨?_, g2⟩
    simp only [resSem, g1, Sem.run_pure]
    rfl
  | cell x t =>
    simp only [retOne] at h1
    split at h1
    · rename_i lf hlf
      obtain ⟨g1, g2⟩ := hs.tmp (St.lf_ev hlf)
      have hlo := g2 lf (by simp [S0.cells])
      obtain ⟨g3, g4⟩ := run_loadLf hv h1 hlo
      refine ⟨?_, g4⟩
      rw [show (SV.one (S0.lf lf)).den Γ = lf.den Γ from rfl] at g1
      have hp : ∃ ad, lf.den Γ = .pointer (some ad) := by
        cases lf with
        | ptr b o => exact ⟨_, rfl⟩
        | elp te sz e y o =>
          obtain ⟨b, p, he, -⟩ := hlo.1.addr hlo.2.1 hlo.2.2.1
          exact ⟨_, he _⟩
        | velp te sz i y o =>
          obtain ⟨b, n, cap, hl, -⟩ := hlo
          exact ⟨(⟨b, 0, none⟩ : Addr).add ((E.den Γ.ρ y).toNat * sz + o), by simp only [Lf.den, hl, elemAt]⟩
        | _ => simp [loadLf] at h1
      obtain ⟨ad, had⟩ := hp
      rw [had] at g1 g3
      simp only [resSem, g1, asAddr, pure_bind]
      simpa only [Instr.loadAt, Instr.sureAddr, pure_bind] using g3
    · cases h1
theorem run_all {P : Program} {F : Nat → Prop} {w0 : World} {Γ : Env} {st : St} {a : Act} {w : World} (hs : Sat P F w0 Γ st a w) : ∀ (rs : List ResultVar) (l : List S0), retAll P st rs = some l →
    (rs.mapM (resSem a.tmps)).run P w = .ok (l.map (S0.den Γ)) w ∧ ∀ s ∈ l, s.ok P w (Own Γ st) Γ
  | [], l, h => by simp [retAll] at h; subst h; simp
  | r :: rs, l, h => by
    simp only [retAll] at h
    split at h
    · rename_i s l' h1 h2
      cases h
      obtain ⟨i1, i2⟩ := run_all hs rs l' h2
      obtain ⟨j1, j2⟩ := run_one hs h1
      refine ⟨?_, fun x hx => ?_⟩
      · simp only [List.mapM_cons, Sem.run_bind, i1, j1, Result.andThen_ok, Sem.run_pure, List.map_cons]
      · rcases List.mem_cons.1 hx with rfl | hx
        · exact j2
        · exact i2 x hx
    · cases h
theorem run_results {P : Program} {fn : Func} {F : Nat → Prop} {w0 : World} {Γ : Env} {st : St} {a : Act} {w : World} (hs : Sat P F w0 Γ st a w) {l : List S0} (h : retAll P st fn.results.toList = some l) :
    (results fn a.tmps).run P w = .ok (match l.map (S0.den Γ) with | [x] => x | _ => .tuple (l.map (S0.den Γ)).toArray) w ∧ ∀ s ∈ l, s.ok P w (Own Γ st) Γ := by
  obtain ⟨k1, k2⟩ := run_all hs _ _ h
  refine ⟨?_, k2⟩
  rw [results_eq]
  simp only [Array.mapM_eq_mapM_toList, Sem.run_bind, Sem.run_map, k1, Result.andThen_ok, Sem.run_pure]
  congr 1
  match l.map (S0.den Γ) with
  | [] => simp
  | [x] => simp
  | x :: y :: l => simp

/-- A FUNCTION'S CONTRACT, out of its tree. -/
theorem look_argSl : ∀ (l : List S0) (i t : Nat) (sv : SV), look (argSl i l) t = some sv → ∃ j s, t = i + j ∧ l[j]? = some s ∧ sv = .one s
  | [], _, _, _, h => by cases h
  | s :: l, i, t, sv, h => by
    simp only [argSl, look] at h
    split at h
    · rename_i e; cases h; exact ⟨0, s, by omega, rfl, rfl⟩
    · obtain ⟨j, s', e, hj, hsv⟩ := look_argSl l (i + 1) t sv h
      exact ⟨j + 1, s', by omega, by simpa using hj, hsv⟩
theorem freshS_len (nb : Nat) : ∀ (l : List Sh0) (i : Nat), (freshS nb l i).length = l.length
  | [], _ => rfl
  | s :: l, i => by simp [freshS, freshS_len nb l]
theorem boxArg_none : ∀ {ss : List Sh0}, boxArg ss = none → ss.all (fun s => !s.isBox) = true
  | [], _ => rfl
  | .box t l :: _, h => by cases h
  | .lf k :: ss, h => by simp only [List.all_cons, Bool.and_eq_true]; exact ⟨rfl, boxArg_none (ss := ss) h⟩
  | .agg k :: ss, h => by simp only [List.all_cons, Bool.and_eq_true]; exact ⟨rfl, boxArg_none (ss := ss) h⟩
theorem boxArg_some : ∀ {ss : List Sh0} {p : TypeId × List Lk}, boxArg ss = some p → ss.all (fun s => !s.isBox) = false
  | [], _, h => by cases h
  | .box t l :: _, _, _ => rfl
  | .lf k :: ss, _, h => by have := boxArg_some (ss := ss) h; simpa [Sh0.isBox] using this
  | .agg k :: ss, _, h => by have := boxArg_some (ss := ss) h; simpa [Sh0.isBox] using this
theorem filter_noBox {ss : List Sh0} (h : (ss.filter Sh0.isBox).length ≤ 0) : ss.all (fun s => !s.isBox) = true := by
  have h0 : (ss.filter Sh0.isBox) = [] := List.eq_nil_of_length_eq_zero (by omega)
  rw [List.all_eq_true]
  intro x hx
  cases hxb : x.isBox with
  | false => rfl
  | true => have := List.mem_filter.2 ⟨hx, hxb⟩; rw [h0] at this; cases this
theorem outs_none {P : Program} {w : World} {O : Nat → Nat → Prop} : ∀ {ss : List Sh0} {vs : List Value}, ss.all (fun s => !s.isBox) = true → Outs P w O ss vs []
  | [], vs, _ => by cases vs <;> rfl
  | s :: ss, [], _ => by cases s <;> rfl
  | s :: ss, v :: vs, hb => by
    simp only [List.all_cons, Bool.and_eq_true] at hb
    cases s with
    | box t l => cases hb.1
    | lf k => exact outs_none (ss := ss) (vs := vs) hb.2
    | agg l => exact outs_none (ss := ss) (vs := vs) hb.2
theorem box_start {P : Program} {w : World} {O : Nat → Nat → Prop} {ρ : List C} {t : TypeId} {ks : List Lk} : ∀ {ss : List Sh0} {vs : List Value} {cs : List C}, Reps P w O none ss vs cs → (ss.filter Sh0.isBox).length ≤ 1 → boxArg ss = some (t, ks) → ∀ i, (∀ j c, cs[j]? = some c → at_ ρ (i + j) = c) →
    ∃ (b : Nat) (us : List Value) (c1 : List C) (n : Nat), (∀ x, IsBox ss vs x ↔ x = b) ∧ Blk w b t us.toArray ∧ (∀ o, O b o) ∧ LReps P w (fun x o => O x o ∨ some b = some x) ks us c1 ∧ freshMem 0 ss i = [(0, some (t, freshL ks n))] ∧ (∀ j c, c1[j]? = some c → at_ ρ (n + j) = c) ∧
      ∀ w' O' us' c', Blk w' b t us'.toArray → LReps P w' O' ks us' c' → Outs P w' O' ss vs c'
  | [], _, _, _, _, hb, _, _ => by cases hb
  | s :: ss, [], _, h, _, _, _, _ => h.elim
  | s :: ss, v :: vs, cs, h, hl, hb, i, hi => by
    obtain ⟨c1, c2, rfl, h1, h2⟩ := h
    have hlen : c1.length = s.kinds.length := h1.ty.len
    have hi2 : ∀ j c, c2[j]? = some c → at_ ρ (i + s.kinds.length + j) = c := fun j c hj => by
      have := hi (c1.length + j) c (by rw [List.getElem?_append_right (by omega)]; simpa using hj)
      rwa [← hlen, Nat.add_assoc]
    have hi1 : ∀ j c, c1[j]? = some c → at_ ρ (i + j) = c := fun j c hj => hi j c (by
      have : j < c1.length := by
        rcases Nat.lt_or_ge j c1.length with h' | h'
        · exact h'
        · rw [List.getElem?_eq_none h'] at hj; cases hj
      rw [List.getElem?_append_left this]; exact hj)
    cases s with
    | box t' l =>
      cases hb
      have hno : ss.all (fun s => !s.isBox) = true := filter_noBox (by simp only [List.filter_cons, Sh0.isBox, if_true, List.length_cons] at hl; omega)
      obtain ⟨b, us, rfl, g1, g2, g3⟩ := h1
      refine ⟨b, us, c1, i, fun x => ⟨?_, fun e => .inl (by rw [e])⟩, g1, g2, g3, ?_, hi1, fun w' O' us' c' k1 k2 => ⟨c', [], b, us', by simp, rfl, k1, k2, outs_none hno⟩⟩
      · rintro (hx | hx)
        · cases hx; rfl
        · exact absurd hx (isBox_noBox hno)
      · simp only [freshMem]
        rw [freshMem_noBox 0 ss _ hno]
    | lf k =>
      obtain ⟨b, us, c, n, r1, r2, r3, r4, r5, r6, r7⟩ := box_start h2 hl hb _ hi2
      exact ⟨b, us, c, n, r1, r2, r3, r4, r5, r6, r7⟩
    | agg l =>
      obtain ⟨b, us, c, n, r1, r2, r3, r4, r5, r6, r7⟩ := box_start h2 hl hb _ hi2
      exact ⟨b, us, c, n, r1, r2, r3, r4, r5, r6, r7⟩
theorem St.look_one {t : TypeId} {l : List Lf} {j : Nat} {mb : TypeId × List Lf} (h : look [(0, some (t, l))] j = some mb) : j = 0 ∧ mb = (t, l) := by
  simp only [look] at h
  split at h
  · rename_i e; cases h; exact ⟨e.symm, rfl⟩
  · cases h
/-! What is handed on at the end -/
section
variable {P : Program} {F : Nat → Prop} {w0 : World} {Γ : Env} {st : St} {a : Act} {w : World}
theorem cntIdx_spec (h : Sat P F w0 Γ st a w) {l : Lf} {i : Nat} (hi : cntIdx st.vec l = some i) : ∃ te e, look st.vec i = some e ∧ l = .cnt te (mkJoin i e.2) ∧ e.1 = te ∧ (l.c Γ.ρ).loc = (at_ Γ.ρ i).loc := by
  unfold cntIdx at hi
  split at hi
  · rename_i te r
    split at hi
    · rename_i i' hi'
      split at hi
      · rename_i e he
        split at hi
        · rename_i hc
          cases hi
          refine ⟨te, e, he, by rw [hc.2], hc.1, ?_⟩
          simp only [Lf.c]
          rw [← hc.2, mkJoin_ev (h.vec _ e he).1]
          rfl
        · cases hi
      · cases hi
    · cases hi
  · cases hi
theorem nodupI_spec {vec : Vecs} : ∀ {ls : List Lf}, nodupI vec ls = true → ∀ l ∈ ls, l.isVec = false ∧ (l.isCnt = true → ∃ i, cntIdx vec l = some i)
  | [], _, l, hl => by cases hl
  | x :: ls, h, l, hl => by
    simp only [nodupI, Bool.and_eq_true, Bool.not_eq_true'] at h
    obtain ⟨⟨h1, h2⟩, h3⟩ := h
    rcases List.mem_cons.1 hl with rfl | hl
    · refine ⟨h1, fun hc => ?_⟩
      split at h2
      · rename_i i hi; exact ⟨i, hi⟩
      · rw [hc] at h2; cases h2
    · exact nodupI_spec h3 l hl
theorem kind_vec {l : Lf} {t : TypeId} (hk : l.kind = some (.vec t)) (hv : l.isVec = false) : l.isCnt = true := by
  cases l with
  | vec te i => cases hv
  | cnt te r => rfl
  | _ => cases hk
theorem vecB_cells (h : Sat P F w0 Γ st a w) : ∀ {ls : List Lf} {ks : List Lk}, kindsL ls = some ks → nodupI st.vec ls = true → (vecB ks (cs_ Γ.ρ ls)).Nodup ∧ ∀ b ∈ vecB ks (cs_ Γ.ρ ls), ∃ l ∈ ls, ∃ i, cntIdx st.vec l = some i ∧ Hold Γ st false i b
  | [], ks, hk, _ => by simp [kindsL] at hk; subst hk; simp [vecB, cs_]
  | l :: ls, ks, hk, hn => by
    have hn0 := hn
    simp only [nodupI, Bool.and_eq_true, Bool.not_eq_true'] at hn
    obtain ⟨⟨h1, h2⟩, h3⟩ := hn
    simp only [kindsL] at hk
    split at hk
    · rename_i k ks' hk1 hk2
      cases hk
      obtain ⟨i1, i2⟩ := vecB_cells h hk2 h3
      have tail : vecB (k :: ks') (cs_ Γ.ρ (l :: ls)) = vecB ks' (cs_ Γ.ρ ls) → (vecB (k :: ks') (cs_ Γ.ρ (l :: ls))).Nodup ∧ ∀ b ∈ vecB (k :: ks') (cs_ Γ.ρ (l :: ls)), ∃ x ∈ l :: ls, ∃ i, cntIdx st.vec x = some i ∧ Hold Γ st false i b := fun e => by
        rw [e]
        exact ⟨i1, fun b hb => by obtain ⟨x, hx, r⟩ := i2 b hb; exact ⟨x, by simp [hx], r⟩⟩
      cases k with
      | vec t =>
        have hc := kind_vec hk1 h1
        obtain ⟨i, hi⟩ := (nodupI_spec hn0 l (by simp)).2 hc
        obtain ⟨te, e, q1, q2, q3, q4⟩ := cntIdx_spec h hi
        rw [hi] at h2
        simp only [List.all_eq_true, Bool.not_eq_true', decide_eq_false_iff_not] at h2
        cases hob : (l.c Γ.ρ).loc.ownBlock with
        | none => exact tail (by simp [cs_, vecB, hob])
        | some b =>
          have hh : Hold Γ st false i b := .vec (Γ := Γ) q1 (by rw [← q4]; exact hob)
          have e' : vecB (.vec t :: ks') (cs_ Γ.ρ (l :: ls)) = b :: vecB ks' (cs_ Γ.ρ ls) := by simp [cs_, vecB, hob]
          rw [e']
          refine ⟨List.nodup_cons.2 ⟨fun hb => ?_, i1⟩, fun x hx => ?_⟩
          · obtain ⟨m, hm, j, hj, hhj⟩ := i2 b hb
            have := (h.inj _ _ _ _ _ hh hhj).2
            subst this
            exact h2 m hm hj
          · rcases List.mem_cons.1 hx with rfl | hx
            · exact ⟨l, by simp, i, hi, hh⟩
            · obtain ⟨m, hm, r⟩ := i2 x hx; exact ⟨m, by simp [hm], r⟩
      | int => exact tail rfl
      | bool => exact tail rfl
      | arr t => exact tail rfl
    · cases hk
theorem Lf.give_spec (h : Sat P F w0 Γ st a w) {O : Nat → Nat → Prop} (hO : ∀ b o, O b o → Own Γ st b o) {k : Lk} {l : Lf} (ho : l.ok P w (Own Γ st) Γ) (hnc : l.isCnt = false) :
    ((match k with | .vec _ => l.give P st.vec k | _ => l.adapt P [] k) : Lf).den Γ = l.den Γ ∧ (((match k with | .vec _ => l.give P st.vec k | _ => l.adapt P [] k) : Lf).isVec = false → ((match k with | .vec _ => l.give P st.vec k | _ => l.adapt P [] k) : Lf).okR P w O Γ) := by
  have plain : ∀ x : Lf, x.ok P w (Own Γ st) Γ → x.isCnt = false → x.isVec = false → x.okR P w O Γ := fun x hx hc hv => by
    cases x with
    | cnt te r => cases hc
    | vec te i => cases hv
    | _ => exact Lf.ok_anti hx hO
  have other : (l.adapt P [] k).den Γ = l.den Γ ∧ ((l.adapt P [] k).isVec = false → (l.adapt P [] k).okR P w O Γ) := by
    refine ⟨adapt_den0 P Γ k l, fun hv => plain _ (S0.adaptOk ho) ?_ hv⟩
    unfold Lf.adapt
    split
    · rfl
    · split <;> rfl
    · exact hnc
  cases k with
  | vec t =>
    by_cases hvv : ∃ te i, l = .vec te i
    · obtain ⟨te, i, rfl⟩ := hvv
      show (Lf.give P st.vec (.vec t) (.vec te i)).den Γ = _ ∧ ((Lf.give P st.vec (.vec t) (.vec te i)).isVec = false → (Lf.give P st.vec (.vec t) (.vec te i)).okR P w O Γ)
      simp only [Lf.give]
      split
      · rename_i e he
        split
        · rename_i hc
          have hj := mkJoin_ev (h.vec i e he).1
          refine ⟨by simp only [Lf.den, hj, C.loc], fun _ => ?_⟩
          obtain ⟨ks, us, k1, k2, k3, k4, k5⟩ := (h.vec i e he).1.anti hO
          simp only [Lf.okR, hj]
          rw [← hc]
          exact ⟨ks, us, k1, ⟨_, rfl⟩, k3, k4, k5⟩
        · exact ⟨rfl, fun hv => by cases hv⟩
      · exact ⟨rfl, fun hv => by cases hv⟩
    · have hg : Lf.give P st.vec (.vec t) l = l := by
        cases l with
        | vec te i => exact absurd ⟨te, i, rfl⟩ hvv
        | _ => rfl
      show (Lf.give P st.vec (.vec t) l).den Γ = _ ∧ ((Lf.give P st.vec (.vec t) l).isVec = false → (Lf.give P st.vec (.vec t) l).okR P w O Γ)
      rw [hg]
      exact ⟨rfl, plain l ho hnc⟩
  | int => exact other
  | bool => exact other
  | arr t => exact other
theorem gives_spec (h : Sat P F w0 Γ st a w) {O : Nat → Nat → Prop} (hO : ∀ b o, O b o → Own Γ st b o) : ∀ {shs : List Sh0} {ss : List S0}, (∀ s ∈ ss, s.ok P w (Own Γ st) Γ) → (ss.all fun s => s.cells.all fun x => !x.isCnt) = true →
    (gives P st.vec shs ss).map (S0.den Γ) = ss.map (S0.den Γ) ∧ ∀ s ∈ gives P st.vec shs ss, ∀ l ∈ s.cells, l.isVec = false → l.okR P w O Γ
  | [], ss, h1, h2 => by
    have key : ∀ s ∈ ss, ∀ l ∈ s.cells, l.isVec = false → l.okR P w O Γ := fun s hs l hl hv => by
      have hc := List.all_eq_true.1 (List.all_eq_true.1 h2 s hs) l hl
      have ho := h1 s hs l hl
      cases l with
      | cnt te r => cases hc
      | vec te i => cases hv
      | _ => exact Lf.ok_anti ho hO
    cases ss <;> exact ⟨rfl, key⟩
  | _ :: _, [], _, _ => ⟨rfl, fun l hl => by cases hl⟩
  | sh :: shs, s :: ss, h1, h2 => by
    simp only [List.all_cons, Bool.and_eq_true] at h2
    obtain ⟨g1, g2⟩ := gives_spec h hO (shs := shs) (ss := ss) (fun x hx => h1 x (by simp [hx])) h2.2
    have hcn : ∀ l ∈ s.cells, l.isCnt = false := fun l hl => by have := List.all_eq_true.1 h2.1 l hl; simpa using this
    have hso := h1 s (by simp)
    have hL : ∀ (ks : List Lk) (ls : List Lf), (∀ l ∈ ls, l.isCnt = false) → (∀ l ∈ ls, l.ok P w (Own Γ st) Γ) → (giveL P st.vec ks ls).map (Lf.den Γ) = ls.map (Lf.den Γ) ∧ ∀ l ∈ giveL P st.vec ks ls, l.isVec = false → l.okR P w O Γ := by
      intro ks
      induction ks with
      | nil =>
        intro ls k1 k2
        have key : ∀ l ∈ ls, l.isVec = false → l.okR P w O Γ := fun l hl hv => by
          have hc := k1 l hl
          have ho := k2 l hl
          cases l with
          | cnt te r => cases hc
          | vec te i => cases hv
          | _ => exact Lf.ok_anti ho hO
        cases ls <;> exact ⟨rfl, key⟩
      | cons k ks ih =>
        intro ls k1 k2
        cases ls with
        | nil => exact ⟨rfl, fun l hl => by cases hl⟩
        | cons l ls =>
          obtain ⟨q1, q2⟩ := ih ls (fun x hx => k1 x (by simp [hx])) (fun x hx => k2 x (by simp [hx]))
          obtain ⟨q3, q4⟩ := Lf.give_spec h hO (k := k) (k2 l (by simp)) (k1 l (by simp))
          refine ⟨by simp only [giveL, List.map_cons, q1, q3], fun x hx => ?_⟩
          rcases List.mem_cons.1 hx with rfl | hx
          · exact q4
          · exact q2 x hx
    have one : (s.give P st.vec sh).den Γ = s.den Γ ∧ ∀ l ∈ (s.give P st.vec sh).cells, l.isVec = false → l.okR P w O Γ := by
      unfold S0.give
      split
      · rename_i k l
        obtain ⟨q3, q4⟩ := Lf.give_spec h hO (k := k) (hso l (by simp [S0.cells])) (hcn l (by simp [S0.cells]))
        exact ⟨q3, fun x hx => by simp only [S0.cells, List.mem_singleton] at hx; subst hx; exact q4⟩
      · rename_i ks ls
        obtain ⟨q1, q2⟩ := hL ks ls hcn hso
        exact ⟨by simp only [S0.den, dens, q1], q2⟩
      · refine ⟨rfl, fun l hl hv => ?_⟩
        have hc := hcn l hl
        have ho := hso l hl
        cases l with
        | cnt te r => cases hc
        | vec te i => cases hv
        | _ => exact Lf.ok_anti ho hO
    refine ⟨by simp [gives, g1, one.1], fun x hx => ?_⟩
    rcases List.mem_cons.1 hx with rfl | hx
    · exact one.2
    · exact g2 x hx
theorem shapes_kindsL {mem : Mem} : ∀ {args : List S0} {ss : List Sh0}, shapes mem args = some ss → kindsL (cellsOf mem args) = some (kindsOf ss)
  | [], ss, h => by simp [shapes] at h; subst h; rfl
  | s :: args, ss, h => by
    simp only [shapes] at h
    split at h
    · rename_i sh hss h1 h2
      cases h
      have hc : cellsOf mem (s :: args) = s.cellsM mem ++ cellsOf mem args := by simp [cellsOf]
      have hk : kindsOf (sh :: hss) = sh.kinds ++ kindsOf hss := by simp [kindsOf]
      rw [hc, hk]
      have app : ∀ {l m : List Lf} {k n : List Lk}, kindsL l = some k → kindsL m = some n → kindsL (l ++ m) = some (k ++ n) := by
        intro l
        induction l with
        | nil => intro m k n h1 h2; simp [kindsL] at h1; subst h1; exact h2
        | cons x l ih =>
          intro m k n h1 h2
          simp only [kindsL] at h1
          split at h1
          · rename_i k' ks' e1 e2
            cases h1
            simp only [List.cons_append, kindsL, e1, ih e2 h2]
          · cases h1
      refine app ?_ (shapes_kindsL h2)
      have plain : s.shapeM mem = s.shape → s.cellsM mem = s.cells → kindsL (s.cellsM mem) = some sh.kinds := by
        intro e1 e2
        rw [e1] at h1
        rw [e2]
        cases s with
        | lf l =>
          simp only [S0.shape, Option.map_eq_some_iff] at h1
          obtain ⟨k, hk', rfl⟩ := h1
          simp [S0.cells, kindsL, hk', Sh0.kinds]
        | agg ls =>
          simp only [S0.shape, Option.map_eq_some_iff] at h1
          obtain ⟨k, hk', rfl⟩ := h1
          exact hk'
      by_cases hp : ∃ b, s = .lf (.ptr b 0)
      · obtain ⟨b, rfl⟩ := hp
        simp only [S0.shapeM] at h1
        split at h1
        · rename_i mb hmb
          simp only [Option.map_eq_some_iff] at h1
          obtain ⟨ks, hks, rfl⟩ := h1
          simp only [S0.cellsM, hmb]
          exact hks
        · cases h1
      · refine plain ?_ ?_
        · unfold S0.shapeM; split
          · exact absurd ⟨_, rfl⟩ hp
          · rfl
        · unfold S0.cellsM; split
          · exact absurd ⟨_, rfl⟩ hp
          · rfl
    · cases h
end
theorem cellsOf_box {mem : Mem} {args : List S0} {b : Nat} {mb : TypeId × List Lf} (hin : S0.lf (.ptr b 0) ∈ args) (hmb : look mem b = some mb) : ∀ l ∈ mb.2, l ∈ cellsOf mem args := fun l hl =>
  List.mem_flatMap.2 ⟨_, hin, by simp only [S0.cellsM, hmb]; exact hl⟩
theorem cellsOf_plain {mem : Mem} {args : List S0} {s : S0} (hs : s ∈ args) (hp : ¬ ∃ b, s = .lf (.ptr b 0)) : ∀ l ∈ s.cells, l ∈ cellsOf mem args := fun l hl =>
  List.mem_flatMap.2 ⟨s, hs, by
    unfold S0.cellsM; split
    · exact absurd ⟨_, rfl⟩ hp
    · exact hl⟩
theorem ct_ok_open {cx : Cx} (hcx : CxOK cx) {f : FuncId} {fn : Func} (hf : cx.P.funcs[f]? = some fn) {ct : Ct} {bds : Bds} {c : Code} (hbody : fn.body = some c) (hle' : ct.args.length ≤ fn.ntmps ∧ ct.args.length ≤ 1000 ∧ boxOk ct = true)
    (hvc : ∀ cs, CTy cx.P (kindsOf ct.args) cs → ct.pre cs → bds.ok cs ∧ ∀ (F : Nat → Prop) (w0 : World) (Γ : Env) (a : Act) (w : World) (Q : Exit → Act → World → Prop), Γ.ρ = cs → Sat cx.P F w0 Γ (startOf fn ct bds cx.wr) a w →
      KOK cx (ct.post cs) F w0 (fun x st => match x with
        | .ext _ => none
        | _ => endOf cx fn ct st) Γ [] Q → c.wp cx.P Q a w) : CtOK cx.P f ct := by
  intro Base w vs cs hBase hreps hpre
  have hty := hreps.ty
  obtain ⟨hb, hmain⟩ := hvc cs hty hpre
  obtain ⟨hle, hle2, hbx⟩ := hle'
  refine calls_of_wp hf hbody ?_
  have hat : ∀ j c, cs[j]? = some c → at_ cs (0 + j) = c := fun j c hj => by rw [Nat.zero_add]; simp [at_, List.getD_eq_getElem?_getD, hj]
  have hbx' := hbx
  simp only [boxOk, Bool.and_eq_true, Bool.or_eq_true] at hbx'
  obtain ⟨⟨hb1, hb2⟩, hb3⟩ := hbx'
  have hb1 := Nat.le_of_ble_eq_true hb1
  have hbkn : (boxKinds ct.args).all Lk.noVec = true := by
    have : ∀ {ss : List Sh0}, (kindsOf ss).all Lk.noVec = true → (boxKinds ss).all Lk.noVec = true := by
      intro ss
      induction ss with
      | nil => intro _; rfl
      | cons s ss ih =>
        intro h
        have hk : kindsOf (s :: ss) = s.kinds ++ kindsOf ss := by simp [kindsOf]
        rw [hk, List.all_append, Bool.and_eq_true] at h
        cases s with
        | box t l => show (l ++ boxKinds ss).all Lk.noVec = true; rw [List.all_append, Bool.and_eq_true]; exact ⟨h.1, ih h.2⟩
        | _ => exact ih h.2
    exact this hb3
  have hsm : Smalls cs := by
    have := Smalls.nil.app (cs := cs) fun c hc => hty.small c hc
    simpa using this
  -- where the argument's block lies
  obtain ⟨B, hB1, hB2, hB3⟩ : ∃ B : Nat, (∀ x, IsBox ct.args vs x → x = B ∧ ∃ p, boxArg ct.args = some p) ∧
      (∀ Γ : Env, Γ.ρ = cs → Γ.blk 0 = B → Γ.base = Base → ∀ j mb, look (freshMem 0 ct.args 0) j = some mb → Blk w (Γ.blk j) mb.1 (dens Γ mb.2) ∧ (∀ l ∈ mb.2, l.ok cx.P w (fun x o => Base x o ∨ x = B) Γ) ∧ IsBox ct.args vs (Γ.blk j) ∧ j < (freshMem 0 ct.args 0).length ∧ j = 0 ∧ ∀ o, Base B o) ∧
      (∀ (st' : St) (o : List Lf) (w' : World) (Γ' : Env) (O' : Nat → Nat → Prop), outL st' ct = some o → Γ'.blk 0 = (if (freshMem 0 ct.args 0).length = 0 then Γ'.blk 0 else B) → (∀ mb, look st'.mem 0 = some mb → Blk w' (Γ'.blk 0) mb.1 (dens Γ' mb.2) ∧ ∀ l ∈ mb.2, l.ok cx.P w' O' Γ') → Num st'.bds Γ'.ρ → Obs Γ'.ρ (rngL st'.bds o) → Outs cx.P w' O' ct.args vs (cs_ Γ'.ρ o) ∧ ((∃ p, boxArg ct.args = some p) → ∃ mb, look st'.mem 0 = some mb ∧ Γ'.blk 0 = B)) := by
    cases hba : boxArg ct.args with
    | none =>
      have hno := boxArg_none hba
      refine ⟨0, fun x hx => absurd hx (isBox_noBox hno), fun Γ _ _ _ j mb hj => ?_, fun st' o w' Γ' O' ho _ _ _ _ => ?_⟩
      · rw [freshMem_noBox 0 ct.args 0 hno] at hj; cases hj
      · simp only [outL, hba, Option.some.injEq] at ho; subst ho; exact ⟨outs_none hno, fun ⟨p, hp⟩ => by cases hp⟩
    | some p =>
      obtain ⟨t, ks⟩ := p
      obtain ⟨b, us, c1, n, r1, r2, r3, r4, r5, r6, r7⟩ := box_start hreps hb1 hba 0 hat
      have hksn : ks.all Lk.noVec = true := by
        have : ∀ {ss : List Sh0}, boxArg ss = some (t, ks) → (boxKinds ss).all Lk.noVec = true → ks.all Lk.noVec = true := by
          intro ss
          induction ss with
          | nil => intro h _; cases h
          | cons s ss ih =>
            intro h hn
            cases s with
            | box t' l =>
              cases h
              have : (ks ++ boxKinds ss).all Lk.noVec = true := hn
              rw [List.all_append, Bool.and_eq_true] at this
              exact this.1
            | lf k => exact ih h hn
            | agg k => exact ih h hn
        exact this hba hbkn
      refine ⟨b, fun x hx => ⟨(r1 x).1 hx, _, rfl⟩, fun Γ hρ hblk hbase j mb hj => ?_, fun st' o w' Γ' O' ho hbl hm hn hob => ?_⟩
      · rw [r5] at hj
        obtain ⟨rfl, rfl⟩ := St.look_one hj
        obtain ⟨f1, f2⟩ := freshL_rep (Γ := Γ) r4 n (fun j c hj => by rw [hρ]; exact r6 j c hj)
        refine ⟨by rw [hblk]; unfold dens; rw [f1]; exact r2, fun l hl => Lf.ok_anti (f2 l hl) fun x o hx => hx.imp id fun e => by rw [e], by rw [hblk]; exact (r1 b).2 rfl, by rw [r5]; exact Nat.succ_pos _, rfl, r3⟩
      · rw [r5] at hbl
        simp only [List.length_cons, List.length_nil, Nat.zero_add, Nat.one_ne_zero, if_false] at hbl
        simp only [outL, hba] at ho
        split at ho
        · rename_i mb hmb
          split at ho
          · rename_i hc
            cases ho
            obtain ⟨m1, m2⟩ := hm mb hmb
            refine ⟨?_, fun _ => ⟨mb, hmb, hbl⟩⟩
            rw [hbl, hc.1] at m1
            exact r7 w' O' _ _ m1 (Ls_rep hn hc.2 (kindsL_noVec hc.2 hksn m2) hob)
          · cases ho
        · cases ho
  let Γ : Env := { ρ := cs, blk := fun _ => B, nb := (freshMem 0 ct.args 0).length, base := Base }
  obtain ⟨f1, f2⟩ := freshS_rep (Γ := Γ) (nb := 0) hreps (fun b hb => ((hB1 b hb).1).symm) 0 hat
  have hvl : vs.length = ct.args.length := by rw [← f1, List.length_map, freshS_len]
  have hmemB : ∀ j mb, look (freshMem 0 ct.args 0) j = some mb → ∀ o, Base (Γ.blk j) o := fun j mb hj o => (hB2 Γ rfl rfl rfl j mb hj).2.2.2.2.2 o
  have hown : ∀ b o, Own Γ (startOf fn ct bds cx.wr) b o → Base b o := by
    rintro b o (hb | ⟨j, mb, hj, rfl⟩ | ⟨i, e, hi, -⟩)
    · exact hb
    · exact hmemB j mb hj o
    · cases hi
  have hs : Sat cx.P (fun i => i < w.heap.size ∧ ¬ IsBox ct.args vs i) w Γ (startOf fn ct bds cx.wr) { tmps := vs.toArray ++ Array.replicate (fn.ntmps - vs.toArray.size) undef, defers := [] } w := by
    refine ⟨fun t sv ht => ?_, by simp [startOf]; omega, fun b mb hm => ?_, fun i e hi => (by cases hi), fun i e hi => (by cases hi), fun s j s' j' b h1 h2 => ?_, Keeps.refl _ _, fun i hi => hi.1, hBase, rfl, hty.len, rfl, ⟨hb, hsm⟩⟩
    · obtain ⟨j, s, e, hj, rfl⟩ := look_argSl _ _ _ _ ht
      have hjl : j < vs.length := by
        rw [hvl, ← freshS_len 0 ct.args 0]
        rcases Nat.lt_or_ge j (freshS 0 ct.args 0).length with h' | h'
        · exact h'
        · rw [List.getElem?_eq_none h'] at hj; cases hj
      have hmem := List.mem_of_getElem? hj
      refine ⟨?_, fun l hl => Lf.ok_anti (f2 s hmem l hl) hown⟩
      have : vs[j]? = some (s.den Γ) := by rw [← f1]; simp [hj]
      subst e
      unfold slotV
      rw [if_pos (by omega)]
      simp only [Nat.zero_add, Array.getD_eq_getD_getElem?]
      rw [Array.getElem?_append_left (by simpa using hjl)]
      simp [this, SV.den]
    · obtain ⟨m1, m2, m3, m4, m5, m6⟩ := hB2 Γ rfl rfl rfl b mb hm
      refine ⟨m1, fun l hl => Lf.ok_anti (m2 l hl) fun x o hx => .inl (hown x o hx), fun hn => hn.2 m3, m4⟩
    · rcases h1.inv with ⟨rfl, mb, hm, rfl⟩ | ⟨rfl, e, hm, -⟩
      · rcases h2.inv with ⟨rfl, mc, hm', -⟩ | ⟨rfl, e, hm', -⟩
        · have h1 := (hB2 Γ rfl rfl rfl j mb hm).2.2.2.2.1
          have h2 := (hB2 Γ rfl rfl rfl j' mc hm').2.2.2.2.1
          exact ⟨rfl, by rw [h1, h2]⟩
        · cases hm'
      · cases hm
  refine hmain _ _ Γ _ w _ rfl hs ?_
  intro x st' T' Γ' Ls' hk he hl hlen hv' a' w' hs'
  have fin : endOf cx fn ct st' = some T' → a'.defers = [] ∧ ∃ v, (results fn a'.tmps).run cx.P w' = .ok v w' ∧ ∃ v' rs outs, Ending.returned v = .returned v' ∧ Res cx.P w' Base w.heap.size ct.res v' rs ∧ Outs cx.P w' (fun b o => Base b o ∨ b ∈ vecB (kindsOf ct.res) rs) ct.args vs outs ∧ ct.post cs (rs ++ outs) ∧ Keeps (fun i => i < w.heap.size ∧ ¬ IsBox ct.args vs i) w w' := by
    intro hend
    unfold endOf at hend
    split at hend
    · rename_i l o hl' ho
      split at hend
      rotate_left
      · cases hend; exact hv'.elim
      · rename_i hcc
        obtain ⟨hsh, hnd, hnc⟩ := hcc
        cases hend
        obtain ⟨hob, hret⟩ := VC.obT hv'
        obtain ⟨ob1, ob2⟩ := rngL_app hob
        obtain ⟨r1, r2⟩ := run_results hs' hl'
        generalize hl'' : resOf cx ct st' l = l' at *
        have hbase : ∀ b o, Base b o → Own Γ' st' b o := fun b o hb => .inl (by rw [he.base]; exact hb)
        obtain ⟨v1, v2⟩ := vecB_cells hs' (shapes_kindsL hsh) hnd
        generalize hrs : cs_ Γ'.ρ (cellsOf st'.mem l') = rs at *
        have hO : ∀ b o, (Base b o ∨ b ∈ vecB (kindsOf ct.res) rs) → Own Γ' st' b o := fun b o hb => hb.elim (hbase b o) fun hb => by
          obtain ⟨x, -, i, -, hh⟩ := v2 b hb; exact hh.own o
        -- the results' cells
        obtain ⟨hden, hokR⟩ : l'.map (S0.den Γ') = l.map (S0.den Γ') ∧ ∀ s ∈ l', ∀ x ∈ s.cells, x.isVec = false → x.okR cx.P w' (fun b o => Base b o ∨ b ∈ vecB (kindsOf ct.res) rs) Γ' := by
          unfold resOf at hl''
          split at hl''
          · rename_i hnv
            have hvb : vecB (kindsOf ct.res) rs = [] := vecB_noVec hnv
            obtain ⟨g1, g2⟩ := adapts_spec hs' (O' := fun b o => Base b o ∨ b ∈ vecB (kindsOf ct.res) rs) hO (shs := ct.res) (ss := l) (fun s _ l _ _ i e hi b hb o ho => by
              rw [hvb] at ho
              rcases ho with ho | ho
              · exact ((hs'.vec i e hi).2.2 b hb).2 o (by rw [he.base]; exact ho)
              · cases ho) r2
            rw [hl''] at g1 g2
            obtain ⟨q1, q2⟩ := shapes_okR (Γ := Γ') hsh hnv g2
            exact ⟨g1, fun s hs x hx _ => q1 s hs x hx⟩
          · obtain ⟨g1, g2⟩ := gives_spec hs' hO (shs := ct.res) (ss := l) r2 hnc
            rw [hl''] at g1 g2
            exact ⟨g1, g2⟩
        have hcv : ∀ x ∈ cellsOf st'.mem l', x.isVec = false := fun x hx => (nodupI_spec hnd x hx).1
        have hrep := cells_rep (P := cx.P) (w := w') (O := fun b o => Base b o ∨ b ∈ vecB (kindsOf ct.res) rs) (old := some w.heap.size) hs'.num hsh (fun s hs2 x hx => by
          by_cases hp : ∃ b, s = .lf (.ptr b 0)
          · obtain ⟨b, rfl⟩ := hp
            simp [S0.cells] at hx; subst hx; trivial
          · exact hokR s hs2 x hx (hcv x (cellsOf_plain hs2 hp x hx))) (fun b mb hin hmb => by
          obtain ⟨m1, m2, m3, m4⟩ := hs'.mem b mb hmb
          refine ⟨m1, fun x hx => ?_, ?_⟩
          · have hxv := hcv x (cellsOf_box hin hmb x hx)
            have hxc : x.isCnt = false ∨ ∃ i, cntIdx st'.vec x = some i := by
              cases hxc : x.isCnt with
              | false => exact .inl rfl
              | true => exact .inr ((nodupI_spec hnd x (cellsOf_box hin hmb x hx)).2 hxc)
            have hmo := m2 x hx
            have hO2 : ∀ y o, ((Base y o ∨ y ∈ vecB (kindsOf ct.res) rs) ∨ some (Γ'.blk b) = some y) → Own Γ' st' y o := fun y o hy => hy.elim (hO y o) fun e => by cases e; exact (Hold.mem (Γ := Γ') hmb).own o
            cases x with
            | vec te i => cases hxv
            | cnt te r =>
              rcases hxc with hxc | ⟨i, hi⟩
              · cases hxc
              · obtain ⟨te', e, k1, k2, k3, k4⟩ := cntIdx_spec hs' hi
                cases k2
                have hve := (hs'.vec i e k1).1
                obtain ⟨ks, us, p1, p2, p3, p4, p5⟩ := hve.anti hO2
                simp only [Lf.okR, mkJoin_ev hve]
                rw [← k3]
                exact ⟨ks, us, p1, ⟨_, rfl⟩, p3, p4, p5⟩
            | _ => exact Lf.ok_anti hmo hO2
          · rcases hb2 with h | h
            · exact absurd hin ((shapes_noBox hsh h).2.2.2 b)
            · rcases Nat.lt_or_ge (Γ'.blk b) w.heap.size with hlt | hge
              · exact absurd ⟨hlt, isBox_noBox h.1.2⟩ m3
              · exact hge) ob1
        rw [hrs] at hrep
        obtain ⟨houts, hboxm⟩ := hB3 st' o w' Γ' (fun b o => Base b o ∨ b ∈ vecB (kindsOf ct.res) rs) ho (by
          split
          · rfl
          · rename_i hne
            rw [he.blk 0 (show 0 < (freshMem 0 ct.args 0).length by omega)]) (fun mb hmb => ⟨(hs'.mem 0 mb hmb).1, fun l hl => Lf.ok_anti ((hs'.mem 0 mb hmb).2.1 l hl) hO⟩) hs'.num ob2
        refine ⟨hs'.defers, _, r1, _, rs, cs_ Γ'.ρ o, rfl, ⟨_, rfl, ?_, v1, fun b hb => ?_⟩, houts, ?_, hs'.keeps⟩
        · rw [← hden]; exact hrep
        · obtain ⟨x, hx, i, hi, hh⟩ := v2 b hb
          obtain ⟨e, he1, he2⟩ := hh
          have hnF := ((hs'.vec i e he1).2.2 b he2).1
          rcases Nat.lt_or_ge b w.heap.size with hlt | hge
          · exfalso
            refine hnF ⟨hlt, fun hbx => ?_⟩
            obtain ⟨e1, hp⟩ := hB1 b hbx
            obtain ⟨mb, hmb, hbl⟩ := hboxm hp
            have := (hs'.inj _ _ _ _ _ (Hold.mem (Γ := Γ') hmb) (show Hold Γ' st' false i (Γ'.blk 0) from ⟨e, he1, by rw [he2, e1, hbl]⟩)).1
            cases this
          · exact hge
        · have : rs ++ cs_ Γ'.ρ o = cs_ Γ'.ρ (cellsOf st'.mem l' ++ o) := by rw [← hrs]; simp [cs_]
          rw [this]; exact hret
    · cases hend; exact hv'.elim
    · cases hend; exact hv'.elim
  cases x with
  | nrm => exact fin hk
  | ret => exact fin hk
  | ext i => cases hk
theorem ct_ok {cx : Cx} (hcx : CxOK cx) {f : FuncId} {fn : Func} (hf : cx.P.funcs[f]? = some fn) {ct : Ct} {bds : Bds} {T : Tree} (hT : execFn cx fn ct bds = some T)
    (hvc : allC cx.P (kindsOf ct.args) fun cs => ct.pre cs → bds.ok cs ∧ VC cx (ct.post cs) T cs []) : CtOK cx.P f ct := by
  unfold execFn at hT
  split at hT
  · cases hT
  · rename_i c hbody
    split at hT
    · rename_i hle'
      refine ct_ok_open (bds := bds) hcx hf hbody hle' fun cs hty hpre => ?_
      obtain ⟨hb, hv⟩ := allC_elim hvc cs hty hpre
      exact ⟨hb, fun F w0 Γ a w Q hρ hs hk => exec_sound (R := ct.post cs) hcx c _ _ T hT Γ [] _ hk rfl (by rw [hρ]; exact hv) a w hs⟩
    · cases hT

theorem allC_mono {P : Program} : ∀ {ks : List Lk} {p q : List C → Prop}, allC P ks p → (∀ cs, p cs → q cs) → allC P ks q
  | [], p, q, h, hh => hh _ h
  | .int :: ks, p, q, h, hh => fun n h1 h2 => allC_mono (h n h1 h2) fun cs hc => hh _ hc
  | .bool :: ks, p, q, h, hh => fun t => allC_mono (h t) fun cs hc => hh _ hc
  | .arr t :: ks, p, q, h, hh => fun v rows d h1 h2 => allC_mono (h v rows d h1 h2) fun cs hc => hh _ hc
  | .vec t :: ks, p, q, h, hh => fun v rows d h1 h2 => allC_mono (h v rows d h1 h2) fun cs hc => hh _ hc
/-! Functions carried out in place -/
def enterSt (fn : Func) (args : List S0) (st : St) : St := { st with sl := argSl 0 args ++ st.sl.map fun p => (p.1 + 1000, p.2), nt := fn.ntmps }
def leaveSl : List (Nat × Option SV) → List (Nat × Option SV)
  | [] => []
  | (k, v) :: l => if 1000 ≤ k then (k - 1000, v) :: leaveSl l else leaveSl l
def leaveSt (st st' : St) : St := { st' with sl := leaveSl st'.sl, nt := st.nt }
def hand (cx : Cx) (fns : Nat → Option Func) : Hd := fun f args st k =>
  match fns f with
  | some fn => match fn.body with
    | some c => if args.length ≤ fn.ntmps ∧ fn.ntmps ≤ 1000 then
        exec cx c (enterSt fn args st) fun x st' => match x with
          | .ext _ => none
          | _ => match retAll cx.P st' fn.results.toList with
            | some l => k l (leaveSt st st')
            | none => some (.fail 80001 [f, st'.path])
      else none
    | none => none
  | none => none
theorem look_leave : ∀ (l : List (Nat × Option SV)) (t : Nat), look (leaveSl l) t = look l (t + 1000)
  | [], _ => rfl
  | (k, v) :: l, t => by
    simp only [leaveSl]
    split
    · rename_i h
      simp only [look]
      by_cases hk : k - 1000 = t
      · rw [if_pos hk, if_pos (by omega)]
      · rw [if_neg hk, if_neg (by omega)]; exact look_leave l t
    · rename_i h
      simp only [look]
      rw [if_neg (by omega)]; exact look_leave l t
theorem look_shift : ∀ (l : List (Nat × Option SV)) (t : Nat), look (l.map fun p => (p.1 + 1000, p.2)) t = if 1000 ≤ t then look l (t - 1000) else none
  | [], t => by simp [look]
  | (k, v) :: l, t => by
    simp only [List.map_cons, look, look_shift l t]
    by_cases h : 1000 ≤ t
    · simp only [h, if_true]
      by_cases hk : k = t - 1000
      · rw [if_pos (by omega), if_pos hk]
      · rw [if_neg (by omega), if_neg hk]
    · rw [if_neg (by omega)]; simp [h]
theorem look_enter : ∀ (args : List S0) (i : Nat) (m : List (Nat × Option SV)) (t : Nat) (sv : SV), look (argSl i args ++ m) t = some sv → (∃ j s, t = i + j ∧ args[j]? = some s ∧ sv = .one s) ∨ look m t = some sv
  | [], _, _, _, _, h => .inr h
  | s :: l, i, m, t, sv, h => by
    simp only [argSl, List.cons_append, look] at h
    split at h
    · rename_i e; cases h; exact .inl ⟨0, s, by omega, rfl, rfl⟩
    · rcases look_enter l (i + 1) m t sv h with ⟨j, s', e, hj, hsv⟩ | h
      · exact .inl ⟨j + 1, s', by omega, by simpa using hj, hsv⟩
      · exact .inr h
theorem Lf.den_up (Γ : Env) (u : Nat → Value) (l : Lf) : l.den { Γ with up := u } = l.den Γ := by cases l <;> rfl
theorem dens_up (Γ : Env) (u : Nat → Value) (l : List Lf) : dens { Γ with up := u } l = dens Γ l := by
  unfold dens; rw [List.map_congr_left fun x _ => Lf.den_up Γ u x]
theorem S0.den_up (Γ : Env) (u : Nat → Value) (s : S0) : s.den { Γ with up := u } = s.den Γ := by
  cases s with
  | lf l => exact Lf.den_up Γ u l
  | agg l => simp only [S0.den, dens_up]
theorem SV.den_up (Γ : Env) (u : Nat → Value) (s : SV) : s.den { Γ with up := u } = s.den Γ := by
  cases s with
  | one s => exact S0.den_up Γ u s
  | tup l => simp only [SV.den]; rw [List.map_congr_left fun x _ => S0.den_up Γ u x]
  | fn f l => simp only [SV.den, dens_up]
theorem Lf.ok_up {P : Program} {w : World} {O : Nat → Nat → Prop} {Γ : Env} {u : Nat → Value} {l : Lf} : l.ok P w O { Γ with up := u } ↔ l.ok P w O Γ := by cases l <;> exact Iff.rfl
theorem S0.ok_up {P : Program} {w : World} {O : Nat → Nat → Prop} {Γ : Env} {u : Nat → Value} {s : S0} : s.ok P w O { Γ with up := u } ↔ s.ok P w O Γ := ⟨fun h l hl => Lf.ok_up.1 (h l hl), fun h l hl => Lf.ok_up.2 (h l hl)⟩
theorem SV.ok_up {P : Program} {w : World} {O : Nat → Nat → Prop} {Γ : Env} {u : Nat → Value} {s : SV} : s.ok P w O { Γ with up := u } ↔ s.ok P w O Γ := by
  cases s with
  | one s => exact S0.ok_up
  | tup l => exact ⟨fun h s hs => S0.ok_up.1 (h s hs), fun h s hs => S0.ok_up.2 (h s hs)⟩
  | fn f l => exact ⟨fun h l hl => Lf.ok_up.1 (h l hl), fun h l hl => Lf.ok_up.2 (h l hl)⟩
/-- Another frame. -/
theorem Sat.frame {P : Program} {F : Nat → Prop} {w0 : World} {Γ : Env} {st : St} {a : Act} {w : World} (h : Sat P F w0 Γ st a w) {u : Nat → Value} {sl : List (Nat × Option SV)} {nt : Nat} {a' : Act} (hsz : a'.tmps.size = nt) (hd : a'.defers = [])
    (hs : ∀ t sv, look sl t = some sv → slotV { Γ with up := u } a' t = sv.den Γ ∧ sv.ok P w (Own Γ st) Γ) : Sat P F w0 { Γ with up := u } { st with sl := sl, nt := nt } a' w := by
  have hown : ∀ b o, Own { Γ with up := u } { st with sl := sl, nt := nt } b o → Own Γ st b o := fun b o h => h
  refine ⟨fun t sv ht => ?_, hsz, fun b mb hm => ?_, h.vec, fun i e hi => ?_, h.inj, h.keeps, h.fold, h.base, hd, h.len, h.nb, h.num⟩
  · obtain ⟨h1, h2⟩ := hs t sv ht
    exact ⟨by rw [SV.den_up]; exact h1, SV.ok_up.2 h2⟩
  · obtain ⟨h1, h2, h3, h4⟩ := h.mem b mb hm
    exact ⟨by rw [dens_up]; exact h1, fun l hl => Lf.ok_up.2 (h2 l hl), h3, h4⟩
  · obtain ⟨h1, h2, h3⟩ := h.clo i e hi
    refine ⟨?_, fun s hs => S0.ok_up.2 (h2 s hs), fun l hl => Lf.ok_up.2 (h3 l hl)⟩
    rw [List.map_congr_left fun s _ => S0.den_up Γ u s, List.map_congr_left fun l _ => Lf.den_up Γ u l]
    exact h1
theorem VC_congr {cx cx' : Cx} (hP : cx.P = cx'.P) (hct : cx.ct = cx'.ct) {R : List C → Prop} : ∀ {T : Tree} {ρ : List C} {Ls : List (List C → Prop)}, VC cx R T ρ Ls → VC cx' R T ρ Ls
  | .ret l, ρ, Ls, h => h
  | .split b t e, ρ, Ls, h => ⟨fun hb => VC_congr hP hct (h.1 hb), fun hb => VC_congr hP hct (h.2 hb)⟩
  | .ob b t, ρ, Ls, h => ⟨h.1, VC_congr hP hct h.2⟩
  | .call f args t, ρ, Ls, h => by
    simp only [VC] at h ⊢
    rw [← hct, ← hP]
    cases hc : cx.ct f with
    | none => rw [hc] at h; exact h.elim
    | some ct =>
      rw [hc] at h
      exact ⟨h.1, allC_mono h.2 fun rs hr hp => VC_congr hP hct (hr hp)⟩
  | .loop ks init t, ρ, Ls, h => by
    obtain ⟨I, μ, h0, h1⟩ := h
    refine ⟨I, μ, h0, ?_⟩
    rw [← hP]
    exact allC_mono h1 fun xs hx hi => VC_congr hP hct (hx hi)
  | .arr rows t, ρ, Ls, h => fun v => VC_congr hP hct (h v)
  | .dfn e t, ρ, Ls, h => VC_congr hP hct (T := t) h
  | .mk n row t, ρ, Ls, h => fun v => VC_congr hP hct (h v)
  | .cat a b t, ρ, Ls, h => fun v => VC_congr hP hct (h v)
  | .upd a x o l t, ρ, Ls, h => fun v => VC_congr hP hct (h v)
  | .both a b, ρ, Ls, h => ⟨VC_congr hP hct h.1, VC_congr hP hct h.2⟩
  | .join ks ws t, ρ, Ls, h => by
    obtain ⟨I, h0, h1⟩ := h
    refine ⟨I, VC_congr hP hct h0, ?_⟩
    rw [← hP]
    exact allC_mono h1 fun xs hx hi => VC_congr hP hct (hx hi)
  | .fail _ _, _, _, h => h
  | .back lvl vals, ρ, Ls, h => h
theorem hand_ok {cx cx' : Cx} (hcx : CxOK cx) {fns : Nat → Option Func} (hP : cx'.P = cx.P) (hct : cx'.ct = cx.ct) (hH : cx'.H = hand cx fns) (hf : ∀ f fn, fns f = some fn → cx.P.funcs[f]? = some fn ∧ Callable cx.P f) : HOK cx' := by
  intro f args st k T h
  rw [hH] at h
  rw [hP]
  unfold hand at h
  split at h
  · rename_i fn hfn
    obtain ⟨hfn1, hfn2⟩ := hf f fn hfn
    split at h
    · rename_i c hbody
      split at h
      · rename_i hle
        refine ⟨hfn2, fun R F w0 Γ Ls a w K hl hv hs hwf hargs hok hk => ?_⟩
        have hv := VC_congr hP hct hv
        have hlenA : (args.map (S0.den Γ)).toArray.size = args.length := by simp
        refine calls_of_wp hfn1 hbody ?_
        let ae : Act := { tmps := (args.map (S0.den Γ)).toArray ++ Array.replicate (fn.ntmps - (args.map (S0.den Γ)).toArray.size) undef, defers := [] }
        have hse : Sat cx.P F w0 { Γ with up := slotV Γ a } (enterSt fn args st) ae w := by
          refine hs.frame (by simp [ae]; omega) rfl fun t sv ht => ?_
          rcases look_enter _ _ _ _ _ ht with ⟨j, s, rfl, hj, rfl⟩ | ht
          · have hjl : j < args.length := by
              rcases Nat.lt_or_ge j args.length with h' | h'
              · exact h'
              · rw [List.getElem?_eq_none h'] at hj; cases hj
            refine ⟨?_, hok s (List.mem_of_getElem? hj)⟩
            unfold slotV
            rw [if_pos (by omega)]
            simp only [ae, Nat.zero_add, Array.getD_eq_getD_getElem?]
            rw [Array.getElem?_append_left (by simpa using hjl)]
            simp [hj, SV.den]
          · rw [look_shift] at ht
            split at ht
            · rename_i hge
              obtain ⟨g1, g2⟩ := hs.slots _ _ ht
              refine ⟨?_, g2⟩
              unfold slotV
              rw [if_neg (by omega)]
              dsimp only
              exact g1
            · cases ht
        have hlv : Ls.length = (enterSt fn args st).lvl := hl
        generalize enterSt fn args st = ste at *
        refine exec_sound (R := R) (F := F) (w0 := w0) hcx c ste _ T h { Γ with up := slotV Γ a } Ls _ ?_ hlv hv ae w hse
        intro x st' T' Γ' Ls' hk' he hl' hlen' hv' a' w' hs'
        have fin : (match retAll cx.P st' fn.results.toList with | some l => k l (leaveSt st st') | none => some (.fail 80001 [f, st'.path])) = some T' → a'.defers = [] ∧ ∃ v, (results fn a'.tmps).run cx.P w' = .ok v w' ∧ ∃ v', Ending.returned v = .returned v' ∧ K v' w' := by
          intro hend
          split at hend
          · rename_i l hl2
            obtain ⟨r1, r2⟩ := run_results hs' hl2
            refine ⟨hs'.defers, _, r1, _, rfl, ?_⟩
            have hleave : Sat cx.P F w0 { Γ' with up := Γ.up } (leaveSt st st') a w' := by
              refine hs'.frame hs.size hs.defers fun t sv ht => ?_
              rw [look_leave] at ht
              obtain ⟨g1, g2⟩ := hs'.slots _ _ ht
              refine ⟨?_, g2⟩
              rw [← g1]
              unfold slotV
              rw [if_neg (show ¬ t + 1000 < 1000 by omega), Nat.add_sub_cancel, he.up]
              rfl
            have := hk l (leaveSt st st') T' { Γ' with up := Γ.up } Ls' hend ⟨he.ρ, he.blk, he.nb, he.base, rfl⟩ hl' hlen' (VC_congr hP.symm hct.symm hv') w' hleave (fun s hs2 => S0.ok_up.2 (r2 s hs2))
            rw [List.map_congr_left fun s _ => S0.den_up Γ' Γ.up s] at this
            have hval : ∀ L : List Value, valOf L = (match L with | [x] => x | _ => .tuple L.toArray) := fun L => by
              match L with
              | [] => rfl
              | [x] => rfl
              | x :: y :: l => rfl
            rw [hval] at this
            exact this
          · cases hend; exact hv'.elim
        cases x with
        | nrm => exact fin hk'
        | ret => exact fin hk'
        | ext i => cases hk'
      · cases h
    · cases h
  · cases h
/-- So deep functions are carried out in place. -/
def Cx.deep (fns : Nat → Option Func) (cx : Cx) : Nat → Cx
  | 0 => { cx with H := fun _ _ _ _ => none }
  | n + 1 => { cx with H := hand (Cx.deep fns cx n) fns }
theorem Cx.deep_same (fns : Nat → Option Func) (cx : Cx) : ∀ n, (Cx.deep fns cx n).P = cx.P ∧ (Cx.deep fns cx n).ct = cx.ct ∧ (Cx.deep fns cx n).inl = cx.inl ∧ (Cx.deep fns cx n).sel = cx.sel
  | 0 => ⟨rfl, rfl, rfl, rfl⟩
  | _ + 1 => ⟨rfl, rfl, rfl, rfl⟩
theorem Cx.deep_ok {fns : Nat → Option Func} {cx : Cx} (hct : ∀ f ct, cx.ct f = some ct → Callable cx.P f ∧ CtOK cx.P f ct ∧ (ct.det = true → ∀ cs rs rs', ct.post cs rs → ct.post cs rs' → rs = rs')) (hm : cx.P.follows .mixedOrders = true) (hi : ∀ f g, cx.inl f = some g → Callable cx.P f ∧ InlOK cx.P f g) (hs : ∀ f g, cx.sel f = some g → Callable cx.P f ∧ SelOK cx.P f g)
    (hf : ∀ f fn, fns f = some fn → cx.P.funcs[f]? = some fn ∧ Callable cx.P f) : ∀ n, CxOK (Cx.deep fns cx n)
  | 0 => ⟨hct, hm, hi, hs, fun f args st k T h => by cases h⟩
  | n + 1 => ⟨hct, hm, hi, hs, by
      obtain ⟨h1, h2, -⟩ := Cx.deep_same fns cx n
      exact hand_ok (Cx.deep_ok hct hm hi hs hf n) (h1.symm) (h2.symm) rfl (by rw [h1]; exact hf)⟩
end Go.Proofs.Ytlbgcjpkegpmlaa
/- The engine's last part: tables of contracts. -/
namespace Go.Proofs.Ytlbgcjpkegpmlaa
open Go.RowKit
set_option linter.unusedSimpArgs false
set_option linter.unusedVariables false

/-- A contract whose result is a function of the arguments. -/
def ctF (args res : List Sh0) (pre : List C → Prop) (g : List C → List C) : Ct := ⟨args, res, pre, fun cs rs => rs = g cs, true⟩
/-- A statement: it returns true. -/
def ctLaw (args : List Sh0) : Ct := ⟨args, [.lf .bool], fun _ => True, fun _ rs => rs = [.b true], false⟩
theorem ctF_det {args res : List Sh0} {pre : List C → Prop} {g : List C → List C} : (ctF args res pre g).det = true → ∀ cs rs rs', (ctF args res pre g).post cs rs → (ctF args res pre g).post cs rs' → rs = rs' :=
  fun _ _ _ _ h h' => h.trans h'.symm
/-- What the program's tables hold of a function. -/
structure Tab where
  ct : Nat → Option Ct
  inl : Nat → Option Inl
  sel : Nat → Option Sel := fun _ => none
/-- Functions that are carried out in place. -/
def fnsOf : List (Nat × Func) → Nat → Option Func
  | [], _ => none
  | (k, fn) :: l, f => if k = f then some fn else fnsOf l f
def FnOK (p : Nat × Func) : Prop := Try.prog.funcs[p.1]? = some p.2 ∧ Callable Try.prog p.1
noncomputable def Tab.only (t : Tab) (l : List Nat) (hv : Nat → List Pl) (fns : List (Nat × Func) := []) (n : Nat := 0) (wr : List Nat := []) (jn : Nat → Option (List (Nat × Bool × List Lk) × List Pl) := fun _ => none) : Cx :=
  Cx.deep (fnsOf fns) { P := Try.prog, ct := fun f => if l.contains f then t.ct f else none, inl := fun f => if l.contains f then t.inl f else none, sel := fun f => if l.contains f then t.sel f else none, hv := hv, H := fun _ _ _ _ => none, wr := wr, jn := jn } n
/-- What is shown of one function of a table. -/
def Tab.ok (t : Tab) (f : Nat) : Prop := Callable Try.prog f ∧ (∀ ct, t.ct f = some ct → CtOK Try.prog f ct ∧ (ct.det = true → ∀ cs rs rs', ct.post cs rs → ct.post cs rs' → rs = rs')) ∧ (∀ g, t.inl f = some g → InlOK Try.prog f g) ∧ ∀ g, t.sel f = some g → SelOK Try.prog f g
theorem mixedOrders : Try.prog.follows .mixedOrders = true := by kernel_rfl
theorem fns_nil : ∀ p ∈ ([] : List (Nat × Func)), FnOK p := fun p hp => by cases hp
theorem fns_cons {p : Nat × Func} {l : List (Nat × Func)} (h : FnOK p) (h' : ∀ q ∈ l, FnOK q) : ∀ q ∈ p :: l, FnOK q := fun q hq => by
  rcases List.mem_cons.1 hq with rfl | hq
  · exact h
  · exact h' q hq
theorem fnsOf_ok : ∀ {l : List (Nat × Func)}, (∀ p ∈ l, FnOK p) → ∀ f fn, fnsOf l f = some fn → Try.prog.funcs[f]? = some fn ∧ Callable Try.prog f
  | [], _, f, fn, h => by cases h
  | (k, g) :: l, hl, f, fn, h => by
    simp only [fnsOf] at h
    split at h
    · rename_i e; subst e; cases h; exact hl (k, g) (by simp)
    · exact fnsOf_ok (fun p hp => hl p (by simp [hp])) f fn h
theorem Tab.cx_ok {t : Tab} {l : List Nat} {hv : Nat → List Pl} {fns : List (Nat × Func)} {n : Nat} {wr : List Nat} {jn : Nat → Option (List (Nat × Bool × List Lk) × List Pl)} (h : ∀ f ∈ l, t.ok f) (hf : ∀ p ∈ fns, FnOK p := by exact fns_nil) : CxOK (t.only l hv fns n wr jn) := by
  refine Cx.deep_ok (fun f ct hf => ?_) mixedOrders (fun f g hf => ?_) (fun f g hf => ?_) (fnsOf_ok hf) n
  · simp only [] at hf
    split at hf
    · rename_i hc
      obtain ⟨h1, h2, h3⟩ := h f (by simpa using hc)
      exact ⟨h1, h2 ct hf⟩
    · cases hf
  · simp only [] at hf
    split at hf
    · rename_i hc
      obtain ⟨h1, h2, h3, h4⟩ := h f (by simpa using hc)
      exact ⟨h1, h3 g hf⟩
    · cases hf
  · simp only [] at hf
    split at hf
    · rename_i hc
      obtain ⟨h1, h2, h3, h4⟩ := h f (by simpa using hc)
      exact ⟨h1, h4 g hf⟩
    · cases hf
theorem Tab.of_ct {t : Tab} {f : Nat} {ct : Ct} (h1 : t.ct f = some ct) (h2 : t.inl f = none) (hc : Callable Try.prog f) (hok : CtOK Try.prog f ct) (hdet : ct.det = true → ∀ cs rs rs', ct.post cs rs → ct.post cs rs' → rs = rs') (h3 : t.sel f = none := by rfl) : t.ok f :=
  ⟨hc, fun c h => (by rw [h1] at h; cases h; exact ⟨hok, hdet⟩), fun g h => (by rw [h2] at h; cases h), fun g h => (by rw [h3] at h; cases h)⟩
theorem Tab.of_inl {t : Tab} {f : Nat} {g : Inl} (h1 : t.ct f = none) (h2 : t.inl f = some g) (hc : Callable Try.prog f) (hok : InlOK Try.prog f g) (h3 : t.sel f = none := by rfl) : t.ok f :=
  ⟨hc, fun c h => (by rw [h1] at h; cases h), fun g' h => (by rw [h2] at h; cases h; exact hok), fun g h => (by rw [h3] at h; cases h)⟩
theorem Tab.of_sel {t : Tab} {f : Nat} {g : Sel} (h1 : t.ct f = none) (h2 : t.inl f = none) (hc : Callable Try.prog f) (h3 : t.sel f = some g) (hok : SelOK Try.prog f g) : t.ok f :=
  ⟨hc, fun c h => (by rw [h1] at h; cases h), fun g h => (by rw [h2] at h; cases h), fun g' h => (by rw [h3] at h; cases h; exact hok)⟩
theorem all_nil {p : Nat → Prop} : ∀ f ∈ ([] : List Nat), p f := fun f h => by cases h
theorem all_cons {p : Nat → Prop} {a : Nat} {l : List Nat} (h : p a) (h' : ∀ f ∈ l, p f) : ∀ f ∈ a :: l, p f := fun f hf => by
  rcases List.mem_cons.1 hf with rfl | hf
  · exact h
  · exact h' f hf

/-! A function written out in place, out of its contract -/
theorem LReps.plain {P : Program} {w : World} {O : Nat → Nat → Prop} {Γ : Env} : ∀ {ls : List Lf} {ks : List Lk} {us : List Value}, kindsL ls = some ks → ls.all Lf.plain = true → LReps P w O ks us (cs_ Γ.ρ ls) → us = ls.map (Lf.den Γ)
  | [], ks, us, hk, _, h => by simp [kindsL] at hk; subst hk; cases us with | nil => rfl | cons u us => exact h.elim
  | l :: ls, ks, us, hk, hp, h => by
    simp only [kindsL] at hk
    split at hk
    · rename_i k ks' h1 h2
      cases hk
      simp only [List.all_cons, Bool.and_eq_true] at hp
      cases us with
      | nil => exact h.elim
      | cons u us =>
        obtain ⟨h3, h4⟩ := h
        rw [LReps.plain h2 hp.2 h4]
        have : u = l.den Γ := by
          cases l with
          | int e => cases h1; obtain ⟨n, rfl, hn⟩ := h3.2; cases hn; rfl
          | bool e => cases h1; obtain ⟨n, rfl, hn⟩ := h3.2; cases hn; rfl
          | _ => cases hp.1
        rw [this]; rfl
    · cases hk
theorem Rep0.plain {P : Program} {w : World} {O : Nat → Nat → Prop} {old : Option Nat} {Γ : Env} {s : S0} {sh : Sh0} {v : Value} (hs : s.shape = some sh) (hp : s.plain = true) (h : Rep0 P w O old sh v (cs_ Γ.ρ s.cells)) : v = s.den Γ := by
  cases s with
  | lf l =>
    simp only [S0.shape, Option.map_eq_some_iff] at hs
    obtain ⟨k, hk, rfl⟩ := hs
    obtain ⟨c, hc, hr⟩ := h
    have := LReps.plain (P := P) (w := w) (O := O) (Γ := Γ) (ls := [l]) (ks := [k]) (us := [v]) (by simp [kindsL, hk]) hp (by
      have e : cs_ Γ.ρ (S0.lf l).cells = [c] := hc
      show LReps P w O [k] [v] (cs_ Γ.ρ (S0.lf l).cells)
      rw [e]; exact ⟨hr, trivial⟩)
    simpa [S0.den] using this
  | agg ls =>
    simp only [S0.shape, Option.map_eq_some_iff] at hs
    obtain ⟨k, hk, rfl⟩ := hs
    obtain ⟨us, rfl, hr⟩ := h
    rw [LReps.plain hk hp hr]
    rfl
theorem shapes_nil_noBox : ∀ {args : List S0} {ss : List Sh0}, shapes [] args = some ss → ss.all (fun s => !s.isBox) = true
  | [], ss, h => by simp [shapes] at h; subst h; rfl
  | s :: args, ss, h => by
    simp only [shapes] at h
    split at h
    · rename_i sh hss h1 h2
      cases h
      simp only [List.all_cons, Bool.and_eq_true]
      refine ⟨?_, shapes_nil_noBox h2⟩
      unfold S0.shapeM at h1
      split at h1
      · cases h1
      · cases s with
        | lf l => simp only [S0.shape, Option.map_eq_some_iff] at h1; obtain ⟨k, -, rfl⟩ := h1; rfl
        | agg l => simp only [S0.shape, Option.map_eq_some_iff] at h1; obtain ⟨k, -, rfl⟩ := h1; rfl
    · cases h
theorem Keeps.noBox {ss : List Sh0} {vs : List Value} {w w' : World} (hn : ss.all (fun s => !s.isBox) = true) (h : Keeps (fun i => i < w.heap.size ∧ ¬ IsBox ss vs i) w w') : Below w.heap.size w w' :=
  ⟨h.os, h.tape, h.output, h.size, fun i hi => h.block i ⟨hi, isBox_noBox hn⟩⟩
theorem Inl.of_ct {f : Nat} {g : Inl} {args : List Sh0} {r : Sh0} {pre : List C → Prop} {fn : List C → List C} (hf : CtOK Try.prog f (ctF args [r] pre fn))
    (h : ∀ bd ρ l obs s, g bd l = some (obs, s) → Num bd ρ → Obs ρ obs → shapes [] l = some args ∧ l.all S0.plain = true ∧ Obs ρ (rngL bd (cellsOf [] l)) ∧ pre (cs_ ρ (cellsOf [] l)) ∧ s.plain = true ∧ s.shape = some r ∧ fn (cs_ ρ (cellsOf [] l)) = cs_ ρ s.cells) : InlOK Try.prog f g := by
  intro Γ bd l obs s hn hg ho
  obtain ⟨h1, h2, h3, h4, h5, h6, h7⟩ := h bd Γ.ρ l obs s hg hn ho
  refine ⟨h5, fun w => ?_⟩
  have hno := shapes_nil_noBox h1
  have hreps := cells_rep (P := Try.prog) (w := w) (O := fun _ _ => False) (Γ := Γ) (old := none) hn h1 (fun s hs l hl => by
    have := List.all_eq_true.1 (List.all_eq_true.1 h2 s hs) l hl
    cases l <;> first | trivial | cases this) (fun b mb _ hb => by cases hb) h3
  refine (hf (fun _ _ => False) w _ _ (fun b o hb => hb.elim) hreps h4).mono ?_
  rintro e w' ⟨v, rs, outs, rfl, ⟨vs, rfl, hr, -⟩, hout, hpost, hb⟩
  refine ⟨?_, hb.noBox hno⟩
  have ho := outs_noBox hno hout
  subst ho
  have hrs : rs = cs_ Γ.ρ s.cells := by have := hpost.trans h7; rwa [List.append_nil] at this
  subst hrs
  match vs, hr with
  | [v], hr =>
    obtain ⟨c1, c2, hc, hr1, hr2⟩ := hr
    cases hr2
    rw [List.append_nil] at hc
    subst hc
    rw [Rep0.plain h6 h5 hr1]

/-! A statement's call -/
theorem law_walk {f : Nat} {ss : List Sh0} (h : CtOK Try.prog f (ctLaw ss)) (hno : ss.all (fun s => !s.isBox) = true) {W : World} {vs : List Value} {cs : List C} (hr : Reps Try.prog W (fun _ _ => False) none ss vs cs) :
    Calls Try.prog f vs.toArray W fun e w' => e = .returned (.bool true) ∧ Below W.heap.size W w' := by
  refine (h (fun _ _ => False) W vs cs (fun _ _ hb => hb.elim) hr trivial).mono ?_
  rintro e w' ⟨v, rs, outs, rfl, ⟨us, rfl, hres, -⟩, hout, hpost, hb⟩
  refine ⟨?_, hb.noBox hno⟩
  have ho := outs_noBox hno hout
  subst ho
  have hrs : rs = [.b true] := by have : rs ++ [] = [.b true] := hpost; rwa [List.append_nil] at this
  subst hrs
  match us, hres with
  | [v], hres =>
    obtain ⟨c1, c2, hc, ⟨c, rfl, hr1⟩, hr2⟩ := hres
    cases hr2
    cases hc
    obtain ⟨t, rfl, ht⟩ := hr1.2
    cases ht
    rfl
theorem rep_int {W : World} {O : Nat → Nat → Prop} {n : Int} (h : -9223372036854775808 ≤ n ∧ n ≤ 9223372036854775807) : LRep Try.prog W O .int (.int .i64 n) (.i n) :=
  ⟨fun m => by cases m <;> exact h, n, rfl, rfl⟩
theorem reps_ints {W : World} {O : Nat → Nat → Prop} : ∀ (ns : List Int), (∀ n ∈ ns, -9223372036854775808 ≤ n ∧ n ≤ 9223372036854775807) → LReps Try.prog W O (List.replicate ns.length .int) (ns.map (Value.int .i64)) (ns.map .i)
  | [], _ => trivial
  | n :: ns, h => ⟨rep_int (h n (by simp)), reps_ints ns fun m hm => h m (by simp [hm])⟩
theorem rep_agg {W : World} {O : Nat → Nat → Prop} {ss : List Sh0} {vs : List Value} {cs : List C} (ns : List Int) (h : ∀ n ∈ ns, -9223372036854775808 ≤ n ∧ n ≤ 9223372036854775807) {old : Option Nat} (hr : Reps Try.prog W O old ss vs cs) :
    Reps Try.prog W O old (.agg (List.replicate ns.length .int) :: ss) (.agg (ns.map (Value.int .i64)).toArray :: vs) (ns.map .i ++ cs) :=
  ⟨_, _, rfl, ⟨_, rfl, reps_ints ns h⟩, hr⟩
theorem rep_lf {W : World} {O : Nat → Nat → Prop} {ss : List Sh0} {vs : List Value} {cs : List C} {n : Int} (h : -9223372036854775808 ≤ n ∧ n ≤ 9223372036854775807) {old : Option Nat} (hr : Reps Try.prog W O old ss vs cs) :
    Reps Try.prog W O old (.lf .int :: ss) (.int .i64 n :: vs) (.i n :: cs) :=
  ⟨[_], _, rfl, ⟨_, rfl, rep_int h⟩, hr⟩

/-! Reading a tree -/
theorem den_cmp_le (ρ : List C) (a b : E) : ((B.cmp .le a b).den ρ = true) = (a.den ρ ≤ b.den ρ) := by simp [B.den, Cmp.den]
theorem den_cmp_lt (ρ : List C) (a b : E) : ((B.cmp .lt a b).den ρ = true) = (a.den ρ < b.den ρ) := by simp [B.den, Cmp.den]
theorem den_cmp_eq (ρ : List C) (a b : E) : ((B.cmp .eq a b).den ρ = true) = (a.den ρ = b.den ρ) := by simp [B.den, Cmp.den]
theorem den_cmp_ne (ρ : List C) (a b : E) : ((B.cmp .ne a b).den ρ = true) = (a.den ρ ≠ b.den ρ) := by simp [B.den, Cmp.den]
theorem den_cmp_le' (ρ : List C) (a b : E) : ((B.cmp .le a b).den ρ = false) = (b.den ρ < a.den ρ) := by simp [B.den, Cmp.den]
theorem den_cmp_lt' (ρ : List C) (a b : E) : ((B.cmp .lt a b).den ρ = false) = (b.den ρ ≤ a.den ρ) := by simp [B.den, Cmp.den]
theorem den_cmp_eq' (ρ : List C) (a b : E) : ((B.cmp .eq a b).den ρ = false) = (a.den ρ ≠ b.den ρ) := by simp [B.den, Cmp.den]
theorem den_cmp_ne' (ρ : List C) (a b : E) : ((B.cmp .ne a b).den ρ = false) = (a.den ρ = b.den ρ) := by simp [B.den, Cmp.den]
theorem den_and (ρ : List C) (a b : B) : ((B.and a b).den ρ = true) = (a.den ρ = true ∧ b.den ρ = true) := by simp [B.den]
theorem den_and' (ρ : List C) (a b : B) : ((B.and a b).den ρ = false) = (a.den ρ = true → b.den ρ = false) := by
  simp only [B.den]; cases a.den ρ <;> cases b.den ρ <;> simp
theorem den_or (ρ : List C) (a b : B) : ((B.or a b).den ρ = true) = (a.den ρ = true ∨ b.den ρ = true) := by simp [B.den]
theorem den_or' (ρ : List C) (a b : B) : ((B.or a b).den ρ = false) = (a.den ρ = false ∧ b.den ρ = false) := by simp [B.den]
theorem den_not (ρ : List C) (a : B) : ((B.not a).den ρ = true) = (a.den ρ = false) := by simp [B.den]
theorem den_not' (ρ : List C) (a : B) : ((B.not a).den ρ = false) = (a.den ρ = true) := by simp [B.den]
theorem den_blit (ρ : List C) (t : Bool) : (B.lit t).den ρ = t := rfl
theorem den_of (ρ : List C) (e : E) : (B.of e).den ρ = (e.ev ρ).bool := rfl
theorem ev_var (ρ : List C) (i : Nat) : (E.var i).ev ρ = at_ ρ i := rfl
theorem at_nil (i : Nat) : at_ [] i = .i 0 := rfl
theorem at_zero (c : C) (l : List C) : at_ (c :: l) 0 = c := rfl
theorem at_succ (c : C) (l : List C) (i : Nat) : at_ (c :: l) (i + 1) = at_ l i := rfl
theorem at_0 (a : C) (l : List C) : at_ (a :: l) 0 = a := rfl
theorem at_1 (a b : C) (l : List C) : at_ (a :: b :: l) 1 = b := rfl
theorem at_2 (a b c : C) (l : List C) : at_ (a :: b :: c :: l) 2 = c := rfl
theorem at_3 (a b c d : C) (l : List C) : at_ (a :: b :: c :: d :: l) 3 = d := rfl
theorem at_4 (a b c d e : C) (l : List C) : at_ (a :: b :: c :: d :: e :: l) 4 = e := rfl
theorem at_5 (a b c d e f : C) (l : List C) : at_ (a :: b :: c :: d :: e :: f :: l) 5 = f := rfl
theorem at_6 (a b c d e f g : C) (l : List C) : at_ (a :: b :: c :: d :: e :: f :: g :: l) 6 = g := rfl
theorem at_7 (a b c d e f g h : C) (l : List C) : at_ (a :: b :: c :: d :: e :: f :: g :: h :: l) 7 = h := rfl
theorem at_skip (a b c d e f g h : C) (l : List C) (i : Nat) : at_ (a :: b :: c :: d :: e :: f :: g :: h :: l) (i + 8) = at_ l i := rfl
theorem c_int (ρ : List C) (e : E) : (Lf.int e).c ρ = .i (e.den ρ) := rfl
theorem c_bool (ρ : List C) (b : B) : (Lf.bool b).c ρ = .b (b.den ρ) := rfl
theorem c_arr (ρ : List C) (t : TypeId) (e : E) : (Lf.arr t e).c ρ = e.ev ρ := rfl
theorem c_cnt (ρ : List C) (t : TypeId) (e : E) : (Lf.cnt t e).c ρ = e.ev ρ := rfl
theorem c_vec (ρ : List C) (t : TypeId) (i : Nat) : (Lf.vec t i).c ρ = at_ ρ i := rfl
theorem ev_nil (ρ : List C) : E.nil.ev ρ = .s (.slice none 0 0) [] := rfl
theorem ev_join (ρ : List C) (l r : E) : (E.join l r).ev ρ = .s (l.ev ρ).loc (r.ev ρ).rows := rfl
theorem ev_sub3 (ρ : List C) (a lo hi : E) (sz : Nat) : (E.sub3 a lo hi sz).ev ρ = .s (partLoc (a.ev ρ).loc (lo.den ρ).toNat (hi.den ρ).toNat sz) (((a.ev ρ).rows.take (hi.den ρ).toNat).drop (lo.den ρ).toNat) := rfl
theorem ev_cell (ρ : List C) (a x : E) (o : Nat) : (E.cell a x o).ev ρ = (a.ev ρ).at (x.den ρ).toNat o := rfl
theorem loc_s (v : Value) (r : List (List C)) : (C.s v r).loc = v := rfl
theorem int_i (n : Int) : (C.i n).int = n := rfl
theorem bool_b (t : Bool) : (C.b t).bool = t := rfl
theorem rows_s (v : Value) (r : List (List C)) : (C.s v r).rows = r := rfl
theorem cs_nil (ρ : List C) : cs_ ρ [] = [] := rfl
theorem cs_cons (ρ : List C) (l : Lf) (ls : List Lf) : cs_ ρ (l :: ls) = l.c ρ :: cs_ ρ ls := rfl
theorem vc_both {cx : Cx} {R : List C → Prop} {a b : Tree} {ρ : List C} {Ls : List (List C → Prop)} : VC cx R (.both a b) ρ Ls = (VC cx R a ρ Ls ∧ VC cx R b ρ Ls) := rfl
theorem kindsOf_nil : kindsOf [] = [] := rfl
theorem kindsOf_lf (k : Lk) (l : List Sh0) : kindsOf (.lf k :: l) = k :: kindsOf l := rfl
theorem kindsOf_box (t : TypeId) (ks : List Lk) (l : List Sh0) : kindsOf (.box t ks :: l) = ks ++ kindsOf l := rfl
theorem boxKinds_nil : boxKinds [] = [] := rfl
theorem boxKinds_lf (k : Lk) (l : List Sh0) : boxKinds (.lf k :: l) = boxKinds l := rfl
theorem boxKinds_agg (k : List Lk) (l : List Sh0) : boxKinds (.agg k :: l) = boxKinds l := rfl
theorem boxKinds_box (t : TypeId) (k : List Lk) (l : List Sh0) : boxKinds (.box t k :: l) = k ++ boxKinds l := rfl
theorem kindsOf_agg (ks : List Lk) (l : List Sh0) : kindsOf (.agg ks :: l) = ks ++ kindsOf l := rfl
theorem bds_nil (ρ : List C) : Bds.ok [] ρ := fun x lo hi h => by cases h
theorem cell_at (v : Value) (rows : List (List C)) (i o : Nat) : (C.s v rows).at i o = (rows.getD i []).getD o (.i 0) := rfl
end Go.Proofs.Ytlbgcjpkegpmlaa
/- What each function of the program computes: the table. -/
namespace Go.Proofs.Ytlbgcjpkegpmlaa
set_option linter.unusedVariables false

def withinI : Inl := fun bd l => match l with
  | [.lf (.int n), .lf (.int a), .lf (.int b)] => some (rngL bd (cellsOf [] l), .lf (.bool (.and (B.mkCmp bd .le a n) (B.mkCmp bd .le n b))))
  | _ => none
def fairI : Inl := fun bd l => match l with
  | [.agg [.int lo, .int hi], .lf (.int a), .lf (.int b)] => some (rngL bd (cellsOf [] l), .lf (.bool (.and (B.mkCmp bd .le a lo) (.and (B.mkCmp bd .le lo hi) (B.mkCmp bd .le hi b)))))
  | _ => none
def ctWithin : Ct := ctF [.lf .int, .lf .int, .lf .int] [.lf .bool] (fun _ => True) (fun cs => match cs with | [.i n, .i a, .i b] => [.b (decide (a ≤ n) && decide (n ≤ b))] | _ => [])
def ctFair : Ct := ctF [.agg [.int, .int], .lf .int, .lf .int] [.lf .bool] (fun _ => True) (fun cs => match cs with | [.i lo, .i hi, .i a, .i b] => [.b (decide (a ≤ lo) && (decide (lo ≤ hi) && decide (hi ≤ b)))] | _ => [])
def ctFloor : Ct := ctF [.lf .int, .lf .int] [.lf .int] (fun cs => match cs with | [.i _, .i b] => 0 < b | _ => False) (fun cs => match cs with | [.i a, .i b] => [.i (a / b)] | _ => [])

def ShutOK (pl ph cl ch gl gh we de ar : Int) : Prop :=
  0 ≤ pl ∧ pl ≤ ph ∧ ph ≤ 68719476736 ∧ 0 ≤ cl ∧ cl ≤ ch ∧ ch ≤ 68719476736 ∧ 1 ≤ we ∧ we ≤ 40000 ∧ 1 ≤ de ∧ de ≤ 1048576 ∧ 1 ≤ ar ∧ ar ≤ 5000 ∧ ar ≤ gl ∧ gl ≤ gh ∧ gh ≤ 1073741824
instance {pl ph cl ch gl gh we de ar : Int} : Decidable (ShutOK pl ph cl ch gl gh we de ar) := by unfold ShutOK; infer_instance
def shutE (pl ph cl ch gl gh we de ar : Int) : Int := if ShutOK pl ph cl ch gl gh we de ar then (if cl < ph then 11 else 0) else 2
def kindW (lo hi : Int) : Int := if hi ≤ 3500 then 1 else if 9000 ≤ lo then 3 else if 3500 < lo ∧ hi < 9000 then 2 else 4
def identL (pl ph cl ch gl gh we de ar : Int) : List C :=
  if shutE pl ph cl ch gl gh we de ar = 0 then
    let hl := gl / ar
    let hh := (gh + ar - 1) / ar
    let wl := we + (pl - ch) / hl
    let wh := we - (cl - ph) / hh
    [.i (pl + we * de), .i (ph + we * de), .i hl, .i hh, .i wl, .i wh, .i (kindW wl wh), .i 0]
  else [.i 0, .i 0, .i 0, .i 0, .i 0, .i 0, .i 0, .i (shutE pl ph cl ch gl gh we de ar)]
def shutSh : Sh0 := .agg [.int, .int, .int, .int, .int, .int, .int, .int, .int]
def ingSh : Sh0 := .agg [.int, .int, .int, .int, .int, .int, .int]
def ctShut : Ct := ctF [shutSh] [.lf .int] (fun _ => True) (fun cs => match cs with | [.i a, .i b, .i c, .i d, .i e, .i f, .i g, .i h, .i i] => [.i (shutE a b c d e f g h i)] | _ => [])
def ctIdent : Ct := ctF [shutSh] [ingSh, .lf .int] (fun _ => True) (fun cs => match cs with | [.i a, .i b, .i c, .i d, .i e, .i f, .i g, .i h, .i i] => identL a b c d e f g h i | _ => [])
def ctAwake : Ct := ctF [] [.lf .bool] (fun _ => True) (fun _ => [.b true])

/-! The ring of numbers -/
def ringSh : Sh0 := .box 99 [.arr 3, .int]
def ctMod : Ct := ctF [.lf .int, .lf .int] [.lf .int] (fun cs => match cs with | [.i _, .i m] => 1 ≤ m ∧ m ≤ 4611686018427387904 | _ => False) (fun cs => match cs with | [.i n, .i m] => [.i (n % m)] | _ => [])
def ctNewRing : Ct := ctF [.lf (.arr 3)] [ringSh] (fun _ => True) (fun cs => match cs with | [c] => [c, .i 0] | _ => [])
def ctNext : Ct := ⟨[ringSh, .lf .int], [.lf .int], fun cs => match cs with | [.s _ _, .i at_, .i n] => 0 ≤ at_ ∧ at_ ≤ 1000000 ∧ 1 ≤ n | _ => False,
  fun cs rs => match cs, rs with | [.s v rows, .i at_, .i n], [.i x, .s v' rows', .i at'] => 0 ≤ x ∧ x < n ∧ v' = v ∧ rows' = rows ∧ at' = at_ + 1 | _, _ => False, false⟩
def atPre (n : Int) (cs : List C) : Prop := match cs with | [.s _ _, .i at_] => 0 ≤ at_ ∧ at_ ≤ n | _ => False
def ctKickOf : Ct := ⟨[ringSh], [.agg [.int, .int]], atPre 100000,
  fun cs rs => match cs, rs with | [.s v rows, .i at_], [.i a, .i b, .s v' rows', .i at'] => 0 ≤ a ∧ a ≤ 9998 ∧ 0 ≤ b ∧ b ≤ 299 ∧ v' = v ∧ rows' = rows ∧ at' = at_ + 4 | _, _ => False, false⟩
def ShutGood (pl ph cl ch gl gh we de ar : Int) : Prop :=
  9000 ≤ we ∧ we < 21000 ∧ 1 ≤ de ∧ de ≤ 400000 ∧ 1 ≤ ar ∧ ar ≤ 500 ∧ 0 ≤ pl ∧ pl < 1048576 ∧ pl ≤ ph ∧ ph ≤ pl + 524288 ∧ ph ≤ cl ∧ cl ≤ ph + 209715200 ∧ cl ≤ ch ∧ ch ≤ cl + 524288 ∧ ar ≤ gl ∧ gl < ar + 1048576 ∧ gl ≤ gh ∧ gh ≤ gl + 32768
def ctShutOf : Ct := ⟨[ringSh], [shutSh], atPre 100000,
  fun cs rs => match rs with | [.i a, .i b, .i c, .i d, .i e, .i f, .i g, .i h, .i i, .s _ _, .i _] => ShutGood a b c d e f g h i | _ => False, false⟩
def ctLWithin : Ct := ctF [.agg [.int, .int], .lf .int] [.agg [.int, .int]] (fun cs => match cs with | [.i lo, .i hi, .i _] => 0 ≤ lo ∧ lo ≤ hi ∧ hi ≤ 1099511627776 | _ => False)
  (fun cs => match cs with | [.i lo, .i hi, .i n] => [.i (lo + n % (hi - lo + 1)), .i (lo + n % (hi - lo + 1))] | _ => [])
def inI : Inl := fun bd l => match l with
  | [.agg [.int a, .int b], .agg [.int c, .int d]] => some (rngL bd (cellsOf [] l), .lf (.bool (.and (B.mkCmp bd .le c a) (B.mkCmp bd .le b d))))
  | _ => none
def ctIn : Ct := ctF [.agg [.int, .int], .agg [.int, .int]] [.lf .bool] (fun _ => True) (fun cs => match cs with | [.i a, .i b, .i c, .i d] => [.b (decide (c ≤ a) && decide (b ≤ d))] | _ => [])

/-! Kicks and sensors -/
def KOk (r g : Int) : Prop := 0 ≤ r ∧ r ≤ 16777216 ∧ 0 ≤ g ∧ g ≤ 4096
instance {r g : Int} : Decidable (KOk r g) := by unfold KOk; infer_instance
def kickE (r g : Int) : Int := if KOk r g then 0 else 2
def kicksE (rl rh gl gh : Int) : Int := if rl ≤ rh ∧ gl ≤ gh ∧ KOk rl gl ∧ KOk rh gh then 0 else 2
def SOk (pe de no st lo li ho : Int) : Prop := 1 ≤ pe ∧ pe ≤ 60 ∧ 0 ≤ de ∧ de ≤ 600 ∧ 0 ≤ no ∧ no ≤ 15 ∧ 1 ≤ st ∧ st ≤ 1048576 ∧ 0 ≤ lo ∧ lo ≤ 5 ∧ 1 ≤ li ∧ li ≤ 1099511627776 ∧ 1 ≤ ho ∧ ho ≤ 8
instance {pe de no st lo li ho : Int} : Decidable (SOk pe de no st lo li ho) := by unfold SOk; infer_instance
def sensE (ch pe de no st lo li ho : Int) : Int := if ch = 1 ∨ ch = 2 then (if SOk pe de no st lo li ho then 0 else 2) else 4
def sensRow (r : List C) : Int := sensE (r.getD 0 (.i 0)).int (r.getD 1 (.i 0)).int (r.getD 2 (.i 0)).int (r.getD 3 (.i 0)).int (r.getD 4 (.i 0)).int (r.getD 5 (.i 0)).int (r.getD 6 (.i 0)).int (r.getD 7 (.i 0)).int
def firstE : List (List C) → Int
  | [] => 0
  | r :: l => if sensRow r = 0 then firstE l else sensRow r
def sensorsE (rows : List (List C)) : Int := if rows.length = 0 then 6 else if 4 < rows.length then 8 else firstE rows
def flowV (r g n : Int) : Int := if KOk r g ∧ 0 ≤ n ∧ n ≤ 20000 then r + n * g else 0
def gainV (r g n : Int) : Int := if KOk r g ∧ 0 ≤ n ∧ n ≤ 20000 then n * r + g * (n * (n - 1) / 2) else 0
def saysV (ch r g n : Int) : Int := if ch = 1 then gainV r g n else flowV r g n
def valueV (ch pe de no st lo li ho r g n e : Int) : Int := if sensE ch pe de no st lo li ho = 0 ∧ KOk r g ∧ -no ≤ e ∧ e ≤ no ∧ n ≤ 20000 then saysV ch r g n + e * st else 0
def kickSh : Sh0 := .agg [.int, .int]
def kicksSh : Sh0 := .agg [.int, .int, .int, .int]
def sensSh : Sh0 := .agg [.int, .int, .int, .int, .int, .int, .int, .int]
def ctKick : Ct := ctF [kickSh] [.lf .int] (fun _ => True) (fun cs => match cs with | [.i r, .i g] => [.i (kickE r g)] | _ => [])
def ctLeast : Ct := ctF [kicksSh] [kickSh] (fun _ => True) (fun cs => match cs with | [.i a, .i _, .i c, .i _] => [.i a, .i c] | _ => [])
def ctKicks : Ct := ctF [kicksSh] [.lf .int] (fun _ => True) (fun cs => match cs with | [.i a, .i b, .i c, .i d] => [.i (kicksE a b c d)] | _ => [])
def ctSens : Ct := ctF [sensSh] [.lf .int] (fun _ => True) (fun cs => match cs with | [.i a, .i b, .i c, .i d, .i e, .i f, .i g, .i h] => [.i (sensE a b c d e f g h)] | _ => [])
def ctSensors : Ct := ctF [.lf (.arr 23)] [.lf .int] (fun _ => True) (fun cs => match cs with | [.s _ rows] => [.i (sensorsE rows)] | _ => [])
def ctFlow : Ct := ctF [kickSh, .lf .int] [.lf .int] (fun _ => True) (fun cs => match cs with | [.i r, .i g, .i n] => [.i (flowV r g n)] | _ => [])
def ctGain : Ct := ctF [kickSh, .lf .int] [.lf .int] (fun _ => True) (fun cs => match cs with | [.i r, .i g, .i n] => [.i (gainV r g n)] | _ => [])
def ctFlow1 : Ct := ctF [kickSh, .lf .int] [.lf .int] (fun cs => match cs with | [.i r, .i g, .i n] => KOk r g ∧ n ≤ 20000 | _ => False) (fun cs => match cs with | [.i r, .i g, .i n] => [.i (flowV r g n)] | _ => [])
def ctGain1 : Ct := ctF [kickSh, .lf .int] [.lf .int] (fun cs => match cs with | [.i r, .i g, .i n] => KOk r g ∧ n ≤ 20000 | _ => False) (fun cs => match cs with | [.i r, .i g, .i n] => [.i (gainV r g n)] | _ => [])
def ctSays : Ct := ctF [sensSh, kickSh, .lf .int] [.lf .int] (fun _ => True) (fun cs => match cs with | [.i ch, .i _, .i _, .i _, .i _, .i _, .i _, .i _, .i r, .i g, .i n] => [.i (saysV ch r g n)] | _ => [])
def ctValue : Ct := ctF [sensSh, kickSh, .lf .int, .lf .int] [.lf .int] (fun _ => True) (fun cs => match cs with | [.i a, .i b, .i c, .i d, .i e, .i f, .i g, .i h, .i r, .i q, .i n, .i x] => [.i (valueV a b c d e f g h r q n x)] | _ => [])

def saysS : Sel := fun bd l => match l with
  | [.agg [.int ch, .int _, .int _, .int _, .int _, .int _, .int _, .int _], .agg [.int r, .int g]] => some ([], B.mkCmp bd .eq ch (.lit 2), .fn 67 [.int r, .int g], .fn 66 [.int r, .int g])
  | _ => none

/-! Samples: rows of a sensor's number, a tick and a value -/
def measV (no st ch r g n v : Int) : Prop := n ≤ 20000 ∧ (v - saysV ch r g n).tmod st = 0 ∧ -no ≤ (v - saysV ch r g n).tdiv st ∧ (v - saysV ch r g n).tdiv st ≤ no
instance {no st ch r g n v : Int} : Decidable (measV no st ch r g n v) := by unfold measV; infer_instance
def cell_ (r : List C) (k : Nat) : Int := (r.getD k (.i 0)).int
/-- A sensor and a kick, as numbers. -/
structure SK where
  ch : Int
  pe : Int
  de : Int
  no : Int
  st : Int
  lo : Int
  li : Int
  ho : Int
  r : Int
  g : Int
def stepV (x : SK) (begin se ph last : Int) (row : List C) : Prop :=
  0 ≤ cell_ row 1 ∧ cell_ row 1 ≤ 40000 ∧ cell_ row 0 = se ∧ (cell_ row 1).tmod x.pe = ph ∧ 1 ≤ (cell_ row 1).tdiv x.pe - last ∧ (cell_ row 1).tdiv x.pe - last ≤ x.lo + 1 ∧ measV x.no x.st x.ch x.r x.g (cell_ row 1 - begin) (cell_ row 2)
instance {x : SK} {begin se ph last : Int} {row : List C} : Decidable (stepV x begin se ph last row) := by unfold stepV; infer_instance
def possL (x : SK) (begin se ph : Int) : Int → List (List C) → Bool
  | _, [] => true
  | last, row :: l => decide (stepV x begin se ph last row) && possL x begin se ph ((cell_ row 1).tdiv x.pe) l
def SKOk (x : SK) : Prop := sensE x.ch x.pe x.de x.no x.st x.lo x.li x.ho = 0 ∧ KOk x.r x.g
instance {x : SK} : Decidable (SKOk x) := by unfold SKOk; infer_instance
def possV (x : SK) (begin : Int) (rows : List (List C)) : Bool :=
  decide (SKOk x) && (decide (0 ≤ begin ∧ begin ≤ 20000 ∧ rows.length ≤ 200) && possL x begin (cell_ (rows.getD 0 []) 0) ((cell_ (rows.getD 0 []) 1).tmod x.pe) (-1) rows)
def ctPoss : Ct := ctF [sensSh, kickSh, .lf .int, .lf (.arr 40)] [.lf .bool] (fun _ => True) (fun cs => match cs with | [.i a, .i b, .i c, .i d, .i e, .i f, .i g, .i h, .i r, .i q, .i n, .s _ rows] => [.b (possV ⟨a, b, c, d, e, f, g, h, r, q⟩ n rows)] | _ => [])
def ctMeas : Ct := ctF [sensSh, kickSh, .lf .int, .lf .int] [.lf .bool] (fun cs => match cs with | [.i a, .i b, .i c, .i d, .i e, .i f, .i g, .i h, .i r, .i q, .i n, .i _] => SKOk ⟨a, b, c, d, e, f, g, h, r, q⟩ ∧ -20000 ≤ n ∧ n ≤ 40000 | _ => False) (fun cs => match cs with | [.i a, .i b, .i c, .i d, .i e, .i f, .i g, .i h, .i r, .i q, .i n, .i v] => [.b (decide (measV d e a r q n v))] | _ => [])
def SensGood (ch pe de no st lo li ho : Int) : Prop := (ch = 1 ∨ ch = 2) ∧ 1 ≤ pe ∧ pe ≤ 12 ∧ 0 ≤ de ∧ de ≤ 38 ∧ 0 ≤ no ∧ no ≤ 3 ∧ 1 ≤ st ∧ st ≤ 500 ∧ 0 ≤ lo ∧ lo ≤ 3 ∧ 1 ≤ li ∧ li ≤ 180000 ∧ 1 ≤ ho ∧ ho ≤ 4
def ctSensorOf : Ct := ⟨[ringSh], [sensSh], atPre 100000,
  fun cs rs => match cs, rs with | [.s v rows, .i at_], [.i a, .i b, .i c, .i d, .i e, .i f, .i g, .i h, .s v' rows', .i at'] => SensGood a b c d e f g h ∧ v' = v ∧ rows' = rows ∧ at' = at_ + 9 | _, _ => False, false⟩
def endL (pe : Int) : Int → List (List C) → Int
  | last, [] => last
  | _, row :: l => endL pe ((cell_ row 1).tdiv pe) l
def SampsOf (x : SK) (begin se last : Int) (rows : List (List C)) : Prop :=
  rows.length ≤ 190 ∧ ∃ ph, 0 ≤ ph ∧ ph < x.pe ∧ possL x begin se ph (-1) rows = true ∧ (∀ row ∈ rows, cell_ row 1 ≤ last) ∧ (rows.length < 190 → last < ph + (endL x.pe (-1) rows + 1 + x.lo) * x.pe)
def ctSamples : Ct := ⟨[ringSh, .lf .int, sensSh, kickSh, .lf .int, .lf .int], [.lf (.vec 40)],
  fun cs => match cs with | [.s _ _, .i at_, .i _, .i a, .i b, .i c, .i d, .i e, .i f, .i g, .i h, .i r, .i q, .i begin, .i last] => 0 ≤ at_ ∧ at_ ≤ 100000 ∧ SKOk ⟨a, b, c, d, e, f, g, h, r, q⟩ ∧ 0 ≤ begin ∧ begin ≤ 20000 ∧ 0 ≤ last ∧ last ≤ 20000 | _ => False,
  fun cs rs => match cs, rs with | [.s v rows, .i at_, .i se, .i a, .i b, .i c, .i d, .i e, .i f, .i g, .i h, .i r, .i q, .i begin, .i last], [.s _ out, .s v' rows', .i at'] => SampsOf ⟨a, b, c, d, e, f, g, h, r, q⟩ begin se last out ∧ v' = v ∧ rows' = rows ∧ at_ ≤ at' ∧ at' ≤ at_ + 4 + 3 * last | _, _ => False, false⟩

/-! The latest alarm -/
def firA (x : SK) (f : Int) : Nat → Int → Option Int
  | 0, _ => none
  | n + 1, a => if f + a * x.pe ≤ 10000 then (if x.li ≤ saysV x.ch x.r x.g (f + a * x.pe) - x.no * x.st then some a else firA x f n (a + 1)) else none
def tickV (x : SK) (f a : Int) : Int := f + (a + x.ho * (x.lo + 1) - 1) * x.pe + x.de
def latL (x : SK) : Nat → Int → Int → Int → Int → Option (Int × Int × Int)
  | 0, _, o, p, q => some (o, p, q)
  | k + 1, f, o, p, q => match firA x f 10001 0 with
    | none => none
    | some a => if 10000 < tickV x f a then none else if o < tickV x f a then latL x k (f + 1) (tickV x f a) f a else latL x k (f + 1) o p q
def latV (x : SK) : Option (Int × Int × Int) := latL x x.pe.toNat 0 (-1) 0 0
def latC : Option (Int × Int × Int) → List C
  | some (o, p, q) => [.i o, .i p, .i q, .b true]
  | none => [.i 0, .i 0, .i 0, .b false]
def atO : Option (Int × Int × Int) → Option Int
  | some (o, _, _) => some o
  | none => none
def latE (x : SK) : List C := if SKOk x then (match atO (latV x) with | some o => [.i o, .b true] | none => [.i 0, .b false]) else [.i 0, .b false]
def skR (r g : Int) (row : List C) : SK := ⟨cell_ row 0, cell_ row 1, cell_ row 2, cell_ row 3, cell_ row 4, cell_ row 5, cell_ row 6, cell_ row 7, r, g⟩
/-- The latest alarms of sensors, as rows. -/
def atsL (r g : Int) : List (List C) → List (List C)
  | [] => []
  | row :: l => match atO (latV (skR r g row)) with
    | some o => [.i o] :: atsL r g l
    | none => atsL r g l
def minL : Int → List (List C) → Int
  | m, [] => m
  | m, row :: l => minL (min m (cell_ row 0)) l
def minR (l : List (List C)) : Int := minL (cell_ (l.getD 0 []) 0) (l.drop 1)
def earlC (r g : Int) (rows : List (List C)) : List C := if atsL r g rows = [] then [.i 0, .i 13] else [.i (minR (atsL r g rows)), .i 0]
def latestC (rows : List (List C)) (rl rh gl gh : Int) : List C := if sensorsE rows = 0 then (if kicksE rl rh gl gh = 0 then earlC rl gl rows else [.i 0, .i (kicksE rl rh gl gh)]) else [.i 0, .i (sensorsE rows)]
def caughtC (rows : List (List C)) (r g : Int) : List C :=
  if sensorsE rows = 0 then (if kickE r g = 0 then (if atsL r g rows = [] then [.i 0, .i 0, .i 13] else [.i (minR (atsL r g rows)), .i (gainV r g (minR (atsL r g rows))), .i 0]) else [.i 0, .i 0, .i (kickE r g)]) else [.i 0, .i 0, .i (sensorsE rows)]
def skOf (cs : List C) : SK := ⟨cell_ cs 0, cell_ cs 1, cell_ cs 2, cell_ cs 3, cell_ cs 4, cell_ cs 5, cell_ cs 6, cell_ cs 7, cell_ cs 8, cell_ cs 9⟩
def firC : Option Int → List C
  | some a => [.i a, .b true]
  | none => [.i 0, .b false]
def lat1C (x : SK) (f : Int) : Option Int → List C
  | some a => [.i (tickV x f a), .i a, .b (decide (tickV x f a ≤ 10000))]
  | none => [.i (tickV x f 0), .i 0, .b false]
def ctFirst : Ct := ctF [sensSh, kickSh, .lf .int] [.lf .int, .lf .bool] (fun cs => SKOk (skOf cs) ∧ 0 ≤ cell_ cs 10 ∧ cell_ cs 10 ≤ 60) (fun cs => firC (firA (skOf cs) (cell_ cs 10) 10001 0))
def ctLate1 : Ct := ctF [sensSh, kickSh, .lf .int] [.lf .int, .lf .int, .lf .bool] (fun cs => SKOk (skOf cs) ∧ 0 ≤ cell_ cs 10 ∧ cell_ cs 10 ≤ 60) (fun cs => lat1C (skOf cs) (cell_ cs 10) (firA (skOf cs) (cell_ cs 10) 10001 0))
def ctWorst : Ct := ctF [sensSh, kickSh] [.lf .int, .lf .int, .lf .int, .lf .bool] (fun cs => SKOk (skOf cs)) (fun cs => latC (latV (skOf cs)))
def ctLatek : Ct := ctF [sensSh, kickSh] [.agg [.int, .int, .int], .lf .bool] (fun cs => SKOk (skOf cs)) (fun cs => latC (latV (skOf cs)))
def ctLate : Ct := ctF [sensSh, kickSh] [.lf .int, .lf .bool] (fun _ => True) (fun cs => latE (skOf cs))
def ctMin : Ct := ctF [.lf (.arr 2)] [.lf .int] (fun cs => match cs with | [.s _ rows] => rows ≠ [] | _ => False) (fun cs => match cs with | [.s _ rows] => [.i (minR rows)] | _ => [])
def ctEarl : Ct := ctF [.lf (.arr 23), kickSh] [.lf .int, .lf .int] (fun cs => match cs with | [.s _ rows, .i r, .i g] => rows.length ≤ 6 ∧ firstE rows = 0 ∧ KOk r g | _ => False) (fun cs => match cs with | [.s _ rows, .i r, .i g] => earlC r g rows | _ => [])
def ctLatest : Ct := ctF [.lf (.arr 23), kicksSh] [.lf .int, .lf .int] (fun _ => True) (fun cs => match cs with | [.s _ rows, .i a, .i b, .i c, .i d] => latestC rows a b c d | _ => [])
def ctCaught : Ct := ctF [.lf (.arr 23), kickSh] [.lf .int, .lf .int, .lf .int] (fun _ => True) (fun cs => match cs with | [.s _ rows, .i r, .i g] => caughtC rows r g | _ => [])
def ctKicksOf : Ct := ⟨[ringSh], [kicksSh], atPre 100000,
  fun cs rs => match cs, rs with | [.s v rows, .i at_], [.i a, .i b, .i c, .i d, .s v' rows', .i at'] => 0 ≤ a ∧ a ≤ b ∧ b ≤ 12998 ∧ 0 ≤ c ∧ c ≤ d ∧ d ≤ 499 ∧ v' = v ∧ rows' = rows ∧ at' = at_ + 6 | _, _ => False, false⟩

def tab : Tab where
  ct := fun f => match f with
    | 72 => some ctFloor
    | 74 => some ctFloor
    | 73 => some ctShut
    | 31 => some ctIdent
    | 32 => some ctIdent
    | 19 => some ctAwake
    | 36 => some ctKick
    | 37 => some ctKick
    | 75 => some ctLeast
    | 76 => some ctLeast
    | 38 => some ctKicks
    | 39 => some ctKicks
    | 40 => some ctSens
    | 41 => some ctSens
    | 42 => some ctSensors
    | 43 => some ctSensors
    | 24 => some ctFlow
    | 44 => some ctFlow
    | 23 => some ctGain
    | 45 => some ctGain
    | 67 => some ctFlow1
    | 66 => some ctGain1
    | 78 => some ctSays
    | 47 => some ctValue
    | 46 => some ctValue
    | 28 => some ctMod
    | 22 => some ctMod
    | 21 => some ctNewRing
    | 26 => some ctNext
    | 20 => some ctKickOf
    | 25 => some ctSensorOf
    | 48 => some ctKicksOf
    | 97 => some ctFirst
    | 95 => some ctLate1
    | 87 => some ctWorst
    | 79 => some ctLatek
    | 49 => some ctLate
    | 58 => some ctLate
    | 91 => some ctMin
    | 80 => some ctEarl
    | 90 => some ctEarl
    | 50 => some ctLatest
    | 61 => some ctLatest
    | 51 => some ctCaught
    | 62 => some ctCaught
    | 27 => some ctSamples
    | 29 => some ctPoss
    | 30 => some ctPoss
    | 70 => some ctMeas
    | 33 => some ctShutOf
    | 34 => some ctLWithin
    | _ => none
  inl := fun f => match f with
    | 68 => some withinI
    | 69 => some withinI
    | 71 => some fairI
    | 35 => some inI
    | _ => none
  sel := fun f => match f with
    | 77 => some saysS
    | _ => none
end Go.Proofs.Ytlbgcjpkegpmlaa
/- The table, more of it: the samples that come as late as can be. -/
namespace Go.Proofs.Ytlbgcjpkegpmlaa
set_option linter.unusedVariables false

def sampR (x : SK) (t : Int) : List C := [.i 0, .i t, .i (valueV x.ch x.pe x.de x.no x.st x.lo x.li x.ho x.r x.g t (-x.no))]
def slowA (x : SK) (p : Int) (n : Nat) : List (List C) := (List.range n).map fun (i : Nat) => sampR x (p + (i : Int) * x.pe)
def slowB (x : SK) (p q : Int) (n : Nat) : List (List C) := (List.range n).map fun (j : Nat) => sampR x (p + (q + ((j : Int) + 1) * (x.lo + 1) - 1) * x.pe)
def slowV (x : SK) : Option (List (List C)) := if SKOk x then (match latV x with | some (_, p, q) => if 200 < q + x.ho then none else some (slowA x p q.toNat ++ slowB x p q x.ho.toNat) | none => none) else none
def slowIs (o : Option (List (List C))) (rows : List (List C)) (t : Bool) : Prop := match o with | some l => rows = l ∧ t = true | none => rows = [] ∧ t = false
def ctSlow : Ct := ⟨[sensSh, kickSh], [.lf (.vec 40), .lf .bool], fun _ => True, fun cs rs => match rs with | [.s _ rows, .b t] => slowIs (slowV (skOf cs)) rows t | _ => False, false⟩
def sampSh : Sh0 := .agg [.int, .int, .int]
def ctSample : Ct := ctF [sensSh, kickSh, .lf .int] [sampSh] (fun cs => SKOk (skOf cs)) (fun cs => sampR (skOf cs) (cell_ cs 10))
def sameFrom : List (List C) → List (List C) → Bool
  | x :: l, y :: m => decide (cell_ x 0 = cell_ y 0 ∧ cell_ x 1 = cell_ y 1 ∧ cell_ x 2 = cell_ y 2) && sameFrom l m
  | _, _ => true
def sameSam (a b : List (List C)) : Bool := decide (a.length = b.length) && sameFrom a b
def ctSame : Ct := ctF [.lf (.arr 40), .lf (.arr 40)] [.lf .bool] (fun _ => True) (fun cs => match cs with | [.s _ a, .s _ b] => [.b (sameSam a b)] | _ => [])
def tab2 : Tab where
  ct := fun f => match f with
    | 59 => some ctSlow
    | 60 => some ctSlow
    | 89 => some ctSample
    | 57 => some ctSame
    | f => tab.ct f
  inl := tab.inl
  sel := tab.sel
theorem up_ok {f : Nat} (h : tab.ok f) (he : tab2.ct f = tab.ct f := by rfl) : tab2.ok f :=
  ⟨h.1, fun ct hc => h.2.1 ct (he ▸ hc), h.2.2.1, h.2.2.2⟩
end Go.Proofs.Ytlbgcjpkegpmlaa
/- The table, more of it: what sensors alarm on. -/
namespace Go.Proofs.Ytlbgcjpkegpmlaa
set_option linter.unusedVariables false

def fltS (l : List (List C)) (k : Int) : List (List C) := l.filter fun r => cell_ r 0 == k
def ordFrom : Int → List (List C) → Bool
  | _, [] => true
  | t, r :: l => decide (t < cell_ r 1) && ordFrom (cell_ r 1) l
def ordL : List (List C) → Bool
  | [] => true
  | r :: l => ordFrom (cell_ r 1) l
def inB (n : Int) (r : List C) : Bool := decide (0 ≤ cell_ r 0 ∧ cell_ r 0 < n)
def inR (r : List C) : Bool := decide (0 ≤ cell_ r 1 ∧ cell_ r 1 ≤ 1099511627176 ∧ -1125899906842624 ≤ cell_ r 2 ∧ cell_ r 2 ≤ 1125899906842624)
def checkV (n : Int) (rows : List (List C)) : Int :=
  if 200 < rows.length then 8 else if rows.all (inB n) = false then 7 else if rows.all inR = false then 2 else if rows.all (fun r => ordL (fltS rows (cell_ r 0))) = false then 11 else 0
def alarmL (li ho de : Int) : Int → List (List C) → Option Int
  | _, [] => none
  | n, r :: l => if (if cell_ r 2 < li then 0 else n + 1) = ho then some (cell_ r 1 + de) else alarmL li ho de (if cell_ r 2 < li then 0 else n + 1) l
def alarmOf (s : List C) (rows : List (List C)) : Option Int := alarmL (cell_ s 6) (cell_ s 7) (cell_ s 2) 0 rows
def alarmC : Option Int → List C
  | some t => [.i t, .b true]
  | none => [.i 0, .b false]
def watchL (sens rows : List (List C)) : Nat → Option (Int × Int)
  | 0 => none
  | k + 1 => match alarmOf (sens.getD k []) (fltS rows k), watchL sens rows k with
    | some t, some (s, u) => if t < u then some ((k : Int), t) else some (s, u)
    | some t, none => some ((k : Int), t)
    | none, o => o
def watchC : Option (Int × Int) → List C
  | some (s, t) => [.i s, .i t, .b true, .i 0]
  | none => [.i 0, .i 0, .b false, .i 0]
def watchV (sens rows : List (List C)) : List C :=
  if sensorsE sens = 0 then (if checkV sens.length rows = 0 then watchC (watchL sens rows sens.length) else [.i 0, .i 0, .b false, .i (checkV sens.length rows)]) else [.i 0, .i 0, .b false, .i (sensorsE sens)]
def ctCheckS : Ct := ctF [.lf .int, .lf (.arr 40)] [.lf .int] (fun _ => True) (fun cs => match cs with | [.i n, .s _ rows] => [.i (checkV n rows)] | _ => [])
def ctRCheck : Ct := ctF [.lf (.arr 23), .lf (.arr 40)] [.lf .int] (fun _ => True) (fun cs => match cs with | [.s _ sens, .s _ rows] => [.i (checkV sens.length rows)] | _ => [])
def ctAlarms : Ct := ctF [sensSh, .lf (.arr 40)] [.lf .int, .lf .bool] (fun cs => match cs with | [.i _, .i _, .i de, .i _, .i _, .i _, .i _, .i ho, .s _ rows] => 1 ≤ ho ∧ 0 ≤ de ∧ de ≤ 600 ∧ rows.length ≤ 200 ∧ ∀ r ∈ rows, inR r = true | _ => False)
  (fun cs => match cs with | [.i _, .i _, .i de, .i _, .i _, .i _, .i li, .i ho, .s _ rows] => alarmC (alarmL li ho de 0 rows) | _ => [])
def ctOf : Ct := ⟨[.lf (.arr 40), .lf .int], [.lf (.vec 40)], fun cs => match cs with | [.s _ rows, .i _] => rows.length ≤ 200 | _ => False, fun cs rs => match cs, rs with | [.s _ rows, .i k], [.s _ out] => out = fltS rows k | _, _ => False, false⟩
def ctWatch : Ct := ctF [.lf (.arr 23), .lf (.arr 40)] [.agg [.int, .int], .lf .bool, .lf .int] (fun _ => True) (fun cs => match cs with | [.s _ sens, .s _ rows] => watchV sens rows | _ => [])
def tab3 : Tab where
  ct := fun f => match f with
    | 81 => some ctCheckS
    | 84 => some ctRCheck
    | 83 => some ctAlarms
    | 85 => some ctAlarms
    | 86 => some ctOf
    | 54 => some ctWatch
    | 55 => some ctWatch
    | f => tab2.ct f
  inl := tab2.inl
  sel := tab2.sel
theorem up3_ok {f : Nat} (h : tab2.ok f) (he : tab3.ct f = tab2.ct f := by rfl) : tab3.ok f :=
  ⟨h.1, fun ct hc => h.2.1 ct (he ▸ hc), h.2.2.1, h.2.2.2⟩
end Go.Proofs.Ytlbgcjpkegpmlaa
/- Plain definitions of what the functions of layer 6 compute. No program in sight. -/
namespace Go.Proofs.Ytlbgcjpkegpmlaa

def KickOK (r g : Int) : Prop := 0 ≤ r ∧ r ≤ 16777216 ∧ 0 ≤ g ∧ g ≤ 4096
instance (r g : Int) : Decidable (KickOK r g) := by unfold KickOK; exact inferInstance

structure Sen where
  ch : Int
  pe : Int
  de : Int
  no : Int
  st : Int
  lo : Int
  li : Int
  ho : Int

def KindOK (s : Sen) : Prop := s.ch = 1 ∨ s.ch = 2
def RangeOK (s : Sen) : Prop := 1 ≤ s.pe ∧ s.pe ≤ 60 ∧ 0 ≤ s.de ∧ s.de ≤ 600 ∧ 0 ≤ s.no ∧ s.no ≤ 15 ∧ 1 ≤ s.st ∧ s.st ≤ 1048576 ∧ 0 ≤ s.lo ∧ s.lo ≤ 5 ∧ 1 ≤ s.li ∧ s.li ≤ 1099511627776 ∧ 1 ≤ s.ho ∧ s.ho ≤ 8
def SenOK (s : Sen) : Prop := KindOK s ∧ RangeOK s
instance (s : Sen) : Decidable (KindOK s) := by unfold KindOK; exact inferInstance
instance (s : Sen) : Decidable (RangeOK s) := by unfold RangeOK; exact inferInstance
instance (s : Sen) : Decidable (SenOK s) := by unfold SenOK; exact inferInstance

def checkSensor (s : Sen) : Int := if KindOK s then (if RangeOK s then 0 else 2) else 4

/-- what flows n ticks after the beginning -/
def flowAt (r g n : Int) : Int := if n < 0 then 0 else r + n * g
/-- what has flowed in n ticks after the beginning -/
def gainAt (r g n : Int) : Int := if n < 0 then 0 else n * r + g * (n * (n - 1) / 2)
def flowF (r g n : Int) : Int := if KickOK r g ∧ n ≤ 20000 then flowAt r g n else 0
def gainF (r g n : Int) : Int := if KickOK r g ∧ n ≤ 20000 then gainAt r g n else 0
def saysAt (s : Sen) (r g n : Int) : Int := if s.ch = 2 then flowAt r g n else gainAt r g n
def valueF (s : Sen) (r g n e : Int) : Int := if SenOK s ∧ KickOK r g ∧ -s.no ≤ e ∧ e ≤ s.no ∧ n ≤ 20000 then saysAt s r g n + e * s.st else 0

theorem mul_bd {a b A B : Int} (h0 : 0 ≤ a) (h1 : a ≤ A) (h2 : 0 ≤ b) (h3 : b ≤ B) : 0 ≤ a * b ∧ a * b ≤ A * B :=
  ⟨Int.mul_nonneg h0 h2, Int.mul_le_mul h1 h3 h2 (Int.le_trans h0 h1)⟩
theorem mul_one_le {a b : Int} (h0 : 1 ≤ a) (h1 : 1 ≤ b) : 1 ≤ a * b := by
  have := Int.mul_le_mul h0 h1 (by omega) (by omega)
  omega
theorem tri_bd (n : Int) (h0 : 0 ≤ n) (h1 : n ≤ 20000) : 0 ≤ n * (n - 1) ∧ n * (n - 1) ≤ 400000000 ∧ 0 ≤ n * (n - 1) / 2 ∧ n * (n - 1) / 2 ≤ 200000000 := by
  rcases Int.lt_or_le 0 n with h | h
  · have := mul_bd (a := n) (b := n - 1) (A := 20000) (B := 20000) h0 h1 (by omega) (by omega)
    omega
  · obtain rfl : n = 0 := by omega
    simp
theorem gain_bd {r g n : Int} (h : KickOK r g) (hn : n ≤ 20000) : 0 ≤ gainAt r g n ∧ gainAt r g n ≤ 1154744320000 := by
  obtain ⟨h1, h2, h3, h4⟩ := h
  unfold gainAt
  split
  · omega
  · obtain ⟨t1, t2, t3, t4⟩ := tri_bd n (by omega) hn
    obtain ⟨b1, b2⟩ := mul_bd (by omega : 0 ≤ n) hn h1 h2
    obtain ⟨b3, b4⟩ := mul_bd h3 h4 t3 t4
    omega
theorem flow_bd {r g n : Int} (h : KickOK r g) (hn : n ≤ 20000) : 0 ≤ flowAt r g n ∧ flowAt r g n ≤ 98697216 := by
  obtain ⟨h1, h2, h3, h4⟩ := h
  unfold flowAt
  split
  · omega
  · obtain ⟨b1, b2⟩ := mul_bd (by omega : 0 ≤ n) hn h3 h4
    omega
theorem says_bd {s : Sen} {r g n : Int} (h : KickOK r g) (hn : n ≤ 20000) : 0 ≤ saysAt s r g n ∧ saysAt s r g n ≤ 1154744320000 := by
  unfold saysAt
  split
  · have := flow_bd h hn; omega
  · exact gain_bd h hn

/-- The least number of a sample, from a on and within so many tries, that is at least the limit in spite of all noise. -/
def findA (s : Sen) (r g f : Int) : Nat → Nat → Option Nat
  | 0, _ => none
  | k + 1, a => if f + a * s.pe ≤ 10000 then (if s.li ≤ saysAt s r g (f + a * s.pe) - s.no * s.st then some a else findA s r g f k (a + 1)) else none
def firstA (s : Sen) (r g f : Int) : Option Nat := findA s r g f 10001 0
def alarmT (s : Sen) (f a : Int) : Int := f + (a + s.ho * (s.lo + 1) - 1) * s.pe + s.de
/-- The latest alarm over the phases from f on, so many of them. -/
def lateGo (s : Sen) (r g : Int) : Nat → Nat → Int × Int × Int → Option (Int × Int × Int)
  | 0, _, o => some o
  | k + 1, f, o => match firstA s r g f with
    | none => none
    | some a => if 10000 < alarmT s f a then none else lateGo s r g k (f + 1) (if o.1 < alarmT s f a then (alarmT s f a, (f : Int), (a : Int)) else o)
def lateF (s : Sen) (r g : Int) : Option (Int × Int × Int) := lateGo s r g s.pe.toNat 0 (-1, 0, 0)

end Go.Proofs.Ytlbgcjpkegpmlaa
/- What False computes: plain definitions, and that no number grows too great. -/
namespace Go.Proofs.Ytlbgcjpkegpmlaa

def sumTo (F : Nat → Int) : Nat → Int
  | 0 => 0
  | m + 1 => sumTo F m + F m
/-- How many of the errors x, x + 1, .. (so many) are high. -/
def highGo (st li : Int) : Nat → Int → Int → Int
  | 0, _, hi => hi
  | k + 1, x, hi => highGo st li k (x + 1) (if li ≤ x * st then hi + 1 else hi)
def highF (s : Sen) : Int := highGo s.st s.li (2 * s.no + 1).toNat (-s.no) 0
def stepRow (n h : Int) (ho : Nat) (R : Nat → Int) : Nat → Int := fun j => if j = 0 then sumTo (fun k => R k * (n - h)) ho else if j < ho then R (j - 1) * h else 0
def falseGo (n h : Int) (ho : Nat) : Nat → (Nat → Int) → Int → Int → Int × Int
  | 0, _, al, all => (al, all)
  | d + 1, R, al, all => falseGo n h ho d (stepRow n h ho R) (al * n + R (ho - 1) * h) (all * n)
def row0 : Nat → Int := fun j => if j = 0 then 1 else 0
def falseP (s : Sen) (draws : Nat) : Int × Int := falseGo (2 * s.no + 1) (highF s) s.ho.toNat draws row0 0 1
def falseF (s : Sen) (draws : Int) : Int × Int × Int :=
  if SenOK s then (if 1 ≤ draws ∧ draws ≤ 12 then ((falseP s draws.toNat).1, (falseP s draws.toNat).2, 0) else (0, 0, 2)) else (0, 0, checkSensor s)

theorem highGo_bd (st li : Int) (k : Nat) : ∀ x hi : Int, hi ≤ highGo st li k x hi ∧ highGo st li k x hi ≤ hi + k := by
  induction k with
  | zero => intro x hi; simp [highGo]
  | succ k ih =>
    intro x hi
    unfold highGo
    have h1 := ih (x + 1) (if li ≤ x * st then hi + 1 else hi)
    revert h1
    split <;> intro h1 <;> omega
theorem high_bd {s : Sen} (h : RangeOK s) : 0 ≤ highF s ∧ highF s ≤ 2 * s.no + 1 := by
  obtain ⟨h1, h2, h3, h4, h5, h6, -⟩ := h
  have := highGo_bd s.st s.li (2 * s.no + 1).toNat (-s.no) 0
  unfold highF
  omega

theorem sumTo_mul (F : Nat → Int) (c : Int) (m : Nat) : sumTo (fun k => F k * c) m = sumTo F m * c := by
  induction m with
  | zero => simp [sumTo]
  | succ m ih => simp [sumTo, ih, Int.add_mul]
theorem sumTo_nonneg {F : Nat → Int} (h : ∀ k, 0 ≤ F k) (m : Nat) : 0 ≤ sumTo F m := by
  induction m with
  | zero => simp [sumTo]
  | succ m ih => have := h m; simp [sumTo]; omega
theorem sumTo_mono {F : Nat → Int} (h : ∀ k, 0 ≤ F k) {m m' : Nat} (hm : m ≤ m') : sumTo F m ≤ sumTo F m' := by
  induction m' with
  | zero => obtain rfl : m = 0 := by omega
            exact Int.le_refl _
  | succ k ih =>
    by_cases e : m = k + 1
    · rw [e]; exact Int.le_refl _
    · have := ih (by omega)
      have h2 := h k
      simp [sumTo]; omega
theorem le_sumTo {F : Nat → Int} (h : ∀ k, 0 ≤ F k) {j m : Nat} (hj : j < m) : F j ≤ sumTo F m := by
  have h1 := sumTo_mono h (show j + 1 ≤ m from hj)
  have h2 := sumTo_nonneg h j
  simp [sumTo] at h1
  omega
theorem sumTo_congr {F G : Nat → Int} {m : Nat} (h : ∀ k, k < m → F k = G k) : sumTo F m = sumTo G m := by
  induction m with
  | zero => rfl
  | succ m ih => simp [sumTo, ih fun k hk => h k (by omega), h m (by omega)]
/-- the sum of a row that was moved by one -/
theorem sumTo_shift (R : Nat → Int) (a : Int) (h : Int) (m : Nat) : sumTo (fun j => if j = 0 then a else if j < m + 1 then R (j - 1) * h else 0) (m + 1) = a + sumTo R m * h := by
  have key : ∀ k, k ≤ m → sumTo (fun j => if j = 0 then a else if j < m + 1 then R (j - 1) * h else 0) (k + 1) = a + sumTo R k * h := by
    intro k
    induction k with
    | zero => intro _; simp [sumTo]
    | succ k ih =>
      intro hk
      rw [sumTo, ih (by omega)]
      simp [sumTo, Int.add_mul, show k < m from by omega]
      omega
  exact key m (Nat.le_refl _)

/-- What holds of the rows, of the alarms and of all, before each draw. -/
structure Rows9 (n h : Int) (ho i : Nat) (R : Nat → Int) (al all : Int) : Prop where
  pos : ∀ k, 0 ≤ R k
  al0 : 0 ≤ al
  one : 1 ≤ all
  sum : sumTo R ho + al = all
  pow : all ≤ n ^ i
theorem Rows9.start (n h : Int) (ho : Nat) (hh : 1 ≤ ho) : Rows9 n h ho 0 row0 0 1 := by
  refine ⟨fun k => by unfold row0; split <;> omega, by omega, by omega, ?_, by simp⟩
  have : ∀ m, sumTo row0 (m + 1) = 1 := by
    intro m
    induction m with
    | zero => simp [sumTo, row0]
    | succ m ih => rw [sumTo, ih]; simp [row0]
  obtain ⟨m, rfl⟩ : ∃ m, ho = m + 1 := ⟨ho - 1, by omega⟩
  rw [this]
  rfl
theorem Rows9.step {n h : Int} {ho i : Nat} {R : Nat → Int} {al all : Int} (hr : Rows9 n h ho i R al all) (hh : 1 ≤ ho) (h0 : 0 ≤ h) (h1 : h ≤ n) (hn : 1 ≤ n) :
    Rows9 n h ho (i + 1) (stepRow n h ho R) (al * n + R (ho - 1) * h) (all * n) := by
  obtain ⟨m, rfl⟩ : ∃ m, ho = m + 1 := ⟨ho - 1, by omega⟩
  refine ⟨fun k => ?_, ?_, ?_, ?_, ?_⟩
  · unfold stepRow
    split
    · rw [sumTo_mul]; exact Int.mul_nonneg (sumTo_nonneg hr.pos _) (by omega)
    · split
      · exact Int.mul_nonneg (hr.pos _) h0
      · omega
  · have h2 := Int.mul_nonneg hr.al0 (show 0 ≤ n from by omega)
    have h3 := Int.mul_nonneg (hr.pos (m + 1 - 1)) h0
    omega
  · exact mul_one_le hr.one hn
  · have hs : stepRow n h (m + 1) R = fun j => if j = 0 then sumTo (fun k => R k * (n - h)) (m + 1) else if j < m + 1 then R (j - 1) * h else 0 := rfl
    rw [hs, sumTo_shift, sumTo_mul]
    have e := hr.sum
    rw [← e]
    simp only [sumTo, Nat.add_sub_cancel, Int.add_mul, Int.mul_sub]
    omega
  · rw [Int.pow_succ]
    exact Int.mul_le_mul_of_nonneg_right hr.pow (by omega)
theorem pow_mono {a b : Int} (h : 0 ≤ a) (hab : a ≤ b) (i : Nat) : a ^ i ≤ b ^ i ∧ 0 ≤ a ^ i := by
  induction i with
  | zero => simp
  | succ i ih =>
    rw [Int.pow_succ, Int.pow_succ]
    exact ⟨Int.mul_le_mul ih.1 hab h (Int.le_trans ih.2 ih.1), Int.mul_nonneg ih.2 h⟩
theorem pow31 (i : Nat) (h : i ≤ 11) : (31 : Int) ^ i ≤ 25408476896404831 := by
  have : i = 0 ∨ i = 1 ∨ i = 2 ∨ i = 3 ∨ i = 4 ∨ i = 5 ∨ i = 6 ∨ i = 7 ∨ i = 8 ∨ i = 9 ∨ i = 10 ∨ i = 11 := by omega
  rcases this with rfl | rfl | rfl | rfl | rfl | rfl | rfl | rfl | rfl | rfl | rfl | rfl <;> decide
theorem Rows9.small {n h : Int} {ho i : Nat} {R : Nat → Int} {al all : Int} (hr : Rows9 n h ho i R al all) (hn : 0 ≤ n) (h31 : n ≤ 31) (hi : i ≤ 11) :
    all ≤ 25408476896404831 ∧ al ≤ 25408476896404831 ∧ sumTo R ho ≤ 25408476896404831 ∧ ∀ k, k < ho → R k ≤ 25408476896404831 := by
  have h1 := pow31 i hi
  have h2 := (pow_mono hn h31 i).1
  have h3 := hr.pow
  have h4 := hr.sum
  have h5 := hr.al0
  have h6 := sumTo_nonneg hr.pos ho
  refine ⟨by omega, by omega, by omega, fun k hk => ?_⟩
  have := le_sumTo hr.pos hk
  omega
/-- A row in the making: so many of the old one's cells are through. -/
def partRow (n h : Int) (R : Nat → Int) (m : Nat) : Nat → Int := fun j => if j = 0 then sumTo (fun k => R k * (n - h)) m else if j < m + 1 then R (j - 1) * h else 0
theorem partRow_zero (n h : Int) (R : Nat → Int) (j : Nat) : partRow n h R 0 j = 0 := by
  unfold partRow
  split
  · rfl
  · split
    · omega
    · rfl
theorem partRow_succ (n h : Int) (R : Nat → Int) (m j : Nat) :
    (if j = m + 1 then R m * h else if j = 0 then sumTo (fun k => R k * (n - h)) m + R m * (n - h) else partRow n h R m j) = partRow n h R (m + 1) j := by
  unfold partRow
  by_cases h0 : j = 0
  · subst h0; simp [sumTo]
  · by_cases h1 : j = m + 1
    · subst h1; simp
    · by_cases h2 : j < m + 1
      · simp [h0, h1, h2, show j < m + 1 + 1 from by omega]
      · simp [h0, h1, h2, show ¬ j < m + 1 + 1 from by omega]
theorem partRow_full (n h : Int) (R : Nat → Int) (ho j : Nat) (hj : j < ho) : partRow n h R ho j = stepRow n h ho R j := by
  unfold partRow stepRow
  by_cases h0 : j = 0
  · simp [h0]
  · simp [h0, hj, show j < ho + 1 from by omega]
theorem partRow_step (n h : Int) (R : Nat → Int) (ho j : Nat) (hh : 1 ≤ ho) : (if j = ho then 0 else partRow n h R ho j) = stepRow n h ho R j := by
  unfold partRow stepRow
  by_cases h0 : j = 0
  · subst h0; simp [show ¬ 0 = ho from by omega]
  · by_cases h1 : j = ho
    · subst h1; simp [h0]
    · by_cases h2 : j < ho
      · simp [h0, h1, h2, show j < ho + 1 from by omega]
      · simp [h0, h1, h2, show ¬ j < ho + 1 from by omega]
end Go.Proofs.Ytlbgcjpkegpmlaa
/- The table, more of it: false alarms; the chapter's examples. -/
namespace Go.Proofs.Ytlbgcjpkegpmlaa
set_option linter.unusedVariables false

def senOf (cs : List C) : Sen := ⟨cell_ cs 0, cell_ cs 1, cell_ cs 2, cell_ cs 3, cell_ cs 4, cell_ cs 5, cell_ cs 6, cell_ cs 7⟩
def ctFalse : Ct := ctF [sensSh, .lf .int] [.lf .int, .lf .int, .lf .int] (fun cs => SenOK (senOf cs) ∧ 1 ≤ cell_ cs 8 ∧ cell_ cs 8 ≤ 12) (fun cs => [.i (falseP (senOf cs) (cell_ cs 8).toNat).1, .i (falseP (senOf cs) (cell_ cs 8).toNat).2, .i 0])
def ctShown : Ct := ctF [] [kickSh] (fun _ => True) (fun _ => [.i 1000, .i 100])
def ctPit : Ct := ctF [] [sensSh] (fun _ => True) (fun _ => [.i 1, .i 10, .i 5, .i 2, .i 1000, .i 1, .i 20000, .i 2])
def ctFlowS : Ct := ctF [] [sensSh] (fun _ => True) (fun _ => [.i 2, .i 1, .i 0, .i 0, .i 1, .i 0, .i 3000, .i 1])
def tab4 : Tab where
  ct := fun f => match f with
    | 17 => some ctFalse
    | 63 => some ctShown
    | 64 => some ctPit
    | 65 => some ctFlowS
    | f => tab3.ct f
  inl := tab3.inl
  sel := tab3.sel
theorem up4_ok {f : Nat} (h : tab3.ok f) (he : tab4.ct f = tab3.ct f := by rfl) : tab4.ok f :=
  ⟨h.1, fun ct hc => h.2.1 ct (he ▸ hc), h.2.2.1, h.2.2.2⟩
end Go.Proofs.Ytlbgcjpkegpmlaa
/- The table, more of it: copies of lists. -/
namespace Go.Proofs.Ytlbgcjpkegpmlaa
set_option linter.unusedVariables false

def ctOwn (t : TypeId) : Ct := ⟨[.lf (.arr t)], [.lf (.vec t)], fun cs => match cs with | [.s _ a] => a.length ≤ 1000 | _ => False, fun cs rs => match cs, rs with | [.s _ a], [.s _ b] => b = a | _, _ => False, false⟩
def cellsEq (x y : List C) : Nat → Bool
  | 0 => true
  | n + 1 => cellsEq x y n && decide (cell_ x n = cell_ y n)
def sameSe : List (List C) → List (List C) → Bool
  | x :: l, y :: m => cellsEq x y 8 && sameSe l m
  | _, _ => true
def sameSen (a b : List (List C)) : Bool := decide (a.length = b.length) && sameSe a b
def ctSameS : Ct := ctF [.lf (.arr 23), .lf (.arr 23)] [.lf .bool] (fun _ => True) (fun cs => match cs with | [.s _ a, .s _ b] => [.b (sameSen a b)] | _ => [])
def tab5 : Tab where
  ct := fun f => match f with
    | 52 => some (ctOwn 23)
    | 53 => some (ctOwn 40)
    | 56 => some ctSameS
    | f => tab4.ct f
  inl := tab4.inl
  sel := tab4.sel
theorem up5_ok {f : Nat} (h : tab4.ok f) (he : tab5.ct f = tab4.ct f := by rfl) : tab5.ok f :=
  ⟨h.1, fun ct hc => h.2.1 ct (he ▸ hc), h.2.2.1, h.2.2.2⟩
end Go.Proofs.Ytlbgcjpkegpmlaa
/- What is to be shown of each function, as the executor has it. Printed by trees.py. -/
namespace Go.Proofs.Ytlbgcjpkegpmlaa
noncomputable def cownsens : Cx := tab5.only [] (fun _ => []) [] 0 [] (fun _ => none)
def townsens : Tree :=
  (.dfn .nil (.arr [] (.ob (.cmp .le (.mul (.add (.len (.var 2)) (.len (.var 0))) (.lit 64)) (.lit 140737488355328)) (.cat (.var 2) (.var 0) (.ret [(.cnt 23 (.var 3))])))))
noncomputable def cownsam : Cx := tab5.only [] (fun _ => []) [] 0 [] (fun _ => none)
def townsam : Tree :=
  (.dfn .nil (.arr [] (.ob (.cmp .le (.mul (.add (.len (.var 2)) (.len (.var 0))) (.lit 24)) (.lit 140737488355328)) (.cat (.var 2) (.var 0) (.ret [(.cnt 40 (.var 3))])))))
noncomputable def csamesens : Cx := tab5.only [] (fun _ => []) [] 0 [] (fun _ => none)
def tsamesens : Tree :=
  (.split (.cmp .ne (.len (.var 0)) (.len (.var 1))) (.ret [(.bool (.lit false))]) (.loop [.bool, .int] [(.bool (.lit false)), (.int (.lit 0))] (.split (.cmp .lt (.var 3) (.len (.var 0))) (.ob (.cmp .le (.lit 0) (.var 3)) (.ob (.cmp .lt (.var 3) (.len (.var 0))) (.ob (.cmp .lt (.var 3) (.len (.var 1))) (.split (.not (.and (.cmp .eq (.cell (.var 0) (.var 3) 0) (.cell (.var 1) (.var 3) 0)) (.and (.cmp .eq (.cell (.var 0) (.var 3) 1) (.cell (.var 1) (.var 3) 1)) (.and (.cmp .eq (.cell (.var 0) (.var 3) 2) (.cell (.var 1) (.var 3) 2)) (.and (.cmp .eq (.cell (.var 0) (.var 3) 3) (.cell (.var 1) (.var 3) 3)) (.and (.cmp .eq (.cell (.var 0) (.var 3) 4) (.cell (.var 1) (.var 3) 4)) (.and (.cmp .eq (.cell (.var 0) (.var 3) 5) (.cell (.var 1) (.var 3) 5)) (.and (.cmp .eq (.cell (.var 0) (.var 3) 6) (.cell (.var 1) (.var 3) 6)) (.cmp .eq (.cell (.var 0) (.var 3) 7) (.cell (.var 1) (.var 3) 7)))))))))) (.ret [(.bool (.lit false))]) (.back 0 [(.bool (.of (.var 2))), (.int (.add (.var 3) (.lit 1)))]))))) (.ret [(.bool (.lit true))]))))
noncomputable def cwatches : Cx := tab5.only [19, 21, 20, 25, 26, 27, 52, 53, 54, 55, 56, 57] (fun r => match r with
  | 50007 => [.blk 0]
  | _ => []) [] 0 [] (fun r => match r with
  | 50007 => some ([(11, true, [.vec 40])], [.blk 0])
  | 50014 => some ([(15, true, [.vec 23]), (16, true, [.vec 40])], [])
  | _ => none)
def twatches_1 : Tree :=
  (.ob (.and (.cmp .le (.lit (-9223372036854775808)) (.add (.lit 50) (.var 30))) (.cmp .le (.add (.lit 50) (.var 30)) (.lit 9223372036854775807))) (.call 27 [(.arr 3 (.var 34)), (.int (.var 35)), (.int (.lit 0)), (.int (.cell (.var 29) (.lit 0) 0)), (.int (.cell (.var 29) (.lit 0) 1)), (.int (.cell (.var 29) (.lit 0) 2)), (.int (.cell (.var 29) (.lit 0) 3)), (.int (.cell (.var 29) (.lit 0) 4)), (.int (.cell (.var 29) (.lit 0) 5)), (.int (.cell (.var 29) (.lit 0) 6)), (.int (.cell (.var 29) (.lit 0) 7)), (.int (.var 5)), (.int (.var 6)), (.int (.lit 20)), (.int (.add (.lit 50) (.var 30)))] (.ob (.cmp .le (.mul (.add (.len (.var 33)) (.len (.var 36))) (.lit 24)) (.lit 140737488355328)) (.cat (.var 33) (.var 36) (.back 0 [(.cnt 40 (.var 39)), (.arr 3 (.var 37)), (.int (.var 38))])))))
def twatches_2 : Tree :=
  (.split (.not (.of (.var 53))) (.ret [(.bool (.lit false))]) (.ob (.cmp .lt (.var 42) (.len (.var 40))) (.call 57 [(.arr 40 (.var 44)), (.arr 40 (.cell (.var 40) (.var 42) 0))] (.split (.not (.of (.var 54))) (.ret [(.bool (.lit false))]) (.back 1 [(.bool (.of (.var 41))), (.int (.add (.var 42) (.lit 1)))])))))
def twatches_3 : Tree :=
  (.split (.not (.and (.cmp .eq (.var 45) (.var 49)) (.cmp .eq (.var 46) (.var 50)))) (.ret [(.bool (.lit false))]) (.split (.not (.beq (.of (.var 47)) (.of (.var 51)))) (.ret [(.bool (.lit false))]) (.split (.cmp .ne (.var 48) (.var 52)) (.ret [(.bool (.lit false))]) (.ob (.cmp .lt (.var 42) (.len (.var 38))) (.call 56 [(.arr 23 (.var 43)), (.arr 23 (.cell (.var 38) (.var 42) 0))] twatches_2)))))
def twatches_4 : Tree :=
  (.ob (.cmp .le (.lit 0) (.var 42)) (.ob (.cmp .lt (.var 42) (.len (.var 38))) (.ob (.cmp .lt (.var 42) (.len (.var 40))) (.call 55 [(.arr 23 (.cell (.var 38) (.var 42) 0)), (.arr 40 (.cell (.var 40) (.var 42) 0))] twatches_3))))
def twatches_5 : Tree :=
  (.split (.not (.of (.var 52))) (.ret [(.bool (.lit false))]) (.ob (.cmp .lt (.var 41) (.len (.var 39))) (.call 57 [(.arr 40 (.var 43)), (.arr 40 (.cell (.var 39) (.var 41) 0))] (.split (.not (.of (.var 53))) (.ret [(.bool (.lit false))]) (.back 1 [(.bool (.of (.var 40))), (.int (.add (.var 41) (.lit 1)))])))))
def twatches_6 : Tree :=
  (.split (.not (.and (.cmp .eq (.var 44) (.var 48)) (.cmp .eq (.var 45) (.var 49)))) (.ret [(.bool (.lit false))]) (.split (.not (.beq (.of (.var 46)) (.of (.var 50)))) (.ret [(.bool (.lit false))]) (.split (.cmp .ne (.var 47) (.var 51)) (.ret [(.bool (.lit false))]) (.ob (.cmp .lt (.var 41) (.len (.var 37))) (.call 56 [(.arr 23 (.var 42)), (.arr 23 (.cell (.var 37) (.var 41) 0))] twatches_5)))))
def twatches_7 : Tree :=
  (.ob (.cmp .le (.lit 0) (.var 41)) (.ob (.cmp .lt (.var 41) (.len (.var 37))) (.ob (.cmp .lt (.var 41) (.len (.var 39))) (.call 55 [(.arr 23 (.cell (.var 37) (.var 41) 0)), (.arr 40 (.cell (.var 39) (.var 41) 0))] twatches_6))))
def twatches_8 : Tree :=
  (.ob (.and (.cmp .le (.lit (-9223372036854775808)) (.add (.lit 50) (.var 30))) (.cmp .le (.add (.lit 50) (.var 30)) (.lit 9223372036854775807))) (.join [(.vec 40), (.arr 3), .int] (.ob (.cmp .lt (.lit 1) (.len (.var 29))) (.ob (.cmp .lt (.lit 0) (.len (.var 29))) (.ob (.and (.cmp .le (.lit (-9223372036854775808)) (.add (.lit 50) (.var 30))) (.cmp .le (.add (.lit 50) (.var 30)) (.lit 9223372036854775807))) (.call 27 [(.arr 3 (.var 31)), (.int (.var 32)), (.int (.lit 1)), (.int (.cell (.var 29) (.lit 1) 0)), (.int (.cell (.var 29) (.lit 1) 1)), (.int (.cell (.var 29) (.lit 1) 2)), (.int (.cell (.var 29) (.lit 1) 3)), (.int (.cell (.var 29) (.lit 1) 4)), (.int (.cell (.var 29) (.lit 1) 5)), (.int (.cell (.var 29) (.lit 1) 6)), (.int (.cell (.var 29) (.lit 1) 7)), (.int (.var 5)), (.int (.var 6)), (.int (.lit 20)), (.int (.add (.lit 50) (.var 30)))] twatches_1)))) (.split (.cmp .lt (.lit 200) (.len (.var 33))) (.ob (.cmp .le (.lit 200) (.len (.var 33))) (.cat (.sub3 (.var 33) (.lit 0) (.lit 200) 0) .nil (.dfn (.var 29) (.arr [[(.arr 23 (.var 0))], [(.arr 23 (.var 37))]] (.dfn (.var 36) (.arr [[(.arr 40 (.var 1))], [(.arr 40 (.var 39))]] (.loop [.bool, .int] [(.bool (.lit false)), (.int (.lit 0))] (.split (.cmp .lt (.var 42) (.lit 2)) (.join [(.vec 23), (.vec 40)] (.ob (.cmp .le (.lit 0) (.var 42)) (.ob (.cmp .lt (.var 42) (.len (.var 38))) (.ob (.cmp .lt (.var 42) (.len (.var 40))) (.call 52 [(.arr 23 (.cell (.var 38) (.var 42) 0))] (.call 53 [(.arr 40 (.cell (.var 40) (.var 42) 0))] (.back 2 [(.cnt 23 (.var 43)), (.cnt 40 (.var 44))])))))) (.call 54 [(.arr 23 (.var 43)), (.arr 40 (.var 44))] twatches_4)) (.call 19 [] (.ret [(.bool (.of (.var 43)))])))))))))) (.dfn (.var 29) (.arr [[(.arr 23 (.var 0))], [(.arr 23 (.var 36))]] (.dfn (.var 33) (.arr [[(.arr 40 (.var 1))], [(.arr 40 (.var 38))]] (.loop [.bool, .int] [(.bool (.lit false)), (.int (.lit 0))] (.split (.cmp .lt (.var 41) (.lit 2)) (.join [(.vec 23), (.vec 40)] (.ob (.cmp .le (.lit 0) (.var 41)) (.ob (.cmp .lt (.var 41) (.len (.var 37))) (.ob (.cmp .lt (.var 41) (.len (.var 39))) (.call 52 [(.arr 23 (.cell (.var 37) (.var 41) 0))] (.call 53 [(.arr 40 (.cell (.var 39) (.var 41) 0))] (.back 2 [(.cnt 23 (.var 42)), (.cnt 40 (.var 43))])))))) (.call 54 [(.arr 23 (.var 42)), (.arr 40 (.var 43))] twatches_7)) (.call 19 [] (.ret [(.bool (.of (.var 42)))])))))))))))
def twatches_9 : Tree :=
  (.arr [[(.int (.var 9)), (.int (.var 10)), (.int (.var 11)), (.int (.var 12)), (.int (.var 13)), (.int (.var 14)), (.int (.var 15)), (.int (.var 16))], [(.int (.var 19)), (.int (.var 20)), (.int (.var 21)), (.int (.var 22)), (.int (.var 23)), (.int (.var 24)), (.int (.var 25)), (.int (.var 26))]] (.call 26 [(.arr 3 (.var 27)), (.int (.var 28)), (.int (.lit 200))] twatches_8))
def twatches : Tree :=
  (.split (.cmp .lt (.lit 6) (.len (.var 0))) (.call 19 [] (.ret [(.bool (.of (.var 3)))])) (.split (.cmp .lt (.lit 210) (.len (.var 1))) (.call 19 [] (.ret [(.bool (.of (.var 3)))])) (.call 21 [(.arr 3 (.var 2))] (.call 20 [(.arr 3 (.var 3)), (.int (.var 4))] (.call 25 [(.arr 3 (.var 7)), (.int (.var 8))] (.call 25 [(.arr 3 (.var 17)), (.int (.var 18))] twatches_9))))))
end Go.Proofs.Ytlbgcjpkegpmlaa
/- What is to be shown of each function, as the executor has it. Printed by trees.py. -/
namespace Go.Proofs.Ytlbgcjpkegpmlaa
noncomputable def calarms : Cx := tab3.only [] (fun _ => []) [] 0 [] (fun _ => none)
def talarms : Tree :=
  (.loop [.int, .bool, .int, .int] [(.int (.lit 0)), (.bool (.lit false)), (.int (.lit 0)), (.int (.lit 0))] (.split (.cmp .lt (.var 12) (.len (.var 8))) (.ob (.cmp .le (.lit 0) (.var 12)) (.ob (.cmp .lt (.var 12) (.len (.var 8))) (.ob (.and (.cmp .le (.lit (-9223372036854775808)) (.add (.var 11) (.lit 1))) (.cmp .le (.add (.var 11) (.lit 1)) (.lit 9223372036854775807))) (.split (.cmp .lt (.cell (.var 8) (.var 12) 2) (.var 6)) (.split (.cmp .eq (.lit 0) (.var 7)) (.ob (.and (.cmp .le (.lit (-9223372036854775808)) (.add (.cell (.var 8) (.var 12) 1) (.var 2))) (.cmp .le (.add (.cell (.var 8) (.var 12) 1) (.var 2)) (.lit 9223372036854775807))) (.ob (.and (.cmp .le (.lit (-9223372036854775808)) (.add (.cell (.var 8) (.var 12) 1) (.var 2))) (.cmp .le (.add (.cell (.var 8) (.var 12) 1) (.var 2)) (.lit 9223372036854775807))) (.ret [(.int (.add (.cell (.var 8) (.var 12) 1) (.var 2))), (.bool (.lit true))]))) (.back 0 [(.int (.var 9)), (.bool (.of (.var 10))), (.int (.lit 0)), (.int (.add (.var 12) (.lit 1)))])) (.split (.cmp .eq (.add (.var 11) (.lit 1)) (.var 7)) (.ob (.and (.cmp .le (.lit (-9223372036854775808)) (.add (.cell (.var 8) (.var 12) 1) (.var 2))) (.cmp .le (.add (.cell (.var 8) (.var 12) 1) (.var 2)) (.lit 9223372036854775807))) (.ob (.and (.cmp .le (.lit (-9223372036854775808)) (.add (.cell (.var 8) (.var 12) 1) (.var 2))) (.cmp .le (.add (.cell (.var 8) (.var 12) 1) (.var 2)) (.lit 9223372036854775807))) (.ret [(.int (.add (.cell (.var 8) (.var 12) 1) (.var 2))), (.bool (.lit true))]))) (.ob (.and (.cmp .le (.lit (-9223372036854775808)) (.add (.var 11) (.lit 1))) (.cmp .le (.add (.var 11) (.lit 1)) (.lit 9223372036854775807))) (.back 0 [(.int (.var 9)), (.bool (.of (.var 10))), (.int (.add (.var 11) (.lit 1))), (.int (.add (.var 12) (.lit 1)))]))))))) (.ret [(.int (.lit 0)), (.bool (.lit false))])))
noncomputable def cralarm : Cx := tab3.only [] (fun _ => []) [] 0 [] (fun _ => none)
def tralarm : Tree :=
  (.loop [.int, .bool, .int, .int] [(.int (.lit 0)), (.bool (.lit false)), (.int (.lit 0)), (.int (.lit 0))] (.split (.cmp .lt (.var 12) (.len (.var 8))) (.ob (.cmp .le (.lit 0) (.var 12)) (.ob (.cmp .lt (.var 12) (.len (.var 8))) (.split (.cmp .lt (.cell (.var 8) (.var 12) 2) (.var 6)) (.back 0 [(.int (.var 9)), (.bool (.of (.var 10))), (.int (.lit 0)), (.int (.add (.var 12) (.lit 1)))]) (.ob (.and (.cmp .le (.lit (-9223372036854775808)) (.add (.var 11) (.lit 1))) (.cmp .le (.add (.var 11) (.lit 1)) (.lit 9223372036854775807))) (.split (.cmp .eq (.add (.var 11) (.lit 1)) (.var 7)) (.ob (.cmp .lt (.var 12) (.len (.var 8))) (.ob (.and (.cmp .le (.lit (-9223372036854775808)) (.add (.cell (.var 8) (.var 12) 1) (.var 2))) (.cmp .le (.add (.cell (.var 8) (.var 12) 1) (.var 2)) (.lit 9223372036854775807))) (.ob (.and (.cmp .le (.lit (-9223372036854775808)) (.add (.cell (.var 8) (.var 12) 1) (.var 2))) (.cmp .le (.add (.cell (.var 8) (.var 12) 1) (.var 2)) (.lit 9223372036854775807))) (.ret [(.int (.add (.cell (.var 8) (.var 12) 1) (.var 2))), (.bool (.lit true))])))) (.ob (.and (.cmp .le (.lit (-9223372036854775808)) (.add (.var 11) (.lit 1))) (.cmp .le (.add (.var 11) (.lit 1)) (.lit 9223372036854775807))) (.back 0 [(.int (.var 9)), (.bool (.of (.var 10))), (.int (.add (.var 11) (.lit 1))), (.int (.add (.var 12) (.lit 1)))]))))))) (.ret [(.int (.lit 0)), (.bool (.lit false))])))
noncomputable def cof : Cx := tab3.only [] (fun _ => []) [] 0 [] (fun _ => none)
def tof : Tree :=
  (.dfn .nil (.dfn .nil (.loop [(.vec 40), .int] [(.cnt 40 (.var 3)), (.int (.lit 0))] (.split (.cmp .lt (.var 5) (.len (.var 0))) (.ob (.cmp .le (.lit 0) (.var 5)) (.ob (.cmp .lt (.var 5) (.len (.var 0))) (.split (.cmp .eq (.cell (.var 0) (.var 5) 0) (.var 1)) (.ob (.cmp .lt (.var 5) (.len (.var 0))) (.arr [[(.int (.cell (.var 0) (.var 5) 0)), (.int (.cell (.var 0) (.var 5) 1)), (.int (.cell (.var 0) (.var 5) 2))]] (.ob (.cmp .le (.mul (.add (.len (.var 4)) (.len (.var 6))) (.lit 24)) (.lit 140737488355328)) (.cat (.var 4) (.var 6) (.back 0 [(.cnt 40 (.var 7)), (.int (.add (.var 5) (.lit 1)))]))))) (.back 0 [(.cnt 40 (.var 4)), (.int (.add (.var 5) (.lit 1)))])))) (.ret [(.cnt 40 (.var 4))])))))
noncomputable def crchk : Cx := tab3.only [69, 86] (fun _ => []) [] 0 [] (fun _ => none)
def trchk : Tree :=
  (.split (.cmp .lt (.lit 200) (.len (.var 1))) (.ret [(.int (.lit 8))]) (.loop [.int, .int] [(.int (.lit 0)), (.int (.lit 0))] (.split (.cmp .lt (.var 3) (.len (.var 1))) (.ob (.cmp .le (.lit 0) (.var 3)) (.ob (.cmp .lt (.var 3) (.len (.var 1))) (.split (.cmp .lt (.cell (.var 1) (.var 3) 0) (.lit 0)) (.ret [(.int (.lit 7))]) (.ob (.cmp .lt (.var 3) (.len (.var 1))) (.split (.cmp .le (.len (.var 0)) (.cell (.var 1) (.var 3) 0)) (.ret [(.int (.lit 7))]) (.back 0 [(.int (.var 2)), (.int (.add (.var 3) (.lit 1)))])))))) (.loop [.int, .int] [(.int (.var 2)), (.int (.lit 0))] (.split (.cmp .lt (.var 5) (.len (.var 1))) (.ob (.cmp .le (.lit 0) (.var 5)) (.ob (.cmp .lt (.var 5) (.len (.var 1))) (.split (.not (.and (.cmp .le (.lit 0) (.cell (.var 1) (.var 5) 1)) (.cmp .le (.cell (.var 1) (.var 5) 1) (.lit 1099511627176)))) (.ret [(.int (.lit 2))]) (.ob (.cmp .lt (.var 5) (.len (.var 1))) (.split (.not (.and (.cmp .le (.lit (-1125899906842624)) (.cell (.var 1) (.var 5) 2)) (.cmp .le (.cell (.var 1) (.var 5) 2) (.lit 1125899906842624)))) (.ret [(.int (.lit 2))]) (.back 1 [(.int (.var 4)), (.int (.add (.var 5) (.lit 1)))])))))) (.loop [.int, .int] [(.int (.var 4)), (.int (.lit 0))] (.split (.cmp .lt (.var 7) (.len (.var 0))) (.call 86 [(.arr 40 (.var 1)), (.int (.var 7))] (.loop [.int, .int] [(.int (.var 6)), (.int (.lit 1))] (.split (.cmp .lt (.var 10) (.len (.var 8))) (.ob (.cmp .le (.lit 0) (.var 10)) (.ob (.cmp .lt (.var 10) (.len (.var 8))) (.ob (.cmp .le (.lit 0) (.sub (.var 10) (.lit 1))) (.ob (.cmp .lt (.sub (.var 10) (.lit 1)) (.len (.var 8))) (.split (.cmp .le (.cell (.var 8) (.var 10) 1) (.cell (.var 8) (.sub (.var 10) (.lit 1)) 1)) (.ret [(.int (.lit 11))]) (.back 3 [(.int (.var 9)), (.int (.add (.var 10) (.lit 1)))])))))) (.back 2 [(.int (.var 9)), (.int (.add (.var 7) (.lit 1)))])))) (.ret [(.int (.lit 0))]))))))))
noncomputable def crwatch : Cx := tab3.only [43, 84, 85, 86] (fun r => match r with
  | 10 => [.blk 1]
  | _ => []) [] 0 [] (fun _ => none)
def trwatch : Tree :=
  (.call 43 [(.arr 23 (.var 0))] (.split (.cmp .ne (.var 2) (.lit 0)) (.ret [(.int (.lit 0)), (.int (.lit 0)), (.bool (.lit false)), (.int (.var 2))]) (.call 84 [(.arr 23 (.var 0)), (.arr 40 (.var 1))] (.split (.cmp .ne (.var 3) (.lit 0)) (.ret [(.int (.lit 0)), (.int (.lit 0)), (.bool (.lit false)), (.int (.var 3))]) (.loop [.bool, .int, .int, .int] [(.bool (.lit false)), (.int (.lit 0)), (.int (.lit 0)), (.int (.lit 0))] (.split (.cmp .lt (.var 5) (.len (.var 0))) (.ob (.cmp .le (.lit 0) (.var 5)) (.ob (.cmp .lt (.var 5) (.len (.var 0))) (.call 86 [(.arr 40 (.var 1)), (.int (.var 5))] (.call 85 [(.int (.cell (.var 0) (.var 5) 0)), (.int (.cell (.var 0) (.var 5) 1)), (.int (.cell (.var 0) (.var 5) 2)), (.int (.cell (.var 0) (.var 5) 3)), (.int (.cell (.var 0) (.var 5) 4)), (.int (.cell (.var 0) (.var 5) 5)), (.int (.cell (.var 0) (.var 5) 6)), (.int (.cell (.var 0) (.var 5) 7)), (.arr 40 (.var 8))] (.split (.of (.var 10)) (.split (.not (.of (.var 4))) (.back 0 [(.bool (.lit true)), (.int (.add (.var 5) (.lit 1))), (.int (.var 5)), (.int (.var 9))]) (.split (.cmp .lt (.var 9) (.var 7)) (.back 0 [(.bool (.lit true)), (.int (.add (.var 5) (.lit 1))), (.int (.var 5)), (.int (.var 9))]) (.back 0 [(.bool (.of (.var 4))), (.int (.add (.var 5) (.lit 1))), (.int (.var 6)), (.int (.var 7))]))) (.back 0 [(.bool (.of (.var 4))), (.int (.add (.var 5) (.lit 1))), (.int (.var 6)), (.int (.var 7))])))))) (.ret [(.int (.var 6)), (.int (.var 7)), (.bool (.of (.var 4))), (.int (.lit 0))])))))))
end Go.Proofs.Ytlbgcjpkegpmlaa
