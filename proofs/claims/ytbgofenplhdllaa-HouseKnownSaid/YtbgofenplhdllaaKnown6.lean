/- Texts laid into one: Ev En Ez. -/
import Derived.Test.YtbgofenplhdllaaKnown5
import Derived.Scope
import Derived.Test.YtbgofenplhdllaaProg
/- The engine, part 13b: drawn regions with allocations that are put off. -/
namespace Go.Proofs.Ytbgofenplhdllaa
open Go.RowKit
set_option linter.unusedSimpArgs false
set_option linter.unusedVariables false

section
variable {Γ : Env} {base' : Nat → Nat → Prop}
theorem Lf.den_base (l : Lf) : l.den { Γ with base := base' } = l.den Γ := by cases l <;> rfl
theorem dens_base (l : List Lf) : dens { Γ with base := base' } l = dens Γ l := by
  unfold dens; rw [List.map_congr_left fun x _ => Lf.den_base x]
theorem S0.den_base (s : S0) : s.den { Γ with base := base' } = s.den Γ := by
  cases s with
  | lf l => exact Lf.den_base l
  | agg l => simp only [S0.den, dens_base]
theorem SV.den_base (s : SV) : s.den { Γ with base := base' } = s.den Γ := by
  cases s with
  | one s => exact S0.den_base s
  | tup l => simp only [SV.den]; rw [List.map_congr_left fun x _ => S0.den_base x]
  | fn f l => simp only [SV.den, dens_base]
theorem Lf.ok_base {P : Program} {w : World} {O : Nat → Nat → Prop} {l : Lf} : l.ok P w O { Γ with base := base' } ↔ l.ok P w O Γ := by cases l <;> exact Iff.rfl
theorem S0.ok_base {P : Program} {w : World} {O : Nat → Nat → Prop} {s : S0} : s.ok P w O { Γ with base := base' } ↔ s.ok P w O Γ := ⟨fun h l hl => Lf.ok_base.1 (h l hl), fun h l hl => Lf.ok_base.2 (h l hl)⟩
theorem SV.ok_base {P : Program} {w : World} {O : Nat → Nat → Prop} {s : SV} : s.ok P w O { Γ with base := base' } ↔ s.ok P w O Γ := by
  cases s with
  | one s => exact S0.ok_base
  | tup l => exact ⟨fun h s hs => S0.ok_base.1 (h s hs), fun h s hs => S0.ok_base.2 (h s hs)⟩
  | fn f l => exact ⟨fun h l hl => Lf.ok_base.1 (h l hl), fun h l hl => Lf.ok_base.2 (h l hl)⟩
theorem Hold.base {st : St} {s : Bool} {j b : Nat} : Hold { Γ with base := base' } st s j b ↔ Hold Γ st s j b := by cases s <;> exact Iff.rfl
end
/-- Only blocks that are watched over and nobody's have turned; new ones may be watched over. -/
theorem Sat.hand {P : Program} {F : Nat → Prop} {w0 : World} {Γ : Env} {st : St} {a : Act} {w : World} (h : Sat P F w0 Γ st a w) {w' : World} {F' : Nat → Prop} {base' : Nat → Nat → Prop} (hsz : w.heap.size ≤ w'.heap.size)
    (hblk : ∀ i, i < w.heap.size → ¬ (F i ∧ ∀ o, Γ.base i o) → w'.heap[i]? = w.heap[i]?) (hb2 : ∀ b o, base' b o → Γ.base b o ∨ w.heap.size ≤ b) (hb3 : ∀ b o, base' b o → b < w'.heap.size)
    (hF : ∀ i, F' i → i < w'.heap.size ∧ (F i ∨ w.heap.size ≤ i ∨ ∃ o, ¬ Own Γ st i o)) : Sat P F' w' { Γ with base := base' } st a w' := by
  have hown : ∀ b o, Own { Γ with base := base' } st b o → Own Γ st b o ∨ w.heap.size ≤ b := fun b o hb => by
    rcases Own.iff.1 hb with hb | ⟨s, j, hh⟩
    · exact (hb2 b o hb).imp (fun h => .inl h) id
    · exact .inl ((Hold.base.1 hh).own o)
  have hkeep : ∀ b o, b < w.heap.size → ¬ Own Γ st b o → w'.cell? ⟨b, o, none⟩ = w.cell? ⟨b, o, none⟩ ∧ ¬ Own { Γ with base := base' } st b o := fun b o hlt hno =>
    ⟨World.cell?_of_block (hblk b hlt fun hx => hno (.inl (hx.2 o))), fun ho => (hown b o ho).elim hno fun hge => by omega⟩
  have hnF : ∀ b, b < w.heap.size → ¬ F b → (∀ o, Own Γ st b o) → ¬ F' b := fun b hlt hn ho hf => by
    obtain ⟨-, h1 | h1 | ⟨o, h1⟩⟩ := hF b hf
    · exact hn h1
    · omega
    · exact h1 (ho o)
  refine ⟨fun t sv ht => ?_, h.size, fun b mb hm => ?_, fun i e hi => ?_, fun i e hi => ?_, fun s j s' j' b h1 h2 => h.inj s j s' j' b (Hold.base.1 h1) (Hold.base.1 h2), Keeps.refl _ _, fun i hi => (hF i hi).1, hb3, h.defers, h.len, h.nb, h.num⟩
  · obtain ⟨h1, h2⟩ := h.slots t sv ht
    exact ⟨by rw [SV.den_base]; exact h1, SV.ok_base.2 (SV.ok_keep h2 hsz hkeep)⟩
  · obtain ⟨h1, h2, h3, h4⟩ := h.mem b mb hm
    exact ⟨by rw [dens_base]; exact (hblk _ h1.lt fun hx => h3 hx.1).trans h1, fun l hl => Lf.ok_base.2 (Lf.ok_keep (h2 l hl) hsz hkeep), hnF _ h1.lt h3 fun o => (Hold.mem (Γ := Γ) hm).own o, h4⟩
  · obtain ⟨h1, h2, h3⟩ := h.vec i e hi
    exact ⟨h1.keep hsz hkeep fun b hb => hblk b (h1.lt hb) fun hx => (h3 b hb).1 hx.1, h2, fun b hb => ⟨hnF b (h1.lt hb) (h3 b hb).1 fun o => (Hold.vec (Γ := Γ) hi hb).own o, fun o ho => (hb2 b o ho).elim (fun hx => (h3 b hb).2 o hx) fun hx => by have := h1.lt hb; omega⟩⟩
  · obtain ⟨h1, h2, h3⟩ := h.clo i e hi
    refine ⟨?_, fun s hs => S0.ok_base.2 (S0.ok_keep (h2 s hs) hsz hkeep), fun l hl => Lf.ok_base.2 (Lf.ok_keep (h3 l hl) hsz hkeep)⟩
    rw [List.map_congr_left fun s _ => S0.den_base s, List.map_congr_left fun l _ => Lf.den_base l]
    exact h1
/-- Back to what was watched over first. -/
theorem Sat.back {P : Program} {F F' : Nat → Prop} {w0 w1 : World} {Γ : Env} {st : St} {a : Act} {w : World} {base' : Nat → Nat → Prop} (h : Sat P F' w1 Γ st a w) (hF : ∀ i, F i → F' i) (hk : Keeps F w0 w) (hf : ∀ i, F i → i < w0.heap.size) (hb : ∀ b o, base' b o → Γ.base b o) : Sat P F w0 { Γ with base := base' } st a w := by
  have hown : ∀ b o, Own { Γ with base := base' } st b o → Own Γ st b o := fun b o ho => by
    rcases Own.iff.1 ho with ho | ⟨s, j, hh⟩
    · exact .inl (hb b o ho)
    · exact (Hold.base.1 hh).own o
  have hkeep : ∀ b o, b < w.heap.size → ¬ Own Γ st b o → w.cell? ⟨b, o, none⟩ = w.cell? ⟨b, o, none⟩ ∧ ¬ Own { Γ with base := base' } st b o := fun b o _ hno => ⟨rfl, fun ho => hno (hown b o ho)⟩
  refine ⟨fun t sv ht => ?_, h.size, fun b mb hm => ?_, fun i e hi => ?_, fun i e hi => ?_, fun s j s' j' b h1 h2 => h.inj s j s' j' b (Hold.base.1 h1) (Hold.base.1 h2), hk, hf, fun b o ho => h.base b o (hb b o ho), h.defers, h.len, h.nb, h.num⟩
  · obtain ⟨h1, h2⟩ := h.slots t sv ht
    exact ⟨by rw [SV.den_base]; exact h1, SV.ok_base.2 (SV.ok_keep h2 (Nat.le_refl _) hkeep)⟩
  · obtain ⟨h1, h2, h3, h4⟩ := h.mem b mb hm
    exact ⟨by rw [dens_base]; exact h1, fun l hl => Lf.ok_base.2 (Lf.ok_keep (h2 l hl) (Nat.le_refl _) hkeep), fun hx => h3 (hF _ hx), h4⟩
  · obtain ⟨h1, h2, h3⟩ := h.vec i e hi
    exact ⟨h1.keep (Nat.le_refl _) hkeep fun _ _ => rfl, h2, fun b hb' => ⟨fun hx => (h3 b hb').1 (hF _ hx), fun o ho => (h3 b hb').2 o (hb b o ho)⟩⟩
  · obtain ⟨h1, h2, h3⟩ := h.clo i e hi
    refine ⟨?_, fun s hs => S0.ok_base.2 (S0.ok_keep (h2 s hs) (Nat.le_refl _) hkeep), fun l hl => Lf.ok_base.2 (Lf.ok_keep (h3 l hl) (Nat.le_refl _) hkeep)⟩
    rw [List.map_congr_left fun s _ => S0.den_base s, List.map_congr_left fun l _ => Lf.den_base l]
    exact h1
section
variable {cx : Cx} {R : List C → Prop} {F : Nat → Prop} {w0 : World}
theorem zero_dens {P : Program} {t : TypeId} {cs : List Lf} (h : zeroLf P t = some cs) (Γ Γ' : Env) : dens Γ cs = dens Γ' cs := by
  obtain ⟨it, z, h1, h2, h3⟩ := zeroLf_spec h Γ
  obtain ⟨it', z', h1', h2', h3'⟩ := zeroLf_spec h Γ'
  rw [h1] at h1'
  cases h1'
  rw [h2] at h2'
  cases h2'
  rw [← h3, h3']
theorem zero_ok {P : Program} {t : TypeId} {cs : List Lf} (h : zeroLf P t = some cs) (w : World) (O : Nat → Nat → Prop) (Γ : Env) : ∀ l ∈ cs, l.ok P w O Γ := fun l hl => by
  unfold zeroLf at h
  split at h
  · rename_i it hi
    cases hzz : it.zero with
    | none => simp [hzz] at h
    | some zv =>
      simp [hzz] at h
      subst h
      obtain ⟨v, -, rfl⟩ := List.mem_map.1 hl
      unfold Lf.ofValue
      split <;> trivial
  · cases h
theorem run_alloc {P : Program} {o : Oper} {t : TypeId} (ho : o.op = .alloc t) {cs : List Lf} (hz : zeroLf P t = some cs) (Γ : Env) (a : Act) (w : World) :
    (execOp a.eval o).run P w = .ok (.value (.pointer (some ⟨w.heap.size, 0, none⟩))) (w.alloc (.cells (dens Γ cs) t)) := by
  obtain ⟨it, z, hi, hzz, hc⟩ := zeroLf_spec hz Γ
  unfold execOp
  rw [ho]
  simp [Instr.alloc, zeroValue, run_typeInfo' hi, hzz, newVar, newRow, hc]
theorem allocOp_spec {P : Program} {o : Oper} (h : allocOp P o = true) : ∃ t ca, o.op = .alloc t ∧ zeroLf P t = some ca ∧ o.guard = none := by
  simp only [allocOp, Bool.and_eq_true, Option.isNone_iff_eq_none] at h
  obtain ⟨⟨⟨h, hg⟩, -⟩, -⟩ := h
  split at h
  · rename_i t ht
    obtain ⟨ca, hca⟩ := Option.isSome_iff_exists.1 h
    exact ⟨t, ca, ht, hca, hg⟩
  · cases h
theorem Sat.noVec {P : Program} {F : Nat → Prop} {w0 : World} {Γ : Env} {st : St} {a : Act} {w : World} {ob : Nat → Prop} (h : Sat P F w0 (Γ.addO ob) st a w) {x : Nat} (hx : ob x) (j : Nat) : ¬ Hold Γ st false j x :=
  fun ⟨e, h1, h2⟩ => ((h.vec j e h1).2.2 x h2).2 0 (.inr hx)
/-- An allocation that came some time ago: now it is taken up. -/
theorem alloc_step {ops : Array Oper} {o : Oper} {rest : List Oper} {t : TypeId} (hopeq : o.op = .alloc t) (hg : o.guard = none) {k : St → Option Tree} {st : St} {T : Tree} (g2 : execOps cx ops (o :: rest) st k = some T) {Γ : Env} {ob : Nat → Prop} {a : Act} {w1 : World}
    (hsat : Sat cx.P F w0 (Γ.addO ob) st a w1) {b : Nat} (hob : ob b) {ca : List Lf} (hz : zeroLf cx.P t = some ca) (hb1 : ∀ Γ, Blk w1 b t (dens Γ ca)) (hb2 : w0.heap.size ≤ b) (hne : ∀ x, ob x → ∀ j, ¬ Hold Γ st true j x) {Ls : List (List C → Prop)} (g5 : VC cx R T Γ.ρ Ls) :
    ∃ st2 T2 Γ2, execOps cx ops rest st2 k = some T2 ∧ Ext Γ Γ2 ∧ st2.lvl = st.lvl ∧ VC cx R T2 Γ2.ρ Ls ∧ Sat cx.P F w0 (Γ2.addO fun x => ob x ∧ x ≠ b) st2 (a.put o.dst (.pointer (some ⟨b, 0, none⟩))) w1 ∧ ∀ x, ob x ∧ x ≠ b → ∀ j, ¬ Hold Γ2 st2 true j x := by
  have hct : ∀ rest st k, clearT cx st o rest k = none := fun rest st k => clearT_slice fun t x y u v e => by rw [hopeq] at e; cases e
  simp only [execOps, hct, hg] at g2
  have g2 := orF_some g2 g5
  have hfz : toFreeze cx st o = [] := by unfold toFreeze; rw [hopeq]
  have hov : opVal cx.P st o = none := by unfold opVal; rw [hopeq]
  simp only [doOpF, hfz, freezeAll, doOp, hov, hopeq, hz] at g2
  split at g2
  · rename_i s' st0 m hn
    have hn := nilsA_some hn
    obtain ⟨f1, f2, f3, f4, f5, f6, f7, f8, f9⟩ := hsat.nils hn (s := .agg ca) (zero_ok hz _ _ _)
    cases hf : st0.fresh t s'.cells with
    | none => simp [hf] at g2
    | some st1 =>
      cases hp : st1.put o.dst (some (.one (.lf (.ptr st.nb 0)))) with
      | none => simp [hf, hp] at g2
      | some st2 =>
        cases hk2 : execOps cx ops rest st2 k with
        | none => simp [hf, hp, hk2] at g2
        | some T2 =>
          simp [hf, hp, hk2] at g2
          subst g2
          have hvc2 := VC.dfnN g5
          have hd : dens { Γ with ρ := Γ.ρ ++ List.replicate m nilC } s'.cells = dens { Γ with ρ := Γ.ρ ++ List.replicate m nilC } ca := by
            have h9 := f9
            rw [show ({ (Γ.addO ob) with ρ := (Γ.addO ob).ρ ++ List.replicate m nilC } : Env) = ({ Γ with ρ := Γ.ρ ++ List.replicate m nilC } : Env).addO ob from rfl] at h9
            rw [List.map_congr_left fun l _ => Lf.den_addO _ ob l, List.map_congr_left fun l _ => Lf.den_addO Γ ob l] at h9
            have hz9 := zero_dens hz Γ { Γ with ρ := Γ.ρ ++ List.replicate m nilC }
            unfold dens at hz9 ⊢
            rw [h9]; exact hz9
          have hsat2 : Sat cx.P F w0 (({ Γ with ρ := Γ.ρ ++ List.replicate m nilC } : Env).addO ob) st0 a w1 := f2
          have hne2 : ∀ x, ob x → ∀ s j, ¬ Hold ({ Γ with ρ := Γ.ρ ++ List.replicate m nilC } : Env) st0 s j x := fun x hx s j hh => by
            cases s with
            | false => exact hsat2.noVec hx j hh
            | true =>
              obtain ⟨mb, h1, h2⟩ := hh
              rw [f7] at h1
              exact hne x hx j ⟨mb, h1, h2⟩
          obtain ⟨Γ2, e1, e2, e3, e6, e4, e5⟩ := hsat2.adoptS hob hf (by rw [hd]; exact hb1 _) hb2 (hne2 b hob) (fun l hl => Lf.ok_addO.1 (f4 l hl))
          have hput := e4.put hp (one_ok trivial)
          simp only [SV.den, S0.den, Lf.den] at hput
          rw [← f6, show (Γ2.addO fun x => ob x ∧ x ≠ b).blk st0.nb = b from e3] at hput
          have hext : Ext Γ { Γ with ρ := Γ.ρ ++ List.replicate m nilC } := ⟨⟨_, rfl⟩, fun _ _ => rfl, Nat.le_refl _, rfl, rfl⟩
          refine ⟨st2, T2, Γ2, hk2, hext.trans e1, by rw [St.put_lvl hp, e5, f5], by rw [e2]; exact hvc2, hput, fun x hx j hh => ?_⟩
          obtain ⟨mb, h1, h2⟩ := hh
          rw [St.put_mem hp] at h1
          rcases e6 true j x ⟨mb, h1, h2⟩ with h | h
          · exact hne2 x hx.1 true j h
          · exact hx.2 h
  · cases hf : st.fresh t ca with
    | none => simp [hf] at g2
    | some st1 =>
      cases hp : st1.put o.dst (some (.one (.lf (.ptr st.nb 0)))) with
      | none => simp [hf, hp] at g2
      | some st2 =>
        simp [hf, hp] at g2
        have hne2 : ∀ x, ob x → ∀ s j, ¬ Hold Γ st s j x := fun x hx s j hh => by
          cases s with
          | false => exact hsat.noVec hx j hh
          | true => exact hne x hx j hh
        obtain ⟨Γ2, e1, e2, e3, e6, e4, e5⟩ := hsat.adoptS hob hf (hb1 _) hb2 (hne2 b hob) (fun l hl => zero_ok hz _ _ _ l hl)
        have hput := e4.put hp (one_ok trivial)
        simp only [SV.den, S0.den, Lf.den] at hput
        rw [show (Γ2.addO fun x => ob x ∧ x ≠ b).blk st.nb = b from e3] at hput
        refine ⟨st2, T, Γ2, g2, e1, by rw [St.put_lvl hp, e5], by rw [e2]; exact g5, hput, fun x hx j hh => ?_⟩
        obtain ⟨mb, h1, h2⟩ := hh
        rw [St.put_mem hp] at h1
        rcases e6 true j x ⟨mb, h1, h2⟩ with h | h
        · exact hne2 x hx.1 true j h
        · exact hx.2 h
theorem joinOk_spec {st st1 : St} {ps : List Pl} {ks : List Lk} (hc : joinOk st st1 ps ks = true) : headWf st1 st.nx ps = true ∧ st1.nx = st.nx + ks.length ∧ st.nb ≤ st1.nb ∧ st1.nt = st.nt ∧ st1.bds = st.bds ∧ st1.lvl = st.lvl + 1 := by
  simp only [joinOk, Bool.and_eq_true, decide_eq_true_eq] at hc
  obtain ⟨⟨⟨⟨⟨c2, c4⟩, c5⟩, c6⟩, c7⟩, c8⟩ := hc
  exact ⟨c2, Nat.eq_of_beq_eq_true c4, Nat.le_of_ble_eq_true c5, Nat.eq_of_beq_eq_true c6, c7, Nat.eq_of_beq_eq_true c8⟩
/-- A way ends; what follows from where the ways meet. -/
theorem joinEnd_sound' {st st1 : St} {ps : List Pl} {ks : List Lk} (hc : joinOk st st1 ps ks = true) {k : St → Option Tree} {t : Tree} (ht : k st1 = some t) {Γ : Env} {Ls : List (List C → Prop)} (hl : Ls.length = st.lvl) (hlen : Γ.ρ.length = st.nx) (hnb0 : Γ.nb = st.nb) (hnum0 : Num st.bds Γ.ρ)
    {I : List C → Prop} (hall : allC cx.P ks fun xs => I xs → VC cx R t (Γ.ρ ++ xs) (Ls ++ [I])) {Q : Act → World → Prop} (hk : Next cx R F w0 k Γ Ls Q) {id : Nat} : Next cx R F w0 (joinEnd st st1 ps ks id) Γ (Ls ++ [I]) Q := by
  obtain ⟨c2, c4, c5, c6, c7, c8⟩ := joinOk_spec hc
  have hnum1 : Num st1.bds Γ.ρ := by rw [c7]; exact hnum0
  intro st' T' Γ' Ls' hk' he' hl' hlen' hv' a' w' hs'
  unfold joinEnd at hk'
  split at hk'
  · rename_i hc
    simp only [Bool.and_eq_true] at hc
    obtain ⟨⟨d1, d2⟩, d3⟩ := hc
    split at hk'
    · rename_i vals hvals
      split at hk'
      · rename_i hks'
        cases hk'
        obtain ⟨hob', hback⟩ := VC.obT hv'
        obtain ⟨l, hl2⟩ := he'.ρ
        obtain ⟨hty', hsat'⟩ := hs'.rebase (st1 := st1) (ρ0 := Γ.ρ) ⟨l, hl2⟩ (by rw [hlen]; exact d1) (by rw [hlen]; exact hvals) hks' hob' (by rw [hlen]; exact c2) (Nat.eq_of_beq_eq_true d3) (Nat.le_of_ble_eq_true d2) (by rw [hlen]; exact c4) hnum1
        have hget : Ls'[st.lvl]? = some I := by
          obtain ⟨m, rfl⟩ := hl'
          rw [List.append_assoc, List.getElem?_append_right (by omega), hl]
          simp
        simp only [VC, hget] at hback
        have hvx := allC_elim hall _ hty' hback
        refine hk st1 t { Γ' with ρ := Γ.ρ ++ cs_ Γ'.ρ vals, nb := st1.nb } (Ls ++ [I]) ht ⟨⟨_, rfl⟩, fun b hb => he'.blk b hb, by rw [hnb0]; exact c5, he'.base, he'.up⟩ (List.prefix_append _ _) (by simp [hl, c8]) hvx a' w' hsat'
      · cases hk'; exact hv'.elim
    · cases hk'; exact hv'.elim
  · cases hk'; exact hv'.elim
theorem joinEnd_sound {st st1 : St} {ps : List Pl} {ks : List Lk} (hc : joinOk st st1 ps ks = true) {k : St → Option Tree} {t : Tree} (ht : k st1 = some t) {Γ : Env} {Ls : List (List C → Prop)} (hl : Ls.length = st.lvl) {a : Act} {w : World} (hs : Sat cx.P F w0 Γ st a w)
    {I : List C → Prop} (hall : allC cx.P ks fun xs => I xs → VC cx R t (Γ.ρ ++ xs) (Ls ++ [I])) {Q : Act → World → Prop} (hk : Next cx R F w0 k Γ Ls Q) {id : Nat} : Next cx R F w0 (joinEnd st st1 ps ks id) Γ (Ls ++ [I]) Q :=
  joinEnd_sound' hc ht hl hs.len hs.nb hs.num hall hk
/-! Soundness -/
theorem Oper.wp_frame {P : Program} {o : Oper} {a : Act} {w : World} {K : Act → World → Prop} {Q : Exit → Act → World → Prop} (hh : o.wp P a w K Q) : o.wp P a w (fun a' w' => K a' w' ∧ ∀ t, o.dst ≠ some t → a'.tmps[t]? = a.tmps[t]?) Q := by
  have key : ∀ (a1 : Act) (v : Value), a1.tmps = a.tmps → ∀ t, o.dst ≠ some t → (a1.put o.dst v).tmps[t]? = a.tmps[t]? := fun a1 v h1 t ht => by
    cases hd : o.dst with
    | none => simp [Act.put, h1]
    | some d =>
      rw [hd] at ht
      simp only [Act.put, h1]
      rw [Array.getElem?_setIfInBounds, if_neg (fun e => ht (by rw [e]))]
  unfold Oper.wp at *
  generalize (execOp a.eval o).run P w = r at *
  cases r with
  | ok n w' =>
    cases n <;> simp only [Oper.upon] at hh ⊢ <;>
      first
        | exact ⟨hh, key _ _ rfl⟩
        | exact Calls.mono hh (fun e w'' he => by cases e <;> first | exact ⟨he, key _ _ rfl⟩ | exact he)
        | exact Rows.mono hh (fun _ _ he => ⟨he, key _ _ rfl⟩)
  | halt x w' => cases x <;> simp only [Oper.upon] at hh ⊢ <;> exact hh
theorem put_self {a : Act} {d : Nat} {v : Value} (h : a.tmps[d]? = some v) : a.put (some d) v = a := by
  obtain ⟨tmps, defers⟩ := a
  simp only [Act.put]
  congr 1
  apply Array.ext_getElem?
  intro i
  rw [Array.getElem?_setIfInBounds]
  split
  · rename_i e
    subst e
    have hlt : d < tmps.size := (Array.getElem?_eq_some_iff.1 h).1
    rw [if_pos hlt]; exact h.symm
  · rfl
theorem Env.unO {Γ Γ0 Γ2 : Env} {ob : Nat → Prop} (he : Ext Γ0 Γ) (he2 : Ext (Γ.addO ob) Γ2) : Ext Γ0 { Γ2 with base := Γ.base } ∧ Γ2 = ({ Γ2 with base := Γ.base } : Env).addO ob := by
  refine ⟨⟨?_, fun b hb => ?_, ?_, he.base, ?_⟩, ?_⟩
  · obtain ⟨l, e⟩ := he.ρ
    obtain ⟨m, e2⟩ := he2.ρ
    exact ⟨l ++ m, by show Γ2.ρ = _; rw [e2, show (Γ.addO ob).ρ = Γ.ρ from rfl, e, List.append_assoc]⟩
  · show Γ2.blk b = _
    rw [he2.blk b (Nat.lt_of_lt_of_le hb he.nb)]; exact he.blk b hb
  · exact Nat.le_trans he.nb he2.nb
  · show Γ2.up = _
    rw [he2.up]; exact he.up
  · have hb := he2.base
    cases Γ2
    simp only [Env.addO] at hb ⊢
    rw [hb]
/-- What is known while allocations are put off. -/
structure Late (P : Program) (ops : Array Oper) (F : Nat → Prop) (w0 : World) (Γ : Env) (ob : Nat → Option Nat) (L : Array Bool) (st : St) (a : Act) (w : World) : Prop where
  sat : ∃ wA, Keeps F w0 wA ∧ Sat P (fun i => F i ∨ madeOf ob i) wA (Γ.addO (madeOf ob)) st a w ∧ ∀ i b, ob i = some b → ∀ o t ca Γ', ops[i]? = some o → o.op = .alloc t → zeroLf P t = some ca → Blk wA b t (dens Γ' ca)
  old : ∀ i, F i → i < w0.heap.size
  rng : ∀ i b, ob i = some b → lateAt P ops i = true ∧ w0.heap.size ≤ b
  slot : ∀ i b o d, ob i = some b → ops[i]? = some o → o.dst = some d → a.tmps[d]? = some (.pointer (some ⟨b, 0, none⟩))
  inj : ∀ i j b, ob i = some b → ob j = some b → i = j
  all : ∀ i, lateAt P ops i = true → L.getD i false = (ob i).isSome
theorem Keeps.part {F F' : Nat → Prop} {w w' : World} (h : Keeps F' w w') (hF : ∀ i, F i → F' i) : Keeps F w w' := ⟨h.os, h.tape, h.output, h.size, fun i hi => h.block i (hF i hi)⟩
section
variable {P : Program} {ops : Array Oper} {Γ Γ0 : Env} {ob : Nat → Option Nat} {L : Array Bool} {st : St} {a : Act} {w : World}
theorem Late.mid (h : Late P ops F w0 Γ ob L st a w) : Sat P F w0 (Γ.addO (madeOf ob)) st a w := by
  obtain ⟨wA, h1, h2, -⟩ := h.sat
  exact h2.back (F := F) (base' := (Γ.addO (madeOf ob)).base) (fun i hi => .inl hi) (h1.trans (h2.keeps.part fun i hi => .inl hi)) h.old fun b o hb => hb
theorem Late.base (h : Late P ops F w0 Γ ob L st a w) : Sat P F w0 Γ st a w :=
  h.mid.back (F := F) (base' := Γ.base) (fun i hi => hi) h.mid.keeps h.old fun b o hb => .inl hb
theorem Late.blk (h : Late P ops F w0 Γ ob L st a w) {i b : Nat} (hb : ob i = some b) {o : Oper} {t : TypeId} {ca : List Lf} (ho : ops[i]? = some o) (hop : o.op = .alloc t) (hz : zeroLf P t = some ca) (Γ' : Env) : Blk w b t (dens Γ' ca) := by
  obtain ⟨wA, h1, h2, h3⟩ := h.sat
  exact (h2.keeps.block b (.inr ⟨i, hb⟩)).trans (h3 i b hb o t ca Γ' ho hop hz)
end
theorem lateAt_spec {P : Program} {ops : Array Oper} {i : Nat} (h : lateAt P ops i = true) : i < lcN ops ∧ ∃ o, ops[i]? = some o ∧ allocOp P o = true := by
  simp only [lateAt, Bool.and_eq_true] at h
  refine ⟨Nat.le_of_ble_eq_true h.1, ?_⟩
  have h2 := h.2
  split at h2
  · rename_i o ho; exact ⟨o, ho, h2⟩
  · cases h2
theorem allocOp_dst {P : Program} {o : Oper} (h : allocOp P o = true) : ∃ d, o.dst = some d := by
  simp only [allocOp, Bool.and_eq_true] at h
  exact Option.isSome_iff_exists.1 h.1.2
theorem allocOp_after {P : Program} {o : Oper} (h : allocOp P o = true) : ∀ e, e ∉ o.after := by
  simp only [allocOp, Bool.and_eq_true] at h
  intro e he
  have := h.2
  simp only [Array.isEmpty_iff] at this
  rw [this] at he
  simp at he
theorem lateDst_mem {P : Program} {ops : Array Oper} {i : Nat} {o : Oper} {d : Nat} (h : lateAt P ops i = true) (ho : ops[i]? = some o) (hd : o.dst = some d) : d ∈ lateDst P ops := by
  refine List.mem_filterMap.2 ⟨o, List.mem_filterMap.2 ⟨i, List.mem_filter.2 ⟨List.mem_range.2 (lateAt_spec h).1, h⟩, ho⟩, hd⟩
theorem nodup_fm {α β : Type} {f : α → Option β} : ∀ {l : List α}, l.Nodup → (l.filterMap f).Nodup → ∀ {x y : α} {b : β}, x ∈ l → y ∈ l → f x = some b → f y = some b → x = y
  | [], _, _, _, _, _, h, _, _, _ => nomatch h
  | z :: l, hn, hf, x, y, b, hx, hy, ex, ey => by
    rw [List.nodup_cons] at hn
    have tail : ∀ u, u ∈ l → f u = some b → f z = some b → False := fun u hu eu ez => by
      rw [List.filterMap_cons, ez] at hf
      exact (List.nodup_cons.1 hf).1 (List.mem_filterMap.2 ⟨u, hu, eu⟩)
    have hf2 : (l.filterMap f).Nodup := by
      rw [List.filterMap_cons] at hf
      split at hf
      · exact hf
      · exact (List.nodup_cons.1 hf).2
    rcases List.mem_cons.1 hx with e1 | hx1 <;> rcases List.mem_cons.1 hy with e2 | hy1
    · rw [e1, e2]
    · exact (tail y hy1 ey (e1 ▸ ex)).elim
    · exact (tail x hx1 ex (e2 ▸ ey)).elim
    · exact nodup_fm hn.2 hf2 hx1 hy1 ex ey
theorem lcN_spec (ops : Array Oper) : lcN ops = ops.size ∨ (lcAt ops (lcN ops) = true ∧ lcN ops < ops.size) := by
  unfold lcN
  cases h : (List.range ops.size).find? (lcAt ops) with
  | none => exact .inl rfl
  | some n => exact .inr ⟨List.find?_some h, by have := List.mem_of_find?_eq_some h; simpa using this⟩
theorem reach_listed {ops : Array Oper} {L : Array Bool} (hc : Closed ops L) : ∀ (l seen : List Nat), (∀ m ∈ seen, L.getD m false = true) → ∀ a ∈ reach ops seen l, L.getD a false = true
  | [], seen, hs, a, ha => hs a ha
  | b :: l, seen, hs, a, ha => by
    rw [reach] at ha
    split at ha
    · rename_i hb
      refine reach_listed hc l (b :: seen) (fun m hm => ?_) a ha
      rcases List.mem_cons.1 hm with rfl | hm
      · obtain ⟨m, hm, he⟩ := List.any_eq_true.1 hb
        unfold edgeTo at he
        split at he
        · rename_i o ho
          obtain ⟨e, he1, he2⟩ := Array.any_eq_true'.1 he
          simp only [Bool.and_eq_true] at he2
          have := hc m o ho (hs m hm) e he1 he2.1
          rwa [Nat.eq_of_beq_eq_true he2.2] at this
        · cases he
      · exact hs m hm
    · exact reach_listed hc l seen hs a ha
/-- One behind the late cut is listed: so is all that the cut waits for. -/
theorem lc_yes {ops : Array Oper} {L : Array Bool} (hc : Closed ops L) {i : Nat} (hi : lcN ops ≤ i) (his : i < ops.size) (hL : L.getD i false = true) {j : Nat} (hj : lcReach ops j = true) : L.getD j false = true := by
  rcases lcN_spec ops with h | ⟨h, hlt⟩
  · omega
  · have h0 : L.getD (lcN ops) false = true := by
      by_cases e : i = lcN ops
      · rw [← e]; exact hL
      · unfold lcAt at h
        simp only [Bool.and_eq_true] at h
        refine waitedBy_listed hc _ [lcN ops] (fun m hm => by simp at hm; rw [hm]; exact id) h.2 i ?_ hL
        obtain ⟨k, hk⟩ : ∃ k, i = lcN ops + 1 + k := ⟨i - (lcN ops + 1), by omega⟩
        refine List.mem_of_getElem? (i := k) ?_
        rw [List.getElem?_drop, hk]
        exact List.getElem?_range (by omega)
    unfold lcReach at hj
    rw [Bool.or_eq_true, List.contains_iff_mem] at hj
    rcases hj with hj | hj
    · exact reach_listed hc _ _ (fun m hm => by simp at hm; rw [hm]; exact h0) j hj
    · have := Nat.eq_of_beq_eq_true hj; omega
theorem lateOk_spec {P : Program} {ops : Array Oper} (h : lateOk P ops = true) : (∀ i j o o' d, lateAt P ops i = true → lateAt P ops j = true → ops[i]? = some o → ops[j]? = some o' → o.dst = some d → o'.dst = some d → i = j) ∧ (lcN ops ≤ cutN ops ∧ ∀ i, lateAt P ops i = true → lcReach ops i = true) ∧
    ∀ i, i < lcN ops → lateAt P ops i = false → ∃ o, ops[i]? = some o ∧ o.guard = none ∧ (∀ d ∈ lateDst P ops, o.dst ≠ some d) ∧ ∀ e ∈ o.after, Region.binds .any e = true → lateAt P ops e.on = false := by
  simp only [lateOk, Bool.and_eq_true, decide_eq_true_eq, List.all_eq_true] at h
  refine ⟨fun i j o o' d hi hj ho ho' hd hd' => ?_, ⟨Nat.le_of_ble_eq_true h.1.2.1, fun i hi => ?_⟩, fun i hi hl => ?_⟩
  rotate_left
  · have := h.1.2.2 i (List.mem_range.2 (lateAt_spec hi).1)
    rw [hi] at this
    simpa using this
  rotate_left
  · have hn := h.1.1
    have e : lateDst P ops = ((List.range (lcN ops)).filter (lateAt P ops)).filterMap fun i => (ops[i]?).bind (·.dst) := by
      unfold lateDst lateOps
      rw [List.filterMap_filterMap]
    rw [e] at hn
    refine nodup_fm (List.Pairwise.filter _ List.nodup_range) hn (List.mem_filter.2 ⟨List.mem_range.2 (lateAt_spec hi).1, hi⟩) (List.mem_filter.2 ⟨List.mem_range.2 (lateAt_spec hj).1, hj⟩) (b := d) ?_ ?_
    · simp [ho, hd]
    · simp [ho', hd']
  · have h2 := h.2 i (List.mem_range.2 hi)
    rw [hl, Bool.false_or] at h2
    split at h2
    · rename_i o ho
      simp only [Bool.and_eq_true, Option.isNone_iff_eq_none] at h2
      obtain ⟨⟨g1, g2⟩, g3⟩ := h2
      refine ⟨o, ho, g1, fun d hd e => ?_, fun e he hb => ?_⟩
      · have : ((lateDst P ops).any fun d => decide (o.dst = some d)) = true := List.any_eq_true.2 ⟨d, hd, decide_eq_true e⟩
        rw [this] at g2; cases g2
      · have := Array.all_eq_true'.1 g3 e he
        rw [hb] at this
        simpa using this
    · cases h2
theorem lateNone_spec {P : Program} {ops : Array Oper} {st : St} (h : lateNone P ops st = true) {d : Nat} (hd : d ∈ lateDst P ops) : look st.sl d = none ∧ d < st.nt ∧ d < 1000 := by
  have := List.all_eq_true.1 h d hd
  simp only [Bool.and_eq_true, Option.isNone_iff_eq_none] at this
  exact ⟨this.1.1, Nat.le_of_ble_eq_true this.1.2, Nat.le_of_ble_eq_true this.2⟩
/-- An allocation comes. -/
theorem late_alloc {ops : Array Oper} {Γ : Env} {ob : Nat → Option Nat} {L : Array Bool} {st : St} {a : Act} {w : World} (hlo : lateOk cx.P ops = true) (h : Late cx.P ops F w0 Γ ob L st a w) (hn : lateNone cx.P ops st = true) (hsz : L.size = ops.size) {i : Nat} (hi : lateAt cx.P ops i = true) (hL : L.getD i false = false)
    {Q : Exit → Act → World → Prop} {K : Act → World → Prop} (hK : ∀ a' w' ob', Below w.heap.size w w' → Late cx.P ops F w0 Γ ob' (L.setIfInBounds i true) st a' w' → K a' w') : wpOp cx.P ops Q i K a w := by
  obtain ⟨hcut, o, ho, hao⟩ := lateAt_spec hi
  obtain ⟨t, ca, hop, hz, hg⟩ := allocOp_spec hao
  obtain ⟨d, hd⟩ := allocOp_dst hao
  obtain ⟨hl1, hl2, hl3⟩ := lateNone_spec hn (lateDst_mem hi ho hd)
  have hnone : ob i = none := by
    have := h.all i hi
    rw [hL] at this
    cases hx : ob i with
    | none => rfl
    | some b => rw [hx] at this; cases this
  unfold wpOp
  rw [ho]
  simp only []
  rw [if_pos (by simp [Region.wanted, hg])]
  refine .inl ?_
  unfold Oper.wp
  rw [run_alloc hop hz Γ]
  simp only [Oper.upon]
  have hbel := below_alloc w (.cells (dens Γ ca) t)
  have hlt : w.heap.size < (w.alloc (.cells (dens Γ ca) t)).heap.size := by simp
  obtain ⟨wA, h1, h2, h3⟩ := h.sat
  have hmade : ∀ b, madeOf (setOb ob i w.heap.size) b → madeOf ob b ∨ b = w.heap.size := fun b ⟨j, hj⟩ => by
    unfold setOb at hj
    split at hj
    · cases hj; exact .inr rfl
    · exact .inl ⟨j, hj⟩
  have hmade2 : ∀ b, madeOf ob b → b < w.heap.size := fun b hb => h2.base b 0 (.inr hb)
  have hs3 : Sat cx.P (fun x => F x ∨ madeOf (setOb ob i w.heap.size) x) (w.alloc (.cells (dens Γ ca) t)) (Γ.addO (madeOf (setOb ob i w.heap.size))) st a (w.alloc (.cells (dens Γ ca) t)) := by
    refine h2.hand (w' := w.alloc (.cells (dens Γ ca) t)) (base' := (Γ.addO (madeOf (setOb ob i w.heap.size))).base) hbel.size (fun j hj _ => hbel.block j hj) (fun b o' hb => ?_) (fun b o' hb => ?_) (fun b hb => ?_)
    · rcases hb with hb | hb
      · exact .inl (.inl hb)
      · rcases hmade b hb with hb | hb
        · exact .inl (.inr hb)
        · exact .inr (by omega)
    · rcases hb with hb | hb
      · have := h2.base b o' (.inl hb); omega
      · rcases hmade b hb with hb | hb
        · have := hmade2 b hb; omega
        · omega
    · rcases hb with hb | hb
      · have := h2.fold b (.inl hb)
        have := h2.keeps.size
        exact ⟨by omega, .inl (.inl hb)⟩
      · rcases hmade b hb with hb | hb
        · have := hmade2 b hb
          exact ⟨by omega, .inl (.inr hb)⟩
        · exact ⟨by omega, .inr (.inl (by omega))⟩
  have hput : Sat cx.P (fun x => F x ∨ madeOf (setOb ob i w.heap.size) x) (w.alloc (.cells (dens Γ ca) t)) (Γ.addO (madeOf (setOb ob i w.heap.size))) st (a.put o.dst (.pointer (some ⟨w.heap.size, 0, none⟩))) (w.alloc (.cells (dens Γ ca) t)) := by
    rw [hd]
    refine hs3.slots' (fun t' sv hsv => ?_) (by simp [Act.put, hs3.size]) hs3.defers hs3.num
    have hne : d ≠ t' := fun e => by rw [e, hsv] at hl1; cases hl1
    rw [slotV_put (by rw [hs3.size]; exact hl2) hl3, if_neg hne]
    exact hs3.slots t' sv hsv
  have hk0 : Keeps F w0 (w.alloc (.cells (dens Γ ca) t)) := (h1.trans (h2.keeps.part fun x hx => .inl hx)).trans (Keeps.of_below hbel fun x hx => by
    have := h.old x hx
    have := h1.size
    have := h2.keeps.size
    omega)
  refine hK _ _ (setOb ob i w.heap.size) hbel ⟨⟨_, hk0, hput, fun j b hj o' t' ca' Γ' ho' hop' hz' => ?_⟩, h.old, fun j b hj => ?_, fun j b o' d' hj ho' hd' => ?_, fun j j' b hj hj' => ?_, fun j hj => ?_⟩
  · unfold setOb at hj
    split at hj
    · rename_i e
      subst e
      cases hj
      obtain rfl : o' = o := Option.some.inj (ho'.symm.trans ho)
      rw [hop] at hop'; cases hop'
      rw [hz] at hz'; cases hz'
      rw [zero_dens hz Γ' Γ]
      exact Blk.new w t _
    · exact (h.blk hj ho' hop' hz' Γ').below hbel
  · unfold setOb at hj
    split at hj
    · rename_i e
      subst e
      cases hj
      have := h1.size
      have := h2.keeps.size
      exact ⟨hi, by omega⟩
    · exact h.rng j b hj
  · unfold setOb at hj
    rw [hd]
    simp only [Act.put]
    rw [Array.getElem?_setIfInBounds]
    split at hj
    · rename_i e
      subst e
      cases hj
      obtain rfl : o' = o := Option.some.inj (ho'.symm.trans ho)
      obtain rfl : d' = d := Option.some.inj (hd'.symm.trans hd)
      rw [if_pos rfl, if_pos (by have := h2.size; omega)]
    · rename_i e
      rw [if_neg (fun e' => e ?_)]
      · exact h.slot j b o' d' hj ho' hd'
      · exact ((lateOk_spec hlo).1 j i o' o d (h.rng j b hj).1 hi ho' ho (e' ▸ hd') hd)
  · unfold setOb at hj hj'
    split at hj <;> split at hj'
    · omega
    · cases hj; have := hmade2 _ ⟨j', hj'⟩; omega
    · cases hj'; have := hmade2 _ ⟨j, hj⟩; omega
    · exact h.inj j j' b hj hj'
  · unfold setOb
    by_cases e : j = i
    · subst e
      have hlt2 : j < ops.size := (Array.getElem?_eq_some_iff.1 ho).1
      rw [if_pos rfl]
      simp [Array.getD_eq_getD_getElem?, hsz, hlt2]
    · rw [if_neg e, getD_set_ne false (Ne.symm e)]
      exact h.all j hj
theorem late_put {ops : Array Oper} {Γ : Env} {ob : Nat → Option Nat} {L : Array Bool} {st : St} {a : Act} {w : World} (h : Late cx.P ops F w0 Γ ob L st a w) {i : Nat} (hi : lateAt cx.P ops i = false) {st' : St} {a' : Act} {w' : World} {Γ' : Env}
    (hs : ∀ wA, Keeps F w0 wA → Sat cx.P (fun i => F i ∨ madeOf ob i) wA (Γ.addO (madeOf ob)) st a w → Sat cx.P (fun i => F i ∨ madeOf ob i) wA (Γ'.addO (madeOf ob)) st' a' w')
    (hfr : ∀ d ∈ lateDst cx.P ops, a'.tmps[d]? = a.tmps[d]?) : Late cx.P ops F w0 Γ' ob (L.setIfInBounds i true) st' a' w' := by
  obtain ⟨wA, h1, h2, h3⟩ := h.sat
  refine ⟨⟨wA, h1, hs wA h1 h2, h3⟩, h.old, h.rng, fun j b o d hj ho hd => ?_, h.inj, fun j hj => ?_⟩
  · rw [hfr d (lateDst_mem (h.rng j b hj).1 ho hd)]
    exact h.slot j b o d hj ho hd
  · rw [getD_set_ne false (fun e => by subst e; rw [hi] at hj; cases hj)]
    exact h.all j hj
theorem set_true {L : Array Bool} {i : Nat} (h : i < L.size) : (L.setIfInBounds i true).getD i false = true := by
  simp [Array.getD_eq_getD_getElem?, h]
theorem getD_lt {L : Array Bool} {i : Nat} (h : L.getD i false = true) : i < L.size := by
  rcases Nat.lt_or_ge i L.size with h1 | h1
  · exact h1
  · simp [Array.getD_eq_getD_getElem?, Array.getElem?_eq_none h1] at h
theorem getD_tf {L : Array Bool} {i : Nat} (h : i < L.size) : L.getD i true = L.getD i false := by
  simp [Array.getD_eq_getD_getElem?, h]
theorem pureF_ok {P : Program} {Γ : Env} {st : St} {ρ : Operand → Value} {w : World} {o : Oper} {obs : List B} {sv : SV} (hp : pureF o = true) (h : opVal P st o = some (obs, sv)) (hv : View P Γ st o.op.operands ρ w) (w' : World) :
    (execOp ρ o).run P w' = .ok (.value (sv.den Γ)) w' := by
  obtain ⟨dst, op, type, pos, after, guard⟩ := o
  unfold opVal at h
  cases op <;> simp only [pureF] at hp <;> try (cases hp; done)
  rename_i s x f
  simp only [] at h
  split at h
  · rename_i fs cs hu hx
    obtain ⟨h1, -⟩ := hv.s0 (by simp [Op.operands]) hx
    split at h
    · rename_i fd hf
      cases hpp : partS P fd.type cs fd.offset with
      | none => simp [hpp] at h
      | some s =>
        simp [hpp] at h
        obtain ⟨rfl, rfl⟩ := h
        simp [execOp, h1, Instr.field, run_underlying hu, hf, S0.den, asAgg, run_partS hpp, SV.den]
    · cases h
  · cases h
theorem execLate_sound (hcx : CxOK cx) {ops : Array Oper} (hsel : Region.noSelect ops = true) (hlo : lateOk cx.P ops = true) {h : St} (hch : cutH ops h = cutN ops) (hwf : h.wf = true) {k : St → Option Tree} {Γ0 : Env} {a0 : Act} {Ls0 : List (List C → Prop)} {Q : Exit → Act → World → Prop} (hQ : ∀ c a w, ¬ Q (.panic c) a w)
    (hk : ∀ st T Γ Ls ob L a w, k st = some T → Ext Γ0 Γ → Ls0 <+: Ls → Ls.length = st.lvl → VC cx R T Γ.ρ Ls → Late cx.P ops F w0 Γ ob L st a w → L.size = ops.size → Closed ops L → (∀ i, i < ops.size → L.getD i false = Nat.blt i (lcN ops)) → Kept cx.P F w0 Γ0 h a0 w → Picks cx.P ops Q (Until (cutH ops h) (Kept cx.P F w0 Γ0 h a0)) (ops.size - lcN ops) L a w) :
    ∀ (n f : Nat) (Ly L : Array Bool) (st : St) (T : Tree), execLate cx ops h k f Ly st = some T → ∀ (Γ : Env) (Ls : List (List C → Prop)) (a : Act) (w : World) (ob : Nat → Option Nat), Ext Γ0 Γ → Ls0 <+: Ls → Late cx.P ops F w0 Γ ob L st a w → Ly.size = ops.size → L.size = ops.size →
      (∀ i, i < ops.size → Ly.getD i false = (L.getD i false && !lateAt cx.P ops i)) → Closed ops L → (∀ i, lcN ops ≤ i → L.getD i false = false) → Kept cx.P F w0 Γ0 h a0 w → Ls.length = st.lvl → VC cx R T Γ.ρ Ls → lateNone cx.P ops st = true →
      n = (List.range ops.size).countP (fun j => !L.getD j false) → Picks cx.P ops Q (Until (cutH ops h) (Kept cx.P F w0 Γ0 h a0)) n L a w := by
  obtain ⟨lo1, ⟨lcle, lo3⟩, lo2⟩ := lateOk_spec hlo
  intro n
  induction n with
  | zero =>
    intro f Ly L st T hT Γ Ls a w ob he hpre hs hyz hsz hsym hcl hge hS hl hv hln hn
    have hall : ∀ j, j < ops.size → L.getD j false = true := fun j hj => by
      have := List.countP_eq_zero.1 hn.symm j (List.mem_range.2 hj)
      simpa using this
    have hcs : lcN ops = ops.size := by
      rcases lcN_spec ops with h1 | ⟨h1, h2⟩
      · exact h1
      · have := hge _ (Nat.le_refl _)
        rw [hall _ h2] at this; cases this
    cases f with
    | zero => cases hT
    | succ f =>
      simp only [execLate] at hT
      split at hT
      · split at hT
        · have := hk st T Γ Ls ob L a w hT he hpre hl hv hs hsz hcl (fun i hi => by rw [hall i hi, hcs]; exact (Nat.ble_eq_true_of_le hi).symm) hS
          rw [hcs, Nat.sub_self] at this
          exact this
        · cases hT
      · rename_i r rs hr
        have hm : r ∈ (Region.ready .any ops Ly).filter (earlyAt cx.P ops) := by rw [hr]; simp
        obtain ⟨h1, h2⟩ := List.mem_filter.1 hm
        simp only [earlyAt, Bool.and_eq_true, Bool.not_eq_true'] at h2
        obtain ⟨h3, o, ho, -⟩ := mem_ready.1 h1
        have hlt : r < ops.size := (Array.getElem?_eq_some_iff.1 ho).1
        have := hsym r hlt
        rw [hall r hlt, h2.2, ← getD_tf (by omega), h3] at this
        cases this
  | succ n ih =>
    intro f Ly L st T hT Γ Ls a w ob he hpre hs hyz hsz hsym hcl hge hS hl hv hln hn
    cases f with
    | zero => cases hT
    | succ f =>
      -- what is ready in truth, and in the text
      have toY : ∀ i, i ∈ Region.ready .any ops L → i < lcN ops → lateAt cx.P ops i = false → i ∈ (Region.ready .any ops Ly).filter (earlyAt cx.P ops) := fun i hi hc hla => by
        obtain ⟨h1, o, ho, h2⟩ := mem_ready.1 hi
        have hlt : i < ops.size := (Array.getElem?_eq_some_iff.1 ho).1
        obtain ⟨o', ho', -, -, h5⟩ := lo2 i hc hla
        rw [ho] at ho'; cases ho'
        refine List.mem_filter.2 ⟨mem_ready.2 ⟨?_, o, ho, fun e hee hb => ?_⟩, ?_⟩
        · rw [getD_tf (by omega), hsym i hlt, ← getD_tf (by omega), h1]; rfl
        · have := h2 e hee hb
          rw [hsym e.on (by have := getD_lt this; omega), this, h5 e hee hb]; rfl
        · simp only [earlyAt, Bool.and_eq_true, Bool.not_eq_true']
          exact ⟨Nat.ble_eq_true_of_le hc, hla⟩
      have ofY : ∀ i, i ∈ (Region.ready .any ops Ly).filter (earlyAt cx.P ops) → i ∈ Region.ready .any ops L ∧ i < lcN ops ∧ lateAt cx.P ops i = false := fun i hi => by
        obtain ⟨h1, h2⟩ := List.mem_filter.1 hi
        simp only [earlyAt, Bool.and_eq_true, Bool.not_eq_true'] at h2
        obtain ⟨h3, o, ho, h4⟩ := mem_ready.1 h1
        have hlt : i < ops.size := (Array.getElem?_eq_some_iff.1 ho).1
        refine ⟨mem_ready.2 ⟨?_, o, ho, fun e hee hb => ?_⟩, Nat.le_of_ble_eq_true h2.1, h2.2⟩
        · have := hsym i hlt
          rw [h2.2, Bool.not_false, Bool.and_true] at this
          rw [getD_tf (by omega), ← this, ← getD_tf (by omega)]; exact h3
        · have h5 := h4 e hee hb
          have := hsym e.on (by have := getD_lt h5; omega)
          rw [h5] at this
          simp only [Bool.true_eq, Bool.and_eq_true] at this
          exact this.1
      have cutAll : ∀ i, i ∈ Region.ready .any ops L → lcN ops ≤ i → ∀ j, j < lcN ops → lcReach ops j = true → L.getD j false = true := fun i hi hc j hj hr => by
        have hcl' := hcl.set hi
        obtain ⟨-, o, ho, -⟩ := mem_ready.1 hi
        have hlt : i < ops.size := (Array.getElem?_eq_some_iff.1 ho).1
        have := lc_yes hcl' hc hlt (set_true (by omega)) hr
        rw [getD_set_ne false (by omega)] at this
        exact this
      have symSet : ∀ i, i < ops.size → lateAt cx.P ops i = false → ∀ j, j < ops.size → (Ly.setIfInBounds i true).getD j false = ((L.setIfInBounds i true).getD j false && !lateAt cx.P ops j) := fun i hi hla j hj => by
        by_cases e : i = j
        · subst e
          rw [set_true (by omega), set_true (by omega), hla]; rfl
        · rw [getD_set_ne false e, getD_set_ne false e]; exact hsym j hj
      have cnt : ∀ i, i ∈ Region.ready .any ops L → n = (List.range ops.size).countP (fun j => !(L.setIfInBounds i true).getD j false) := fun i hi => by
        obtain ⟨h1, o, ho, -⟩ := mem_ready.1 hi
        have hlt : i < ops.size := (Array.getElem?_eq_some_iff.1 ho).1
        have := countP_set (p := fun j => !L.getD j false) (q := fun j => !(L.setIfInBounds i true).getD j false) (i := i) (by simp [getD_both h1]) (by simp [set_true (show i < L.size by omega)]) (fun j hj => by rw [getD_set_ne false (Ne.symm hj)]) (List.range ops.size) List.nodup_range (List.mem_range.2 hlt)
        omega
      have geSet : ∀ i, i < lcN ops → ∀ j, lcN ops ≤ j → (L.setIfInBounds i true).getD j false = false := fun i hi j hj => by
        rw [getD_set_ne false (by omega)]; exact hge j hj
      -- an allocation comes
      have alloc : ∀ i, i ∈ Region.ready .any ops L → lateAt cx.P ops i = true → wpOp cx.P ops Q i (fun a' w' => Until (cutH ops h) (Kept cx.P F w0 Γ0 h a0) (L.setIfInBounds i true) w' ∧ Picks cx.P ops Q (Until (cutH ops h) (Kept cx.P F w0 Γ0 h a0)) n (L.setIfInBounds i true) a' w') a w := fun i hi hla => by
        have h1 := (mem_ready.1 hi).1
        refine late_alloc hlo hs hln hsz hla (getD_both h1) fun a' w' ob' hb hs' => ?_
        have hS' : Kept cx.P F w0 Γ0 h a0 w' := Sat.below hS hb
        refine ⟨fun _ => hS', ih (f + 1) Ly (L.setIfInBounds i true) st T hT Γ Ls a' w' ob' he hpre hs' hyz (by rw [Array.size_setIfInBounds]; exact hsz) (fun j hj => ?_) (hcl.set hi) (geSet i (lateAt_spec hla).1) hS' hl hv hln (cnt i hi)⟩
        by_cases e : i = j
        · subst e
          rw [hsym i hj, hla]; simp
        · rw [getD_set_ne false e]; exact hsym j hj
      have hT0 := hT
      simp only [execLate] at hT
      split at hT
      · rename_i hr
        split at hT
        · rename_i hdone
          by_cases hall : ∀ j, j < lcN ops → L.getD j false = true
          · have hshape : ∀ i, i < ops.size → L.getD i false = Nat.blt i (lcN ops) := fun i hi => by
              by_cases hc : i < lcN ops
              · rw [hall i hc]; exact (Nat.ble_eq_true_of_le hc).symm
              · rw [hge i (by omega)]
                cases hx : Nat.blt i (lcN ops) with
                | false => rfl
                | true => exact absurd (Nat.le_of_ble_eq_true hx) hc
            have := hk st T Γ Ls ob L a w hT he hpre hl hv hs hsz hcl hshape hS
            have hle : lcN ops ≤ ops.size := by
              rcases lcN_spec ops with h1 | ⟨h1, h2⟩
              · omega
              · omega
            have hc : n + 1 = ops.size - lcN ops := by
              rw [hn]
              rw [List.countP_congr (q := fun j => !Nat.blt j (lcN ops)) (fun j hj => by rw [hshape j (List.mem_range.1 hj)])]
              have key : ∀ m c, c ≤ m → (List.range m).countP (fun j => !Nat.blt j c) = m - c := fun m c => by
                induction m with
                | zero => intro _; simp
                | succ m ihm =>
                  intro hc
                  rw [List.range_succ, List.countP_append]
                  by_cases e : c ≤ m
                  · rw [ihm e]
                    have : Nat.blt m c = false := by
                      cases hx : Nat.blt m c with
                      | false => rfl
                      | true => have := Nat.le_of_ble_eq_true hx; omega
                    simp [this]; omega
                  · have ec : c = m + 1 := by omega
                    subst ec
                    rw [List.countP_eq_zero.2 (fun j hj => by have := List.mem_range.1 hj; have : Nat.blt j (m + 1) = true := Nat.ble_eq_true_of_le (by omega); simp [this])]
                    have : Nat.blt m (m + 1) = true := Nat.ble_eq_true_of_le (by omega)
                    simp [this]
              exact key _ _ hle
            rw [hc]; exact this
          · obtain ⟨j, hj⟩ := Classical.not_forall.1 hall
            obtain ⟨hjc, hjn⟩ := Classical.not_imp.1 hj
            have hjf : L.getD j false = false := by simpa using hjn
            have hjl : lateAt cx.P ops j = true := by
              have h1 := List.all_eq_true.1 hdone j (List.mem_range.2 hjc)
              cases hx : lateAt cx.P ops j with
              | true => rfl
              | false =>
                rw [hx, Bool.or_false] at h1
                have hlt : j < ops.size := by
                  rcases lcN_spec ops with h2 | ⟨h2, h3⟩ <;> omega
                rw [hsym j hlt, hjf] at h1
                cases h1
            have hjr : j ∈ Region.ready .any ops L := by
              obtain ⟨-, o, ho, hao⟩ := lateAt_spec hjl
              have hlt : j < ops.size := (Array.getElem?_eq_some_iff.1 ho).1
              exact mem_ready.2 ⟨by rw [getD_tf (by omega)]; exact hjf, o, ho, fun e hee _ => absurd hee (allocOp_after hao e)⟩
            refine ⟨fun e => absurd hjr (by rw [e]; simp), fun i hi => alloc i hi ?_⟩
            cases hx : lateAt cx.P ops i with
            | true => rfl
            | false =>
              rcases Nat.lt_or_ge i (lcN ops) with hc | hc
              · have := toY i hi hc hx
                rw [hr] at this; cases this
              · have := cutAll i hi hc j hjc (lo3 j hjl)
                rw [hjf] at this; cases this
        · cases hT
      · rename_i r rs hr
        split at hT
        · rename_i i hfind
          have hiY : i ∈ (Region.ready .any ops Ly).filter (earlyAt cx.P ops) := by rw [hr]; exact List.mem_of_find?_eq_some hfind
          obtain ⟨hiL, hic, hila⟩ := ofY i hiY
          have hfa := List.find?_some hfind
          split at hT
          rotate_left
          · cases hT
          rename_i o ho
          have hro : readsOnly o = true := by
            unfold freeLate at hfa
            rw [Bool.or_eq_true] at hfa
            rcases hfa with hfa | hfa
            · unfold freeAt at hfa
              rw [ho] at hfa
              simp only [Bool.and_eq_true] at hfa
              exact hfa.1.1
            · rw [ho] at hfa
              simp only [Bool.and_eq_true] at hfa
              have := hfa.1.1
              unfold pureF at this
              unfold readsOnly
              split at this
              · rename_i e; rw [e]
              · cases this
          have hlt : i < ops.size := (Array.getElem?_eq_some_iff.1 ho).1
          obtain ⟨o', ho', hog, hod, -⟩ := lo2 i hic hila
          rw [ho] at ho'; cases ho'
          split at hT
          rotate_left
          · cases hT
          rename_i hfr
          -- the value is yielded in each world of the class
          have fin : ∀ (bs obs : List B) (sv : SV), (Obs Γ.ρ bs → Obs Γ.ρ obs) → opVal cx.P st o = some (obs, sv) → (((st.learnAll bs).put o.dst (some sv)).bind fun st' => if lateNone cx.P ops st' then (execLate cx ops h k f (Ly.setIfInBounds i true) st').map (obT bs) else none) = some T →
              (Obs Γ.ρ bs → ∀ w', Kept cx.P F w0 Γ0 h a0 w' → (execOp a.eval o).run cx.P w' = .ok (.value (sv.den Γ)) w') → Picks cx.P ops Q (Until (cutH ops h) (Kept cx.P F w0 Γ0 h a0)) (n + 1) L a w := fun bs obs sv hbs h1 hT hyield => by
            cases hp : (st.learnAll bs).put o.dst (some sv) with
            | none => simp [hp] at hT
            | some st' =>
              simp only [hp, Option.bind_some] at hT
              split at hT
              rotate_left
              · cases hT
              rename_i hln'
              cases hT' : execLate cx ops h k f (Ly.setIfInBounds i true) st' with
              | none => simp [hT'] at hT
              | some T' =>
                simp [hT'] at hT
                subst hT
                obtain ⟨hob, hv'⟩ := VC.obT hv
                refine Picks.first (cutH_ok ops h) ho hro hsel hQ (by rw [hch]; exact Nat.lt_of_lt_of_le hic lcle) (v := sv.den Γ) _ _ _ _ hsz hcl hS (.inl ⟨by simp [Region.wanted, hog], hyield hob⟩) hiL (fun j oj hoj hne hjL hno => ?_) ?_
                · refine Region.free_spec ho hfr j oj hoj hne ?_ hno
                  have hjlt : j < ops.size := (Array.getElem?_eq_some_iff.1 hoj).1
                  rw [getD_tf (by omega), hsym j hjlt, getD_both hjL]; rfl
                · have hs' : Late cx.P ops F w0 Γ ob (L.setIfInBounds i true) st' (a.put o.dst (sv.den Γ)) w := by
                    refine late_put hs hila (fun wA _ hs2 => ?_) fun d hd => ?_
                    · have hok := (opVal_ok h1 (hs2.view o.op.operands) (hbs hob)).2
                      have := (hs2.learn hob).put hp hok
                      rw [SV.den_addO] at this
                      exact this
                    · cases hdd : o.dst with
                      | none => rfl
                      | some d' =>
                        simp only [Act.put]
                        rw [Array.getElem?_setIfInBounds, if_neg (fun e => hod d hd (by rw [hdd, e]))]
                  exact ih f (Ly.setIfInBounds i true) (L.setIfInBounds i true) st' T' hT' Γ Ls _ w ob he hpre hs' (by rw [Array.size_setIfInBounds]; exact hyz) (by rw [Array.size_setIfInBounds]; exact hsz) (symSet i hlt hila) (hcl.set hiL) (geSet i hic) hS (by rw [St.put_lvl hp]; exact hl) hv' hln' (cnt i hiL)
          have hsb := hs.base
          split at hT
          · rename_i obs sv obs' sv' h1 h2
            split at hT
            rotate_left
            · cases hT
            rename_i hsame
            have e := sameS_eq hsame
            subst e
            exact fin (bothObs obs obs') obs sv (fun hob => (bothObs_ok hob).1) h1 hT fun hob w' hw' => by
              have hup := Kept.up hw' hsb he hwf
              exact (opVal_ok h2 (hup.view o.op.operands) (bothObs_ok hob).2).1
          · rename_i obs sv h1 h2
            split at hT
            rotate_left
            · cases hT
            rename_i hpf
            exact fin obs obs sv (fun hob => hob) h1 hT fun _ w' _ => pureF_ok hpf h1 (hsb.view o.op.operands) w'
          · cases hT
        · split at hT
          · cases hT
          rename_i hrch
          refine ⟨fun e => ?_, fun i hi => ?_⟩
          · have := (ofY r (by rw [hr]; simp)).1
            rw [e] at this; cases this
          cases hla : lateAt cx.P ops i with
          | true => exact alloc i hi hla
          | false =>
            have hic : i < lcN ops := by
              rcases Nat.lt_or_ge i (lcN ops) with hc | hc
              · exact hc
              · obtain ⟨q1, q2, q3⟩ := ofY r (by rw [hr]; simp)
                have hrr : lcReach ops r = true := by
                  have h9 : (r :: rs).all (lcReach ops) = true := by simpa using hrch
                  exact List.all_eq_true.1 h9 r (by simp)
                have := cutAll i hi hc r q2 hrr
                obtain ⟨h3, -⟩ := mem_ready.1 q1
                rw [getD_both h3] at this; cases this
            have hiY := toY i hi hic hla
            rw [hr] at hiY
            obtain ⟨T1, hT1, hvT⟩ := merge_mem hT _ (List.mem_map_of_mem hiY)
            replace hv := hvT hv
            obtain ⟨o, ho, hog, hod, -⟩ := lo2 i hic hla
            have hlt : i < ops.size := (Array.getElem?_eq_some_iff.1 ho).1
            rw [ho] at hT1
            simp only [] at hT1
            unfold wpOp
            rw [ho]
            simp only []
            rw [if_pos (by simp [Region.wanted, hog])]
            refine .inl ?_
            obtain ⟨wA, k1, k2, k3⟩ := hs.sat
            refine Oper.wp_mono (fun a' w' hx => hx.1 hx.2) (Oper.wp_frame (doOpF_sound (R := R) hcx hT1 hl (Γ := Γ.addO (madeOf ob)) hv k2 (K := fun a' w' => (∀ t, o.dst ≠ some t → a'.tmps[t]? = a.tmps[t]?) → Until (cutH ops h) (Kept cx.P F w0 Γ0 h a0) (L.setIfInBounds i true) w' ∧ Picks cx.P ops Q (Until (cutH ops h) (Kept cx.P F w0 Γ0 h a0)) n (L.setIfInBounds i true) a' w') fun st' T' Γ2 Ls' hk' he' hpre' hl' hv' a' w' hs' hfr => ?_))
            simp only [] at hk'
            split at hk'
            rotate_left
            · cases hk'
            rename_i hcov
            simp only [Bool.and_eq_true] at hcov
            obtain ⟨u1, u2⟩ := Env.unO he he'
            have hlate : Late cx.P ops F w0 { Γ2 with base := Γ.base } ob (L.setIfInBounds i true) st' a' w' := by
              refine ⟨⟨wA, k1, u2 ▸ hs', k3⟩, hs.old, hs.rng, fun j b oj d hj hoj hd => ?_, hs.inj, fun j hj => ?_⟩
              · rw [hfr d (hod d (lateDst_mem (hs.rng j b hj).1 hoj hd))]
                exact hs.slot j b oj d hj hoj hd
              · rw [getD_set_ne false (fun e => by subst e; rw [hla] at hj; cases hj)]
                exact hs.all j hj
            have hS' : Kept cx.P F w0 Γ0 h a0 w' := Kept.down hS hlate.base u1 hwf hcov.1
            exact ⟨fun _ => hS', ih f (Ly.setIfInBounds i true) (L.setIfInBounds i true) st' T' hk' _ Ls' a' w' ob u1 (hpre.trans hpre') hlate (by rw [Array.size_setIfInBounds]; exact hyz) (by rw [Array.size_setIfInBounds]; exact hsz) (symSet i hlt hla) (hcl.set hi) (geSet i hic) hS' hl' hv' hcov.2 (cnt i hi)⟩
/-- The allocations are taken up, one by one. -/
theorem late_lex {ops : Array Oper} {ob : Nat → Option Nat} {a : Act} {w : World} (hinj : ∀ i j b, ob i = some b → ob j = some b → i = j) (hge : ∀ i b, ob i = some b → w0.heap.size ≤ b)
    (hblk : ∀ i b o t ca Γ', ob i = some b → ops[i]? = some o → o.op = .alloc t → zeroLf cx.P t = some ca → Blk w b t (dens Γ' ca)) (hslot : ∀ i b o d, ob i = some b → ops[i]? = some o → o.dst = some d → a.tmps[d]? = some (.pointer (some ⟨b, 0, none⟩))) {k : St → Option Tree} {Ls : List (List C → Prop)} :
    ∀ (l : List Nat), l.Nodup → (∀ i ∈ l, lateAt cx.P ops i = true ∧ (ob i).isSome = true) → ∀ (st : St) (T : Tree), execOps cx ops (l.filterMap fun i => ops[i]?) st k = some T → ∀ (Γ : Env), VC cx R T Γ.ρ Ls →
    Sat cx.P F w0 (Γ.addO fun b => ∃ j ∈ l, ob j = some b) st a w → (∀ x, (∃ j ∈ l, ob j = some x) → ∀ j, ¬ Hold Γ st true j x) →
    ∃ st' T' Γ', k st' = some T' ∧ Ext Γ Γ' ∧ st'.lvl = st.lvl ∧ VC cx R T' Γ'.ρ Ls ∧ Sat cx.P F w0 Γ' st' a w
  | [], _, _, st, T, h, Γ, hv, hs, _ => by
    simp only [List.filterMap_nil, execOps] at h
    exact ⟨st, T, Γ, h, Ext.refl _, rfl, hv, by rwa [Env.addO_no (fun b ⟨j, h1, _⟩ => by cases h1)] at hs⟩
  | i :: l, hnd, hl, st, T, h, Γ, hv, hs, hne => by
    obtain ⟨hla, hsome⟩ := hl i (by simp)
    obtain ⟨-, o, ho, hao⟩ := lateAt_spec hla
    obtain ⟨t, ca, hop, hz, hg⟩ := allocOp_spec hao
    obtain ⟨d, hd⟩ := allocOp_dst hao
    obtain ⟨b, hb⟩ := Option.isSome_iff_exists.1 hsome
    rw [List.filterMap_cons, ho] at h
    simp only [] at h
    obtain ⟨st2, T2, Γ2, e1, e2, e3, e4, e5, e6⟩ := alloc_step hop hg h hs ⟨i, by simp, hb⟩ hz (fun Γ' => hblk i b o t ca Γ' hb ho hop hz) (hge i b hb) hne hv
    rw [List.nodup_cons] at hnd
    have hiff : ∀ x, ((∃ j ∈ i :: l, ob j = some x) ∧ x ≠ b) ↔ ∃ j ∈ l, ob j = some x := fun x => by
      constructor
      · rintro ⟨⟨j, h1, h2⟩, h3⟩
        rcases List.mem_cons.1 h1 with rfl | h1
        · rw [hb] at h2; cases h2; exact absurd rfl h3
        · exact ⟨j, h1, h2⟩
      · rintro ⟨j, h1, h2⟩
        refine ⟨⟨j, by simp [h1], h2⟩, fun e => ?_⟩
        subst e
        have := hinj i j x hb h2
        subst this
        exact hnd.1 h1
    rw [Env.addO_congr hiff, hd, put_self (hslot i b o d hb ho hd)] at e5
    obtain ⟨st', T', Γ', i1, i2, i3, i4, i5⟩ := late_lex hinj hge hblk hslot l hnd.2 (fun j hj => hl j (by simp [hj])) st2 T2 e1 Γ2 e4 e5 fun x hx => e6 x ((hiff x).2 hx)
    exact ⟨st', T', Γ', i1, e2.trans i2, i3.trans e3, i4, i5⟩
theorem cutL_get {ops : Array Oper} {i : Nat} (h : i < ops.size) : (cutL ops).getD i false = Nat.blt i (lcN ops) := by
  unfold cutL
  simp [Array.getD_eq_getD_getElem?, h]
theorem late_sound {r : Option Nat} (hcx : CxOK cx) {id : Nat} {ops : Array Oper} (hnd : ops.toList.all Oper.noDefer = true) {j : List (Nat × Bool × List Lk) × List Pl} {st : St} {k : St → Option Tree} {T : Tree} (h : lateT cx id ops j st k = some T) {Γ : Env} {Ls : List (List C → Prop)} (hl : Ls.length = st.lvl) (hv : VC cx R T Γ.ρ Ls) {a : Act} {w : World} (hs : Sat cx.P F w0 Γ st a w)
    {Q : Exit → Act → World → Prop} (hk : Next cx R F w0 k Γ Ls (fun a w => Q .normal a w)) : wpR r cx.P (.region id ops true) Q a w := by
  unfold lateT at h
  split at h
  rotate_left
  · cases h; exact hv.elim
  rename_i hcond
  simp only [Bool.and_eq_true] at hcond
  obtain ⟨⟨hc, hsel, hwf⟩, hlo, hln, hch⟩ := hcond
  split at h
  rotate_left
  · cases h
  rename_i ws t hws ht
  cases h
  obtain ⟨I, hvw, hall⟩ := hv
  generalize hst1 : joinSt1 j (dstsOf ops) (st.hide ((cx.hv (st.path * 100000 + 50000 + id)).filter fun p => !j.2.contains p)) = st1 at *
  have hw1 : Sat cx.P F w0 Γ st a { w with drawn := w.drawn + 1 } := hs.below ⟨rfl, rfl, rfl, Nat.le_refl _, fun _ _ => rfl⟩
  have hw2 : Sat cx.P F w0 Γ { st with lvl := st.lvl + 1 } a { w with drawn := w.drawn + 1 } := hw1.relvl _
  have hw3 := hw2.forget (lateDst cx.P ops)
  have hKept : Kept cx.P F w0 Γ (({ st with lvl := st.lvl + 1 } : St).hide (cx.hv (st.path * 100000 + 50000 + id))) a { w with drawn := w.drawn + 1 } := Kept.start hw2
  generalize hh : ({ st with lvl := st.lvl + 1 } : St).hide (cx.hv (st.path * 100000 + 50000 + id)) = hS at *
  refine region_any hcx.mixed hnd (Picks.any (execLate_sound (R := R) (F := F) (w0 := w0) hcx hsel hlo (Nat.eq_of_beq_eq_true hch) hwf (Γ0 := Γ) (a0 := a) (Ls0 := Ls ++ [I]) (Q := nrmQ (Q .normal)) (fun c a w hq => nomatch hq.1) ?_ ops.size _ _ _ _ ws hws Γ (Ls ++ [I]) a _ (fun _ => none) (Ext.refl _) (List.prefix_refl _) ?_ (by simp) (by simp) ?_ ?_ ?_ hKept (by simp [hl, St.forget]) hvw hln ?_))
  · intro st' T' Γ' Ls' ob L a' w' hk' he' hp' hlen' hv' hlate hsz hcl hshape hKept'
    obtain ⟨wA, k1, k2, k3⟩ := hlate.sat
    have heO : Ext (Γ.addO (madeOf ob)) (Γ'.addO (madeOf ob)) := ⟨he'.ρ, he'.blk, he'.nb, by show (fun b o => Γ'.base b o ∨ _) = _; rw [he'.base]; rfl, he'.up⟩
    refine joinEnd_sound' (R := R) (Γ := Γ.addO (madeOf ob)) (id := id) (k := fun s => execOps cx ops (lateOps cx.P ops) s fun st2 => execAny cx ops false hS k (3 * ops.size + 8) (ops.size - lcN ops) (cutL ops) st2) hc ht hl hs.len hs.nb hs.num hall (Q := fun a2 w2 => a2 = a' → w2 = w' → Picks cx.P ops (nrmQ (Q .normal)) (Until (cutH ops hS) (Kept cx.P F w0 Γ hS a)) (ops.size - lcN ops) L a2 w2) ?_ st' T' (Γ'.addO (madeOf ob)) Ls' hk' heO hp' hlen' hv' a' w' k2 rfl rfl
    intro st2 T2 Γ2 Ls2 hk2 he2 hp2 hlen2 hv2 a2 w2 hs2 ea ew
    subst ea ew
    obtain ⟨u1, u2⟩ := Env.unO (Ext.refl Γ) he2
    have hback := hs2.back (F := F) (base' := Γ2.base) (fun i hi => .inl hi) (k1.trans (hs2.keeps.part fun i hi => .inl hi)) hlate.old fun b o hb => hb
    have hback : Sat cx.P F w0 (({ Γ2 with base := Γ.base } : Env).addO (madeOf ob)) st2 a2 w2 := u2 ▸ hback
    have hnh : ∀ x, madeOf ob x → ∀ q, ¬ Hold ({ Γ2 with base := Γ.base } : Env) st2 true q x := fun x hx q => by
      rintro ⟨mb, hj, e⟩
      exact (hs2.mem q mb hj).2.2.1 (.inr (by rw [show Γ2.blk q = x from e]; exact hx))
    have hiff : ∀ b, madeOf ob b ↔ ∃ q ∈ (List.range (lcN ops)).filter (lateAt cx.P ops), ob q = some b := fun b =>
      ⟨fun ⟨q, hq⟩ => ⟨q, List.mem_filter.2 ⟨List.mem_range.2 (lateAt_spec (hlate.rng q b hq).1).1, (hlate.rng q b hq).1⟩, hq⟩, fun ⟨q, _, hq⟩ => ⟨q, hq⟩⟩
    rw [Env.addO_congr hiff] at hback
    obtain ⟨st3, T3, Γ3, i1, i2, i3, i4, i5⟩ := late_lex (R := R) (F := F) (w0 := w0) hlate.inj (fun i b hb => (hlate.rng i b hb).2) (fun i b o t ca Γ' hb ho hop hz => hlate.blk hb ho hop hz Γ') hlate.slot
      ((List.range (lcN ops)).filter (lateAt cx.P ops)) (List.Pairwise.filter _ List.nodup_range) (fun i hi => by
        obtain ⟨h1, h2⟩ := List.mem_filter.1 hi
        refine ⟨h2, ?_⟩
        rw [← hlate.all i h2, hshape i (by have := (lateAt_spec h2).2; obtain ⟨o, ho, -⟩ := this; exact (Array.getElem?_eq_some_iff.1 ho).1)]
        exact Nat.ble_eq_true_of_le (List.mem_range.1 h1)) st2 T2 hk2 { Γ2 with base := Γ.base } hv2 hback (fun x hx => hnh x ((hiff x).2 hx))
    have hL : L = cutL ops := by
      have hsz2 : (cutL ops).size = ops.size := by simp [cutL]
      apply Array.ext (by rw [hsz, hsz2])
      intro i h1 h2
      have e1 := hshape i (by omega)
      rw [← cutL_get (by omega)] at e1
      simpa [Array.getD_eq_getD_getElem?, h1, h2] using e1
    subst hL
    exact execAny_sound (R := R) hcx hsel hwf (Q := fun a w => Q .normal a w) (hk.mono (Ext.refl Γ) (List.prefix_refl _)) _ _ _ st3 T3 i1 Γ3 Ls2 a2 w2 (u1.trans i2) hp2 i5 hsz hcl (fun _ => hKept') (by rw [i3]; exact hlen2) i4
  · have e0 : (fun i => F i ∨ madeOf (fun _ => none) i) = F := funext fun i => propext ⟨fun hx => hx.elim (fun hm => hm) fun hm => absurd hm (madeOf_none i), .inl⟩
    refine ⟨⟨w0, Keeps.refl _ _, ?_, (fun i b hb => nomatch hb)⟩, hs.fold, (fun i b hb => nomatch hb), (fun i b o d hb => nomatch hb), (fun i j b hb => nomatch hb), fun i _ => getD_replicate_false _ _⟩
    rw [e0, Env.addO_no madeOf_none]
    exact hw3
  · intro i hi
    rw [getD_replicate_false]; rfl
  · intro q o ho hj
    rw [getD_replicate_false] at hj; cases hj
  · intro i _
    exact getD_replicate_false _ _
  · rw [List.countP_eq_length.2 (fun j _ => by rw [getD_replicate_false]; rfl)]
    simp
end
end Go.Proofs.Ytbgofenplhdllaa
/- The engine, part 14: a code carried out by symbols; a function's contract. -/
namespace Go.Proofs.Ytbgofenplhdllaa
open Go.RowKit
set_option linter.unusedSimpArgs false
set_option linter.unusedVariables false

def Ex.out : Ex → Exit
  | .nrm => .normal
  | .ext id => .exit id
  | .ret => .ret
section
variable {cx : Cx} {R : List C → Prop} {F : Nat → Prop} {w0 : World}
/-- What follows a code. -/
def KOK (cx : Cx) (R : List C → Prop) (F : Nat → Prop) (w0 : World) (k : Ex → St → Option Tree) (Γ : Env) (Ls : List (List C → Prop)) (Q : Exit → Act → World → Prop) : Prop :=
  ∀ x st' T' Γ' Ls', k x st' = some T' → Ext Γ Γ' → Ls <+: Ls' → Ls'.length = st'.lvl → VC cx R T' Γ'.ρ Ls' → ∀ a w, Sat cx.P F w0 Γ' st' a w → Q x.out a w
theorem KOK.mono {k : Ex → St → Option Tree} {Γ Γ1 : Env} {Ls Ls1 : List (List C → Prop)} {Q : Exit → Act → World → Prop} (h : KOK cx R F w0 k Γ Ls Q) (he : Ext Γ Γ1) (hl : Ls <+: Ls1) : KOK cx R F w0 k Γ1 Ls1 Q :=
  fun x st' T' Γ' Ls' hk he' hl' => h x st' T' Γ' Ls' hk (he.trans he') (hl.trans hl')
theorem Sat.learn1 {P : Program} {Γ : Env} {st : St} {a : Act} {w : World} (hs : Sat P F w0 Γ st a w) {b : B} {t : Bool} (hb : b.den Γ.ρ = t) : Sat P F w0 Γ { st with bds := Go.Proofs.Ytbgofenplhdllaa.learn st.nx st.bds b t } a w :=
  hs.slots' hs.slots hs.size hs.defers ⟨learn_ok hs.num.len (by rw [hs.len]; exact Nat.le_refl _) b st.bds t hs.num.bds hb, hs.num.len⟩

theorem take_free {α : Type} (p : α → Bool) : ∀ (l : List α), ∀ x ∈ l.take (l.takeWhile p).length, p x = true
  | [], x, h => by simp at h
  | y :: l, x, h => by
    by_cases hp : p y = true
    · simp only [List.takeWhile_cons, hp, if_true, List.length_cons, List.take_succ_cons] at h
      rcases List.mem_cons.1 h with rfl | h
      · exact hp
      · exact take_free p l x h
    · simp [List.takeWhile_cons, hp] at h
theorem any_in_r {r : Option Nat} (hcx : CxOK cx) {id : Nat} {ops : Array Oper} (hnd : ops.toList.all Oper.noDefer = true) {mg : Bool} {M : List Pl} {st : St} (hc : (Region.noSelect ops && (st.hide M).wf) = true) {k : St → Option Tree} {T : Tree} {f : Nat}
    (hT : execAny cx ops mg (st.hide M) k f ops.size (Array.replicate ops.size false) st = some T) {Γ : Env} {Ls : List (List C → Prop)} (hl : Ls.length = st.lvl) (hv : VC cx R T Γ.ρ Ls) {a : Act} {w : World} (hs : Sat cx.P F w0 Γ st a w)
    {Q : Exit → Act → World → Prop} (hk : Next cx R F w0 k Γ Ls (fun a w => Q .normal a w)) : wpR r cx.P (.region id ops true) Q a w :=
  region_any hcx.mixed hnd (any_sound hcx hc hT hl hv hs hk)
theorem takeWhile_at {α : Type} {p : α → Bool} : ∀ {l : List α} {i : Nat}, i < (l.takeWhile p).length → ∃ x, l[i]? = some x ∧ p x = true
  | [], i, h => by simp at h
  | y :: l, i, h => by
    rw [List.takeWhile_cons] at h
    split at h
    · rename_i hp
      cases i with
      | zero => exact ⟨y, rfl, hp⟩
      | succ i => exact takeWhile_at (l := l) (i := i) (by simpa using h)
    · simp at h
/-- All of them, in the text's order. -/
theorem alloc_lex {ops : Array Oper} {n m : Nat} (hal : ∀ i, n ≤ i → i < m → ∃ o, ops[i]? = some o ∧ allocOp cx.P o = true) {vs : List Value} {a0 : Act} {ob : Nat → Option Nat} (hall : ∀ i, n ≤ i → i < m → (ob i).isSome = true) (hinj : ∀ i j b, ob i = some b → ob j = some b → i = j) (hrng : ∀ i b, ob i = some b → i < m) {w1 : World}
    (hblk : ∀ i o t ca b, ops[i]? = some o → o.op = .alloc t → zeroLf cx.P t = some ca → ob i = some b → (∀ Γ, Blk w1 b t (dens Γ ca)) ∧ w0.heap.size ≤ b) {k : St → Option Tree} {Ls : List (List C → Prop)} : ∀ (q i : Nat), n ≤ i → i + q = m → ∀ (st : St) (T : Tree), execOps cx ops (ops.toList.drop i) st k = some T → ∀ (Γ : Env), VC cx R T Γ.ρ Ls →
    Sat cx.P F w0 (Γ.addO fun b => ∃ j, i ≤ j ∧ ob j = some b) st (endAct ops n vs a0 ob (i - n)) w1 → (∀ x, (∃ j, i ≤ j ∧ ob j = some x) → ∀ j, ¬ Hold Γ st true j x) →
    ∃ st' T' Γ', execOps cx ops (ops.toList.drop m) st' k = some T' ∧ Ext Γ Γ' ∧ st'.lvl = st.lvl ∧ VC cx R T' Γ'.ρ Ls ∧ Sat cx.P F w0 Γ' st' (endAct ops n vs a0 ob (m - n)) w1
  | 0, i, hni, hiq, st, T, h, Γ, hv, hs, hne => by
    obtain rfl : i = m := by omega
    refine ⟨st, T, Γ, h, Ext.refl _, rfl, hv, ?_⟩
    rwa [Env.addO_no (fun b ⟨j, h1, h2⟩ => by have := hrng j b h2; omega)] at hs
  | q + 1, i, hni, hiq, st, T, h, Γ, hv, hs, hne => by
    obtain ⟨o, ho, hao⟩ := hal i hni (by omega)
    obtain ⟨t, ca, hop, hz, hg⟩ := allocOp_spec hao
    obtain ⟨b, hb⟩ := Option.isSome_iff_exists.1 (hall i hni (by omega))
    obtain ⟨hb1, hb2⟩ := hblk i o t ca b ho hop hz hb
    have hdrop : ops.toList.drop i = o :: ops.toList.drop (i + 1) := by
      have hlt : i < ops.toList.length := by have := (Array.getElem?_eq_some_iff.1 ho).1; simpa using this
      rw [List.drop_eq_getElem_cons hlt]
      congr 1
      have : ops.toList[i]? = some o := by simp [ho]
      rw [List.getElem?_eq_getElem hlt] at this
      exact Option.some.inj this
    rw [hdrop] at h
    obtain ⟨st2, T2, Γ2, e1, e2, e3, e4, e5, e6⟩ := alloc_step hop hg h hs ⟨i, Nat.le_refl _, hb⟩ hz hb1 hb2 hne hv
    have hiff : ∀ x, ((∃ j, i ≤ j ∧ ob j = some x) ∧ x ≠ b) ↔ ∃ j, i + 1 ≤ j ∧ ob j = some x := fun x => by
      constructor
      · rintro ⟨⟨j, h1, h2⟩, h3⟩
        refine ⟨j, ?_, h2⟩
        rcases Nat.lt_or_ge i j with h | h
        · exact h
        · obtain rfl : j = i := by omega
          rw [hb] at h2; cases h2; exact absurd rfl h3
      · rintro ⟨j, h1, h2⟩
        refine ⟨⟨j, by omega, h2⟩, fun e => ?_⟩
        subst e
        have := hinj i j x hb h2
        omega
    rw [Env.addO_congr hiff] at e5
    have hact : (endAct ops n vs a0 ob (i - n)).put o.dst (.pointer (some ⟨b, 0, none⟩)) = endAct ops n vs a0 ob (i + 1 - n) := by
      rw [show i + 1 - n = (i - n) + 1 by omega, endAct, show n + (i - n) = i by omega, hb]
      simp only []
      rw [show dstOf ops i = o.dst by unfold dstOf; rw [ho]; rfl]
    rw [hact] at e5
    obtain ⟨st', T', Γ', i1, i2, i3, i4, i5⟩ := alloc_lex hal hall hinj hrng hblk q (i + 1) (by omega) (by omega) st2 T2 e1 Γ2 e4 e5 (fun x hx => e6 x ((hiff x).2 hx))
    exact ⟨st', T', Γ', i1, e2.trans i2, i3.trans e3, i4, i5⟩
theorem draw_sound {r : Option Nat} (hcx : CxOK cx) {id : Nat} {ops : Array Oper} (hnd : ops.toList.all Oper.noDefer = true) (hcond : drawOk cx ops = true) {Γ : Env} {st : St} {a : Act} {w : World} (hs : Sat cx.P F w0 Γ st a w) {k : St → Option Tree} {T : Tree}
    (h : execOps cx ops ops.toList st k = some T) {Ls : List (List C → Prop)} (hl : Ls.length = st.lvl) (hv : VC cx R T Γ.ρ Ls) {Q : Exit → Act → World → Prop} (hk : Next cx R F w0 k Γ Ls (fun a w => Q .normal a w)) :
    wpR r cx.P (.region id ops true) Q a w := by
  have hk : Next cx R F w0 k Γ Ls (fun a w => nrmQ (Q .normal) .normal a w) := fun st' T' Γ' Ls' hk' he' hp' hlen hv' a' w' hs' => ⟨rfl, hk st' T' Γ' Ls' hk' he' hp' hlen hv' a' w' hs'⟩
  simp only [drawOk, Bool.and_eq_true] at hcond
  obtain ⟨hh, ht⟩ := hcond
  generalize hn : headLen cx ops = n
  generalize hm : drawLen cx ops = m at hh ht
  have hnm : n ≤ m := by rw [← hm, ← hn]; exact Nat.le_add_right _ _
  have hal : ∀ i, n ≤ i → i < m → ∃ o, ops[i]? = some o ∧ allocOp cx.P o = true := fun i h1 h2 => by
    unfold drawLen at hm
    rw [hn] at hm
    obtain ⟨o, ho, hp⟩ := takeWhile_at (l := ops.toList.drop n) (p := allocOp cx.P) (i := i - n) (by omega)
    rw [List.getElem?_drop, show n + (i - n) = i by omega] at ho
    exact ⟨o, by simpa using ho, hp⟩
  have hfree : ∀ o ∈ ops.toList.take n, freeOp cx o = true := by rw [← hn]; exact take_free _ _
  have hw1 : Sat cx.P F w0 Γ st a { w with drawn := w.drawn + 1 } := hs.below ⟨rfl, rfl, rfl, Nat.le_refl _, fun _ _ => rfl⟩
  have hsplit : ops.toList = ops.toList.take n ++ ops.toList.drop n := (List.take_append_drop n _).symm
  rw [hsplit] at h
  let Cl : (Nat → Option Nat) → World → Prop := fun ob w' => Sat cx.P F w0 (Γ.addO (madeOf ob)) st a w' ∧ w.heap.size ≤ w'.heap.size ∧ (∀ i b, ob i = some b → (n ≤ i ∧ i < m) ∧ w.heap.size ≤ b ∧ b < w'.heap.size ∧ ∀ o t ca, ops[i]? = some o → o.op = .alloc t → zeroLf cx.P t = some ca → Blk w' b t (dens Γ ca)) ∧ ∀ i j b, ob i = some b → ob j = some b → i = j
  have hcl1 : Cl (fun _ => none) { w with drawn := w.drawn + 1 } := ⟨by rw [Env.addO_no madeOf_none]; exact hw1, Nat.le_refl _, (fun _ _ h => nomatch h), (fun _ _ _ h => nomatch h)⟩
  obtain ⟨vs, st', T', Γ', g1, g2, g3, g4, g5, g6, g7, g8⟩ := head_lex (R := R) (F := F) (w0 := w0) hcx (Cl := Cl) hcl1 (ops.toList.take n) hfree st T h Γ Ls hv a
    ⟨fun ob w hw => hw.1, fun ob w1 w2 hw hb => ⟨hw.1.below hb, Nat.le_trans hw.2.1 hb.size, fun i b e => ⟨(hw.2.2.1 i b e).1, (hw.2.2.1 i b e).2.1, Nat.lt_of_lt_of_le (hw.2.2.1 i b e).2.2.1 hb.size, fun o t ca h1 h2 h3 => ((hw.2.2.1 i b e).2.2.2 o t ca h1 h2 h3).below hb⟩, hw.2.2.2⟩⟩
  have hle : m ≤ ops.size := by
    simp only [tailOk, Bool.and_eq_true, decide_eq_true_eq] at ht
    exact ht.1.1.1
  have start : Head cx.P ops Cl n m vs a (fun _ => none) (Array.replicate ops.size false) a { w with drawn := w.drawn + 1 } := by
    refine ⟨hcl1, ⟨by simp, fun j oj _ hj => ?_, fun t _ ht => ?_⟩, rfl, rfl, fun i _ _ => ?_, fun t hall => ?_⟩
    · rw [getD_replicate_false] at hj; cases hj
    · exact getD_in (by simpa using ht) (getD_replicate_false _ _)
    · rw [getD_replicate_false]; rfl
    · rw [endAct_other _ _ _ _ _ fun j h1 h2 hd => by
        have := hall j (by omega) hd
        rw [getD_replicate_false] at this
        cases this]
      refine (putAll_other _ _ _ t fun x hx hxd => ?_).symm
      obtain ⟨j, hj⟩ := List.getElem?_of_mem hx
      rw [List.getElem?_take] at hj
      split at hj
      · rename_i hjn
        have := hall j (by omega) (by unfold dstOf; simp at hj; rw [hj]; exact hxd)
        rw [getD_replicate_false] at this
        cases this
      · cases hj
  have hcount : ops.size = (List.range m).countP (fun j => !(Array.replicate ops.size false).getD j false) + (ops.size - m) := by
    have : (List.range m).countP (fun j => !(Array.replicate ops.size false).getD j false) = m := by
      rw [List.countP_eq_length.2 (fun j _ => by rw [getD_replicate_false]; rfl)]
      simp
    omega
  have halloc : ∀ i, n ≤ i → i < m → ∃ o, ops[i]? = some o ∧ o.guard = none ∧ (∀ a ob w, Cl ob w → ob i = none → ∀ K Q, (∀ w', Cl (setOb ob i w.heap.size) w' → K (a.put o.dst (.pointer (some ⟨w.heap.size, 0, none⟩))) w') → o.wp cx.P a w K Q) := fun i h1 h2 => by
    obtain ⟨o, ho, hao⟩ := hal i h1 h2
    obtain ⟨t, ca, hop, hz, hg⟩ := allocOp_spec hao
    refine ⟨o, ho, hg, fun a1 ob w1 hw1 hnone K Q1 hK => ?_⟩
    unfold Oper.wp
    rw [run_alloc hop hz Γ]
    obtain ⟨c1, c2, c3, c4⟩ := hw1
    have hbel := below_alloc w1 (.cells (dens Γ ca) t)
    have hlt : w1.heap.size < (w1.alloc (.cells (dens Γ ca) t)).heap.size := by simp
    have hsO := c1.belowO hbel (Nat.le_refl _) hlt
    rw [Env.addO_addO, Env.addO_congr (ob' := madeOf (setOb ob i w1.heap.size)) (fun b => ?_)] at hsO
    · refine hK _ ⟨hsO, by omega, fun j b hj => ?_, fun j j' b hj hj' => ?_⟩
      · unfold setOb at hj
        split at hj
        · rename_i e
          subst e
          cases hj
          refine ⟨⟨h1, h2⟩, c2, hlt, fun o' t' ca' ho' hop' hz' => ?_⟩
          obtain rfl : o' = o := Option.some.inj (ho'.symm.trans ho)
          rw [hop] at hop'; cases hop'
          rw [hz] at hz'; cases hz'
          exact Blk.new w1 t _
        · obtain ⟨d1, d2, d3, d4⟩ := c3 j b hj
          exact ⟨d1, d2, by omega, fun o t ca h1 h2 h3 => (d4 o t ca h1 h2 h3).below hbel⟩
      · unfold setOb at hj hj'
        split at hj <;> split at hj'
        · omega
        · cases hj; have := (c3 j' _ hj').2.2.1; omega
        · cases hj'; have := (c3 j _ hj).2.2.1; omega
        · exact c4 j j' b hj hj'
    · constructor
      · rintro (⟨j, hj⟩ | hb)
        · refine ⟨j, ?_⟩
          unfold setOb
          rw [if_neg (fun e => by subst e; rw [hnone] at hj; cases hj)]
          exact hj
        · exact ⟨i, by unfold setOb; rw [if_pos rfl, show b = _ from hb]⟩
      · rintro ⟨j, hj⟩
        unfold setOb at hj
        split at hj
        · cases hj; exact .inr rfl
        · exact .inl ⟨j, hj⟩
  refine region_any hcx.mixed hnd (any_order g1 hh ht hnm halloc (fun ob w1 hw1 hsome => ?_) ops.size _ a _ (fun _ => none) start hcount)
  obtain ⟨c1, c2, c3, c4⟩ := hw1
  have hsat := g6.sat ob w1 ⟨c1, c2, c3, c4⟩
  have hsat0 := g6.sat (fun _ => none) _ hcl1
  rw [Env.addO_no madeOf_none] at hsat0
  have hmk : ∀ b, (∃ j, n ≤ j ∧ ob j = some b) → madeOf ob b := fun b ⟨j, _, h⟩ => ⟨j, h⟩
  have hnone : ∀ i b, ob i = some b → n ≤ i := fun i b hi => (c3 i b hi).1.1
  rw [Env.addO_congr (ob' := fun b => ∃ j, n ≤ j ∧ ob j = some b) (fun b => ⟨fun ⟨j, hj⟩ => ⟨j, hnone j b hj, hj⟩, hmk b⟩)] at hsat
  obtain ⟨st2, T2, Γ2, i1, i2, i3, i4, i5⟩ := alloc_lex (R := R) (F := F) (w0 := w0) hal hsome c4 (fun i b e => (c3 i b e).1.2) (fun i o t ca b h1 h2 h3 h4 => ⟨fun Γ1 => by rw [zero_dens h3 Γ1 Γ]; exact (c3 i b h4).2.2.2 o t ca h1 h2 h3, Nat.le_trans hs.keeps.size (c3 i b h4).2.1⟩) (m - n) n (Nat.le_refl _) (by omega) st' T' g2 Γ' g5 (by rw [Nat.sub_self]; exact hsat)
    (fun x ⟨j, _, hj⟩ j' hh => by have h1 := hsat0.hold_lt hh; have h2 := (c3 j x hj).2.1; exact absurd h1 (Nat.not_lt.2 h2))
  exact execOps_sound hcx (ops.toList.drop m) st2 T2 i1 Γ2 Ls (by rw [i3, g4]; exact hl) i4 _ w1 i5 (hk.mono (g3.trans i2) (List.prefix_refl _))
theorem join_sound {r : Option Nat} (hcx : CxOK cx) {id : Nat} {ops : Array Oper} (hnd : ops.toList.all Oper.noDefer = true) {j : List (Nat × Bool × List Lk) × List Pl} {st : St} {k : St → Option Tree} {T : Tree} (h : joinT cx id ops j st k = some T) {Γ : Env} {Ls : List (List C → Prop)} (hl : Ls.length = st.lvl) (hv : VC cx R T Γ.ρ Ls) {a : Act} {w : World} (hs : Sat cx.P F w0 Γ st a w)
    {Q : Exit → Act → World → Prop} (hk : Next cx R F w0 k Γ Ls (fun a w => Q .normal a w)) : wpR r cx.P (.region id ops true) Q a w := by
  unfold joinT at h
  split at h
  rotate_left
  · cases h; exact hv.elim
  rename_i hcond
  simp only [Bool.and_eq_true] at hcond
  obtain ⟨hc, hsel, hwf⟩ := hcond
  split at h
  · rename_i ws t hws ht
    cases h
    obtain ⟨I, hvw, hall⟩ := hv
    exact any_in_r (R := R) hcx hnd (by simp only [Bool.and_eq_true]; exact ⟨hsel, hwf⟩) hws (Ls := Ls ++ [I]) (by simp [hl]) hvw (hs.relvl _) (joinEnd_sound hc ht hl hs hall hk)
  · cases h
theorem exec_sound {r : Option Nat} (hcx : CxOK cx) : ∀ (c : Code) (st : St) (k : Ex → St → Option Tree) (T : Tree), exec cx c st k = some T →
    ∀ (Γ : Env) (Ls : List (List C → Prop)) (Q : Exit → Act → World → Prop), KOK cx R F w0 k Γ Ls Q → Ls.length = st.lvl → VC cx R T Γ.ρ Ls → ∀ a w, Sat cx.P F w0 Γ st a w → wpR r cx.P c Q a w := by
  intro c
  induction c with
  | skip => intro st k T h Γ Ls Q hk hl hv a w hs; exact wpIn_skip (hk .nrm st T Γ Ls h (Ext.refl _) (List.prefix_refl _) hl hv a w hs)
  | label l => intro st k T h Γ Ls Q hk hl hv a w hs; exact wpIn_label (hk .nrm st T Γ Ls h (Ext.refl _) (List.prefix_refl _) hl hv a w hs)
  | exit id => intro st k T h Γ Ls Q hk hl hv a w hs; exact wpIn_exit (hk (.ext id) st T Γ Ls h (Ext.refl _) (List.prefix_refl _) hl hv a w hs)
  | ret => intro st k T h Γ Ls Q hk hl hv a w hs; exact wpIn_ret (hk .ret st T Γ Ls h (Ext.refl _) (List.prefix_refl _) hl hv a w hs)
  | goto l => intro st k T h; cases h
  | refuse y => intro st k T h; cases h
  | rangeFunc f ps x y => intro st k T h; cases h
  | scope c ih =>
    intro st k T h Γ Ls Q hk hl hv a w hs
    simp only [exec] at h
    refine wpR_scope (ih st k T h Γ Ls _ ?_ hl hv a w hs)
    intro e st' T' Γ' Ls' hk' he' hl' hlen hv' a' w' hs'
    cases e with
    | nrm => exact hk .nrm st' T' Γ' Ls' hk' he' hl' hlen hv' a' w' hs'
    | ext id => exact hk (.ext id) st' T' Γ' Ls' hk' he' hl' hlen hv' a' w' hs'
    | ret => exact hk .ret st' T' Γ' Ls' hk' he' hl' hlen hv' a' w' hs'
  | seq x y ihx ihy =>
    intro st k T h Γ Ls Q hk hl hv a w hs
    simp only [exec] at h
    refine wpIn_seq (ihx st _ T h Γ Ls _ ?_ hl hv a w hs)
    intro e st' T' Γ' Ls' hk' he' hl' hlen hv' a' w' hs'
    cases e with
    | nrm => exact ihy st' k T' hk' Γ' Ls' Q (hk.mono he' hl') hlen hv' a' w' hs'
    | ext id => exact hk (.ext id) st' T' Γ' Ls' hk' he' hl' hlen hv' a' w' hs'
    | ret => exact hk .ret st' T' Γ' Ls' hk' he' hl' hlen hv' a' w' hs'
  | cond c x y ihx ihy =>
    intro st k T h Γ Ls Q hk hl hv a w hs
    simp only [exec] at h
    split at h
    · rename_i t hc
      have he := ((hs.view #[c]).lf (by simp) hc).1
      simp only [Lf.den, B.den] at he
      refine wpIn_cond he ?_
      cases t
      · simp at h ⊢; exact ihy st k T h Γ Ls Q hk hl hv a w hs
      · simp at h ⊢; exact ihx st k T h Γ Ls Q hk hl hv a w hs
    · rename_i b hlit hc
      have he := ((hs.view #[c]).lf (by simp) hc).1
      simp only [Lf.den] at he
      split at h
      · split at h
        · rename_i t f h1 h2
          cases h
          refine wpIn_cond_split he (fun hb => ?_) (fun hb => ?_)
          · exact ihx _ k t h1 Γ Ls Q hk hl (hv.1 hb) a w (hs.learn1 hb)
          · exact ihy _ k f h2 Γ Ls Q hk hl (hv.2 hb) a w (hs.learn1 hb)
        · cases h
      · rename_i j hj
        split at h
        · rename_i hok
          split at h
          · rename_i t f r h1 h2 h3
            cases h
            obtain ⟨I, hvw, hall⟩ := hv
            have hend := joinEnd_sound (R := R) (id := 90000) hok h3 hl hs hall (Q := fun a w => Q .normal a w) fun st' T' Γ' Ls' hk' he' hp' hlen hv' a' w' hs' => hk .nrm st' T' Γ' Ls' hk' he' hp' hlen hv' a' w' hs'
            have hkk : KOK cx R F w0 (joinK st (joinSt1 j (asg x ++ asg y) (st.hide (cx.hv (condKey st x y)))) (joinPs j) (joinKs j st) k) Γ (Ls ++ [I]) Q := fun e st' T' Γ' Ls' hk' he' hl' hlen' hv' a' w' hs' => by
              cases e with
              | nrm => exact hend st' T' Γ' Ls' hk' he' hl' hlen' hv' a' w' hs'
              | ext i => exact hk (.ext i) st' T' Γ' Ls' hk' he' ((List.prefix_append _ _).trans hl') hlen' hv' a' w' hs'
              | ret => exact hk .ret st' T' Γ' Ls' hk' he' ((List.prefix_append _ _).trans hl') hlen' hv' a' w' hs'
            refine wpIn_cond_split he (fun hb => ?_) (fun hb => ?_)
            · exact ihx _ _ t h1 Γ (Ls ++ [I]) Q hkk (by simp [hl]) (hvw.1 hb) a w ((hs.learn1 hb).relvl _)
            · exact ihy _ _ f h2 Γ (Ls ++ [I]) Q hkk (by simp [hl]) (hvw.2 hb) a w ((hs.learn1 hb).relvl _)
          · cases h
        · cases h; exact hv.elim
    · cases h
  | block id c ih =>
    intro st k T h Γ Ls Q hk hl hv a w hs
    simp only [exec] at h
    refine wpIn_block (ih st _ T h Γ Ls _ ?_ hl hv a w hs)
    intro e st' T' Γ' Ls' hk' he' hl' hlen hv' a' w' hs'
    cases e with
    | nrm => exact hk .nrm st' T' Γ' Ls' hk' he' hl' hlen hv' a' w' hs'
    | ret => exact hk .ret st' T' Γ' Ls' hk' he' hl' hlen hv' a' w' hs'
    | ext i =>
      simp only [Ex.out, Exit.inBlock]
      simp only [] at hk'
      by_cases hi : i = id
      · rw [if_pos hi] at hk' ⊢; exact hk .nrm st' T' Γ' Ls' hk' he' hl' hlen hv' a' w' hs'
      · rw [if_neg hi] at hk' ⊢; exact hk (.ext i) st' T' Γ' Ls' hk' he' hl' hlen hv' a' w' hs'
  | region id ops draw =>
    intro st k T h Γ Ls Q hk hl hv a w hs
    simp only [exec] at h
    have hnext : Next cx R F w0 (k .nrm) Γ Ls (fun a w => Q .normal a w) := fun st' T' Γ' Ls' hk' he' hp' hlen hv' a' w' hs' =>
      hk .nrm st' T' Γ' Ls' hk' he' hp' hlen hv' a' w' hs'
    split at h
    rotate_left
    · cases h
    rename_i hnd
    split at h
    · rename_i hcond
      have two : ∀ {st : St} {k : St → Option Tree} {T : Tree} {Ls : List (List C → Prop)}, execOps cx ops ops.toList st k = some T → Ls.length = st.lvl → VC cx R T Γ.ρ Ls → Sat cx.P F w0 Γ st a w → Next cx R F w0 k Γ Ls (fun a w => Q .normal a w) → wpR r cx.P (.region id ops draw) Q a w := by
        intro st k T Ls h hl hv hs hnext
        cases draw with
        | false => exact region_list hnd (execOps_sound hcx ops.toList st T h Γ Ls hl hv a w hs fun st' T' Γ' Ls' hk' he' hp' hlen hv' a' w' hs' => ⟨rfl, hnext st' T' Γ' Ls' hk' he' hp' hlen hv' a' w' hs'⟩)
        | true =>
          simp only [Bool.not_true, Bool.false_or] at hcond
          exact draw_sound hcx hnd hcond hs h hl hv hnext
      split at h
      · exact two h hl hv hs hnext
      · rename_i j hj
        split at h
        · rename_i hok
          split at h
          · rename_i ws t hws ht
            cases h
            obtain ⟨I, hvw, hall⟩ := hv
            exact two hws (Ls := Ls ++ [I]) (by simp [hl]) hvw (hs.relvl _) (joinEnd_sound hok ht hl hs hall hnext)
          · cases h
        · cases h; exact hv.elim
    · rename_i hcond
      cases draw with
      | false => simp at hcond
      | true =>
        split at h
        · rename_i j hj
          have h := orF_some h hv
          obtain ⟨st2, T2, Γ2, g1, g2, g3, g4, g5⟩ := freezeAll_sound _ st T h Γ Ls hv hs
          have hn2 := hnext.mono g2 (List.prefix_refl _)
          split at g1
          · exact late_sound hcx hnd g1 (by rw [g3]; exact hl) g4 g5 hn2
          · exact join_sound hcx hnd g1 (by rw [g3]; exact hl) g4 g5 hn2
        · have h := orF_some h hv
          split at h
          · rename_i hc; exact any_in_r hcx hnd hc h hl hv hs hnext
          · cases h
  | loop c ih =>
    intro st k T h Γ Ls Q hk hl hv a w hs
    simp only [exec] at h
    split at h
    · generalize unN (cx.hv (st.path * 100000 + (firstReg c).getD 0)) = n at h
      refine wpR_loop_ghost (fun n a w => ∃ st' T' Γ' Ls', unroll (fun st k => exec cx c st k) k n st' = some T' ∧ Ext Γ Γ' ∧ Ls <+: Ls' ∧ Ls'.length = st'.lvl ∧ VC cx R T' Γ'.ρ Ls' ∧ Sat cx.P F w0 Γ' st' a w) n
        ⟨st, T, Γ, Ls, h, Ext.refl _, List.prefix_refl _, hl, hv, hs⟩ ?_
      rintro n a1 w1 ⟨st1, T1, Γ1, Ls1, h1, he1, hp1, hl1, hv1, hs1⟩
      cases n with
      | zero => simp only [unroll] at h1; cases h1; exact hv1.elim
      | succ n =>
        simp only [unroll] at h1
        refine ih st1 _ T1 h1 Γ1 Ls1 _ ?_ hl1 hv1 a1 w1 hs1
        intro e st' T' Γ' Ls' hk' he' hp' hlen' hv' a' w' hs'
        cases e with
        | ext i => exact hk (.ext i) st' T' Γ' Ls' hk' (he1.trans he') (hp1.trans hp') hlen' hv' a' w' hs'
        | ret => exact hk .ret st' T' Γ' Ls' hk' (he1.trans he') (hp1.trans hp') hlen' hv' a' w' hs'
        | nrm => exact ⟨n, Nat.lt_succ_self n, st', T', Γ', Ls', hk', he1.trans he', hp1.trans hp', hlen', hv', hs'⟩
    have hs0 : Sat cx.P F w0 Γ (loopSt0 cx c st) a w := hs.forget _
    have hl1 : (loopSt1 cx c st).lvl = st.lvl + 1 := rfl
    have e1 : (loopSt0 cx c st).nb = st.nb := rfl
    have e2 : (loopSt0 cx c st).nt = st.nt := rfl
    have e3 : (loopSt0 cx c st).bds = st.bds := rfl
    generalize loopSt1 cx c st = st1 at *
    generalize loopSt0 cx c st = st0 at *
    generalize loopPs cx c st = ps at *
    split at h
    · cases h; exact hv.elim
    · rename_i init hinit
      split at h
      · cases h; exact hv.elim
      · rename_i ks hks
        split at h
        rotate_left
        · cases h; exact hv.elim
        · rename_i hcond
          simp only [Bool.and_eq_true, decide_eq_true_eq] at hcond
          obtain ⟨⟨⟨⟨⟨⟨c1, c2⟩, c3⟩, c4⟩, c5⟩, c6⟩, c7⟩ := hcond
          have c4 := Nat.eq_of_beq_eq_true c4
          have c5 := Nat.eq_of_beq_eq_true c5
          have c6 := Nat.eq_of_beq_eq_true c6
          generalize hkl : (fun (x : Ex) (st' : St) => match x with
            | .nrm => if sameRest st1 st' st.nx ps && Nat.ble st1.nb st'.nb && Nat.beq st1.nt st'.nt then match backPs st1 st' st.nx ps with
                | some vals => if kindsL vals = some ks then some (obT (rngL st'.bds vals) (.back st.lvl vals)) else some (.fail 60004 [st.path, (firstReg c).getD 0])
                | none => some (.fail 60005 [st.path, (firstReg c).getD 0])
              else some (.fail 60003 ([st.path, (firstReg c).getD 0] ++ diffs st1 st' st.nx ps))
            | x => k x st' : Ex → St → Option Tree) = kl at h
          cases hb : exec cx c st1 kl with
          | none => simp [hb] at h
          | some t =>
            simp [hb] at h
            subst h
            obtain ⟨hob, I, μ, hI0, hall⟩ := VC.obT hv
            have hlen : Γ.ρ.length = st.nx := hs.len
            have hnum1 : Num st1.bds Γ.ρ := by rw [c7]; exact hs.num
            obtain ⟨hty0, hsat0⟩ := hs0.rebase (st1 := st1) (ρ0 := Γ.ρ) ⟨[], by simp⟩ (by rw [hlen]; exact c3) (by rw [hlen]; exact hinit) hks (by rw [e3]; exact hob) (by rw [hlen]; exact c2) (by rw [c6, e2]) (by rw [c5, e1]; exact Nat.le_refl _) (by rw [hlen]; exact c4) hnum1
            refine wpR_loop_ghost (fun n a w => ∃ xs Γx, CTy cx.P ks xs ∧ I xs ∧ μ xs = n ∧ Γx.ρ = Γ.ρ ++ xs ∧ Ext Γ Γx ∧ Sat cx.P F w0 Γx st1 a w) (μ (cs_ Γ.ρ init))
              ⟨cs_ Γ.ρ init, { Γ with ρ := Γ.ρ ++ cs_ Γ.ρ init, nb := st1.nb }, hty0, hI0, rfl, rfl, ⟨⟨_, rfl⟩, fun _ _ => rfl, by simp only [c5]; rw [hs.nb]; exact Nat.le_refl _, rfl, rfl⟩, hsat0⟩ ?_
            rintro n a1 w1 ⟨xs, Γx, hty, hI, hn, hρ, he, hsx⟩
            have hvx := allC_elim hall xs hty hI
            rw [← hρ] at hvx
            refine ih st1 kl t hb Γx (Ls ++ [fun ys => I ys ∧ μ ys < μ xs]) _ ?_ (by simp [hl, hl1]) hvx a1 w1 hsx
            intro e st' T' Γ' Ls' hk' he' hl' hlen' hv' a' w' hs'
            subst hkl
            cases e with
            | ext i => exact hk (.ext i) st' T' Γ' Ls' hk' (he.trans he') ((List.prefix_append _ _).trans hl') hlen' hv' a' w' hs'
            | ret => exact hk .ret st' T' Γ' Ls' hk' (he.trans he') ((List.prefix_append _ _).trans hl') hlen' hv' a' w' hs'
            | nrm =>
              simp only [] at hk'
              split at hk'
              · rename_i hc
                simp only [Bool.and_eq_true] at hc
                obtain ⟨⟨d1, d2⟩, d3⟩ := hc
                split at hk'
                · rename_i vals hvals
                  split at hk'
                  · rename_i hks'
                    cases hk'
                    obtain ⟨hob', hback⟩ := VC.obT hv'
                    obtain ⟨l, hl2⟩ := (he.trans he').ρ
                    obtain ⟨hty', hsat'⟩ := hs'.rebase (st1 := st1) (ρ0 := Γ.ρ) ⟨l, hl2⟩ (by rw [hlen]; exact d1) (by rw [hlen]; exact hvals) hks' hob' (by rw [hlen]; exact c2) (Nat.eq_of_beq_eq_true d3) (Nat.le_of_ble_eq_true d2) (by rw [hlen]; exact c4) hnum1
                    have hget : Ls'[st.lvl]? = some (fun ys => I ys ∧ μ ys < μ xs) := by
                      obtain ⟨m, rfl⟩ := hl'
                      rw [List.append_assoc, List.getElem?_append_right (by omega), hl]
                      simp
                    simp only [VC, hget] at hback
                    simp only [Ex.out, Exit.then]
                    refine ⟨μ (cs_ Γ'.ρ vals), by rw [← hn]; exact hback.2, cs_ Γ'.ρ vals, { Γ' with ρ := Γ.ρ ++ cs_ Γ'.ρ vals, nb := st1.nb }, hty', hback.1, rfl, rfl, ⟨⟨_, rfl⟩, fun b hb => ?_, by simp only [c5]; rw [hs.nb]; exact Nat.le_refl _, (he.trans he').base, (he.trans he').up⟩, hsat'⟩
                    exact (he.trans he').blk b hb
                  · cases hk'; exact hv'.elim
                · cases hk'; exact hv'.elim
              · cases hk'; exact hv'.elim
end

/-! A function's beginning and end -/
def retOne (P : Program) (st : St) : ResultVar → Option S0
  | .tmp t => st.s0 (.tmp t)
  | .cell a t => match st.lf (.tmp a) with
    | some l => loadLf P st.mem st.vec t l
    | none => none
def retAll (P : Program) (st : St) : List ResultVar → Option (List S0)
  | [] => some []
  | r :: rs => match retOne P st r, retAll P st rs with
    | some s, some l => some (s :: l)
    | _, _ => none
def argSl : Nat → List S0 → List (Nat × Option SV)
  | _, [] => []
  | i, s :: l => (i, some (.one s)) :: argSl (i + 1) l
/-- The pointer among the arguments. -/
def boxArg : List Sh0 → Option (TypeId × List Lk)
  | [] => none
  | .box t l :: _ => some (t, l)
  | _ :: ss => boxArg ss
/-- What lies behind the pointer at the end. -/
def outL (st : St) (ct : Ct) : Option (List Lf) :=
  match boxArg ct.args with
  | none => some []
  | some (t, ks) => match look st.mem 0 with
    | some mb => if mb.1 = t ∧ kindsL mb.2 = some ks then some mb.2 else none
    | none => none
/-- Slices of one's own are handed on with what they hold. -/
def giveL (P : Program) (vec : Vecs) : List Lk → List Lf → List Lf
  | k :: ks, l :: ls => (match k with | .vec _ => l.give P vec k | _ => l.adapt P [] k) :: giveL P vec ks ls
  | _, ls => ls
def S0.give (P : Program) (vec : Vecs) (sh : Sh0) (s : S0) : S0 :=
  match sh, s with
  | .lf k, .lf l => .lf (match k with | .vec _ => l.give P vec k | _ => l.adapt P [] k)
  | .agg ks, .agg ls => .agg (giveL P vec ks ls)
  | _, s => s
def gives (P : Program) (vec : Vecs) : List Sh0 → List S0 → List S0
  | sh :: shs, s :: ss => s.give P vec sh :: gives P vec shs ss
  | _, ss => ss
/-- The variable of a slice that is handed on. -/
def cntIdx (vec : Vecs) : Lf → Option Nat
  | .cnt te r => match (match r with | .var i => some i | .join (.var i) _ => some i | _ => none : Option Nat) with
    | some i => match look vec i with
      | some e => if e.1 = te ∧ mkJoin i e.2 = r then some i else none
      | none => none
    | none => none
  | _ => none
def Lf.isCnt : Lf → Bool
  | .cnt _ _ => true
  | _ => false
def nodupI (vec : Vecs) : List Lf → Bool
  | [] => true
  | l :: ls => !l.isVec && (match cntIdx vec l with | some i => ls.all fun m => !decide (cntIdx vec m = some i) | none => !l.isCnt) && nodupI vec ls
def resOf (cx : Cx) (ct : Ct) (st : St) (l : List S0) : List S0 := if (kindsOf ct.res).all Lk.noVec then adapts cx.P st.vec ct.res l else gives cx.P st.vec ct.res l
def endOf (cx : Cx) (fn : Func) (ct : Ct) (st : St) : Option Tree :=
  match retAll cx.P st fn.results.toList, outL st ct with
  | some l, some o => if shapes st.mem (resOf cx ct st l) = some ct.res ∧ nodupI st.vec (cellsOf st.mem (resOf cx ct st l)) = true ∧ (l.all fun s => s.cells.all fun x => !x.isCnt) = true then
      some (obT (rngL st.bds (cellsOf st.mem (resOf cx ct st l) ++ o)) (.ret (cellsOf st.mem (resOf cx ct st l) ++ o)))
    else some (.fail 70001 [])
  | none, _ => some (.fail 70002 [])
  | _, none => some (.fail 70003 [])
def startOf (fn : Func) (ct : Ct) (bds : Bds) (wr : List Nat) : St :=
  { sl := argSl 0 (freshS 0 ct.args 0), mem := freshMem 0 ct.args 0, nt := fn.ntmps, nb := (freshMem 0 ct.args 0).length, nx := (kindsOf ct.args).length, lvl := 0, bds := bds, wr := wr }
def execFn (cx : Cx) (fn : Func) (ct : Ct) (bds : Bds) : Option Tree :=
  match fn.body with
  | none => none
  | some c =>
    if ct.args.length ≤ fn.ntmps ∧ ct.args.length ≤ 1000 ∧ boxOk ct = true then
      exec cx c (startOf fn ct bds cx.wr) fun x st => match x with
        | .ext _ => none
        | _ => endOf cx fn ct st
    else none

def resSem (tmps : Array Value) : ResultVar → Sem Value
  | .tmp t => pure (tmps.getD t undef)
  | .cell x t => do loadVar t (← asAddr (tmps.getD x undef))
theorem results_eq (fn : Func) (tmps : Array Value) : results fn tmps = (fn.results.mapM (resSem tmps) >>= fun vs => pure (if h : vs.size = 1 then vs[0] else .tuple vs)) := by
  unfold results
  congr 1
theorem run_one {P : Program} {F : Nat → Prop} {w0 : World} {Γ : Env} {st : St} {a : Act} {w : World} (hs : Sat P F w0 Γ st a w) {r : ResultVar} {s : S0} (h1 : retOne P st r = some s) :
    (resSem a.tmps r).run P w = .ok (s.den Γ) w ∧ s.ok P w (Own Γ st) Γ := by
  have hv := hs.view (P := P) #[.tmp 0]
  cases r with
  | tmp t =>
    simp only [retOne] at h1
    obtain ⟨g1, g2⟩ := hs.tmp (St.s0_ev h1)
    refine ⟨?_, g2⟩
    simp only [resSem, g1, Sem.run_pure]
    rfl
  | cell x t =>
    simp only [retOne] at h1
    split at h1
    · rename_i lf hlf
      obtain ⟨g1, g2⟩ := hs.tmp (St.lf_ev hlf)
      have hlo := g2 lf (by simp [S0.cells])
      obtain ⟨g3, g4⟩ := run_loadLf hv h1 hlo
      refine ⟨?_, g4⟩
      rw [show (SV.one (S0.lf lf)).den Γ = lf.den Γ from rfl] at g1
      have hp : ∃ ad, lf.den Γ = .pointer (some ad) := by
        cases lf with
        | ptr b o => exact ⟨_, rfl⟩
        | elp te sz e y o =>
          obtain ⟨b, p, he, -⟩ := hlo.1.addr hlo.2.1 hlo.2.2.1
          exact ⟨_, he _⟩
        | velp te sz i y o =>
          obtain ⟨b, n, cap, hl, -⟩ := hlo
          exact ⟨(⟨b, 0, none⟩ : Addr).add ((E.den Γ.ρ y).toNat * sz + o), by simp only [Lf.den, hl, elemAt]⟩
        | _ => simp [loadLf] at h1
      obtain ⟨ad, had⟩ := hp
      rw [had] at g1 g3
      simp only [resSem, g1, asAddr, pure_bind]
      simpa only [Instr.loadAt, Instr.sureAddr, pure_bind] using g3
    · cases h1
theorem run_all {P : Program} {F : Nat → Prop} {w0 : World} {Γ : Env} {st : St} {a : Act} {w : World} (hs : Sat P F w0 Γ st a w) : ∀ (rs : List ResultVar) (l : List S0), retAll P st rs = some l →
    (rs.mapM (resSem a.tmps)).run P w = .ok (l.map (S0.den Γ)) w ∧ ∀ s ∈ l, s.ok P w (Own Γ st) Γ
  | [], l, h => by simp [retAll] at h; subst h; simp
  | r :: rs, l, h => by
    simp only [retAll] at h
    split at h
    · rename_i s l' h1 h2
      cases h
      obtain ⟨i1, i2⟩ := run_all hs rs l' h2
      obtain ⟨j1, j2⟩ := run_one hs h1
      refine ⟨?_, fun x hx => ?_⟩
      · simp only [List.mapM_cons, Sem.run_bind, i1, j1, Result.andThen_ok, Sem.run_pure, List.map_cons]
      · rcases List.mem_cons.1 hx with rfl | hx
        · exact j2
        · exact i2 x hx
    · cases h
theorem run_results {P : Program} {fn : Func} {F : Nat → Prop} {w0 : World} {Γ : Env} {st : St} {a : Act} {w : World} (hs : Sat P F w0 Γ st a w) {l : List S0} (h : retAll P st fn.results.toList = some l) :
    (results fn a.tmps).run P w = .ok (match l.map (S0.den Γ) with | [x] => x | _ => .tuple (l.map (S0.den Γ)).toArray) w ∧ ∀ s ∈ l, s.ok P w (Own Γ st) Γ := by
  obtain ⟨k1, k2⟩ := run_all hs _ _ h
  refine ⟨?_, k2⟩
  rw [results_eq]
  simp only [Array.mapM_eq_mapM_toList, Sem.run_bind, Sem.run_map, k1, Result.andThen_ok, Sem.run_pure]
  congr 1
  match l.map (S0.den Γ) with
  | [] => simp
  | [x] => simp
  | x :: y :: l => simp

/-- A FUNCTION'S CONTRACT, out of its tree. -/
theorem look_argSl : ∀ (l : List S0) (i t : Nat) (sv : SV), look (argSl i l) t = some sv → ∃ j s, t = i + j ∧ l[j]? = some s ∧ sv = .one s
  | [], _, _, _, h => by cases h
  | s :: l, i, t, sv, h => by
    simp only [argSl, look] at h
    split at h
    · rename_i e; cases h; exact ⟨0, s, by omega, rfl, rfl⟩
    · obtain ⟨j, s', e, hj, hsv⟩ := look_argSl l (i + 1) t sv h
      exact ⟨j + 1, s', by omega, by simpa using hj, hsv⟩
theorem freshS_len (nb : Nat) : ∀ (l : List Sh0) (i : Nat), (freshS nb l i).length = l.length
  | [], _ => rfl
  | s :: l, i => by simp [freshS, freshS_len nb l]
theorem boxArg_none : ∀ {ss : List Sh0}, boxArg ss = none → ss.all (fun s => !s.isBox) = true
  | [], _ => rfl
  | .box t l :: _, h => by cases h
  | .lf k :: ss, h => by simp only [List.all_cons, Bool.and_eq_true]; exact ⟨rfl, boxArg_none (ss := ss) h⟩
  | .agg k :: ss, h => by simp only [List.all_cons, Bool.and_eq_true]; exact ⟨rfl, boxArg_none (ss := ss) h⟩
theorem filter_noBox {ss : List Sh0} (h : (ss.filter Sh0.isBox).length ≤ 0) : ss.all (fun s => !s.isBox) = true := by
  have h0 : (ss.filter Sh0.isBox) = [] := List.eq_nil_of_length_eq_zero (by omega)
  rw [List.all_eq_true]
  intro x hx
  cases hxb : x.isBox with
  | false => rfl
  | true => have := List.mem_filter.2 ⟨hx, hxb⟩; rw [h0] at this; cases this
theorem outs_none {P : Program} {w : World} {O : Nat → Nat → Prop} : ∀ {ss : List Sh0} {vs : List Value}, ss.all (fun s => !s.isBox) = true → Outs P w O ss vs []
  | [], vs, _ => by cases vs <;> rfl
  | s :: ss, [], _ => by cases s <;> rfl
  | s :: ss, v :: vs, hb => by
    simp only [List.all_cons, Bool.and_eq_true] at hb
    cases s with
    | box t l => cases hb.1
    | lf k => exact outs_none (ss := ss) (vs := vs) hb.2
    | agg l => exact outs_none (ss := ss) (vs := vs) hb.2
theorem box_start {P : Program} {w : World} {O : Nat → Nat → Prop} {ρ : List C} {t : TypeId} {ks : List Lk} : ∀ {ss : List Sh0} {vs : List Value} {cs : List C}, Reps P w O none ss vs cs → (ss.filter Sh0.isBox).length ≤ 1 → boxArg ss = some (t, ks) → ∀ i, (∀ j c, cs[j]? = some c → at_ ρ (i + j) = c) →
    ∃ (b : Nat) (us : List Value) (c1 : List C) (n : Nat), (∀ x, IsBox ss vs x ↔ x = b) ∧ Blk w b t us.toArray ∧ (∀ o, O b o) ∧ LReps P w (fun x o => O x o ∨ some b = some x) ks us c1 ∧ freshMem 0 ss i = [(0, some (t, freshL ks n))] ∧ (∀ j c, c1[j]? = some c → at_ ρ (n + j) = c) ∧
      ∀ w' O' us' c', Blk w' b t us'.toArray → LReps P w' O' ks us' c' → Outs P w' O' ss vs c'
  | [], _, _, _, _, hb, _, _ => by cases hb
  | s :: ss, [], _, h, _, _, _, _ => h.elim
  | s :: ss, v :: vs, cs, h, hl, hb, i, hi => by
    obtain ⟨c1, c2, rfl, h1, h2⟩ := h
    have hlen : c1.length = s.kinds.length := h1.ty.len
    have hi2 : ∀ j c, c2[j]? = some c → at_ ρ (i + s.kinds.length + j) = c := fun j c hj => by
      have := hi (c1.length + j) c (by rw [List.getElem?_append_right (by omega)]; simpa using hj)
      rwa [← hlen, Nat.add_assoc]
    have hi1 : ∀ j c, c1[j]? = some c → at_ ρ (i + j) = c := fun j c hj => hi j c (by
      have : j < c1.length := by
        rcases Nat.lt_or_ge j c1.length with h' | h'
        · exact h'
        · rw [List.getElem?_eq_none h'] at hj; cases hj
      rw [List.getElem?_append_left this]; exact hj)
    cases s with
    | box t' l =>
      cases hb
      have hno : ss.all (fun s => !s.isBox) = true := filter_noBox (by simp only [List.filter_cons, Sh0.isBox, if_true, List.length_cons] at hl; omega)
      obtain ⟨b, us, rfl, g1, g2, g3⟩ := h1
      refine ⟨b, us, c1, i, fun x => ⟨?_, fun e => .inl (by rw [e])⟩, g1, g2, g3, ?_, hi1, fun w' O' us' c' k1 k2 => ⟨c', [], b, us', by simp, rfl, k1, k2, outs_none hno⟩⟩
      · rintro (hx | hx)
        · cases hx; rfl
        · exact absurd hx (isBox_noBox hno)
      · simp only [freshMem]
        rw [freshMem_noBox 0 ss _ hno]
    | lf k =>
      obtain ⟨b, us, c, n, r1, r2, r3, r4, r5, r6, r7⟩ := box_start h2 hl hb _ hi2
      exact ⟨b, us, c, n, r1, r2, r3, r4, r5, r6, r7⟩
    | agg l =>
      obtain ⟨b, us, c, n, r1, r2, r3, r4, r5, r6, r7⟩ := box_start h2 hl hb _ hi2
      exact ⟨b, us, c, n, r1, r2, r3, r4, r5, r6, r7⟩
theorem St.look_one {t : TypeId} {l : List Lf} {j : Nat} {mb : TypeId × List Lf} (h : look [(0, some (t, l))] j = some mb) : j = 0 ∧ mb = (t, l) := by
  simp only [look] at h
  split at h
  · rename_i e; cases h; exact ⟨e.symm, rfl⟩
  · cases h
/-! What is handed on at the end -/
section
variable {P : Program} {F : Nat → Prop} {w0 : World} {Γ : Env} {st : St} {a : Act} {w : World}
theorem cntIdx_spec (h : Sat P F w0 Γ st a w) {l : Lf} {i : Nat} (hi : cntIdx st.vec l = some i) : ∃ te e, look st.vec i = some e ∧ l = .cnt te (mkJoin i e.2) ∧ e.1 = te ∧ (l.c Γ.ρ).loc = (at_ Γ.ρ i).loc := by
  unfold cntIdx at hi
  split at hi
  · rename_i te r
    split at hi
    · rename_i i' hi'
      split at hi
      · rename_i e he
        split at hi
        · rename_i hc
          cases hi
          refine ⟨te, e, he, by rw [hc.2], hc.1, ?_⟩
          simp only [Lf.c]
          rw [← hc.2, mkJoin_ev (h.vec _ e he).1]
          rfl
        · cases hi
      · cases hi
    · cases hi
  · cases hi
theorem nodupI_spec {vec : Vecs} : ∀ {ls : List Lf}, nodupI vec ls = true → ∀ l ∈ ls, l.isVec = false ∧ (l.isCnt = true → ∃ i, cntIdx vec l = some i)
  | [], _, l, hl => by cases hl
  | x :: ls, h, l, hl => by
    simp only [nodupI, Bool.and_eq_true, Bool.not_eq_true'] at h
    obtain ⟨⟨h1, h2⟩, h3⟩ := h
    rcases List.mem_cons.1 hl with rfl | hl
    · refine ⟨h1, fun hc => ?_⟩
      split at h2
      · rename_i i hi; exact ⟨i, hi⟩
      · rw [hc] at h2; cases h2
    · exact nodupI_spec h3 l hl
theorem kind_vec {l : Lf} {t : TypeId} (hk : l.kind = some (.vec t)) (hv : l.isVec = false) : l.isCnt = true := by
  cases l with
  | vec te i => cases hv
  | cnt te r => rfl
  | _ => cases hk
theorem vecB_cells (h : Sat P F w0 Γ st a w) : ∀ {ls : List Lf} {ks : List Lk}, kindsL ls = some ks → nodupI st.vec ls = true → (vecB ks (cs_ Γ.ρ ls)).Nodup ∧ ∀ b ∈ vecB ks (cs_ Γ.ρ ls), ∃ l ∈ ls, ∃ i, cntIdx st.vec l = some i ∧ Hold Γ st false i b
  | [], ks, hk, _ => by simp [kindsL] at hk; subst hk; simp [vecB, cs_]
  | l :: ls, ks, hk, hn => by
    have hn0 := hn
    simp only [nodupI, Bool.and_eq_true, Bool.not_eq_true'] at hn
    obtain ⟨⟨h1, h2⟩, h3⟩ := hn
    simp only [kindsL] at hk
    split at hk
    · rename_i k ks' hk1 hk2
      cases hk
      obtain ⟨i1, i2⟩ := vecB_cells h hk2 h3
      have tail : vecB (k :: ks') (cs_ Γ.ρ (l :: ls)) = vecB ks' (cs_ Γ.ρ ls) → (vecB (k :: ks') (cs_ Γ.ρ (l :: ls))).Nodup ∧ ∀ b ∈ vecB (k :: ks') (cs_ Γ.ρ (l :: ls)), ∃ x ∈ l :: ls, ∃ i, cntIdx st.vec x = some i ∧ Hold Γ st false i b := fun e => by
        rw [e]
        exact ⟨i1, fun b hb => by obtain ⟨x, hx, r⟩ := i2 b hb; exact ⟨x, by simp [hx], r⟩⟩
      cases k with
      | vec t =>
        have hc := kind_vec hk1 h1
        obtain ⟨i, hi⟩ := (nodupI_spec hn0 l (by simp)).2 hc
        obtain ⟨te, e, q1, q2, q3, q4⟩ := cntIdx_spec h hi
        rw [hi] at h2
        simp only [List.all_eq_true, Bool.not_eq_true', decide_eq_false_iff_not] at h2
        cases hob : (l.c Γ.ρ).loc.ownBlock with
        | none => exact tail (by simp [cs_, vecB, hob])
        | some b =>
          have hh : Hold Γ st false i b := .vec (Γ := Γ) q1 (by rw [← q4]; exact hob)
          have e' : vecB (.vec t :: ks') (cs_ Γ.ρ (l :: ls)) = b :: vecB ks' (cs_ Γ.ρ ls) := by simp [cs_, vecB, hob]
          rw [e']
          refine ⟨List.nodup_cons.2 ⟨fun hb => ?_, i1⟩, fun x hx => ?_⟩
          · obtain ⟨m, hm, j, hj, hhj⟩ := i2 b hb
            have := (h.inj _ _ _ _ _ hh hhj).2
            subst this
            exact h2 m hm hj
          · rcases List.mem_cons.1 hx with rfl | hx
            · exact ⟨l, by simp, i, hi, hh⟩
            · obtain ⟨m, hm, r⟩ := i2 x hx; exact ⟨m, by simp [hm], r⟩
      | int => exact tail rfl
      | bool => exact tail rfl
      | opq => exact tail rfl
      | arr t => exact tail rfl
    · cases hk
theorem Lf.give_spec (h : Sat P F w0 Γ st a w) {O : Nat → Nat → Prop} (hO : ∀ b o, O b o → Own Γ st b o) {k : Lk} {l : Lf} (ho : l.ok P w (Own Γ st) Γ) (hnc : l.isCnt = false) :
    ((match k with | .vec _ => l.give P st.vec k | _ => l.adapt P [] k) : Lf).den Γ = l.den Γ ∧ (((match k with | .vec _ => l.give P st.vec k | _ => l.adapt P [] k) : Lf).isVec = false → ((match k with | .vec _ => l.give P st.vec k | _ => l.adapt P [] k) : Lf).okR P w O Γ) := by
  have plain : ∀ x : Lf, x.ok P w (Own Γ st) Γ → x.isCnt = false → x.isVec = false → x.okR P w O Γ := fun x hx hc hv => by
    cases x with
    | cnt te r => cases hc
    | vec te i => cases hv
    | _ => exact Lf.ok_anti hx hO
  have other : (l.adapt P [] k).den Γ = l.den Γ ∧ ((l.adapt P [] k).isVec = false → (l.adapt P [] k).okR P w O Γ) := by
    refine ⟨adapt_den0 P Γ k l, fun hv => plain _ (S0.adaptOk ho) ?_ hv⟩
    unfold Lf.adapt
    split
    · rfl
    · split <;> rfl
    · exact hnc
  cases k with
  | vec t =>
    by_cases hvv : ∃ te i, l = .vec te i
    · obtain ⟨te, i, rfl⟩ := hvv
      show (Lf.give P st.vec (.vec t) (.vec te i)).den Γ = _ ∧ ((Lf.give P st.vec (.vec t) (.vec te i)).isVec = false → (Lf.give P st.vec (.vec t) (.vec te i)).okR P w O Γ)
      simp only [Lf.give]
      split
      · rename_i e he
        split
        · rename_i hc
          have hj := mkJoin_ev (h.vec i e he).1
          refine ⟨by simp only [Lf.den, hj, C.loc], fun _ => ?_⟩
          obtain ⟨ks, us, k1, k2, k3, k4, k5⟩ := (h.vec i e he).1.anti hO
          simp only [Lf.okR, hj]
          rw [← hc]
          exact ⟨ks, us, k1, ⟨_, rfl⟩, k3, k4, k5⟩
        · exact ⟨rfl, fun hv => by cases hv⟩
      · exact ⟨rfl, fun hv => by cases hv⟩
    · have hg : Lf.give P st.vec (.vec t) l = l := by
        cases l with
        | vec te i => exact absurd ⟨te, i, rfl⟩ hvv
        | _ => rfl
      show (Lf.give P st.vec (.vec t) l).den Γ = _ ∧ ((Lf.give P st.vec (.vec t) l).isVec = false → (Lf.give P st.vec (.vec t) l).okR P w O Γ)
      rw [hg]
      exact ⟨rfl, plain l ho hnc⟩
  | int => exact other
  | bool => exact other
  | opq => exact other
  | arr t => exact other
theorem gives_spec (h : Sat P F w0 Γ st a w) {O : Nat → Nat → Prop} (hO : ∀ b o, O b o → Own Γ st b o) : ∀ {shs : List Sh0} {ss : List S0}, (∀ s ∈ ss, s.ok P w (Own Γ st) Γ) → (ss.all fun s => s.cells.all fun x => !x.isCnt) = true →
    (gives P st.vec shs ss).map (S0.den Γ) = ss.map (S0.den Γ) ∧ ∀ s ∈ gives P st.vec shs ss, ∀ l ∈ s.cells, l.isVec = false → l.okR P w O Γ
  | [], ss, h1, h2 => by
    have key : ∀ s ∈ ss, ∀ l ∈ s.cells, l.isVec = false → l.okR P w O Γ := fun s hs l hl hv => by
      have hc := List.all_eq_true.1 (List.all_eq_true.1 h2 s hs) l hl
      have ho := h1 s hs l hl
      cases l with
      | cnt te r => cases hc
      | vec te i => cases hv
      | _ => exact Lf.ok_anti ho hO
    cases ss <;> exact ⟨rfl, key⟩
  | _ :: _, [], _, _ => ⟨rfl, fun l hl => by cases hl⟩
  | sh :: shs, s :: ss, h1, h2 => by
    simp only [List.all_cons, Bool.and_eq_true] at h2
    obtain ⟨g1, g2⟩ := gives_spec h hO (shs := shs) (ss := ss) (fun x hx => h1 x (by simp [hx])) h2.2
    have hcn : ∀ l ∈ s.cells, l.isCnt = false := fun l hl => by have := List.all_eq_true.1 h2.1 l hl; simpa using this
    have hso := h1 s (by simp)
    have hL : ∀ (ks : List Lk) (ls : List Lf), (∀ l ∈ ls, l.isCnt = false) → (∀ l ∈ ls, l.ok P w (Own Γ st) Γ) → (giveL P st.vec ks ls).map (Lf.den Γ) = ls.map (Lf.den Γ) ∧ ∀ l ∈ giveL P st.vec ks ls, l.isVec = false → l.okR P w O Γ := by
      intro ks
      induction ks with
      | nil =>
        intro ls k1 k2
        have key : ∀ l ∈ ls, l.isVec = false → l.okR P w O Γ := fun l hl hv => by
          have hc := k1 l hl
          have ho := k2 l hl
          cases l with
          | cnt te r => cases hc
          | vec te i => cases hv
          | _ => exact Lf.ok_anti ho hO
        cases ls <;> exact ⟨rfl, key⟩
      | cons k ks ih =>
        intro ls k1 k2
        cases ls with
        | nil => exact ⟨rfl, fun l hl => by cases hl⟩
        | cons l ls =>
          obtain ⟨q1, q2⟩ := ih ls (fun x hx => k1 x (by simp [hx])) (fun x hx => k2 x (by simp [hx]))
          obtain ⟨q3, q4⟩ := Lf.give_spec h hO (k := k) (k2 l (by simp)) (k1 l (by simp))
          refine ⟨by simp only [giveL, List.map_cons, q1, q3], fun x hx => ?_⟩
          rcases List.mem_cons.1 hx with rfl | hx
          · exact q4
          · exact q2 x hx
    have one : (s.give P st.vec sh).den Γ = s.den Γ ∧ ∀ l ∈ (s.give P st.vec sh).cells, l.isVec = false → l.okR P w O Γ := by
      unfold S0.give
      split
      · rename_i k l
        obtain ⟨q3, q4⟩ := Lf.give_spec h hO (k := k) (hso l (by simp [S0.cells])) (hcn l (by simp [S0.cells]))
        exact ⟨q3, fun x hx => by simp only [S0.cells, List.mem_singleton] at hx; subst hx; exact q4⟩
      · rename_i ks ls
        obtain ⟨q1, q2⟩ := hL ks ls hcn hso
        exact ⟨by simp only [S0.den, dens, q1], q2⟩
      · refine ⟨rfl, fun l hl hv => ?_⟩
        have hc := hcn l hl
        have ho := hso l hl
        cases l with
        | cnt te r => cases hc
        | vec te i => cases hv
        | _ => exact Lf.ok_anti ho hO
    refine ⟨by simp [gives, g1, one.1], fun x hx => ?_⟩
    rcases List.mem_cons.1 hx with rfl | hx
    · exact one.2
    · exact g2 x hx
theorem shapes_kindsL {mem : Mem} : ∀ {args : List S0} {ss : List Sh0}, shapes mem args = some ss → kindsL (cellsOf mem args) = some (kindsOf ss)
  | [], ss, h => by simp [shapes] at h; subst h; rfl
  | s :: args, ss, h => by
    simp only [shapes] at h
    split at h
    · rename_i sh hss h1 h2
      cases h
      have hc : cellsOf mem (s :: args) = s.cellsM mem ++ cellsOf mem args := by simp [cellsOf]
      have hk : kindsOf (sh :: hss) = sh.kinds ++ kindsOf hss := by simp [kindsOf]
      rw [hc, hk]
      have app : ∀ {l m : List Lf} {k n : List Lk}, kindsL l = some k → kindsL m = some n → kindsL (l ++ m) = some (k ++ n) := by
        intro l
        induction l with
        | nil => intro m k n h1 h2; simp [kindsL] at h1; subst h1; exact h2
        | cons x l ih =>
          intro m k n h1 h2
          simp only [kindsL] at h1
          split at h1
          · rename_i k' ks' e1 e2
            cases h1
            simp only [List.cons_append, kindsL, e1, ih e2 h2]
          · cases h1
      refine app ?_ (shapes_kindsL h2)
      have plain : s.shapeM mem = s.shape → s.cellsM mem = s.cells → kindsL (s.cellsM mem) = some sh.kinds := by
        intro e1 e2
        rw [e1] at h1
        rw [e2]
        cases s with
        | lf l =>
          simp only [S0.shape, Option.map_eq_some_iff] at h1
          obtain ⟨k, hk', rfl⟩ := h1
          simp [S0.cells, kindsL, hk', Sh0.kinds]
        | agg ls =>
          simp only [S0.shape, Option.map_eq_some_iff] at h1
          obtain ⟨k, hk', rfl⟩ := h1
          exact hk'
      by_cases hp : ∃ b, s = .lf (.ptr b 0)
      · obtain ⟨b, rfl⟩ := hp
        simp only [S0.shapeM] at h1
        split at h1
        · rename_i mb hmb
          simp only [Option.map_eq_some_iff] at h1
          obtain ⟨ks, hks, rfl⟩ := h1
          simp only [S0.cellsM, hmb]
          exact hks
        · cases h1
      · refine plain ?_ ?_
        · unfold S0.shapeM; split
          · exact absurd ⟨_, rfl⟩ hp
          · rfl
        · unfold S0.cellsM; split
          · exact absurd ⟨_, rfl⟩ hp
          · rfl
    · cases h
end
theorem cellsOf_box {mem : Mem} {args : List S0} {b : Nat} {mb : TypeId × List Lf} (hin : S0.lf (.ptr b 0) ∈ args) (hmb : look mem b = some mb) : ∀ l ∈ mb.2, l ∈ cellsOf mem args := fun l hl =>
  List.mem_flatMap.2 ⟨_, hin, by simp only [S0.cellsM, hmb]; exact hl⟩
theorem cellsOf_plain {mem : Mem} {args : List S0} {s : S0} (hs : s ∈ args) (hp : ¬ ∃ b, s = .lf (.ptr b 0)) : ∀ l ∈ s.cells, l ∈ cellsOf mem args := fun l hl =>
  List.mem_flatMap.2 ⟨s, hs, by
    unfold S0.cellsM; split
    · exact absurd ⟨_, rfl⟩ hp
    · exact hl⟩
theorem ct_start {cx : Cx} (hcx : CxOK cx) {f : FuncId} {fn : Func} (hf : cx.P.funcs[f]? = some fn) {ct : Ct} {bds : Bds} (hle' : ct.args.length ≤ fn.ntmps ∧ ct.args.length ≤ 1000 ∧ boxOk ct = true)
    {Base : Nat → Nat → Prop} {w : World} {vs : List Value} {cs : List C} (hBase : ∀ b o, Base b o → b < w.heap.size) (hreps : Reps cx.P w Base none ct.args vs cs) (hb : bds.ok cs) :
    ∃ Γ : Env, Γ.ρ = cs ∧ Γ.up.ds = [] ∧ Sat cx.P (fun i => i < w.heap.size ∧ ¬ IsBox ct.args vs i) w Γ (startOf fn ct bds cx.wr) { tmps := vs.toArray ++ Array.replicate (fn.ntmps - vs.toArray.size) undef, defers := [] } w ∧
      ∀ (st' : St) (T' : Tree) (Γ' : Env) (Ls' : List (List C → Prop)) (a' : Act) (w' : World), Ext Γ Γ' → VC cx (ct.post cs) T' Γ'.ρ Ls' → Sat cx.P (fun i => i < w.heap.size ∧ ¬ IsBox ct.args vs i) w Γ' st' a' w' → endOf cx fn ct st' = some T' →
        a'.defers = [] ∧ ∃ v, (results fn a'.tmps).run cx.P w' = .ok v w' ∧ ∃ v' rs outs, Ending.returned v = .returned v' ∧ Res cx.P w' Base w.heap.size ct.res v' rs ∧ Outs cx.P w' (fun b o => Base b o ∨ b ∈ vecB (kindsOf ct.res) rs) ct.args vs outs ∧ ct.post cs (rs ++ outs) ∧ Keeps (fun i => i < w.heap.size ∧ ¬ IsBox ct.args vs i) w w' := by
  have hty := hreps.ty
  obtain ⟨hle, hle2, hbx⟩ := hle'
  have hat : ∀ j c, cs[j]? = some c → at_ cs (0 + j) = c := fun j c hj => by rw [Nat.zero_add]; simp [at_, List.getD_eq_getElem?_getD, hj]
  have hbx' := hbx
  simp only [boxOk, Bool.and_eq_true, Bool.or_eq_true] at hbx'
  obtain ⟨⟨hb1, hb2⟩, hb3⟩ := hbx'
  have hb1 := Nat.le_of_ble_eq_true hb1
  have hbkn : (boxKinds ct.args).all Lk.noVec = true := by
    have : ∀ {ss : List Sh0}, (kindsOf ss).all Lk.noVec = true → (boxKinds ss).all Lk.noVec = true := by
      intro ss
      induction ss with
      | nil => intro _; rfl
      | cons s ss ih =>
        intro h
        have hk : kindsOf (s :: ss) = s.kinds ++ kindsOf ss := by simp [kindsOf]
        rw [hk, List.all_append, Bool.and_eq_true] at h
        cases s with
        | box t l => show (l ++ boxKinds ss).all Lk.noVec = true; rw [List.all_append, Bool.and_eq_true]; exact ⟨h.1, ih h.2⟩
        | _ => exact ih h.2
    exact this hb3
  have hsm : Smalls cs := by
    have := Smalls.nil.app (cs := cs) fun c hc => hty.small c hc
    simpa using this
  -- where the argument's block lies
  obtain ⟨B, hB1, hB2, hB3⟩ : ∃ B : Nat, (∀ x, IsBox ct.args vs x → x = B ∧ ∃ p, boxArg ct.args = some p) ∧
      (∀ Γ : Env, Γ.ρ = cs → Γ.blk 0 = B → Γ.base = Base → ∀ j mb, look (freshMem 0 ct.args 0) j = some mb → Blk w (Γ.blk j) mb.1 (dens Γ mb.2) ∧ (∀ l ∈ mb.2, l.ok cx.P w (fun x o => Base x o ∨ x = B) Γ) ∧ IsBox ct.args vs (Γ.blk j) ∧ j < (freshMem 0 ct.args 0).length ∧ j = 0 ∧ ∀ o, Base B o) ∧
      (∀ (st' : St) (o : List Lf) (w' : World) (Γ' : Env) (O' : Nat → Nat → Prop), outL st' ct = some o → Γ'.blk 0 = (if (freshMem 0 ct.args 0).length = 0 then Γ'.blk 0 else B) → (∀ mb, look st'.mem 0 = some mb → Blk w' (Γ'.blk 0) mb.1 (dens Γ' mb.2) ∧ ∀ l ∈ mb.2, l.ok cx.P w' O' Γ') → Num st'.bds Γ'.ρ → Obs Γ'.ρ (rngL st'.bds o) → Outs cx.P w' O' ct.args vs (cs_ Γ'.ρ o) ∧ ((∃ p, boxArg ct.args = some p) → ∃ mb, look st'.mem 0 = some mb ∧ Γ'.blk 0 = B)) := by
    cases hba : boxArg ct.args with
    | none =>
      have hno := boxArg_none hba
      refine ⟨0, fun x hx => absurd hx (isBox_noBox hno), fun Γ _ _ _ j mb hj => ?_, fun st' o w' Γ' O' ho _ _ _ _ => ?_⟩
      · rw [freshMem_noBox 0 ct.args 0 hno] at hj; cases hj
      · simp only [outL, hba, Option.some.injEq] at ho; subst ho; exact ⟨outs_none hno, fun ⟨p, hp⟩ => by cases hp⟩
    | some p =>
      obtain ⟨t, ks⟩ := p
      obtain ⟨b, us, c1, n, r1, r2, r3, r4, r5, r6, r7⟩ := box_start hreps hb1 hba 0 hat
      have hksn : ks.all Lk.noVec = true := by
        have : ∀ {ss : List Sh0}, boxArg ss = some (t, ks) → (boxKinds ss).all Lk.noVec = true → ks.all Lk.noVec = true := by
          intro ss
          induction ss with
          | nil => intro h _; cases h
          | cons s ss ih =>
            intro h hn
            cases s with
            | box t' l =>
              cases h
              have : (ks ++ boxKinds ss).all Lk.noVec = true := hn
              rw [List.all_append, Bool.and_eq_true] at this
              exact this.1
            | lf k => exact ih h hn
            | agg k => exact ih h hn
        exact this hba hbkn
      refine ⟨b, fun x hx => ⟨(r1 x).1 hx, _, rfl⟩, fun Γ hρ hblk hbase j mb hj => ?_, fun st' o w' Γ' O' ho hbl hm hn hob => ?_⟩
      · rw [r5] at hj
        obtain ⟨rfl, rfl⟩ := St.look_one hj
        obtain ⟨f1, f2⟩ := freshL_rep (Γ := Γ) r4 n (fun j c hj => by rw [hρ]; exact r6 j c hj)
        refine ⟨by rw [hblk]; unfold dens; rw [f1]; exact r2, fun l hl => Lf.ok_anti (f2 l hl) fun x o hx => hx.imp id fun e => by rw [e], by rw [hblk]; exact (r1 b).2 rfl, by rw [r5]; exact Nat.succ_pos _, rfl, r3⟩
      · rw [r5] at hbl
        simp only [List.length_cons, List.length_nil, Nat.zero_add, Nat.one_ne_zero, if_false] at hbl
        simp only [outL, hba] at ho
        split at ho
        · rename_i mb hmb
          split at ho
          · rename_i hc
            cases ho
            obtain ⟨m1, m2⟩ := hm mb hmb
            refine ⟨?_, fun _ => ⟨mb, hmb, hbl⟩⟩
            rw [hbl, hc.1] at m1
            exact r7 w' O' _ _ m1 (Ls_rep hn hc.2 (kindsL_noVec hc.2 hksn m2) hob)
          · cases ho
        · cases ho
  let Γ : Env := { ρ := cs, blk := fun _ => B, nb := (freshMem 0 ct.args 0).length, base := Base }
  obtain ⟨f1, f2⟩ := freshS_rep (Γ := Γ) (nb := 0) hreps (fun b hb => ((hB1 b hb).1).symm) 0 hat
  have hvl : vs.length = ct.args.length := by rw [← f1, List.length_map, freshS_len]
  have hmemB : ∀ j mb, look (freshMem 0 ct.args 0) j = some mb → ∀ o, Base (Γ.blk j) o := fun j mb hj o => (hB2 Γ rfl rfl rfl j mb hj).2.2.2.2.2 o
  have hown : ∀ b o, Own Γ (startOf fn ct bds cx.wr) b o → Base b o := by
    rintro b o (hb | ⟨j, mb, hj, rfl⟩ | ⟨i, e, hi, -⟩)
    · exact hb
    · exact hmemB j mb hj o
    · cases hi
  have hs : Sat cx.P (fun i => i < w.heap.size ∧ ¬ IsBox ct.args vs i) w Γ (startOf fn ct bds cx.wr) { tmps := vs.toArray ++ Array.replicate (fn.ntmps - vs.toArray.size) undef, defers := [] } w := by
    refine ⟨fun t sv ht => ?_, by simp [startOf]; omega, fun b mb hm => ?_, fun i e hi => (by cases hi), fun i e hi => (by cases hi), fun s j s' j' b h1 h2 => ?_, Keeps.refl _ _, fun i hi => hi.1, hBase, rfl, hty.len, rfl, ⟨hb, hsm⟩⟩
    · obtain ⟨j, s, e, hj, rfl⟩ := look_argSl _ _ _ _ ht
      have hjl : j < vs.length := by
        rw [hvl, ← freshS_len 0 ct.args 0]
        rcases Nat.lt_or_ge j (freshS 0 ct.args 0).length with h' | h'
        · exact h'
        · rw [List.getElem?_eq_none h'] at hj; cases hj
      have hmem := List.mem_of_getElem? hj
      refine ⟨?_, fun l hl => Lf.ok_anti (f2 s hmem l hl) hown⟩
      have : vs[j]? = some (s.den Γ) := by rw [← f1]; simp [hj]
      subst e
      unfold slotV
      rw [if_pos (by omega)]
      simp only [Nat.zero_add, Array.getD_eq_getD_getElem?]
      rw [Array.getElem?_append_left (by simpa using hjl)]
      simp [this, SV.den]
    · obtain ⟨m1, m2, m3, m4, m5, m6⟩ := hB2 Γ rfl rfl rfl b mb hm
      refine ⟨m1, fun l hl => Lf.ok_anti (m2 l hl) fun x o hx => .inl (hown x o hx), fun hn => hn.2 m3, m4⟩
    · rcases h1.inv with ⟨rfl, mb, hm, rfl⟩ | ⟨rfl, e, hm, -⟩
      · rcases h2.inv with ⟨rfl, mc, hm', -⟩ | ⟨rfl, e, hm', -⟩
        · have h1 := (hB2 Γ rfl rfl rfl j mb hm).2.2.2.2.1
          have h2 := (hB2 Γ rfl rfl rfl j' mc hm').2.2.2.2.1
          exact ⟨rfl, by rw [h1, h2]⟩
        · cases hm'
      · cases hm
  refine ⟨Γ, rfl, rfl, hs, ?_⟩
  intro st' T' Γ' Ls' a' w' he hv' hs' hend
  unfold endOf at hend
  split at hend
  · rename_i l o hl' ho
    split at hend
    rotate_left
    · cases hend; exact hv'.elim
    · rename_i hcc
      obtain ⟨hsh, hnd, hnc⟩ := hcc
      cases hend
      obtain ⟨hob, hret⟩ := VC.obT hv'
      obtain ⟨ob1, ob2⟩ := rngL_app hob
      obtain ⟨r1, r2⟩ := run_results hs' hl'
      generalize hl'' : resOf cx ct st' l = l' at *
      have hbase : ∀ b o, Base b o → Own Γ' st' b o := fun b o hb => .inl (by rw [he.base]; exact hb)
      obtain ⟨v1, v2⟩ := vecB_cells hs' (shapes_kindsL hsh) hnd
      generalize hrs : cs_ Γ'.ρ (cellsOf st'.mem l') = rs at *
      have hO : ∀ b o, (Base b o ∨ b ∈ vecB (kindsOf ct.res) rs) → Own Γ' st' b o := fun b o hb => hb.elim (hbase b o) fun hb => by
        obtain ⟨x, -, i, -, hh⟩ := v2 b hb; exact hh.own o
      -- the results' cells
      obtain ⟨hden, hokR⟩ : l'.map (S0.den Γ') = l.map (S0.den Γ') ∧ ∀ s ∈ l', ∀ x ∈ s.cells, x.isVec = false → x.okR cx.P w' (fun b o => Base b o ∨ b ∈ vecB (kindsOf ct.res) rs) Γ' := by
        unfold resOf at hl''
        split at hl''
        · rename_i hnv
          have hvb : vecB (kindsOf ct.res) rs = [] := vecB_noVec hnv
          obtain ⟨g1, g2⟩ := adapts_spec hs' (O' := fun b o => Base b o ∨ b ∈ vecB (kindsOf ct.res) rs) hO (shs := ct.res) (ss := l) (fun s _ l _ _ i e hi b hb o ho => by
            rw [hvb] at ho
            rcases ho with ho | ho
            · exact ((hs'.vec i e hi).2.2 b hb).2 o (by rw [he.base]; exact ho)
            · cases ho) r2
          rw [hl''] at g1 g2
          obtain ⟨q1, q2⟩ := shapes_okR (Γ := Γ') hsh hnv g2
          exact ⟨g1, fun s hs x hx _ => q1 s hs x hx⟩
        · obtain ⟨g1, g2⟩ := gives_spec hs' hO (shs := ct.res) (ss := l) r2 hnc
          rw [hl''] at g1 g2
          exact ⟨g1, g2⟩
      have hcv : ∀ x ∈ cellsOf st'.mem l', x.isVec = false := fun x hx => (nodupI_spec hnd x hx).1
      have hrep := cells_rep (P := cx.P) (w := w') (O := fun b o => Base b o ∨ b ∈ vecB (kindsOf ct.res) rs) (old := some w.heap.size) hs'.num hsh (fun s hs2 x hx => by
        by_cases hp : ∃ b, s = .lf (.ptr b 0)
        · obtain ⟨b, rfl⟩ := hp
          simp [S0.cells] at hx; subst hx; trivial
        · exact hokR s hs2 x hx (hcv x (cellsOf_plain hs2 hp x hx))) (fun b mb hin hmb => by
        obtain ⟨m1, m2, m3, m4⟩ := hs'.mem b mb hmb
        refine ⟨m1, fun x hx => ?_, ?_⟩
        · have hxv := hcv x (cellsOf_box hin hmb x hx)
          have hxc : x.isCnt = false ∨ ∃ i, cntIdx st'.vec x = some i := by
            cases hxc : x.isCnt with
            | false => exact .inl rfl
            | true => exact .inr ((nodupI_spec hnd x (cellsOf_box hin hmb x hx)).2 hxc)
          have hmo := m2 x hx
          have hO2 : ∀ y o, ((Base y o ∨ y ∈ vecB (kindsOf ct.res) rs) ∨ some (Γ'.blk b) = some y) → Own Γ' st' y o := fun y o hy => hy.elim (hO y o) fun e => by cases e; exact (Hold.mem (Γ := Γ') hmb).own o
          cases x with
          | vec te i => cases hxv
          | cnt te r =>
            rcases hxc with hxc | ⟨i, hi⟩
            · cases hxc
            · obtain ⟨te', e, k1, k2, k3, k4⟩ := cntIdx_spec hs' hi
              cases k2
              have hve := (hs'.vec i e k1).1
              obtain ⟨ks, us, p1, p2, p3, p4, p5⟩ := hve.anti hO2
              simp only [Lf.okR, mkJoin_ev hve]
              rw [← k3]
              exact ⟨ks, us, p1, ⟨_, rfl⟩, p3, p4, p5⟩
          | _ => exact Lf.ok_anti hmo hO2
        · rcases hb2 with h | h
          · exact absurd hin ((shapes_noBox hsh h).2.2.2 b)
          · rcases Nat.lt_or_ge (Γ'.blk b) w.heap.size with hlt | hge
            · exact absurd ⟨hlt, isBox_noBox h.1.2⟩ m3
            · exact hge) ob1
      rw [hrs] at hrep
      obtain ⟨houts, hboxm⟩ := hB3 st' o w' Γ' (fun b o => Base b o ∨ b ∈ vecB (kindsOf ct.res) rs) ho (by
        split
        · rfl
        · rename_i hne
          rw [he.blk 0 (show 0 < (freshMem 0 ct.args 0).length by omega)]) (fun mb hmb => ⟨(hs'.mem 0 mb hmb).1, fun l hl => Lf.ok_anti ((hs'.mem 0 mb hmb).2.1 l hl) hO⟩) hs'.num ob2
      refine ⟨hs'.defers.trans (by rw [he.up]), _, r1, _, rs, cs_ Γ'.ρ o, rfl, ⟨_, rfl, ?_, v1, fun b hb => ?_⟩, houts, ?_, hs'.keeps⟩
      · rw [← hden]; exact hrep
      · obtain ⟨x, hx, i, hi, hh⟩ := v2 b hb
        obtain ⟨e, he1, he2⟩ := hh
        have hnF := ((hs'.vec i e he1).2.2 b he2).1
        rcases Nat.lt_or_ge b w.heap.size with hlt | hge
        · exfalso
          refine hnF ⟨hlt, fun hbx => ?_⟩
          obtain ⟨e1, hp⟩ := hB1 b hbx
          obtain ⟨mb, hmb, hbl⟩ := hboxm hp
          have := (hs'.inj _ _ _ _ _ (Hold.mem (Γ := Γ') hmb) (show Hold Γ' st' false i (Γ'.blk 0) from ⟨e, he1, by rw [he2, e1, hbl]⟩)).1
          cases this
        · exact hge
      · have : rs ++ cs_ Γ'.ρ o = cs_ Γ'.ρ (cellsOf st'.mem l' ++ o) := by rw [← hrs]; simp [cs_]
        rw [this]; exact hret
  · cases hend; exact hv'.elim
  · cases hend; exact hv'.elim
theorem ct_ok_open {cx : Cx} (hcx : CxOK cx) {f : FuncId} {fn : Func} (hf : cx.P.funcs[f]? = some fn) {ct : Ct} {bds : Bds} {c : Code} (hbody : fn.body = some c) (hle' : ct.args.length ≤ fn.ntmps ∧ ct.args.length ≤ 1000 ∧ boxOk ct = true)
    (hvc : ∀ cs, CTy cx.P (kindsOf ct.args) cs → ct.pre cs → bds.ok cs ∧ ∀ (F : Nat → Prop) (w0 : World) (Γ : Env) (a : Act) (w : World) (Q : Exit → Act → World → Prop), Γ.ρ = cs → Sat cx.P F w0 Γ (startOf fn ct bds cx.wr) a w →
      KOK cx (ct.post cs) F w0 (fun x st => match x with
        | .ext _ => none
        | _ => endOf cx fn ct st) Γ [] Q → c.wp cx.P Q a w) : CtOK cx.P f ct := by
  intro Base w vs cs hBase hreps hpre
  obtain ⟨hb, hmain⟩ := hvc cs hreps.ty hpre
  obtain ⟨Γ, hρ, hds, hs, fin⟩ := ct_start hcx hf (fn := fn) hle' hBase hreps hb
  refine calls_of_wp hf hbody ?_
  refine hmain _ _ Γ _ w _ hρ hs ?_
  intro x st' T' Γ' Ls' hk he hl hlen hv' a' w' hs'
  cases x with
  | nrm => exact fin st' T' Γ' Ls' a' w' he hv' hs' hk
  | ret => exact fin st' T' Γ' Ls' a' w' he hv' hs' hk
  | ext i => cases hk
theorem ct_ok {cx : Cx} (hcx : CxOK cx) {f : FuncId} {fn : Func} (hf : cx.P.funcs[f]? = some fn) {ct : Ct} {bds : Bds} {T : Tree} (hT : execFn cx fn ct bds = some T)
    (hvc : allC cx.P (kindsOf ct.args) fun cs => ct.pre cs → bds.ok cs ∧ VC cx (ct.post cs) T cs []) : CtOK cx.P f ct := by
  unfold execFn at hT
  split at hT
  · cases hT
  · rename_i c hbody
    split at hT
    · rename_i hle'
      refine ct_ok_open (bds := bds) hcx hf hbody hle' fun cs hty hpre => ?_
      obtain ⟨hb, hv⟩ := allC_elim hvc cs hty hpre
      exact ⟨hb, fun F w0 Γ a w Q hρ hs hk => wpR_none.1 (exec_sound (R := ct.post cs) hcx c _ _ T hT Γ [] _ hk rfl (by rw [hρ]; exact hv) a w hs)⟩
    · cases hT

theorem allC_mono {P : Program} : ∀ {ks : List Lk} {p q : List C → Prop}, allC P ks p → (∀ cs, p cs → q cs) → allC P ks q
  | [], p, q, h, hh => hh _ h
  | .int :: ks, p, q, h, hh => fun n h1 h2 => allC_mono (h n h1 h2) fun cs hc => hh _ hc
  | .bool :: ks, p, q, h, hh => fun t => allC_mono (h t) fun cs hc => hh _ hc
  | .arr t :: ks, p, q, h, hh => fun v rows d h1 h2 => allC_mono (h v rows d h1 h2) fun cs hc => hh _ hc
  | .vec t :: ks, p, q, h, hh => fun v rows d h1 h2 => allC_mono (h v rows d h1 h2) fun cs hc => hh _ hc
  | .opq :: ks, p, q, h, hh => fun v => allC_mono (h v) fun cs hc => hh _ hc
/-! Functions carried out in place -/
def enterSt (fn : Func) (args : List S0) (st : St) : St := { st with sl := argSl 0 args ++ st.sl.map fun p => (p.1 + 1000, p.2), nt := fn.ntmps }
def leaveSl : List (Nat × Option SV) → List (Nat × Option SV)
  | [] => []
  | (k, v) :: l => if 1000 ≤ k then (k - 1000, v) :: leaveSl l else leaveSl l
def leaveSt (st st' : St) : St := { st' with sl := leaveSl st'.sl, nt := st.nt }
def hand (cx : Cx) (fns : Nat → Option Func) : Hd := fun f args st k =>
  match fns f with
  | some fn => match fn.body with
    | some c => if args.length ≤ fn.ntmps ∧ fn.ntmps ≤ 1000 then
        exec cx c (enterSt fn args st) fun x st' => match x with
          | .ext _ => none
          | _ => match retAll cx.P st' fn.results.toList with
            | some l => k l (leaveSt st st')
            | none => some (.fail 80001 [f, st'.path])
      else none
    | none => none
  | none => none
theorem look_leave : ∀ (l : List (Nat × Option SV)) (t : Nat), look (leaveSl l) t = look l (t + 1000)
  | [], _ => rfl
  | (k, v) :: l, t => by
    simp only [leaveSl]
    split
    · rename_i h
      simp only [look]
      by_cases hk : k - 1000 = t
      · rw [if_pos hk, if_pos (by omega)]
      · rw [if_neg hk, if_neg (by omega)]; exact look_leave l t
    · rename_i h
      simp only [look]
      rw [if_neg (by omega)]; exact look_leave l t
theorem look_shift : ∀ (l : List (Nat × Option SV)) (t : Nat), look (l.map fun p => (p.1 + 1000, p.2)) t = if 1000 ≤ t then look l (t - 1000) else none
  | [], t => by simp [look]
  | (k, v) :: l, t => by
    simp only [List.map_cons, look, look_shift l t]
    by_cases h : 1000 ≤ t
    · simp only [h, if_true]
      by_cases hk : k = t - 1000
      · rw [if_pos (by omega), if_pos hk]
      · rw [if_neg (by omega), if_neg hk]
    · rw [if_neg (by omega)]; simp [h]
theorem look_enter : ∀ (args : List S0) (i : Nat) (m : List (Nat × Option SV)) (t : Nat) (sv : SV), look (argSl i args ++ m) t = some sv → (∃ j s, t = i + j ∧ args[j]? = some s ∧ sv = .one s) ∨ look m t = some sv
  | [], _, _, _, _, h => .inr h
  | s :: l, i, m, t, sv, h => by
    simp only [argSl, List.cons_append, look] at h
    split at h
    · rename_i e; cases h; exact .inl ⟨0, s, by omega, rfl, rfl⟩
    · rcases look_enter l (i + 1) m t sv h with ⟨j, s', e, hj, hsv⟩ | h
      · exact .inl ⟨j + 1, s', by omega, by simpa using hj, hsv⟩
      · exact .inr h
theorem Lf.den_up (Γ : Env) (u : Up) (l : Lf) : l.den { Γ with up := u } = l.den Γ := by cases l <;> rfl
theorem dens_up (Γ : Env) (u : Up) (l : List Lf) : dens { Γ with up := u } l = dens Γ l := by
  unfold dens; rw [List.map_congr_left fun x _ => Lf.den_up Γ u x]
theorem S0.den_up (Γ : Env) (u : Up) (s : S0) : s.den { Γ with up := u } = s.den Γ := by
  cases s with
  | lf l => exact Lf.den_up Γ u l
  | agg l => simp only [S0.den, dens_up]
theorem SV.den_up (Γ : Env) (u : Up) (s : SV) : s.den { Γ with up := u } = s.den Γ := by
  cases s with
  | one s => exact S0.den_up Γ u s
  | tup l => simp only [SV.den]; rw [List.map_congr_left fun x _ => S0.den_up Γ u x]
  | fn f l => simp only [SV.den, dens_up]
theorem Lf.ok_up {P : Program} {w : World} {O : Nat → Nat → Prop} {Γ : Env} {u : Up} {l : Lf} : l.ok P w O { Γ with up := u } ↔ l.ok P w O Γ := by cases l <;> exact Iff.rfl
theorem S0.ok_up {P : Program} {w : World} {O : Nat → Nat → Prop} {Γ : Env} {u : Up} {s : S0} : s.ok P w O { Γ with up := u } ↔ s.ok P w O Γ := ⟨fun h l hl => Lf.ok_up.1 (h l hl), fun h l hl => Lf.ok_up.2 (h l hl)⟩
theorem SV.ok_up {P : Program} {w : World} {O : Nat → Nat → Prop} {Γ : Env} {u : Up} {s : SV} : s.ok P w O { Γ with up := u } ↔ s.ok P w O Γ := by
  cases s with
  | one s => exact S0.ok_up
  | tup l => exact ⟨fun h s hs => S0.ok_up.1 (h s hs), fun h s hs => S0.ok_up.2 (h s hs)⟩
  | fn f l => exact ⟨fun h l hl => Lf.ok_up.1 (h l hl), fun h l hl => Lf.ok_up.2 (h l hl)⟩
/-- Another frame. -/
theorem Sat.frame {P : Program} {F : Nat → Prop} {w0 : World} {Γ : Env} {st : St} {a : Act} {w : World} (h : Sat P F w0 Γ st a w) {u : Up} {sl : List (Nat × Option SV)} {nt : Nat} {a' : Act} (hsz : a'.tmps.size = nt) (hd : a'.defers = u.ds)
    (hs : ∀ t sv, look sl t = some sv → slotV { Γ with up := u } a' t = sv.den Γ ∧ sv.ok P w (Own Γ st) Γ) : Sat P F w0 { Γ with up := u } { st with sl := sl, nt := nt } a' w := by
  have hown : ∀ b o, Own { Γ with up := u } { st with sl := sl, nt := nt } b o → Own Γ st b o := fun b o h => h
  refine ⟨fun t sv ht => ?_, hsz, fun b mb hm => ?_, h.vec, fun i e hi => ?_, h.inj, h.keeps, h.fold, h.base, hd, h.len, h.nb, h.num⟩
  · obtain ⟨h1, h2⟩ := hs t sv ht
    exact ⟨by rw [SV.den_up]; exact h1, SV.ok_up.2 h2⟩
  · obtain ⟨h1, h2, h3, h4⟩ := h.mem b mb hm
    exact ⟨by rw [dens_up]; exact h1, fun l hl => Lf.ok_up.2 (h2 l hl), h3, h4⟩
  · obtain ⟨h1, h2, h3⟩ := h.clo i e hi
    refine ⟨?_, fun s hs => S0.ok_up.2 (h2 s hs), fun l hl => Lf.ok_up.2 (h3 l hl)⟩
    rw [List.map_congr_left fun s _ => S0.den_up Γ u s, List.map_congr_left fun l _ => Lf.den_up Γ u l]
    exact h1
theorem VC_congr {cx cx' : Cx} (hP : cx.P = cx'.P) (hct : cx.ct = cx'.ct) {R : List C → Prop} : ∀ {T : Tree} {ρ : List C} {Ls : List (List C → Prop)}, VC cx R T ρ Ls → VC cx' R T ρ Ls
  | .ret l, ρ, Ls, h => h
  | .split b t e, ρ, Ls, h => ⟨fun hb => VC_congr hP hct (h.1 hb), fun hb => VC_congr hP hct (h.2 hb)⟩
  | .ob b t, ρ, Ls, h => ⟨h.1, VC_congr hP hct h.2⟩
  | .call f args t, ρ, Ls, h => by
    simp only [VC] at h ⊢
    rw [← hct, ← hP]
    cases hc : cx.ct f with
    | none => rw [hc] at h; exact h.elim
    | some ct =>
      rw [hc] at h
      exact ⟨h.1, allC_mono h.2 fun rs hr hp => VC_congr hP hct (hr hp)⟩
  | .loop ks init t, ρ, Ls, h => by
    obtain ⟨I, μ, h0, h1⟩ := h
    refine ⟨I, μ, h0, ?_⟩
    rw [← hP]
    exact allC_mono h1 fun xs hx hi => VC_congr hP hct (hx hi)
  | .arr rows t, ρ, Ls, h => fun v => VC_congr hP hct (h v)
  | .dfn e t, ρ, Ls, h => VC_congr hP hct (T := t) h
  | .mk n row t, ρ, Ls, h => fun v => VC_congr hP hct (h v)
  | .cat a b t, ρ, Ls, h => fun v => VC_congr hP hct (h v)
  | .upd a x o l t, ρ, Ls, h => fun v => VC_congr hP hct (h v)
  | .both a b, ρ, Ls, h => ⟨VC_congr hP hct h.1, VC_congr hP hct h.2⟩
  | .join ks ws t, ρ, Ls, h => by
    obtain ⟨I, h0, h1⟩ := h
    refine ⟨I, VC_congr hP hct h0, ?_⟩
    rw [← hP]
    exact allC_mono h1 fun xs hx hi => VC_congr hP hct (hx hi)
  | .fail _ _, _, _, h => h
  | .back lvl vals, ρ, Ls, h => h
theorem hand_ok {cx cx' : Cx} (hcx : CxOK cx) {fns : Nat → Option Func} (hP : cx'.P = cx.P) (hct : cx'.ct = cx.ct) (hH : cx'.H = hand cx fns) (hf : ∀ f fn, fns f = some fn → cx.P.funcs[f]? = some fn ∧ Callable cx.P f) : HOK cx' := by
  intro f args st k T h
  rw [hH] at h
  rw [hP]
  unfold hand at h
  split at h
  · rename_i fn hfn
    obtain ⟨hfn1, hfn2⟩ := hf f fn hfn
    split at h
    · rename_i c hbody
      split at h
      · rename_i hle
        refine ⟨hfn2, fun R F w0 Γ Ls a w K hl hv hs hwf hargs hok hk => ?_⟩
        have hv := VC_congr hP hct hv
        have hlenA : (args.map (S0.den Γ)).toArray.size = args.length := by simp
        refine calls_of_wp hfn1 hbody ?_
        let ae : Act := { tmps := (args.map (S0.den Γ)).toArray ++ Array.replicate (fn.ntmps - (args.map (S0.den Γ)).toArray.size) undef, defers := [] }
        have hse : Sat cx.P F w0 { Γ with up := ⟨slotV Γ a, []⟩ } (enterSt fn args st) ae w := by
          refine hs.frame (by simp [ae]; omega) rfl fun t sv ht => ?_
          rcases look_enter _ _ _ _ _ ht with ⟨j, s, rfl, hj, rfl⟩ | ht
          · have hjl : j < args.length := by
              rcases Nat.lt_or_ge j args.length with h' | h'
              · exact h'
              · rw [List.getElem?_eq_none h'] at hj; cases hj
            refine ⟨?_, hok s (List.mem_of_getElem? hj)⟩
            unfold slotV
            rw [if_pos (by omega)]
            simp only [ae, Nat.zero_add, Array.getD_eq_getD_getElem?]
            rw [Array.getElem?_append_left (by simpa using hjl)]
            simp [hj, SV.den]
          · rw [look_shift] at ht
            split at ht
            · rename_i hge
              obtain ⟨g1, g2⟩ := hs.slots _ _ ht
              refine ⟨?_, g2⟩
              unfold slotV
              rw [if_neg (by omega)]
              dsimp only
              exact g1
            · cases ht
        have hlv : Ls.length = (enterSt fn args st).lvl := hl
        generalize enterSt fn args st = ste at *
        refine wpR_none.1 (exec_sound (R := R) (F := F) (w0 := w0) hcx c ste _ T h { Γ with up := ⟨slotV Γ a, []⟩ } Ls _ ?_ hlv hv ae w hse)
        intro x st' T' Γ' Ls' hk' he hl' hlen' hv' a' w' hs'
        have fin : (match retAll cx.P st' fn.results.toList with | some l => k l (leaveSt st st') | none => some (.fail 80001 [f, st'.path])) = some T' → a'.defers = [] ∧ ∃ v, (results fn a'.tmps).run cx.P w' = .ok v w' ∧ ∃ v', Ending.returned v = .returned v' ∧ K v' w' := by
          intro hend
          split at hend
          · rename_i l hl2
            obtain ⟨r1, r2⟩ := run_results hs' hl2
            refine ⟨hs'.defers.trans (by rw [he.up]), _, r1, _, rfl, ?_⟩
            have hleave : Sat cx.P F w0 { Γ' with up := Γ.up } (leaveSt st st') a w' := by
              refine hs'.frame hs.size hs.defers fun t sv ht => ?_
              rw [look_leave] at ht
              obtain ⟨g1, g2⟩ := hs'.slots _ _ ht
              refine ⟨?_, g2⟩
              rw [← g1]
              unfold slotV
              rw [if_neg (show ¬ t + 1000 < 1000 by omega), Nat.add_sub_cancel, he.up]
              rfl
            have := hk l (leaveSt st st') T' { Γ' with up := Γ.up } Ls' hend ⟨he.ρ, he.blk, he.nb, he.base, rfl⟩ hl' hlen' (VC_congr hP.symm hct.symm hv') w' hleave (fun s hs2 => S0.ok_up.2 (r2 s hs2))
            rw [List.map_congr_left fun s _ => S0.den_up Γ' Γ.up s] at this
            have hval : ∀ L : List Value, valOf L = (match L with | [x] => x | _ => .tuple L.toArray) := fun L => by
              match L with
              | [] => rfl
              | [x] => rfl
              | x :: y :: l => rfl
            rw [hval] at this
            exact this
          · cases hend; exact hv'.elim
        cases x with
        | nrm => exact fin hk'
        | ret => exact fin hk'
        | ext i => cases hk'
      · cases h
    · cases h
  · cases h
/-- So deep functions are carried out in place. -/
def Cx.deep (fns : Nat → Option Func) (cx : Cx) : Nat → Cx
  | 0 => { cx with H := fun _ _ _ _ => none }
  | n + 1 => { cx with H := hand (Cx.deep fns cx n) fns }
theorem Cx.deep_same (fns : Nat → Option Func) (cx : Cx) : ∀ n, (Cx.deep fns cx n).P = cx.P ∧ (Cx.deep fns cx n).ct = cx.ct ∧ (Cx.deep fns cx n).inl = cx.inl ∧ (Cx.deep fns cx n).sel = cx.sel
  | 0 => ⟨rfl, rfl, rfl, rfl⟩
  | _ + 1 => ⟨rfl, rfl, rfl, rfl⟩
theorem Cx.deep_ok {fns : Nat → Option Func} {cx : Cx} (hct : ∀ f ct, cx.ct f = some ct → Callable cx.P f ∧ CtOK cx.P f ct ∧ (ct.det = true → ∀ cs rs rs', ct.post cs rs → ct.post cs rs' → rs = rs')) (hm : cx.P.follows .mixedOrders = true) (hi : ∀ f g, cx.inl f = some g → Callable cx.P f ∧ InlOK cx.P f g) (hs : ∀ f g, cx.sel f = some g → Callable cx.P f ∧ SelOK cx.P f g)
    (hf : ∀ f fn, fns f = some fn → cx.P.funcs[f]? = some fn ∧ Callable cx.P f) : ∀ n, CxOK (Cx.deep fns cx n)
  | 0 => ⟨hct, hm, hi, hs, fun f args st k T h => by cases h⟩
  | n + 1 => ⟨hct, hm, hi, hs, by
      obtain ⟨h1, h2, -⟩ := Cx.deep_same fns cx n
      exact hand_ok (Cx.deep_ok hct hm hi hs hf n) (h1.symm) (h2.symm) rfl (by rw [h1]; exact hf)⟩
end Go.Proofs.Ytbgofenplhdllaa
/- The engine's last part: tables of contracts. -/
namespace Go.Proofs.Ytbgofenplhdllaa
open Go.RowKit
set_option linter.unusedSimpArgs false
set_option linter.unusedVariables false

/-- A contract whose result is a function of the arguments. -/
def ctF (args res : List Sh0) (pre : List C → Prop) (g : List C → List C) : Ct := ⟨args, res, pre, fun cs rs => rs = g cs, true⟩
/-- A statement: it returns true. -/
def ctLaw (args : List Sh0) : Ct := ⟨args, [.lf .bool], fun _ => True, fun _ rs => rs = [.b true], false⟩
theorem ctF_det {args res : List Sh0} {pre : List C → Prop} {g : List C → List C} : (ctF args res pre g).det = true → ∀ cs rs rs', (ctF args res pre g).post cs rs → (ctF args res pre g).post cs rs' → rs = rs' :=
  fun _ _ _ _ h h' => h.trans h'.symm
/-- What the program's tables hold of a function. -/
structure Tab where
  ct : Nat → Option Ct
  inl : Nat → Option Inl
  sel : Nat → Option Sel := fun _ => none
/-- Functions that are carried out in place. -/
def fnsOf : List (Nat × Func) → Nat → Option Func
  | [], _ => none
  | (k, fn) :: l, f => if k = f then some fn else fnsOf l f
def FnOK (p : Nat × Func) : Prop := Try.prog.funcs[p.1]? = some p.2 ∧ Callable Try.prog p.1
noncomputable def Tab.only (t : Tab) (l : List Nat) (hv : Nat → List Pl) (fns : List (Nat × Func) := []) (n : Nat := 0) (wr : List Nat := []) (jn : Nat → Option (List (Nat × Bool × List Lk) × List Pl) := fun _ => none) : Cx :=
  Cx.deep (fnsOf fns) { P := Try.prog, ct := fun f => if l.contains f then t.ct f else none, inl := fun f => if l.contains f then t.inl f else none, sel := fun f => if l.contains f then t.sel f else none, hv := hv, H := fun _ _ _ _ => none, wr := wr, jn := jn } n
/-- What is shown of one function of a table. -/
def Tab.ok (t : Tab) (f : Nat) : Prop := Callable Try.prog f ∧ (∀ ct, t.ct f = some ct → CtOK Try.prog f ct ∧ (ct.det = true → ∀ cs rs rs', ct.post cs rs → ct.post cs rs' → rs = rs')) ∧ (∀ g, t.inl f = some g → InlOK Try.prog f g) ∧ ∀ g, t.sel f = some g → SelOK Try.prog f g
theorem mixedOrders : Try.prog.follows .mixedOrders = true := by kernel_rfl
theorem fns_nil : ∀ p ∈ ([] : List (Nat × Func)), FnOK p := fun p hp => by cases hp
theorem fns_cons {p : Nat × Func} {l : List (Nat × Func)} (h : FnOK p) (h' : ∀ q ∈ l, FnOK q) : ∀ q ∈ p :: l, FnOK q := fun q hq => by
  rcases List.mem_cons.1 hq with rfl | hq
  · exact h
  · exact h' q hq
theorem fnsOf_ok : ∀ {l : List (Nat × Func)}, (∀ p ∈ l, FnOK p) → ∀ f fn, fnsOf l f = some fn → Try.prog.funcs[f]? = some fn ∧ Callable Try.prog f
  | [], _, f, fn, h => by cases h
  | (k, g) :: l, hl, f, fn, h => by
    simp only [fnsOf] at h
    split at h
    · rename_i e; subst e; cases h; exact hl (k, g) (by simp)
    · exact fnsOf_ok (fun p hp => hl p (by simp [hp])) f fn h
set_option maxRecDepth 100000 in
theorem Tab.cx_ok {t : Tab} {l : List Nat} {hv : Nat → List Pl} {fns : List (Nat × Func)} {n : Nat} {wr : List Nat} {jn : Nat → Option (List (Nat × Bool × List Lk) × List Pl)} (h : ∀ f ∈ l, t.ok f) (hf : ∀ p ∈ fns, FnOK p := by exact fns_nil) : CxOK (t.only l hv fns n wr jn) := by
  refine Cx.deep_ok (fun f ct hf => ?_) mixedOrders (fun f g hf => ?_) (fun f g hf => ?_) (fnsOf_ok hf) n
  · simp only [] at hf
    split at hf
    · rename_i hc
      obtain ⟨h1, h2, h3⟩ := h f (by simpa using hc)
      exact ⟨h1, h2 ct hf⟩
    · cases hf
  · simp only [] at hf
    split at hf
    · rename_i hc
      obtain ⟨h1, h2, h3, h4⟩ := h f (by simpa using hc)
      exact ⟨h1, h3 g hf⟩
    · cases hf
  · simp only [] at hf
    split at hf
    · rename_i hc
      obtain ⟨h1, h2, h3, h4⟩ := h f (by simpa using hc)
      exact ⟨h1, h4 g hf⟩
    · cases hf
theorem Tab.of_ct {t : Tab} {f : Nat} {ct : Ct} (h1 : t.ct f = some ct) (h2 : t.inl f = none) (hc : Callable Try.prog f) (hok : CtOK Try.prog f ct) (hdet : ct.det = true → ∀ cs rs rs', ct.post cs rs → ct.post cs rs' → rs = rs') (h3 : t.sel f = none := by rfl) : t.ok f :=
  ⟨hc, fun c h => (by rw [h1] at h; cases h; exact ⟨hok, hdet⟩), fun g h => (by rw [h2] at h; cases h), fun g h => (by rw [h3] at h; cases h)⟩
theorem Tab.of_inl {t : Tab} {f : Nat} {g : Inl} (h1 : t.ct f = none) (h2 : t.inl f = some g) (hc : Callable Try.prog f) (hok : InlOK Try.prog f g) (h3 : t.sel f = none := by rfl) : t.ok f :=
  ⟨hc, fun c h => (by rw [h1] at h; cases h), fun g' h => (by rw [h2] at h; cases h; exact hok), fun g h => (by rw [h3] at h; cases h)⟩
theorem all_nil {p : Nat → Prop} : ∀ f ∈ ([] : List Nat), p f := fun f h => by cases h
theorem all_cons {p : Nat → Prop} {a : Nat} {l : List Nat} (h : p a) (h' : ∀ f ∈ l, p f) : ∀ f ∈ a :: l, p f := fun f hf => by
  rcases List.mem_cons.1 hf with rfl | hf
  · exact h
  · exact h' f hf

/-! A function written out in place, out of its contract -/
theorem LReps.plain {P : Program} {w : World} {O : Nat → Nat → Prop} {Γ : Env} : ∀ {ls : List Lf} {ks : List Lk} {us : List Value}, kindsL ls = some ks → ls.all Lf.plain = true → LReps P w O ks us (cs_ Γ.ρ ls) → us = ls.map (Lf.den Γ)
  | [], ks, us, hk, _, h => by simp [kindsL] at hk; subst hk; cases us with | nil => rfl | cons u us => exact h.elim
  | l :: ls, ks, us, hk, hp, h => by
    simp only [kindsL] at hk
    split at hk
    · rename_i k ks' h1 h2
      cases hk
      simp only [List.all_cons, Bool.and_eq_true] at hp
      cases us with
      | nil => exact h.elim
      | cons u us =>
        obtain ⟨h3, h4⟩ := h
        rw [LReps.plain h2 hp.2 h4]
        have : u = l.den Γ := by
          cases l with
          | int e => cases h1; obtain ⟨n, rfl, hn⟩ := h3.2; cases hn; rfl
          | bool e => cases h1; obtain ⟨n, rfl, hn⟩ := h3.2; cases hn; rfl
          | _ => cases hp.1
        rw [this]; rfl
    · cases hk
theorem Rep0.plain {P : Program} {w : World} {O : Nat → Nat → Prop} {old : Option Nat} {Γ : Env} {s : S0} {sh : Sh0} {v : Value} (hs : s.shape = some sh) (hp : s.plain = true) (h : Rep0 P w O old sh v (cs_ Γ.ρ s.cells)) : v = s.den Γ := by
  cases s with
  | lf l =>
    simp only [S0.shape, Option.map_eq_some_iff] at hs
    obtain ⟨k, hk, rfl⟩ := hs
    obtain ⟨c, hc, hr⟩ := h
    have := LReps.plain (P := P) (w := w) (O := O) (Γ := Γ) (ls := [l]) (ks := [k]) (us := [v]) (by simp [kindsL, hk]) hp (by
      have e : cs_ Γ.ρ (S0.lf l).cells = [c] := hc
      show LReps P w O [k] [v] (cs_ Γ.ρ (S0.lf l).cells)
      rw [e]; exact ⟨hr, trivial⟩)
    simpa [S0.den] using this
  | agg ls =>
    simp only [S0.shape, Option.map_eq_some_iff] at hs
    obtain ⟨k, hk, rfl⟩ := hs
    obtain ⟨us, rfl, hr⟩ := h
    rw [LReps.plain hk hp hr]
    rfl
theorem shapes_nil_noBox : ∀ {args : List S0} {ss : List Sh0}, shapes [] args = some ss → ss.all (fun s => !s.isBox) = true
  | [], ss, h => by simp [shapes] at h; subst h; rfl
  | s :: args, ss, h => by
    simp only [shapes] at h
    split at h
    · rename_i sh hss h1 h2
      cases h
      simp only [List.all_cons, Bool.and_eq_true]
      refine ⟨?_, shapes_nil_noBox h2⟩
      unfold S0.shapeM at h1
      split at h1
      · cases h1
      · cases s with
        | lf l => simp only [S0.shape, Option.map_eq_some_iff] at h1; obtain ⟨k, -, rfl⟩ := h1; rfl
        | agg l => simp only [S0.shape, Option.map_eq_some_iff] at h1; obtain ⟨k, -, rfl⟩ := h1; rfl
    · cases h
theorem Keeps.noBox {ss : List Sh0} {vs : List Value} {w w' : World} (hn : ss.all (fun s => !s.isBox) = true) (h : Keeps (fun i => i < w.heap.size ∧ ¬ IsBox ss vs i) w w') : Below w.heap.size w w' :=
  ⟨h.os, h.tape, h.output, h.size, fun i hi => h.block i ⟨hi, isBox_noBox hn⟩⟩
theorem Inl.of_ct {f : Nat} {g : Inl} {args : List Sh0} {r : Sh0} {pre : List C → Prop} {fn : List C → List C} (hf : CtOK Try.prog f (ctF args [r] pre fn))
    (h : ∀ bd ρ l obs s, g bd l = some (obs, s) → Num bd ρ → Obs ρ obs → shapes [] l = some args ∧ l.all S0.plain = true ∧ Obs ρ (rngL bd (cellsOf [] l)) ∧ pre (cs_ ρ (cellsOf [] l)) ∧ s.plain = true ∧ s.shape = some r ∧ fn (cs_ ρ (cellsOf [] l)) = cs_ ρ s.cells) : InlOK Try.prog f g := by
  intro Γ bd l obs s hn hg ho
  obtain ⟨h1, h2, h3, h4, h5, h6, h7⟩ := h bd Γ.ρ l obs s hg hn ho
  refine ⟨h5, fun w => ?_⟩
  have hno := shapes_nil_noBox h1
  have hreps := cells_rep (P := Try.prog) (w := w) (O := fun _ _ => False) (Γ := Γ) (old := none) hn h1 (fun s hs l hl => by
    have := List.all_eq_true.1 (List.all_eq_true.1 h2 s hs) l hl
    cases l <;> first | trivial | cases this) (fun b mb _ hb => by cases hb) h3
  refine (hf (fun _ _ => False) w _ _ (fun b o hb => hb.elim) hreps h4).mono ?_
  rintro e w' ⟨v, rs, outs, rfl, ⟨vs, rfl, hr, -⟩, hout, hpost, hb⟩
  refine ⟨?_, hb.noBox hno⟩
  have ho := outs_noBox hno hout
  subst ho
  have hrs : rs = cs_ Γ.ρ s.cells := by have := hpost.trans h7; rwa [List.append_nil] at this
  subst hrs
  match vs, hr with
  | [v], hr =>
    obtain ⟨c1, c2, hc, hr1, hr2⟩ := hr
    cases hr2
    rw [List.append_nil] at hc
    subst hc
    rw [Rep0.plain h6 h5 hr1]

/-! A statement's call -/
theorem law_walk {f : Nat} {ss : List Sh0} (h : CtOK Try.prog f (ctLaw ss)) (hno : ss.all (fun s => !s.isBox) = true) {W : World} {vs : List Value} {cs : List C} (hr : Reps Try.prog W (fun _ _ => False) none ss vs cs) :
    Calls Try.prog f vs.toArray W fun e w' => e = .returned (.bool true) ∧ Below W.heap.size W w' := by
  refine (h (fun _ _ => False) W vs cs (fun _ _ hb => hb.elim) hr trivial).mono ?_
  rintro e w' ⟨v, rs, outs, rfl, ⟨us, rfl, hres, -⟩, hout, hpost, hb⟩
  refine ⟨?_, hb.noBox hno⟩
  have ho := outs_noBox hno hout
  subst ho
  have hrs : rs = [.b true] := by have : rs ++ [] = [.b true] := hpost; rwa [List.append_nil] at this
  subst hrs
  match us, hres with
  | [v], hres =>
    obtain ⟨c1, c2, hc, ⟨c, rfl, hr1⟩, hr2⟩ := hres
    cases hr2
    cases hc
    obtain ⟨t, rfl, ht⟩ := hr1.2
    cases ht
    rfl
/-! Reading a tree -/
theorem den_cmp_le (ρ : List C) (a b : E) : ((B.cmp .le a b).den ρ = true) = (a.den ρ ≤ b.den ρ) := by simp [B.den, Cmp.den]
theorem den_cmp_lt (ρ : List C) (a b : E) : ((B.cmp .lt a b).den ρ = true) = (a.den ρ < b.den ρ) := by simp [B.den, Cmp.den]
theorem den_cmp_eq (ρ : List C) (a b : E) : ((B.cmp .eq a b).den ρ = true) = (a.den ρ = b.den ρ) := by simp [B.den, Cmp.den]
theorem den_cmp_ne (ρ : List C) (a b : E) : ((B.cmp .ne a b).den ρ = true) = (a.den ρ ≠ b.den ρ) := by simp [B.den, Cmp.den]
theorem den_cmp_le' (ρ : List C) (a b : E) : ((B.cmp .le a b).den ρ = false) = (b.den ρ < a.den ρ) := by simp [B.den, Cmp.den]
theorem den_cmp_lt' (ρ : List C) (a b : E) : ((B.cmp .lt a b).den ρ = false) = (b.den ρ ≤ a.den ρ) := by simp [B.den, Cmp.den]
theorem den_cmp_eq' (ρ : List C) (a b : E) : ((B.cmp .eq a b).den ρ = false) = (a.den ρ ≠ b.den ρ) := by simp [B.den, Cmp.den]
theorem den_cmp_ne' (ρ : List C) (a b : E) : ((B.cmp .ne a b).den ρ = false) = (a.den ρ = b.den ρ) := by simp [B.den, Cmp.den]
theorem den_and (ρ : List C) (a b : B) : ((B.and a b).den ρ = true) = (a.den ρ = true ∧ b.den ρ = true) := by simp [B.den]
theorem den_and' (ρ : List C) (a b : B) : ((B.and a b).den ρ = false) = (a.den ρ = true → b.den ρ = false) := by
  simp only [B.den]; cases a.den ρ <;> cases b.den ρ <;> simp
theorem den_or (ρ : List C) (a b : B) : ((B.or a b).den ρ = true) = (a.den ρ = true ∨ b.den ρ = true) := by simp [B.den]
theorem den_or' (ρ : List C) (a b : B) : ((B.or a b).den ρ = false) = (a.den ρ = false ∧ b.den ρ = false) := by simp [B.den]
theorem den_not (ρ : List C) (a : B) : ((B.not a).den ρ = true) = (a.den ρ = false) := by simp [B.den]
theorem den_not' (ρ : List C) (a : B) : ((B.not a).den ρ = false) = (a.den ρ = true) := by simp [B.den]
theorem den_blit (ρ : List C) (t : Bool) : (B.lit t).den ρ = t := rfl
theorem den_of (ρ : List C) (e : E) : (B.of e).den ρ = (e.ev ρ).bool := rfl
theorem ev_var (ρ : List C) (i : Nat) : (E.var i).ev ρ = at_ ρ i := rfl
theorem at_0 (a : C) (l : List C) : at_ (a :: l) 0 = a := rfl
theorem at_1 (a b : C) (l : List C) : at_ (a :: b :: l) 1 = b := rfl
theorem at_2 (a b c : C) (l : List C) : at_ (a :: b :: c :: l) 2 = c := rfl
theorem at_3 (a b c d : C) (l : List C) : at_ (a :: b :: c :: d :: l) 3 = d := rfl
theorem at_4 (a b c d e : C) (l : List C) : at_ (a :: b :: c :: d :: e :: l) 4 = e := rfl
theorem at_5 (a b c d e f : C) (l : List C) : at_ (a :: b :: c :: d :: e :: f :: l) 5 = f := rfl
theorem at_6 (a b c d e f g : C) (l : List C) : at_ (a :: b :: c :: d :: e :: f :: g :: l) 6 = g := rfl
theorem at_7 (a b c d e f g h : C) (l : List C) : at_ (a :: b :: c :: d :: e :: f :: g :: h :: l) 7 = h := rfl
theorem at_skip (a b c d e f g h : C) (l : List C) (i : Nat) : at_ (a :: b :: c :: d :: e :: f :: g :: h :: l) (i + 8) = at_ l i := rfl
theorem c_int (ρ : List C) (e : E) : (Lf.int e).c ρ = .i (e.den ρ) := rfl
theorem c_bool (ρ : List C) (b : B) : (Lf.bool b).c ρ = .b (b.den ρ) := rfl
theorem c_arr (ρ : List C) (t : TypeId) (e : E) : (Lf.arr t e).c ρ = e.ev ρ := rfl
theorem c_cnt (ρ : List C) (t : TypeId) (e : E) : (Lf.cnt t e).c ρ = e.ev ρ := rfl
theorem c_vec (ρ : List C) (t : TypeId) (i : Nat) : (Lf.vec t i).c ρ = at_ ρ i := rfl
theorem ev_nil (ρ : List C) : E.nil.ev ρ = .s (.slice none 0 0) [] := rfl
theorem ev_join (ρ : List C) (l r : E) : (E.join l r).ev ρ = .s (l.ev ρ).loc (r.ev ρ).rows := rfl
theorem ev_sub3 (ρ : List C) (a lo hi : E) (sz : Nat) : (E.sub3 a lo hi sz).ev ρ = .s (partLoc (a.ev ρ).loc (lo.den ρ).toNat (hi.den ρ).toNat sz) (((a.ev ρ).rows.take (hi.den ρ).toNat).drop (lo.den ρ).toNat) := rfl
theorem ev_cell (ρ : List C) (a x : E) (o : Nat) : (E.cell a x o).ev ρ = (a.ev ρ).at (x.den ρ).toNat o := rfl
theorem loc_s (v : Value) (r : List (List C)) : (C.s v r).loc = v := rfl
theorem int_i (n : Int) : (C.i n).int = n := rfl
theorem bool_b (t : Bool) : (C.b t).bool = t := rfl
theorem rows_s (v : Value) (r : List (List C)) : (C.s v r).rows = r := rfl
theorem cs_nil (ρ : List C) : cs_ ρ [] = [] := rfl
theorem cs_cons (ρ : List C) (l : Lf) (ls : List Lf) : cs_ ρ (l :: ls) = l.c ρ :: cs_ ρ ls := rfl
theorem kindsOf_nil : kindsOf [] = [] := rfl
theorem kindsOf_lf (k : Lk) (l : List Sh0) : kindsOf (.lf k :: l) = k :: kindsOf l := rfl
theorem kindsOf_box (t : TypeId) (ks : List Lk) (l : List Sh0) : kindsOf (.box t ks :: l) = ks ++ kindsOf l := rfl
theorem boxKinds_nil : boxKinds [] = [] := rfl
theorem boxKinds_lf (k : Lk) (l : List Sh0) : boxKinds (.lf k :: l) = boxKinds l := rfl
theorem boxKinds_agg (k : List Lk) (l : List Sh0) : boxKinds (.agg k :: l) = boxKinds l := rfl
theorem boxKinds_box (t : TypeId) (k : List Lk) (l : List Sh0) : boxKinds (.box t k :: l) = k ++ boxKinds l := rfl
theorem kindsOf_agg (ks : List Lk) (l : List Sh0) : kindsOf (.agg ks :: l) = ks ++ kindsOf l := rfl
theorem bds_nil (ρ : List C) : Bds.ok [] ρ := fun x lo hi h => by cases h
theorem cell_at (v : Value) (rows : List (List C)) (i o : Nat) : (C.s v rows).at i o = (rows.getD i []).getD o (.i 0) := rfl
end Go.Proofs.Ytbgofenplhdllaa
