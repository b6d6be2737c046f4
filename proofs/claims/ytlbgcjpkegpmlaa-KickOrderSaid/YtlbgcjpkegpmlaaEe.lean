/- The engine, part 5: loads, addresses, parts, fills, comparisons. -/
import Derived.Test.YtlbgcjpkegpmlaaEd
namespace Go.Proofs.Ytlbgcjpkegpmlaa
open Go.RowKit
set_option linter.unusedSimpArgs false

theorem ArrOK.addr {P : Program} {w : World} {Own : Nat → Nat → Prop} {te : TypeId} {c : C} {x : Int} (h : ArrOK P w Own te c) (h0 : 0 ≤ x) (h1 : x < (c.rows.length : Int)) :
    ∃ b o, (∀ k, elemAt c.loc k = .pointer (some ⟨b, o + k, none⟩)) ∧ ∃ cap, c.loc = .slice (some ⟨b, o, none⟩) c.rows.length cap := by
  obtain ⟨v, rows, rfl, d, S, hS, hA⟩ := h
  cases d with
  | zero => exact hA.elim
  | succ d =>
    obtain ⟨ks', hk', a', cap, hv, hh⟩ := hA
    simp only [C.rows] at h1
    have hne : rows ≠ [] := by intro e; subst e; simp at h1; omega
    obtain ⟨b, o, rfl, hr⟩ := hh hne
    subst hv
    exact ⟨b, o, fun k => by simp only [C.loc, elemAt]; unfold Addr.add; split <;> simp_all, cap, rfl⟩
theorem ArrOK.loc {P : Program} {w : World} {Own : Nat → Nat → Prop} {te : TypeId} {c : C} (h : ArrOK P w Own te c) : ∃ a cap, c.loc = .slice a c.rows.length cap := by
  obtain ⟨v, rows, rfl, d, S, hS, hA⟩ := h
  obtain ⟨a, cap, hv⟩ := hA.slice
  exact ⟨a, cap, hv⟩

/-! Parts of aggregates -/
def cut (cs : List Lf) (off n : Nat) : List Lf := (cs.drop off).take n
theorem dens_cut (Γ : Env) (cs : List Lf) (off n : Nat) : dens Γ (cut cs off n) = (dens Γ cs).extract off (off + n) := by
  apply Array.ext'
  simp [dens, cut, List.map_drop, List.map_take]
theorem dens_size (Γ : Env) (cs : List Lf) : (dens Γ cs).size = cs.length := by simp [dens]
theorem dens_get (Γ : Env) (cs : List Lf) (i : Nat) : (dens Γ cs)[i]? = (cs[i]?).map (Lf.den Γ) := by simp [dens]
def partS (P : Program) (t : TypeId) (cs : List Lf) (off : Nat) : Option S0 :=
  match aggOf P t with
  | some true => match sizeIs P t with
    | some n => if off + n ≤ cs.length then some (.agg (cut cs off n)) else none
    | none => none
  | some false => (cs[off]?).map .lf
  | none => none
theorem run_partS {P : Program} {t : TypeId} {cs : List Lf} {off : Nat} {s : S0} (h : partS P t cs off = some s) (Γ : Env) (w : World) : (part t (dens Γ cs) off).run P w = .ok (s.den Γ) w := by
  unfold partS at h
  unfold part
  split at h
  · rename_i ha
    split at h
    · rename_i n hn
      split at h
      · cases h
        simp [run_isAgg ha, run_sizeOf' hn, S0.den, dens_cut]
      · cases h
    · cases h
  · rename_i ha
    cases hc : cs[off]? with
    | none => simp [hc] at h
    | some l =>
      simp [hc] at h
      subst h
      simp [run_isAgg ha, dens_get, hc, S0.den]
  · cases h
theorem partS_cells {P : Program} {t : TypeId} {cs : List Lf} {off : Nat} {s : S0} (h : partS P t cs off = some s) : ∀ l ∈ s.cells, l ∈ cs := by
  unfold partS at h
  split at h
  · split at h
    · split at h
      · cases h
        intro l hl
        exact List.mem_of_mem_drop (List.mem_of_mem_take hl)
      · cases h
    · cases h
  · cases hc : cs[off]? with
    | none => simp [hc] at h
    | some l =>
      simp [hc] at h
      subst h
      intro x hx
      simp [S0.cells] at hx
      subst hx
      exact List.mem_of_getElem? hc
  · cases h

/-! Loads -/
abbrev Vecs := List (Nat × Option (TypeId × E))
def loadLf (P : Program) (mem : List (Nat × Option (TypeId × List Lf))) (vec : Vecs) (t : TypeId) : Lf → Option S0
  | .ptr b off => match look mem b with
    | some mb => partS P t mb.2 off
    | none => none
  | .elp te sz a x o => match kinds P te, kinds P t with
    | some ks, some kt => if ks.length = sz ∧ (ks.drop o).take kt.length = kt then partS P t (rowLf a x 0 ks) o else none
    | _, _ => none
  | .velp te sz i x o => match look vec i, kinds P te, kinds P t with
    | some e, some ks, some kt => if e.1 = te ∧ ks.length = sz ∧ (ks.drop o).take kt.length = kt then partS P t (rowLf e.2 x 0 ks) o else none
    | _, _, _ => none
  | _ => none
theorem rowLf_length (a x : E) : ∀ (l : List Lk) (o : Nat), (rowLf a x o l).length = l.length
  | [], _ => rfl
  | k :: l, o => by cases k <;> simp [rowLf, rowLf_length a x l]
theorem run_load_part {P : Program} {t : TypeId} {cs : List Lf} {off : Nat} {s : S0} (h : partS P t cs off = some s) (Γ : Env) (w : World) (b k : Nat)
    (hc : ∀ j l, cs[j]? = some l → w.cell? ⟨b, k + j, none⟩ = some (l.den Γ)) : (Instr.loadAt t (.pointer (some ⟨b, k + off, none⟩))).run P w = .ok (s.den Γ) w := by
  unfold partS at h
  simp only [Instr.loadAt, Instr.sureAddr, pure_bind, loadVar]
  split at h
  · rename_i ha
    split at h
    · rename_i n hn
      split at h
      · rename_i hle
        cases h
        have hlen : ((cut cs off n).map (Lf.den Γ)).length = n := by simp [cut]; omega
        have := run_loadCells_list (P := P) w ⟨b, k + off, none⟩ ((cut cs off n).map (Lf.den Γ)) (fun j v hj => by
          rw [Addr.add_lit, Nat.add_assoc]
          simp only [cut, List.getElem?_map, List.getElem?_take, List.getElem?_drop] at hj
          split at hj
          · cases hcc : cs[off + j]? with
            | none => simp [hcc] at hj
            | some l => simp [hcc] at hj; subst hj; exact hc _ _ hcc
          · simp at hj)
        rw [hlen] at this
        simp [run_isAgg ha, run_sizeOf' hn, this, S0.den, dens]
      · cases h
    · cases h
  · rename_i ha
    cases hcc : cs[off]? with
    | none => simp [hcc] at h
    | some l =>
      simp [hcc] at h
      subst h
      simp [run_isAgg ha, hc _ _ hcc, S0.den]
  · cases h

/-- What an operation may lean on. -/
def Own (Γ : Env) (st : St) (b o : Nat) : Prop := Γ.base b o ∨ (∃ j mb, look st.mem j = some mb ∧ Γ.blk j = b) ∨ ∃ i e, look st.vec i = some e ∧ (at_ Γ.ρ i).loc.ownBlock = some b
structure View (P : Program) (Γ : Env) (st : St) (xs : Array Operand) (ρ : Operand → Value) (w : World) : Prop where
  slots : ∀ x ∈ xs, ∀ sv, st.ev x = some sv → ρ x = sv.den Γ ∧ sv.ok P w (Own Γ st) Γ
  mem : ∀ b mb, look st.mem b = some mb → Blk w (Γ.blk b) mb.1 (dens Γ mb.2) ∧ ∀ l ∈ mb.2, l.ok P w (Own Γ st) Γ
  vec : ∀ i e, look st.vec i = some e → VecOK P w (Own Γ st) e.1 (at_ Γ.ρ i).loc (e.2.ev Γ.ρ)
  clo : ∀ i e, look st.clo i = some e → (at_ Γ.ρ i).loc = .func (.func e.1) (e.2.1.map (S0.den Γ)).toArray (e.2.2.map (Lf.den Γ)).toArray ∧ (∀ s ∈ e.2.1, s.ok P w (Own Γ st) Γ) ∧ ∀ l ∈ e.2.2, l.ok P w (Own Γ st) Γ
  num : Num st.bds Γ.ρ

theorem run_loadLf {P : Program} {Γ : Env} {st : St} {xs : Array Operand} {ρ : Operand → Value} {w : World} (hv : View P Γ st xs ρ w) {t : TypeId} {l : Lf} {s : S0}
    (h : loadLf P st.mem st.vec t l = some s) (hl : l.ok P w (Own Γ st) Γ) : (Instr.loadAt t (l.den Γ)).run P w = .ok (s.den Γ) w ∧ s.ok P w (Own Γ st) Γ := by
  unfold loadLf at h
  split at h
  · rename_i b off
    split at h
    · rename_i mb hm
      obtain ⟨hb, hok⟩ := hv.mem b mb hm
      refine ⟨?_, fun l hl => hok l (partS_cells h l hl)⟩
      have := run_load_part h Γ w (Γ.blk b) 0 (fun j l hj => by
        rw [Nat.zero_add]
        exact hb.cell j (by rw [dens_get, hj]; rfl))
      rw [Nat.zero_add] at this
      exact this
    · cases h
  · rename_i te sz a x o
    split at h
    · rename_i ks kt hks hkt
      split at h
      · rename_i hc
        obtain ⟨hc1, hc2⟩ := hc
        obtain ⟨hA, h0, h1, hsz⟩ := hl
        obtain ⟨b, p, he, hcell⟩ := ArrOK.cell hks hA h0 h1
        refine ⟨?_, fun l hl => ?_⟩
        · simp only [Lf.den]
          rw [he]
          have := run_load_part h Γ w b (p + (x.den Γ.ρ).toNat * ks.length) (fun j l hj => by
            have hlt : j < ks.length := by
              rcases Nat.lt_or_ge j ks.length with h' | h'
              · exact h'
              · rw [List.getElem?_eq_none (by rw [rowLf_length]; exact h')] at hj; cases hj
            have := (hcell j hlt l hj).1
            rwa [← Nat.add_assoc] at this)
          rw [← hc1, ← Nat.add_assoc]
          exact this
        · have hm := partS_cells h l hl
          obtain ⟨j, hj⟩ := List.getElem?_of_mem hm
          have hlt : j < ks.length := by
            rcases Nat.lt_or_ge j ks.length with h' | h'
            · exact h'
            · rw [List.getElem?_eq_none (by rw [rowLf_length]; exact h')] at hj; cases hj
          exact (hcell j hlt l hj).2
      · cases h
    · cases h
  · rename_i te sz i x o
    split at h
    · rename_i e ks kt hi hks hkt
      split at h
      · rename_i hc
        obtain ⟨rfl, hc1, hc2⟩ := hc
        obtain ⟨b', n, cap, hloc, hsz, h0, h1⟩ := hl
        have hve := hv.vec i e hi
        have hlen : n = ((e.2.ev Γ.ρ).rows.length) := by
          obtain ⟨a, cap', hs'⟩ := hve.slice
          rw [hloc] at hs'; cases hs'; rfl
        obtain ⟨b, he, -, hcell⟩ := VecOK.cell hks hve h0 (by rw [← hlen]; exact h1)
        refine ⟨?_, fun l hl => ?_⟩
        · simp only [Lf.den]
          rw [he]
          have := run_load_part h Γ w b ((x.den Γ.ρ).toNat * ks.length) (fun j l hj => by
            have hlt : j < ks.length := by
              rcases Nat.lt_or_ge j ks.length with h' | h'
              · exact h'
              · rw [List.getElem?_eq_none (by rw [rowLf_length]; exact h')] at hj; cases hj
            exact (hcell j hlt l hj).1)
          rw [← hc1]
          exact this
        · have hm := partS_cells h l hl
          obtain ⟨j, hj⟩ := List.getElem?_of_mem hm
          have hlt : j < ks.length := by
            rcases Nat.lt_or_ge j ks.length with h' | h'
            · exact h'
            · rw [List.getElem?_eq_none (by rw [rowLf_length]; exact h')] at hj; cases hj
          exact (hcell j hlt l hj).2
      · cases h
    · cases h
  · cases h

/-! Fields' and elements' addresses -/
def fieldOff (P : Program) (s : TypeId) (f : Nat) : Option Nat :=
  match P.underlying s with
  | some (.struct fs) => match fs[f]? with
    | some fd => match sizeIs P fd.type with
      | some (_ + 1) => some fd.offset
      | _ => none
    | none => none
  | _ => none
def Lf.shift (k : Nat) : Lf → Option Lf
  | .ptr b off => some (.ptr b (off + k))
  | .elp te sz a x o => some (.elp te sz a x (o + k))
  | .velp te sz i x o => some (.velp te sz i x (o + k))
  | _ => none
theorem run_fieldOff {P : Program} {s : TypeId} {f k : Nat} (h : fieldOff P s f = some k) (b o : Nat) (w : World) :
    (Instr.fieldAt s (.pointer (some ⟨b, o, none⟩)) f).run P w = .ok (.pointer (some ⟨b, o + k, none⟩)) w := by
  unfold fieldOff at h
  split at h
  · rename_i fs hu
    split at h
    · rename_i fd hf
      split at h
      · rename_i n hn
        cases h
        simp [Instr.fieldAt, run_underlying hu, hf, Instr.sureAddr, fieldPlace, run_sizeOf' hn, Addr.add_lit]
      · cases h
    · cases h
  · cases h
theorem run_shift {P : Program} {Γ : Env} {w : World} {Own : Nat → Nat → Prop} {s : TypeId} {f k : Nat} (h : fieldOff P s f = some k) {l l' : Lf} (hl : l.shift k = some l') (ho : l.ok P w Own Γ) :
    (Instr.fieldAt s (l.den Γ) f).run P w = .ok (l'.den Γ) w ∧ l'.ok P w Own Γ := by
  cases l <;> simp only [Lf.shift, Option.some.injEq] at hl <;> first | (cases hl; done) | skip
  · subst hl
    exact ⟨run_fieldOff h _ _ _, trivial⟩
  · rename_i te sz a x o
    subst hl
    refine ⟨?_, ho⟩
    obtain ⟨b, p, he, -⟩ := ho.1.addr ho.2.1 ho.2.2.1
    simp only [Lf.den]
    rw [he, he, run_fieldOff h]
    simp [Nat.add_assoc]
  · rename_i te sz i x o
    subst hl
    refine ⟨?_, ho⟩
    obtain ⟨b, n, cap, hloc, -⟩ := ho
    have he : ∀ k, elemAt (at_ Γ.ρ i).loc k = .pointer (some ⟨b, k, none⟩) := fun k => by rw [hloc]; simp only [elemAt]; unfold Addr.add; split <;> simp_all
    simp only [Lf.den]
    rw [he, he, run_fieldOff h]
    simp [Nat.add_assoc]
def need (b : B) : List B := match b with | .lit true => [] | b => [b]
theorem need_ok {ρ : List C} {b : B} (h : Obs ρ (need b)) : b.den ρ = true := by
  unfold need at h
  split at h
  · rfl
  · exact h _ (by simp)
def sliceOf (P : Program) (t : TypeId) : Option TypeId := match P.underlying t with | some (.slice e) => some e | _ => none
theorem sliceOf_eq {P : Program} {t e : TypeId} (h : sliceOf P t = some e) : P.underlying t = some (.slice e) := by
  unfold sliceOf at h
  split at h
  · rename_i hu; cases h; exact hu
  · cases h
def idxLf (P : Program) (vec : Vecs) (bd : Bds) (t : TypeId) : Lf → E → Option (List B × Lf)
  | .arr te a, x => if sliceOf P t = some te then match sizeIs P te with
      | some sz => some (need (B.mkCmp bd .le (.lit 0) x) ++ need (B.mkCmp bd .lt x (.len a)), .elp te sz a x 0)
      | none => none
    else none
  | .vec te i, x => match look vec i with
    | some e => if e.1 = te ∧ sliceOf P t = some te then match sizeIs P te with
      | some sz => some (need (B.mkCmp bd .le (.lit 0) x) ++ need (B.mkCmp bd .lt x (.len e.2)), .velp te sz i x 0)
      | none => none
      else none
    | none => none
  | .ptr b off, .lit (.ofNat k) => match P.underlying t with
    | some (.array n e) => match sizeIs P e with
      | some sz => if k < n then some ([], .ptr b (off + k * sz)) else none
      | none => none
    | _ => none
  | _, _ => none
theorem run_idxLf {P : Program} {Γ : Env} {w : World} {Own : Nat → Nat → Prop} {vec : Vecs} (hvec : ∀ i e, look vec i = some e → VecOK P w Own e.1 (at_ Γ.ρ i).loc (e.2.ev Γ.ρ)) {bd : Bds} (hn : Num bd Γ.ρ) {t : TypeId} {l l' : Lf} {x : E} {obs : List B} (h : idxLf P vec bd t l x = some (obs, l'))
    (ho : l.ok P w Own Γ) (hob : Obs Γ.ρ obs) : (Instr.indexAt t (l.den Γ) (.int .i64 (x.den Γ.ρ))).run P w = .ok (l'.den Γ) w ∧ l'.ok P w Own Γ := by
  have key : ∀ te a, l = .arr te a → (Instr.indexAt t (l.den Γ) (.int .i64 (x.den Γ.ρ))).run P w = .ok (l'.den Γ) w ∧ l'.ok P w Own Γ := by
    intro te a e
    subst e
    simp only [idxLf] at h
    split at h
    · rename_i hu'
      have hu := sliceOf_eq hu'
      split at h
      · rename_i sz hs
        cases h
        obtain ⟨o1, o2⟩ := Obs.app hob
        have g1 := need_ok o1
        have g2 := need_ok o2
        rw [B.den_mkCmp hn] at g1 g2
        have g1' : 0 ≤ x.den Γ.ρ := of_decide_eq_true g1
        have g2' : x.den Γ.ρ < ((a.ev Γ.ρ).rows.length : Int) := of_decide_eq_true g2
        obtain ⟨b, p, he, cap, hloc⟩ := ArrOK.addr ho g1' g2'
        refine ⟨?_, ho, g1', g2', hs⟩
        have hel : P.elem t = te := by simp [Program.elem, hu]
        simp only [Lf.den, he]
        rw [hloc, run_indexAt_slice w t _ _ _ _ _ (by rw [hel]; exact hu), if_pos ⟨g1', g2'⟩, hel, run_sizeOf' hs]
        simp [Addr.add_lit]
      · cases h
    · cases h
  unfold idxLf at h
  split at h
  · exact key _ _ rfl
  · rename_i te i
    split at h
    · rename_i e hi
      split at h
      · rename_i hcc
        obtain ⟨rfl, hu'⟩ := hcc
        have hu := sliceOf_eq hu'
        split at h
        · rename_i sz hs
          cases h
          obtain ⟨o1, o2⟩ := Obs.app hob
          have g1 := need_ok o1
          have g2 := need_ok o2
          rw [B.den_mkCmp hn] at g1 g2
          have g1' : 0 ≤ x.den Γ.ρ := of_decide_eq_true g1
          have g2' : x.den Γ.ρ < ((e.2.ev Γ.ρ).rows.length : Int) := of_decide_eq_true g2
          have hve := hvec i e hi
          obtain ⟨ks, us, k1, k2, k3, k4, k5⟩ := hve
          rcases k5.2 with ⟨-, hn0⟩ | ⟨g, cap, cur, hloc, -⟩
          · rw [hn0] at g2'; simp at g2'; omega
          refine ⟨?_, ⟨g, _, cap, hloc, hs, g1', g2'⟩⟩
          have hel : P.elem t = e.1 := by simp [Program.elem, hu]
          simp only [Lf.den]
          rw [hloc, run_indexAt_slice w t _ _ _ _ _ (by rw [hel]; exact hu), if_pos ⟨g1', g2'⟩, hel, run_sizeOf' hs]
          simp [Addr.add_lit, elemAt]
        · cases h
      · cases h
    · cases h
  · rename_i b off k
    split at h
    · rename_i n e hu
      split at h
      · rename_i sz hs
        split at h
        · rename_i hk
          cases h
          refine ⟨?_, trivial⟩
          have hel : P.elem t = e := by simp [Program.elem, hu]
          have hal : P.arrayLen t = n := by simp [Program.arrayLen, hu]
          simp only [Lf.den]
          rw [run_indexAt_array w t _ _ _ (by rw [hel, hal]; exact hu), if_pos (by rw [hal]; simp [E.den_lit]; omega), hel, run_sizeOf' hs]
          simp [Addr.add_lit, E.den_lit]
        · cases h
      · cases h
    · cases h
  · cases h
end Go.Proofs.Ytlbgcjpkegpmlaa
