/- The engine, part 11a: what turns with slices of one's own: made, appended to, written, given up; function values. -/
import Derived.Test.YtlbgcjpkegpmlaaEk
import Derived.Maps.AppendAt
import Derived.Laws.MakeOwn
import Derived.Laws.OwnMore
namespace Go.Proofs.Ytlbgcjpkegpmlaa
open Go.RowKit
set_option linter.unusedSimpArgs false
set_option linter.unusedVariables false

/-! Rows of cells -/
section
variable {P : Program} {w : World} {O : Nat → Nat → Prop}
theorem CReps.take : ∀ {ks : List Lk} {us : List Value} {cs : List C}, CReps P w O ks us cs → ∀ n, CReps P w O (ks.take n) (us.take n) (cs.take n)
  | [], [], [], _, n => by simp [CReps]
  | _ :: _, _ :: _, _ :: _, h, 0 => trivial
  | _ :: _, _ :: _, _ :: _, h, n + 1 => ⟨h.1, CReps.take h.2 n⟩
  | [], [], _ :: _, h, _ => h.elim
  | [], _ :: _, _, h, _ => h.elim
  | _ :: _, [], _, h, _ => h.elim
  | _ :: _, _ :: _, [], h, _ => h.elim
theorem CReps.drop : ∀ {ks : List Lk} {us : List Value} {cs : List C}, CReps P w O ks us cs → ∀ n, CReps P w O (ks.drop n) (us.drop n) (cs.drop n)
  | [], [], [], _, n => by simp [CReps]
  | _ :: _, _ :: _, _ :: _, h, 0 => h
  | _ :: _, _ :: _, _ :: _, h, n + 1 => CReps.drop h.2 n
  | [], [], _ :: _, h, _ => h.elim
  | [], _ :: _, _, h, _ => h.elim
  | _ :: _, [], _, h, _ => h.elim
  | _ :: _, _ :: _, [], h, _ => h.elim
/-- A segment written anew. -/
theorem CReps.seg {ks : List Lk} {us : List Value} {cs : List C} (h : CReps P w O ks us cs) {n m : Nat} {vs : List Value} {ds : List C} (h' : CReps P w O ((ks.drop n).take m) vs ds) :
    CReps P w O ks (us.take n ++ vs ++ us.drop (n + m)) (cs.take n ++ ds ++ cs.drop (n + m)) := by
  have e : ks = ks.take n ++ (ks.drop n).take m ++ ks.drop (n + m) := by
    rw [← List.drop_drop, List.append_assoc, List.take_append_drop, List.take_append_drop]
  have := CReps.append (CReps.append (h.take n) h') (h.drop (n + m))
  rwa [← e] at this
end
theorem flatten_len {α : Type} {sz : Nat} : ∀ {rows : List (List α)}, (∀ r ∈ rows, r.length = sz) → rows.flatten.length = rows.length * sz
  | [], _ => by simp
  | x :: rows, h => by rw [List.flatten_cons, List.length_append, flatten_len (fun r hr => h r (by simp [hr])), h x (by simp), List.length_cons, Nat.add_mul]; omega
theorem flatten_upd {sz : Nat} : ∀ {rows : List (List C)}, (∀ r ∈ rows, r.length = sz) → ∀ {i o : Nat} {l : List C}, i < rows.length → o + l.length ≤ sz →
    (updRow rows i o l).flatten = rows.flatten.take (i * sz + o) ++ l ++ rows.flatten.drop (i * sz + o + l.length) ∧ (∀ r ∈ updRow rows i o l, r.length = sz) ∧ (updRow rows i o l).length = rows.length
  | [], _, i, o, l, hi, _ => by simp at hi
  | x :: rows, h, 0, o, l, _, ho => by
    have hx := h x (by simp)
    refine ⟨?_, ?_, by simp [updRow]⟩
    · simp only [updRow, List.set_cons_zero, List.getD_cons_zero, List.flatten_cons, Nat.zero_mul, Nat.zero_add]
      rw [List.take_append_of_le_length (by omega), List.drop_append_of_le_length (by omega)]
      simp [List.append_assoc]
    · intro r hr
      simp only [updRow, List.set_cons_zero, List.getD_cons_zero] at hr
      rcases List.mem_cons.1 hr with rfl | hr
      · simp; omega
      · exact h r (by simp [hr])
  | x :: rows, h, i + 1, o, l, hi, ho => by
    have hx := h x (by simp)
    obtain ⟨h1, h2, h3⟩ := flatten_upd (rows := rows) (fun r hr => h r (by simp [hr])) (i := i) (by simpa using hi) ho
    have e : updRow (x :: rows) (i + 1) o l = x :: updRow rows i o l := by simp [updRow]
    rw [e]
    refine ⟨?_, fun r hr => ?_, by simp [h3]⟩
    · rw [List.flatten_cons, h1, List.flatten_cons]
      have e1 : (i + 1) * sz + o = x.length + (i * sz + o) := by rw [Nat.add_mul]; omega
      have e2 : (i + 1) * sz + o + l.length = x.length + (i * sz + o + l.length) := by rw [Nat.add_mul]; omega
      rw [e2, e1, List.take_length_add_append, List.drop_length_add_append]
      simp [List.append_assoc]
    · rcases List.mem_cons.1 hr with rfl | hr
      · exact hx
      · exact h2 r hr
theorem World.grownBy.rfl' (w : World) (row : Option Nat) : w.grownBy w row := ⟨rfl, rfl, rfl, Nat.le_refl _, fun _ _ _ => rfl⟩
/-- What a row of cells in the memory holds. -/
def RowsAt (P : Program) (w : World) (O : Nat → Nat → Prop) (ks : List Lk) (v : Value) (rows : List (List C)) (us : List Value) : Prop :=
  CReps P w O (rowsK rows.length ks) us rows.flatten ∧ (∀ r ∈ rows, r.length = ks.length) ∧ ∃ a cap, v = .slice a rows.length cap ∧ (rows ≠ [] → ∃ b o, a = some ⟨b, o, none⟩ ∧ ∀ j u, us[j]? = some u → w.cell? ((⟨b, o, none⟩ : Addr).add j) = some u)
theorem VecOK.rowsAt {P : Program} {w : World} {O : Nat → Nat → Prop} {te : TypeId} {v : Value} {c : C} (h : VecOK P w O te v c) {ks : List Lk} (hk : kinds P te = some ks) : ∃ us, RowsAt P w O ks v c.rows us := by
  obtain ⟨ks', us, hk', hc, hl, hr, ho⟩ := h
  obtain rfl : ks = ks' := Option.some.inj (hk.symm.trans hk')
  refine ⟨us, hr, hl, ?_⟩
  rcases ho.2 with ⟨rfl, hn⟩ | ⟨g, cap, cur, rfl, -⟩
  · exact ⟨none, 0, by rw [hn], fun hne => absurd (List.eq_nil_of_length_eq_zero hn) hne⟩
  · exact ⟨_, cap, rfl, fun _ => ⟨g, 0, rfl, ho.cells (g := g) rfl⟩⟩
theorem ArrN.us {P : Program} {S : Nat → Nat → Prop} {w : World} {O : Nat → Nat → Prop} (hS : ∀ b o, S b o → b < w.heap.size ∧ ¬ O b o) {d : Nat} {te : TypeId} {v : Value} {rows : List (List C)} (h : ArrN P S w d te v rows) {ks : List Lk} (hk : kinds P te = some ks) (hsm : ∀ r ∈ rows, ∀ c ∈ r, ∀ n, c.small n) :
    ∃ us, RowsAt P w O ks v rows us := by
  cases d with
  | zero => exact h.elim
  | succ d =>
    obtain ⟨ks', hk', a, cap, hv, hh⟩ := h
    obtain rfl : ks = ks' := Option.some.inj (hk.symm.trans hk')
    by_cases hne : rows = []
    · subst hne; exact ⟨[], trivial, by simp, a, cap, hv, fun h => absurd rfl h⟩
    · obtain ⟨b, o, rfl, hr⟩ := hh hne
      -- one row
      have row : ∀ (i : Nat) (r : List C), rows[i]? = some r → ∃ us : List Value, CReps P w O ks us r ∧ ∀ j u, us[j]? = some u → w.cell? ⟨b, o + (i * ks.length + j), none⟩ = some u := fun i r hi => by
        obtain ⟨hl, hc⟩ := hr i r hi
        have hsr := hsm r (List.mem_of_getElem? hi)
        have key : ∀ (ls : List Lk) (cs : List C) (off : Nat), cs.length = ls.length → (∀ c ∈ cs, ∀ n, c.small n) → (∀ j k, ls[j]? = some k → S b (o + (i * ks.length + (off + j))) ∧ ∃ u c, w.cell? ⟨b, o + (i * ks.length + (off + j)), none⟩ = some u ∧ cs[j]? = some c ∧ match k with
            | .int => ∃ n, u = .int .i64 n ∧ c = .i n
            | .bool => ∃ t, u = .bool t ∧ c = .b t
            | .arr t => ∃ rows', c = .s u rows' ∧ ArrN P S w d t u rows'
            | .vec _ => False) → ∃ us : List Value, CReps P w O ls us cs ∧ ∀ j u, us[j]? = some u → w.cell? ⟨b, o + (i * ks.length + (off + j)), none⟩ = some u := by
          intro ls
          induction ls with
          | nil => intro cs off hl _ _; have := List.eq_nil_of_length_eq_zero hl; subst this; exact ⟨[], trivial, fun j u hj => by simp at hj⟩
          | cons k ls ih =>
            intro cs off hl hs hc
            cases cs with
            | nil => simp at hl
            | cons c cs =>
              obtain ⟨us, h1, h2⟩ := ih cs (off + 1) (by simpa using hl) (fun x hx => hs x (by simp [hx])) (fun j k hj => by
                have := hc (j + 1) k (by simpa using hj)
                rw [show off + (j + 1) = off + 1 + j by omega] at this
                simpa using this)
              obtain ⟨-, u, c', hu, hc', hm⟩ := hc 0 k rfl
              simp at hc'; subst hc'
              refine ⟨u :: us, ⟨⟨hs c (by simp), ?_⟩, h1⟩, fun j x hj => ?_⟩
              · cases k with
                | arr t => obtain ⟨rows', rfl, hn⟩ := hm; exact ⟨rfl, u, rows', rfl, d, S, hS, hn⟩
                | _ => exact hm
              · cases j with
                | zero => simp at hj; subst hj; exact hu
                | succ j => rw [show off + (j + 1) = off + 1 + j by omega]; exact h2 j x (by simpa using hj)
        obtain ⟨us, h1, h2⟩ := key ks r 0 hl hsr (fun j k hj => by rw [Nat.zero_add]; exact hc j k hj)
        exact ⟨us, h1, fun j u hj => by have := h2 j u hj; rwa [Nat.zero_add] at this⟩
      have all : ∀ (rs : List (List C)) (off : Nat), (∀ i r, rs[i]? = some r → rows[off + i]? = some r) → ∃ us : List Value, CReps P w O (rowsK rs.length ks) us rs.flatten ∧ ∀ j u, us[j]? = some u → w.cell? ⟨b, o + (off * ks.length + j), none⟩ = some u := by
        intro rs
        induction rs with
        | nil => intro off _; exact ⟨[], trivial, fun j u hj => by simp at hj⟩
        | cons r rs ih =>
          intro off hrs
          obtain ⟨us1, h1, h2⟩ := row off r (hrs 0 r rfl)
          obtain ⟨us2, h3, h4⟩ := ih (off + 1) (fun i x hi => by rw [show off + 1 + i = off + (i + 1) by omega]; exact hrs (i + 1) x (by simpa using hi))
          refine ⟨us1 ++ us2, by rw [List.length_cons, rowsK_succ, List.flatten_cons]; exact CReps.append h1 h3, fun j u hj => ?_⟩
          have hl1 := h1.len.1
          by_cases hjl : j < us1.length
          · rw [List.getElem?_append_left hjl] at hj; exact h2 j u hj
          · rw [List.getElem?_append_right (by omega)] at hj
            have := h4 _ u hj
            rwa [show (off + 1) * ks.length + (j - us1.length) = off * ks.length + j by rw [Nat.add_mul]; omega] at this
      obtain ⟨us, h1, h2⟩ := all rows 0 (fun i r hi => by rw [Nat.zero_add]; exact hi)
      refine ⟨us, h1, fun r hr' => ?_, _, cap, hv, fun _ => ⟨b, o, rfl, fun j u hj => ?_⟩⟩
      · obtain ⟨i, hi⟩ := List.getElem?_of_mem hr'; exact (hr i r hi).1
      · have := h2 j u hj
        rw [Nat.zero_mul, Nat.zero_add] at this
        unfold Addr.add
        split
        · rename_i e; subst e; exact this
        · exact this
theorem CReps.one {P : Program} {w : World} {O : Nat → Nat → Prop} : ∀ {ks : List Lk} {us : List Value} {cs : List C}, CReps P w O ks us cs → ∀ u ∈ us, u.oneCell' = true
  | [], [], [], _, u, hu => by cases hu
  | k :: _, u :: _, c :: _, h, x, hx => by
    rcases List.mem_cons.1 hx with rfl | hx
    · have h1 := h.1.2
      cases k with
      | int => obtain ⟨n, rfl, -⟩ := h1; rfl
      | bool => obtain ⟨n, rfl, -⟩ := h1; rfl
      | arr t =>
        obtain ⟨e, v, rows, rfl, d, S, -, hA⟩ := h1
        obtain ⟨a, cap, hv⟩ := hA.slice
        rw [e]; simp only [C.loc, hv]; rfl
      | vec t => exact h1.elim
    · exact CReps.one h.2 x hx
  | [], [], _ :: _, h, _, _ => h.elim
  | [], _ :: _, _, h, _, _ => h.elim
  | _ :: _, [], _, h, _, _ => h.elim
  | _ :: _, _ :: _, [], h, _, _ => h.elim
theorem CReps.up {P : Program} {w w' : World} {O : Nat → Nat → Prop} {row : Option Nat} (hk : w.grownBy w' row) (hrow : ∀ b, row = some b → ∀ o, O b o) {ks : List Lk} {us : List Value} {cs : List C} (h : CReps P w O ks us cs) : CReps P w' (fun b o => O b o ∨ w.heap.size ≤ b) ks us cs :=
  h.keep hk.size fun b o hb hno => ⟨World.cell?_of_block (hk.block b hb fun e => hno (hrow b e.symm o)), fun ho => ho.elim hno fun hge => by omega⟩
/-- One slice of one's own more, in a new block or in that of another one, which it takes the place of. -/
theorem Sat.vnew {P : Program} {F : Nat → Prop} {w0 : World} {Γ : Env} {st : St} {a : Act} {w : World} (h : Sat P F w0 Γ st a w) (hw : st.wf = true) {c : C} {te : TypeId} {w' : World} {row : Option Nat} {ci : Option Nat}
    (hci : match ci with | some i => ∃ e, look st.vec i = some e ∧ row = (at_ Γ.ρ i).loc.ownBlock | none => row = none) (hk : w.grownBy w' row)
    (hc : VecOK P w' (fun b o => Own Γ st b o ∨ w.heap.size ≤ b) te c.loc c) (hblk : ∀ b, c.loc.ownBlock = some b → row = some b ∨ w.heap.size ≤ b) :
    Sat P F w0 { Γ with ρ := Γ.ρ ++ [c] } { st with nx := st.nx + 1, vec := (st.nx, some (te, .var st.nx)) :: (dropV ci st.vec) } a w' := by
  have hat : at_ (Γ.ρ ++ [c]) st.nx = c := by rw [← h.len]; exact at_app (j := 0) (by simp)
  have hsm : Smalls (Γ.ρ ++ [c]) := h.num.len.app fun x hx n => by simp at hx; subst hx; exact hc.small n
  have hrow : ∀ b, row = some b → ∃ i, Hold Γ st false i b := fun b hb => by
    cases ci with
    | none => rw [hci] at hb; cases hb
    | some i => obtain ⟨e, h1, h2⟩ := hci; exact ⟨i, .vec (Γ := Γ) h1 (by rw [← h2]; exact hb)⟩
  -- what else there is
  have old : ∀ i e, look (dropV ci st.vec) i = some e → look st.vec i = some e ∧ ∀ b, (at_ Γ.ρ i).loc.ownBlock = some b → row ≠ some b := fun i e he => by
    cases ci with
    | none => exact ⟨he, fun b _ hr => by rw [hci] at hr; cases hr⟩
    | some j =>
      simp only [dropV, look] at he
      split at he
      · cases he
      · rename_i hne
        refine ⟨he, fun b hb hr => ?_⟩
        obtain ⟨e', h1, h2⟩ := hci
        exact hne (h.inj _ _ _ _ _ (Hold.vec (Γ := Γ) h1 (by rw [← h2]; exact hr)) (Hold.vec (Γ := Γ) he hb)).2
  have hnx : ∀ i e, look st.vec i = some e → i < st.nx := fun i e he => (h.vec i e he).2.1
  have hx : ∀ i e, look st.vec i = some e → at_ (Γ.ρ ++ [c]) i = at_ Γ.ρ i := fun i e he => h.vec_at (Γ' := { Γ with ρ := Γ.ρ ++ [c] }) ⟨⟨[c], rfl⟩, fun _ _ => rfl, Nat.le_refl _, rfl, rfl⟩ he
  refine h.turnV hw (rs := [c]) hsm hk hrow (fun i e he => ?_) fun i e i' e' b he he' hb hb' => ?_
  · simp only [look] at he
    split at he
    · rename_i e1
      subst e1
      cases he
      right
      refine ⟨?_, by simp, fun b hb => ?_⟩
      · simp only [E.ev, hat]; exact hc
      · rw [hat] at hb; exact hblk b hb
    · exact .inl (old i e he)
  · simp only [look] at he he'
    split at he <;> split at he'
    · omega
    · rename_i e1 e2
      exfalso
      subst e1
      obtain ⟨h1, h2⟩ := old i' e' he'
      rw [hx i' e' h1] at hb'
      rw [hat] at hb
      rcases hblk b hb with h3 | h3
      · exact h2 b hb' h3
      · have := (h.vec i' e' h1).1.lt hb'; omega
    · rename_i e1 e2
      exfalso
      subst e2
      obtain ⟨h1, h2⟩ := old i e he
      rw [hx i e h1] at hb
      rw [hat] at hb'
      rcases hblk b hb' with h3 | h3
      · exact h2 b hb h3
      · have := (h.vec i e h1).1.lt hb; omega
    · obtain ⟨h1, -⟩ := old i e he
      obtain ⟨h2, -⟩ := old i' e' he'
      rw [hx i e h1] at hb
      rw [hx i' e' h2] at hb'
      exact (h.inj _ _ _ _ _ (Hold.vec (Γ := Γ) h1 hb) (Hold.vec (Γ := Γ) h2 hb')).2
/-- What a slice of one's own holds is written. -/
theorem Sat.vupd {P : Program} {F : Nat → Prop} {w0 : World} {Γ : Env} {st : St} {a : Act} {w : World} (h : Sat P F w0 Γ st a w) (hw : st.wf = true) {i : Nat} {e : TypeId × E} (hi : look st.vec i = some e) {c : C} {w' : World} (hk : w.grownBy w' (at_ Γ.ρ i).loc.ownBlock)
    (hc : VecOK P w' (fun b o => Own Γ st b o ∨ w.heap.size ≤ b) e.1 (at_ Γ.ρ i).loc c) :
    Sat P F w0 { Γ with ρ := Γ.ρ ++ [c] } { st with nx := st.nx + 1, vec := (i, some (e.1, .var st.nx)) :: st.vec } a w' := by
  have hat : at_ (Γ.ρ ++ [c]) st.nx = c := by rw [← h.len]; exact at_app (j := 0) (by simp)
  have hsm : Smalls (Γ.ρ ++ [c]) := h.num.len.app fun x hx n => by simp at hx; subst hx; exact hc.small n
  have hx : ∀ i e, look st.vec i = some e → at_ (Γ.ρ ++ [c]) i = at_ Γ.ρ i := fun i e he => h.vec_at (Γ' := { Γ with ρ := Γ.ρ ++ [c] }) ⟨⟨[c], rfl⟩, fun _ _ => rfl, Nat.le_refl _, rfl, rfl⟩ he
  have old : ∀ j e', look ((i, some (e.1, .var st.nx)) :: st.vec) j = some e' → ∃ e'', look st.vec j = some e'' := fun j e' he => by
    simp only [look] at he
    split at he
    · rename_i e1; subst e1; exact ⟨e, hi⟩
    · exact ⟨e', he⟩
  refine h.turnV hw (rs := [c]) hsm hk (fun b hb => ⟨i, .vec (Γ := Γ) hi hb⟩) (fun j e' he => ?_) fun j e' j' e'' b he he' hb hb' => ?_
  · simp only [look] at he
    split at he
    · rename_i e1
      subst e1
      cases he
      right
      refine ⟨?_, by have := (h.vec i e hi).2.1; simp; omega, fun b hb => ?_⟩
      · rw [hx i e hi]; simp only [E.ev, hat]; exact hc
      · rw [hx i e hi] at hb; exact .inl hb
    · rename_i hne
      refine .inl ⟨he, fun b hb hr => hne (h.inj _ _ _ _ _ (Hold.vec (Γ := Γ) hi hr) (Hold.vec (Γ := Γ) he hb)).2⟩
  · obtain ⟨x, h1⟩ := old j e' he
    obtain ⟨y, h2⟩ := old j' e'' he'
    rw [hx j x h1] at hb
    rw [hx j' y h2] at hb'
    exact (h.inj _ _ _ _ _ (Hold.vec (Γ := Γ) h1 hb) (Hold.vec (Γ := Γ) h2 hb')).2
/-- A function value. -/
theorem Sat.addClo {P : Program} {F : Nat → Prop} {w0 : World} {Γ : Env} {st : St} {a : Act} {w : World} (h : Sat P F w0 Γ st a w) {i : Nat} {e : Nat × List S0 × List Lf} (hi : (at_ Γ.ρ i).loc = .func (.func e.1) (e.2.1.map (S0.den Γ)).toArray (e.2.2.map (Lf.den Γ)).toArray) (h1 : ∀ s ∈ e.2.1, s.ok P w (Own Γ st) Γ) (h2 : ∀ l ∈ e.2.2, l.ok P w (Own Γ st) Γ) :
    Sat P F w0 Γ { st with clo := (i, some e) :: st.clo } a w := by
  refine ⟨h.slots, h.size, h.mem, h.vec, fun j e' hj => ?_, h.inj, h.keeps, h.fold, h.base, h.defers, h.len, h.nb, h.num⟩
  simp only [look] at hj
  split at hj
  · rename_i e1; subst e1; cases hj; exact ⟨hi, h1, h2⟩
  · exact h.clo j e' hj
/-! Slices of one's own that are given up -/
theorem mkJoin_ev {P : Program} {w : World} {O : Nat → Nat → Prop} {ρ : List C} {te : TypeId} {i : Nat} {r : E} (h : VecOK P w O te (at_ ρ i).loc (r.ev ρ)) : (mkJoin i r).ev ρ = .s (at_ ρ i).loc (r.ev ρ).rows := by
  obtain ⟨ks, us, hk, ⟨v', hc⟩, -⟩ := h
  unfold mkJoin
  split
  · rename_i j
    split
    · rename_i e; subst e
      simp only [E.ev] at hc ⊢
      rw [hc]; rfl
    · rfl
  · rfl
theorem mkJoin_wf {n i : Nat} {r : E} (hi : i < n) (hr : r.wf n = true) : (mkJoin i r).wf n = true := by
  unfold mkJoin
  split
  · split
    · simpa [E.wf] using hi
    · simp only [E.wf, Bool.and_eq_true, Nat.blt_eq] at hr ⊢; exact ⟨hi, hr⟩
  · simp only [E.wf, Bool.and_eq_true, Nat.blt_eq]; exact ⟨hi, hr⟩
theorem Lf.frz_spec {P : Program} {w : World} {O O' : Nat → Nat → Prop} {Γ : Env} {te : TypeId} {i n : Nat} {rows : List (List C)} (hn : at_ Γ.ρ n = .s (at_ Γ.ρ i).loc rows) (hA : ArrOK P w O' te (at_ Γ.ρ n)) (hlen : ∃ a cap, (at_ Γ.ρ i).loc = .slice a rows.length cap) (hO : ∀ b o, O' b o → O b o)
    {l : Lf} (ho : frzOk te i l = true) (h : l.ok P w O Γ) : (l.frz i n).den Γ = l.den Γ ∧ (l.frz i n).ok P w O' Γ := by
  have other : (l.frz i n) = l → (l.frz i n).den Γ = l.den Γ ∧ (l.frz i n).ok P w O' Γ := fun e => by rw [e]; exact ⟨rfl, Lf.ok_anti h hO⟩
  cases l with
  | vec t j =>
    by_cases hj : j = i
    · subst hj
      simp only [frzOk, Nat.beq_refl, Bool.not_true, Bool.false_or] at ho
      have := Nat.eq_of_beq_eq_true ho
      subst this
      simp only [Lf.frz, if_true, Lf.den, E.ev, hn, C.loc, Lf.ok]
      rw [hn] at hA
      exact ⟨trivial, hA⟩
    · exact other (by simp [Lf.frz, hj])
  | velp t sz j x o =>
    by_cases hj : j = i
    · subst hj
      simp only [frzOk, Nat.beq_refl, Bool.not_true, Bool.false_or] at ho
      have := Nat.eq_of_beq_eq_true ho
      subst this
      obtain ⟨b, m, cap, h1, h2, h3, h4⟩ := h
      obtain ⟨a, cap', hl⟩ := hlen
      rw [hl] at h1
      cases h1
      simp only [Lf.frz, if_true, Lf.den, E.ev, hn, C.loc, Lf.ok]
      rw [hn] at hA
      exact ⟨trivial, hA, h3, by simpa [C.rows] using h4, h2⟩
    · exact other (by simp [Lf.frz, hj])
  | _ => exact other rfl
theorem look_map {α β : Type} (g : α → β) : ∀ (l : List (Nat × Option α)) (t : Nat), look (l.map fun p => (p.1, p.2.map g)) t = (look l t).map g
  | [], _ => rfl
  | (k, v) :: l, t => by
    simp only [List.map_cons, look]
    split
    · rfl
    · exact look_map g l t
theorem Sat.freeze {P : Program} {F : Nat → Prop} {w0 : World} {Γ : Env} {st st' : St} {a : Act} {w : World} (h : Sat P F w0 Γ st a w) {i : Nat} {e : E} (hf : st.freeze i = some (e, st')) :
    Ext Γ { Γ with ρ := Γ.ρ ++ [e.ev Γ.ρ] } ∧ Sat P F w0 { Γ with ρ := Γ.ρ ++ [e.ev Γ.ρ] } st' a w ∧ st'.lvl = st.lvl := by
  unfold St.freeze at hf
  split at hf
  · rename_i ve hi
    split at hf
    · rename_i hc
      simp only [Bool.and_eq_true] at hc
      obtain ⟨⟨hw, c1⟩, c2⟩ := hc
      cases hf
      have hve := h.vec i ve hi
      have hjoin := mkJoin_ev hve.1
      generalize hcc : (mkJoin i ve.2).ev Γ.ρ = c at *
      have hcs : ∀ n, c.small n := fun n => by
        rw [hjoin]
        obtain ⟨v', hv'⟩ := hve.1.choose_spec.choose_spec.2.1
        exact C.small_rows (.inl hve.1.small) (Nat.le_refl _) (fun _ h => h) _ n
      have hsm : Smalls (Γ.ρ ++ [c]) := h.num.len.app fun x hx n => by simp at hx; subst hx; exact hcs n
      have he : Ext Γ { Γ with ρ := Γ.ρ ++ [c] } := ⟨⟨[c], rfl⟩, fun _ _ => rfl, Nat.le_refl _, rfl, rfl⟩
      refine ⟨he, ?_, rfl⟩
      have hg := h.grow hw hsm
      simp only [List.length_cons, List.length_nil, Nat.zero_add] at hg
      have hat : at_ (Γ.ρ ++ [c]) st.nx = c := by rw [← h.len]; exact at_app (j := 0) (by simp)
      have hati : at_ (Γ.ρ ++ [c]) i = at_ Γ.ρ i := h.vec_at he hi
      have hown : ∀ b o, Own { Γ with ρ := Γ.ρ ++ [c] } { st with nx := st.nx + 1, vec := (i, none) :: st.vec, sl := st.sl.map fun p => (p.1, p.2.map (SV.frz i st.nx)), mem := st.mem.map fun p => (p.1, p.2.map fun mb => (mb.1, mb.2.map (Lf.frz i st.nx))) } b o → Own { Γ with ρ := Γ.ρ ++ [c] } { st with nx := st.nx + 1 } b o ∧ ((at_ Γ.ρ i).loc.ownBlock = some b → False) := by
        rintro b o (hb | ⟨j, mb, hj, rfl⟩ | ⟨j, e, hj, hb⟩)
        · exact ⟨.inl hb, fun hbi => (hve.2.2 b hbi).2 o hb⟩
        · rw [look_map] at hj
          cases hm : look st.mem j with
          | none => rw [hm] at hj; cases hj
          | some mb' => exact ⟨.inr (.inl ⟨j, mb', hm, rfl⟩), fun hbi => by have := (h.inj _ _ _ _ _ (Hold.mem (Γ := Γ) hm) (Hold.vec (Γ := Γ) hi hbi)).1; cases this⟩
        · simp only [look] at hj
          split at hj
          · cases hj
          · rename_i hne
            have hbj := hb
            rw [h.vec_at he hj] at hbj
            exact ⟨.inr (.inr ⟨j, e, hj, hb⟩), fun hbi => hne (h.inj _ _ _ _ _ (Hold.vec (Γ := Γ) hi hbi) (Hold.vec (Γ := Γ) hj hbj)).2⟩
      generalize hst' : ({ st with nx := st.nx + 1, vec := (i, none) :: st.vec, sl := st.sl.map fun p => (p.1, p.2.map (SV.frz i st.nx)), mem := st.mem.map fun p => (p.1, p.2.map fun mb => (mb.1, mb.2.map (Lf.frz i st.nx))) } : St) = st' at *
      have hO : ∀ b o, Own { Γ with ρ := Γ.ρ ++ [c] } st' b o → Own { Γ with ρ := Γ.ρ ++ [c] } { st with nx := st.nx + 1 } b o := fun b o hb => (hown b o hb).1
      have hgi := hg.vec i ve hi
      have hevi : ve.2.ev (Γ.ρ ++ [c]) = ve.2.ev Γ.ρ := E.ev_ext _ (h.wf_vec hw hi)
      have hn : at_ (Γ.ρ ++ [c]) st.nx = .s (at_ (Γ.ρ ++ [c]) i).loc (ve.2.ev (Γ.ρ ++ [c])).rows := hat.trans (hjoin.trans (by rw [hati, hevi]))
      have hA : ArrOK P w (Own { Γ with ρ := Γ.ρ ++ [c] } st') ve.1 (at_ (Γ.ρ ++ [c]) st.nx) := by
        have := hgi.1.arr hO (fun b hb o ho => by
          have hb' : (at_ Γ.ρ i).loc.ownBlock = some b := by rw [← hati]; exact hb
          exact (hown b o ho).2 hb')
        rw [hn]
        exact this
      have leaf : ∀ l : Lf, frzOk ve.1 i l = true → l.ok P w (Own { Γ with ρ := Γ.ρ ++ [c] } { st with nx := st.nx + 1 }) { Γ with ρ := Γ.ρ ++ [c] } → (l.frz i st.nx).den { Γ with ρ := Γ.ρ ++ [c] } = l.den { Γ with ρ := Γ.ρ ++ [c] } ∧ (l.frz i st.nx).ok P w (Own { Γ with ρ := Γ.ρ ++ [c] } st') { Γ with ρ := Γ.ρ ++ [c] } :=
        fun l h1 h2 => Lf.frz_spec (Γ := { Γ with ρ := Γ.ρ ++ [c] }) hn hA hgi.1.slice hO h1 h2
      have s0 : ∀ s : S0, (∀ l ∈ s.cells, frzOk ve.1 i l = true) → s.ok P w (Own { Γ with ρ := Γ.ρ ++ [c] } { st with nx := st.nx + 1 }) { Γ with ρ := Γ.ρ ++ [c] } → (s.frz i st.nx).den { Γ with ρ := Γ.ρ ++ [c] } = s.den { Γ with ρ := Γ.ρ ++ [c] } ∧ (s.frz i st.nx).ok P w (Own { Γ with ρ := Γ.ρ ++ [c] } st') { Γ with ρ := Γ.ρ ++ [c] } := fun s h1 h2 => by
        cases s with
        | lf l =>
          have := leaf l (h1 l (by simp [S0.cells])) (h2 l (by simp [S0.cells]))
          exact ⟨this.1, fun x hx => by simp [S0.frz, S0.cells] at hx; subst hx; exact this.2⟩
        | agg ls =>
          refine ⟨?_, fun x hx => ?_⟩
          · simp only [S0.frz, S0.den, dens, List.map_map]
            congr 2
            exact List.map_congr_left fun l hl => (leaf l (h1 l hl) (h2 l hl)).1
          · simp only [S0.frz, S0.cells, List.mem_map] at hx
            obtain ⟨l, hl, rfl⟩ := hx
            exact (leaf l (h1 l hl) (h2 l hl)).2
      have look_all : ∀ {α : Type} {g : Option α → Bool} {l : List (Nat × Option α)} {t : Nat} {v : α}, l.all (fun p => g p.2) = true → look l t = some v → g (some v) = true := fun {α g l t v} h1 h2 => look_wf (f := fun _ => g) h1 h2
      have hmm : ∀ b mb, look st'.mem b = some mb → ∃ mb', look st.mem b = some mb' ∧ mb = (mb'.1, mb'.2.map (Lf.frz i st.nx)) := fun b mb hb => by
        rw [← hst'] at hb
        simp only [] at hb
        rw [look_map] at hb
        cases hm : look st.mem b with
        | none => rw [hm] at hb; cases hb
        | some mb' => rw [hm] at hb; cases hb; exact ⟨mb', rfl, rfl⟩
      refine ⟨fun t sv hs => ?_, by rw [← hst']; exact h.size, fun b mb hb => ?_, fun j e hj => ?_, fun j e hj => ?_, fun s j s' j' b h1 h2 => ?_, h.keeps, h.fold, h.base, h.defers, by rw [← hst']; exact hg.len, by rw [← hst']; exact h.nb, by rw [← hst']; exact hg.num⟩
      · rw [← hst'] at hs
        simp only [] at hs
        rw [look_map] at hs
        cases hsv : look st.sl t with
        | none => rw [hsv] at hs; cases hs
        | some sv' =>
          rw [hsv] at hs
          cases hs
          obtain ⟨g1, g2⟩ := hg.slots t sv' hsv
          have hall : ∀ l ∈ sv'.cells, frzOk ve.1 i l = true := List.all_eq_true.1 (look_all (g := fun o => match o with | some sv => sv.cells.all (frzOk ve.1 i) | none => true) c1 hsv)
          cases sv' with
          | one s =>
            obtain ⟨k1, k2⟩ := s0 s hall g2
            exact ⟨by rw [g1]; exact k1.symm, k2⟩
          | tup ss =>
            have hss : ∀ s ∈ ss, (s.frz i st.nx).den { Γ with ρ := Γ.ρ ++ [c] } = s.den { Γ with ρ := Γ.ρ ++ [c] } ∧ (s.frz i st.nx).ok P w (Own { Γ with ρ := Γ.ρ ++ [c] } st') { Γ with ρ := Γ.ρ ++ [c] } := fun s hs => s0 s (fun l hl => hall l (List.mem_flatMap.2 ⟨s, hs, hl⟩)) (g2 s hs)
            refine ⟨?_, fun s hs => ?_⟩
            · rw [g1]
              simp only [SV.den, SV.frz, List.map_map]
              congr 2
              exact List.map_congr_left fun s hs => (hss s hs).1.symm
            · obtain ⟨s', hs', rfl⟩ := List.mem_map.1 hs
              exact (hss s' hs').2
          | fn f ls =>
            exact ⟨g1, fun l hl => Lf.ok_anti (g2 l hl) hO⟩
      · obtain ⟨mb', hm, rfl⟩ := hmm b mb hb
        obtain ⟨m1, m2, m3, m4⟩ := hg.mem b mb' hm
        have hall : ∀ l ∈ mb'.2, frzOk ve.1 i l = true := List.all_eq_true.1 (look_all (g := fun o => match o with | some mb => mb.2.all (frzOk ve.1 i) | none => true) c2 hm)
        refine ⟨?_, fun l hl => ?_, m3, by rw [← hst']; exact m4⟩
        · have : dens { Γ with ρ := Γ.ρ ++ [c] } (mb'.2.map (Lf.frz i st.nx)) = dens { Γ with ρ := Γ.ρ ++ [c] } mb'.2 := by
            unfold dens
            rw [List.map_map]
            congr 1
            exact List.map_congr_left fun l hl => (leaf l (hall l hl) (m2 l hl)).1
          rw [this]; exact m1
        · obtain ⟨l', hl', rfl⟩ := List.mem_map.1 hl
          exact (leaf l' (hall l' hl') (m2 l' hl')).2
      · rw [← hst'] at hj
        simp only [look] at hj
        split at hj
        · cases hj
        · obtain ⟨k1, k2, k3⟩ := hg.vec j e hj
          exact ⟨k1.anti hO, by rw [← hst']; exact k2, k3⟩
      · have hj' : look st.clo j = some e := by rw [← hst'] at hj; exact hj
        obtain ⟨k1, k2, k3⟩ := hg.clo j e hj'
        exact ⟨k1, fun s hs l hl => Lf.ok_anti (k2 s hs l hl) hO, fun l hl => Lf.ok_anti (k3 l hl) hO⟩
      · have conv : ∀ s j, Hold { Γ with ρ := Γ.ρ ++ [c] } st' s j b → Hold { Γ with ρ := Γ.ρ ++ [c] } { st with nx := st.nx + 1 } s j b := fun s j hh =>
          Hold.congr (Γ := { Γ with ρ := Γ.ρ ++ [c] }) (st := { st with nx := st.nx + 1 }) (Γ' := { Γ with ρ := Γ.ρ ++ [c] }) (st' := st') (fun j mb hj => by obtain ⟨mb', hm, -⟩ := hmm j mb hj; exact ⟨⟨mb', hm⟩, rfl⟩) (fun j e hj => by
            rw [← hst'] at hj
            simp only [look] at hj
            split at hj
            · cases hj
            · exact ⟨⟨e, hj⟩, rfl⟩) hh
        exact hg.inj _ _ _ _ _ (conv _ _ h1) (conv _ _ h2)
    · cases hf
  · cases hf
end Go.Proofs.Ytlbgcjpkegpmlaa
