/- The engine, part 4: memory of slices; what each operation yields that leaves the world alone. -/
import Derived.Test.YtlbgcjpkegpmlaaEc
namespace Go.Proofs.Ytlbgcjpkegpmlaa
open Go.RowKit
set_option linter.unusedSimpArgs false

/-! What lies in a type's cells -/
inductive Lk where
  | int
  | bool
  | arr (t : TypeId)
  /-- A slice of one's own (never in a row of a slice). -/
  | vec (t : TypeId)
  deriving DecidableEq, Repr, Inhabited
def kindsF (P : Program) : Nat → TypeId → Option (List Lk)
  | 0, _ => none
  | d + 1, t => match P.underlying t with
    | some (.int .i64) => some [.int]
    | some .bool => some [.bool]
    | some (.slice e) => some [.arr e]
    | some (.struct fs) => fs.toList.foldl (fun acc f => match acc, kindsF P d f.type with
      | some l, some m => if l.length = f.offset then some (l ++ m) else none
      | _, _ => none) (some [])
    | some (.array n e) => (kindsF P d e).map fun l => (List.replicate n l).flatten
    | _ => none
/-- The kinds of a type's cells, as many as its size says. -/
def kinds (P : Program) (t : TypeId) : Option (List Lk) :=
  match kindsF P 6 t with
  | some l => if sizeIs P t = some l.length ∧ l.length ≠ 0 then some l else none
  | none => none
theorem kinds_size {P : Program} {t : TypeId} {l : List Lk} (h : kinds P t = some l) : sizeIs P t = some l.length ∧ l.length ≠ 0 := by
  unfold kinds at h
  split at h
  · split at h
    · rename_i h1; cases h; exact h1
    · cases h
  · cases h

/-- A slice in memory, its blocks in S. -/
def ArrN (P : Program) (S : Nat → Nat → Prop) (w : World) : Nat → TypeId → Value → List (List C) → Prop
  | 0, _, _, _ => False
  | d + 1, te, v, rows => ∃ ks, kinds P te = some ks ∧ ∃ a cap, v = .slice a rows.length cap ∧ (rows ≠ [] → ∃ b o, a = some ⟨b, o, none⟩ ∧
      ∀ i r, rows[i]? = some r → r.length = ks.length ∧ ∀ j k, ks[j]? = some k → S b (o + (i * ks.length + j)) ∧ ∃ u c, w.cell? ⟨b, o + (i * ks.length + j), none⟩ = some u ∧ r[j]? = some c ∧
        match k with
        | .int => ∃ n, u = .int .i64 n ∧ c = .i n
        | .bool => ∃ t, u = .bool t ∧ c = .b t
        | .arr t => ∃ rows', c = .s u rows' ∧ ArrN P S w d t u rows'
        | .vec _ => False)
theorem ArrN.keep {P : Program} {S : Nat → Nat → Prop} {w w' : World} (h : ∀ b o, S b o → w'.cell? ⟨b, o, none⟩ = w.cell? ⟨b, o, none⟩) : ∀ (d : Nat) (te : TypeId) (v : Value) (rows : List (List C)), ArrN P S w d te v rows → ArrN P S w' d te v rows
  | 0, _, _, _, hh => hh
  | d + 1, te, v, rows, ⟨ks, hk, a, cap, hv, hh⟩ => by
    refine ⟨ks, hk, a, cap, hv, fun hne => ?_⟩
    obtain ⟨b, o, ha, hr⟩ := hh hne
    refine ⟨b, o, ha, fun i r hi => ?_⟩
    obtain ⟨hl, hc⟩ := hr i r hi
    refine ⟨hl, fun j k hj => ?_⟩
    obtain ⟨hS, u, c, hu, hrj, hm⟩ := hc j k hj
    refine ⟨hS, u, c, ?_, hrj, ?_⟩
    · rw [← hu]; exact h b _ hS
    · cases k with
      | int => exact hm
      | bool => exact hm
      | vec t => exact hm
      | arr t =>
        obtain ⟨rows', hc, hn⟩ := hm
        exact ⟨rows', hc, ArrN.keep h d t u rows' hn⟩
theorem ArrN.slice {P : Program} {S : Nat → Nat → Prop} {w : World} {d : Nat} {te : TypeId} {v : Value} {rows : List (List C)} (h : ArrN P S w d te v rows) : ∃ a cap, v = .slice a rows.length cap := by
  cases d with
  | zero => exact h.elim
  | succ d => obtain ⟨ks, hk, a, cap, hv, hh⟩ := h; exact ⟨a, cap, hv⟩

/-- A slice that none of the blocks 'Own' holds. -/
def ArrOK (P : Program) (w : World) (Own : Nat → Nat → Prop) (te : TypeId) (c : C) : Prop :=
  ∃ v rows, c = .s v rows ∧ ∃ d S, (∀ b o, S b o → b < w.heap.size ∧ ¬ Own b o) ∧ ArrN P S w d te v rows
theorem ArrOK.keep {P : Program} {w w' : World} {Own Own' : Nat → Nat → Prop} {te : TypeId} {c : C} (h : ArrOK P w Own te c) (hs : w.heap.size ≤ w'.heap.size)
    (hh : ∀ b o, b < w.heap.size → ¬ Own b o → w'.cell? ⟨b, o, none⟩ = w.cell? ⟨b, o, none⟩ ∧ ¬ Own' b o) : ArrOK P w' Own' te c := by
  obtain ⟨v, rows, hc, d, S, hS, hA⟩ := h
  exact ⟨v, rows, hc, d, S, fun b o hb => ⟨by have := (hS b o hb).1; omega, (hh b o (hS b o hb).1 (hS b o hb).2).2⟩, hA.keep (fun b o hb => (hh b o (hS b o hb).1 (hS b o hb).2).1)⟩

/-- A cell's value and what it stands for. -/
def CRep (P : Program) (w : World) (Base : Nat → Nat → Prop) (k : Lk) (u : Value) (c : C) : Prop :=
  (∀ n, c.small n) ∧ match k with
  | .int => ∃ n, u = .int .i64 n ∧ c = .i n
  | .bool => ∃ t, u = .bool t ∧ c = .b t
  | .arr t => u = c.loc ∧ ArrOK P w Base t c
  | .vec _ => False
def CReps (P : Program) (w : World) (Base : Nat → Nat → Prop) : List Lk → List Value → List C → Prop
  | [], [], [] => True
  | k :: ks, u :: us, c :: cs => CRep P w Base k u c ∧ CReps P w Base ks us cs
  | _, _, _ => False
/-- The kinds of so many rows. -/
def rowsK (n : Nat) (ks : List Lk) : List Lk := (List.replicate n ks).flatten
/-- A slice of one's own: its row of cells belongs to nobody else. -/
def VecOK (P : Program) (w : World) (O : Nat → Nat → Prop) (te : TypeId) (v : Value) (c : C) : Prop :=
  ∃ ks us, kinds P te = some ks ∧ (∃ v', c = .s v' c.rows) ∧ (∀ r ∈ c.rows, r.length = ks.length) ∧ CReps P w O (rowsK c.rows.length ks) us c.rows.flatten ∧ w.ownsRow 0 te ks.length v c.rows.length us
section
variable {P : Program} {w w' : World} {O O' : Nat → Nat → Prop}
theorem CRep.keep {k : Lk} {u : Value} {c : C} (h : CRep P w O k u c) (hs : w.heap.size ≤ w'.heap.size)
    (hh : ∀ b o, b < w.heap.size → ¬ O b o → w'.cell? ⟨b, o, none⟩ = w.cell? ⟨b, o, none⟩ ∧ ¬ O' b o) : CRep P w' O' k u c := by
  refine ⟨h.1, ?_⟩
  have h2 := h.2
  cases k with
  | arr t => exact ⟨h2.1, h2.2.keep hs hh⟩
  | _ => exact h2
theorem CReps.keep (hs : w.heap.size ≤ w'.heap.size) (hh : ∀ b o, b < w.heap.size → ¬ O b o → w'.cell? ⟨b, o, none⟩ = w.cell? ⟨b, o, none⟩ ∧ ¬ O' b o) : ∀ {ks : List Lk} {us : List Value} {cs : List C}, CReps P w O ks us cs → CReps P w' O' ks us cs
  | [], [], [], _ => trivial
  | _ :: _, _ :: _, _ :: _, h => ⟨h.1.keep hs hh, CReps.keep hs hh h.2⟩
  | [], [], _ :: _, h => h.elim
  | [], _ :: _, _, h => h.elim
  | _ :: _, [], _, h => h.elim
  | _ :: _, _ :: _, [], h => h.elim
theorem CReps.append : ∀ {ks ls : List Lk} {us vs : List Value} {cs ds : List C}, CReps P w O ks us cs → CReps P w O ls vs ds → CReps P w O (ks ++ ls) (us ++ vs) (cs ++ ds)
  | [], _, [], _, [], _, _, h => h
  | _ :: _, _, _ :: _, _, _ :: _, _, h, h' => ⟨h.1, CReps.append h.2 h'⟩
  | [], _, [], _, _ :: _, _, h, _ => h.elim
  | [], _, _ :: _, _, _, _, h, _ => h.elim
  | _ :: _, _, [], _, _, _, h, _ => h.elim
  | _ :: _, _, _ :: _, _, [], _, h, _ => h.elim
theorem CReps.len : ∀ {ks : List Lk} {us : List Value} {cs : List C}, CReps P w O ks us cs → us.length = ks.length ∧ cs.length = ks.length
  | [], [], [], _ => ⟨rfl, rfl⟩
  | _ :: _, _ :: _, _ :: _, h => by have := CReps.len h.2; simp [this.1, this.2]
  | [], [], _ :: _, h => h.elim
  | [], _ :: _, _, h => h.elim
  | _ :: _, [], _, h => h.elim
  | _ :: _, _ :: _, [], h => h.elim
theorem CReps.get : ∀ {ks : List Lk} {us : List Value} {cs : List C}, CReps P w O ks us cs → ∀ {j : Nat} {k : Lk}, ks[j]? = some k → ∃ u c, us[j]? = some u ∧ cs[j]? = some c ∧ CRep P w O k u c
  | [], [], [], _, j, k, hj => by simp at hj
  | _ :: _, u :: _, c :: _, h, 0, k, hj => by simp at hj; subst hj; exact ⟨u, c, rfl, rfl, h.1⟩
  | _ :: _, _ :: _, _ :: _, h, j + 1, k, hj => by simpa using CReps.get h.2 (j := j) (by simpa using hj)
  | [], [], _ :: _, h, _, _, _ => h.elim
  | [], _ :: _, _, h, _, _, _ => h.elim
  | _ :: _, [], _, h, _, _, _ => h.elim
  | _ :: _, _ :: _, [], h, _, _, _ => h.elim
theorem CReps.set : ∀ {ks : List Lk} {us : List Value} {cs : List C}, CReps P w O ks us cs → ∀ {j : Nat} {k : Lk} {u : Value} {c : C}, ks[j]? = some k → CRep P w O k u c → CReps P w O ks (us.set j u) (cs.set j c)
  | [], [], [], _, j, k, _, _, hj, _ => by simp at hj
  | _ :: _, _ :: _, _ :: _, h, 0, k, _, _, hj, h' => by simp at hj; subst hj; exact ⟨h', h.2⟩
  | _ :: _, _ :: _, _ :: _, h, j + 1, k, _, _, hj, h' => ⟨h.1, CReps.set h.2 (j := j) (by simpa using hj) h'⟩
  | [], [], _ :: _, h, _, _, _, _, _, _ => h.elim
  | [], _ :: _, _, h, _, _, _, _, _, _ => h.elim
  | _ :: _, [], _, h, _, _, _, _, _, _ => h.elim
  | _ :: _, _ :: _, [], h, _, _, _, _, _, _ => h.elim
theorem rowsK_zero (ks : List Lk) : rowsK 0 ks = [] := rfl
theorem rowsK_succ (n : Nat) (ks : List Lk) : rowsK (n + 1) ks = ks ++ rowsK n ks := by simp [rowsK, List.replicate_succ]
theorem rowsK_add (n m : Nat) (ks : List Lk) : rowsK (n + m) ks = rowsK n ks ++ rowsK m ks := by
  induction n with
  | zero => simp [rowsK]
  | succ n ih => rw [show n + 1 + m = (n + m) + 1 by omega, rowsK_succ, rowsK_succ, ih, List.append_assoc]
theorem rowsK_len (n : Nat) (ks : List Lk) : (rowsK n ks).length = n * ks.length := by
  induction n with
  | zero => simp [rowsK]
  | succ n ih => rw [rowsK_succ, List.length_append, ih, Nat.add_mul]; omega
theorem rowsK_get {n i j : Nat} {ks : List Lk} (hi : i < n) (hj : j < ks.length) : (rowsK n ks)[i * ks.length + j]? = ks[j]? := by
  induction n generalizing i with
  | zero => omega
  | succ n ih =>
    rw [rowsK_succ]
    cases i with
    | zero => rw [Nat.zero_mul, Nat.zero_add, List.getElem?_append_left hj]
    | succ i =>
      rw [List.getElem?_append_right (by rw [Nat.add_mul]; omega), show (i + 1) * ks.length + j - ks.length = i * ks.length + j by rw [Nat.add_mul]; omega]
      exact ih (by omega)
theorem flatten_get {α : Type} {sz : Nat} : ∀ (rows : List (List α)), (∀ r ∈ rows, r.length = sz) → ∀ (i j : Nat) (r : List α), rows[i]? = some r → j < sz → rows.flatten[i * sz + j]? = r[j]?
  | [], _, i, j, r, h, _ => by simp at h
  | x :: rows, hl, 0, j, r, h, hj => by
    simp at h
    subst h
    rw [List.flatten_cons, Nat.zero_mul, Nat.zero_add, List.getElem?_append_left (by rw [hl x (by simp)]; exact hj)]
  | x :: rows, hl, i + 1, j, r, h, hj => by
    rw [List.flatten_cons, List.getElem?_append_right (by rw [hl x (by simp), Nat.add_mul]; omega), hl x (by simp)]
    have := flatten_get rows (fun r hr => hl r (by simp [hr])) i j r (by simpa using h) hj
    rw [← this]
    congr 1
    rw [Nat.add_mul]; omega
theorem VecOK.keep {te : TypeId} {v : Value} {c : C} (h : VecOK P w O te v c) (hs : w.heap.size ≤ w'.heap.size)
    (hh : ∀ b o, b < w.heap.size → ¬ O b o → w'.cell? ⟨b, o, none⟩ = w.cell? ⟨b, o, none⟩ ∧ ¬ O' b o) (hb : ∀ b, v.ownBlock = some b → w'.heap[b]? = w.heap[b]?) : VecOK P w' O' te v c := by
  obtain ⟨ks, us, h1, h2, h3, h4, h5⟩ := h
  refine ⟨ks, us, h1, h2, h3, h4.keep hs hh, h5.1, ?_⟩
  rcases h5.2 with hn | ⟨g, cap, cur, rfl, k1, k2, k3⟩
  · exact .inl hn
  · exact .inr ⟨g, cap, cur, rfl, k1, by rw [hb g rfl]; exact k2, k3⟩
theorem VecOK.anti {te : TypeId} {v : Value} {c : C} (h : VecOK P w O te v c) (hh : ∀ b o, O' b o → O b o) : VecOK P w O' te v c :=
  h.keep (Nat.le_refl _) (fun b o _ hno => ⟨rfl, fun ho => hno (hh b o ho)⟩) fun _ _ => rfl
theorem VecOK.slice {te : TypeId} {v : Value} {c : C} (h : VecOK P w O te v c) : ∃ a cap, v = .slice a c.rows.length cap := by
  obtain ⟨ks, us, h1, h2, h3, h4, h5⟩ := h
  rcases h5.2 with ⟨rfl, hn⟩ | ⟨g, cap, cur, rfl, -⟩
  · exact ⟨none, 0, by rw [hn]⟩
  · exact ⟨_, cap, rfl⟩
theorem VecOK.lt {te : TypeId} {v : Value} {c : C} (h : VecOK P w O te v c) {b : Nat} (hb : v.ownBlock = some b) : b < w.heap.size := by
  obtain ⟨ks, us, h1, h2, h3, h4, h5⟩ := h
  exact (h5.lt b hb).2
end
/-- Data of a slice's kind. -/
def TyN (P : Program) : Nat → TypeId → List (List C) → Prop
  | 0, _, _ => False
  | d + 1, te, rows => ∃ ks : List Lk, kinds P te = some ks ∧ ∀ r ∈ rows, r.length = ks.length ∧ ∀ (j : Nat) (k : Lk), ks[j]? = some k → ∃ c : C, r[j]? = some c ∧
      match k with
      | .int => ∃ n, c = .i n
      | .bool => ∃ t, c = .b t
      | .arr t => ∃ v rows', c = .s v rows' ∧ TyN P d t rows'
      | .vec _ => False
def Lf.ok (P : Program) (w : World) (Own : Nat → Nat → Prop) (Γ : Env) : Lf → Prop
  | .arr te a => ArrOK P w Own te (a.ev Γ.ρ)
  | .elp te sz a x _ => ArrOK P w Own te (a.ev Γ.ρ) ∧ 0 ≤ x.den Γ.ρ ∧ x.den Γ.ρ < ((a.ev Γ.ρ).rows.length : Int) ∧ sizeIs P te = some sz
  | .vec _ i => ∃ a n cap, (at_ Γ.ρ i).loc = .slice a n cap
  | .velp te sz i x _ => ∃ b n cap, (at_ Γ.ρ i).loc = .slice (some ⟨b, 0, none⟩) n cap ∧ sizeIs P te = some sz ∧ 0 ≤ x.den Γ.ρ ∧ x.den Γ.ρ < (n : Int)
  | .clo i => ∃ f a c, (at_ Γ.ρ i).loc = .func (.func f) a c
  | .cnt te r => ∃ v rows d, r.ev Γ.ρ = .s v rows ∧ TyN P d te rows ∧ ∀ n, (C.s v rows).small n
  | _ => True
def S0.ok (P : Program) (w : World) (Own : Nat → Nat → Prop) (Γ : Env) (s : S0) : Prop := ∀ l ∈ s.cells, l.ok P w Own Γ
def SV.ok (P : Program) (w : World) (Own : Nat → Nat → Prop) (Γ : Env) : SV → Prop
  | .one s => s.ok P w Own Γ
  | .tup l => ∀ s ∈ l, s.ok P w Own Γ
  | .fn _ l => ∀ x ∈ l, x.ok P w Own Γ
theorem Lf.ok_keep {P : Program} {w w' : World} {Own Own' : Nat → Nat → Prop} {Γ : Env} {l : Lf} (h : l.ok P w Own Γ) (hs : w.heap.size ≤ w'.heap.size)
    (hh : ∀ b o, b < w.heap.size → ¬ Own b o → w'.cell? ⟨b, o, none⟩ = w.cell? ⟨b, o, none⟩ ∧ ¬ Own' b o) : l.ok P w' Own' Γ := by
  cases l with
  | arr te a => exact ArrOK.keep h hs hh
  | elp te sz a x o => exact ⟨ArrOK.keep h.1 hs hh, h.2⟩
  | _ => exact h
theorem SV.ok_keep {P : Program} {w w' : World} {Own Own' : Nat → Nat → Prop} {Γ : Env} {l : SV} (h : l.ok P w Own Γ) (hs : w.heap.size ≤ w'.heap.size)
    (hh : ∀ b o, b < w.heap.size → ¬ Own b o → w'.cell? ⟨b, o, none⟩ = w.cell? ⟨b, o, none⟩ ∧ ¬ Own' b o) : l.ok P w' Own' Γ := by
  cases l with
  | one s => exact fun l hl => Lf.ok_keep (h l hl) hs hh
  | tup ss => exact fun s hs' l hl => Lf.ok_keep (h s hs' l hl) hs hh
  | fn f ls => exact fun l hl => Lf.ok_keep (h l hl) hs hh
theorem Lf.ok_ext {P : Program} {w : World} {Own : Nat → Nat → Prop} {Γ Γ' : Env} (he : Ext Γ Γ') {l : Lf} (hw : l.wf Γ.ρ.length Γ.nb = true) (h : l.ok P w Own Γ) : l.ok P w Own Γ' := by
  obtain ⟨m, e⟩ := he.ρ
  cases l with
  | arr te a => simp only [Lf.wf] at hw; simp only [Lf.ok, e, E.ev_ext _ hw] at h ⊢; exact h
  | elp te sz a x o =>
    simp only [Lf.wf, Bool.and_eq_true] at hw
    simp only [Lf.ok, e, E.ev_ext _ hw.1, E.den_ext _ hw.2] at h ⊢; exact h
  | vec te i => simp only [Lf.wf, Nat.blt_eq] at hw; simp only [Lf.ok, e, at_ext hw] at h ⊢; exact h
  | clo i => simp only [Lf.wf, Nat.blt_eq] at hw; simp only [Lf.ok, e, at_ext hw] at h ⊢; exact h
  | velp te sz i x o => simp only [Lf.wf, Bool.and_eq_true, Nat.blt_eq] at hw; simp only [Lf.ok, e, at_ext hw.1, E.den_ext _ hw.2] at h ⊢; exact h
  | cnt te r => simp only [Lf.wf] at hw; simp only [Lf.ok, e, E.ev_ext _ hw] at h ⊢; exact h
  | _ => trivial
theorem SV.ok_ext {P : Program} {w : World} {Own : Nat → Nat → Prop} {Γ Γ' : Env} (he : Ext Γ Γ') {l : SV} (hw : l.wf Γ.ρ.length Γ.nb = true) (h : l.ok P w Own Γ) : l.ok P w Own Γ' := by
  cases l with
  | one s =>
    cases s with
    | lf l => exact fun x hx => by simp [S0.cells] at hx; subst hx; exact Lf.ok_ext he hw (h _ (by simp [S0.cells]))
    | agg ls => exact fun x hx => Lf.ok_ext he (List.all_eq_true.1 hw x hx) (h x hx)
  | tup ss =>
    intro s hs x hx
    have hws := List.all_eq_true.1 hw s hs
    cases s with
    | lf l => simp [S0.cells] at hx; subst hx; exact Lf.ok_ext he hws (h _ hs _ (by simp [S0.cells]))
    | agg ls => exact Lf.ok_ext he (List.all_eq_true.1 hws x hx) (h _ hs x hx)
  | fn f ls => exact fun x hx => Lf.ok_ext he (List.all_eq_true.1 hw x hx) (h x hx)

theorem ArrOK.anti {P : Program} {w : World} {O O' : Nat → Nat → Prop} {te : TypeId} {c : C} (h : ArrOK P w O te c) (hh : ∀ b o, O' b o → O b o) : ArrOK P w O' te c := by
  obtain ⟨v, rows, hc, d, S, hS, hA⟩ := h
  exact ⟨v, rows, hc, d, S, fun b o hb => ⟨(hS b o hb).1, fun ho => (hS b o hb).2 (hh b o ho)⟩, hA⟩
theorem Lf.ok_anti {P : Program} {w : World} {O O' : Nat → Nat → Prop} {Γ : Env} {l : Lf} (h : l.ok P w O Γ) (hh : ∀ b o, O' b o → O b o) : l.ok P w O' Γ := by
  cases l with
  | arr te a => exact ArrOK.anti h hh
  | elp te sz a x o => exact ⟨ArrOK.anti h.1 hh, h.2⟩
  | _ => exact h
theorem Lf.ok.anti' {P : Program} {w : World} {O O' : Nat → Nat → Prop} {Γ : Env} {l : Lf} (h : l.ok P w O Γ) (hh : ∀ b o, O' b o → O b o) : l.ok P w O' Γ := Lf.ok_anti h hh
/-- The cells of a row, read. -/
def rowLf (a x : E) : Nat → List Lk → List Lf
  | _, [] => []
  | o, .int :: l => .int (.cell a x o) :: rowLf a x (o + 1) l
  | o, .bool :: l => .bool (.of (.cell a x o)) :: rowLf a x (o + 1) l
  | o, .arr t :: l => .arr t (.cell a x o) :: rowLf a x (o + 1) l
  | o, .vec t :: l => .arr t (.cell a x o) :: rowLf a x (o + 1) l
theorem rowLf_get (a x : E) : ∀ (l : List Lk) (o j : Nat), (rowLf a x o l)[j]? = (l[j]?).map fun k => match k with
    | .int => Lf.int (.cell a x (o + j))
    | .bool => .bool (.of (.cell a x (o + j)))
    | .arr t => .arr t (.cell a x (o + j))
    | .vec t => .arr t (.cell a x (o + j))
  | [], o, j => by simp [rowLf]
  | k :: l, o, 0 => by cases k <;> simp [rowLf]
  | k :: l, o, j + 1 => by
    have := rowLf_get a x l (o + 1) j
    cases k <;> simp [rowLf, this, Nat.add_assoc, Nat.add_comm 1 j]
/-- What lies at a cell of a row. -/
theorem ArrOK.cell {P : Program} {w : World} {Own : Nat → Nat → Prop} {te : TypeId} {ks : List Lk} (hk : kinds P te = some ks) {Γ : Env} {a x : E} (h : ArrOK P w Own te (a.ev Γ.ρ)) (h0 : 0 ≤ x.den Γ.ρ)
    (h1 : x.den Γ.ρ < ((a.ev Γ.ρ).rows.length : Int)) : ∃ b o, (∀ k, elemAt (a.ev Γ.ρ).loc k = .pointer (some ⟨b, o + k, none⟩)) ∧
      ∀ j, j < ks.length → ∀ l, (rowLf a x 0 ks)[j]? = some l → w.cell? ⟨b, o + ((x.den Γ.ρ).toNat * ks.length + j), none⟩ = some (l.den Γ) ∧ l.ok P w Own Γ := by
  obtain ⟨v, rows, hc, d, S, hS, hA⟩ := h
  cases d with
  | zero => exact hA.elim
  | succ d =>
    obtain ⟨ks', hk', a', cap, hv, hh⟩ := hA
    obtain rfl : ks = ks' := Option.some.inj (hk.symm.trans hk')
    rw [hc] at h1
    simp only [C.rows] at h1
    have hne : rows ≠ [] := by intro e; subst e; simp at h1; omega
    obtain ⟨b, o, rfl, hr⟩ := hh hne
    subst hv
    refine ⟨b, o, fun k => by rw [hc]; simp only [C.loc, elemAt]; unfold Addr.add; split <;> simp_all, fun j hj l hl => ?_⟩
    have hlt : (x.den Γ.ρ).toNat < rows.length := by omega
    obtain ⟨hrl, hcell⟩ := hr (x.den Γ.ρ).toNat rows[(x.den Γ.ρ).toNat] (by simp [hlt])
    obtain ⟨-, u, c, hu, hrj, hm⟩ := hcell j ks[j] (by simp [hj])
    rw [rowLf_get] at hl
    simp only [List.getElem?_eq_getElem hj, Option.map_some, Option.some.injEq, Nat.zero_add] at hl
    have hat : (E.cell a x j).ev Γ.ρ = c := by
      simp only [E.ev, C.at, hc, C.rows]
      rw [show (x.ev Γ.ρ).int = x.den Γ.ρ from rfl]
      simp [List.getD_eq_getElem?_getD, hlt, hrj]
    rw [hu]
    generalize ks[j] = k at *
    cases k with
    | int =>
      obtain ⟨n, rfl, rfl⟩ := hm
      subst hl
      exact ⟨by simp only [Lf.den, E.den, hat, C.int], trivial⟩
    | bool =>
      obtain ⟨n, rfl, rfl⟩ := hm
      subst hl
      exact ⟨by simp only [Lf.den, B.den, hat, C.bool], trivial⟩
    | vec t => exact hm.elim
    | arr t =>
      obtain ⟨rows', rfl, hn⟩ := hm
      subst hl
      refine ⟨by simp only [Lf.den, hat, C.loc], ?_⟩
      simp only [Lf.ok, hat]
      exact ⟨_, _, rfl, d, S, hS, hn⟩
/-- What lies at a cell of a row of a slice of one's own. -/
theorem VecOK.cell {P : Program} {w : World} {O : Nat → Nat → Prop} {te : TypeId} {ks : List Lk} (hk : kinds P te = some ks) {Γ : Env} {v : Value} {a x : E} (h : VecOK P w O te v (a.ev Γ.ρ)) (h0 : 0 ≤ x.den Γ.ρ)
    (h1 : x.den Γ.ρ < ((a.ev Γ.ρ).rows.length : Int)) : ∃ b, (∀ k, elemAt v k = .pointer (some ⟨b, k, none⟩)) ∧ v.ownBlock = some b ∧
      ∀ j, j < ks.length → ∀ l, (rowLf a x 0 ks)[j]? = some l → w.cell? ⟨b, (x.den Γ.ρ).toNat * ks.length + j, none⟩ = some (l.den Γ) ∧ l.ok P w O Γ := by
  obtain ⟨ks', us, hk', hc, hl, hr, ho⟩ := h
  obtain rfl : ks = ks' := Option.some.inj (hk.symm.trans hk')
  rcases ho.2 with ⟨-, hn⟩ | ⟨g, cap, cur, rfl, -⟩
  · rw [hn] at h1; simp at h1; omega
  refine ⟨g, fun k => by simp only [elemAt]; unfold Addr.add; split <;> simp_all, rfl, fun j hj l hlj => ?_⟩
  have hlt : (x.den Γ.ρ).toNat < (a.ev Γ.ρ).rows.length := by omega
  obtain ⟨u, c, hu, hcc, hrep⟩ := hr.get (j := (x.den Γ.ρ).toNat * ks.length + j) (k := ks[j]) (by rw [rowsK_get hlt hj]; simp [hj])
  have hcell := ho.cells (g := g) rfl _ _ hu
  rw [show (⟨g, 0, none⟩ : Addr).add ((x.den Γ.ρ).toNat * ks.length + j) = ⟨g, (x.den Γ.ρ).toNat * ks.length + j, none⟩ by unfold Addr.add; split <;> simp_all] at hcell
  rw [flatten_get _ hl _ _ (a.ev Γ.ρ).rows[(x.den Γ.ρ).toNat] (by simp [hlt]) hj] at hcc
  have hat : (E.cell a x j).ev Γ.ρ = c := by
    simp only [E.ev, C.at]
    rw [show (x.ev Γ.ρ).int = x.den Γ.ρ from rfl]
    simp [List.getD_eq_getElem?_getD, hlt, hcc]
  rw [rowLf_get] at hlj
  simp only [List.getElem?_eq_getElem hj, Option.map_some, Option.some.injEq, Nat.zero_add] at hlj
  rw [hcell]
  have h2 := hrep.2
  generalize ks[j] = k at *
  cases k with
  | int =>
    obtain ⟨n, rfl, rfl⟩ := h2
    subst hlj
    exact ⟨by simp only [Lf.den, E.den, hat, C.int], trivial⟩
  | bool =>
    obtain ⟨n, rfl, rfl⟩ := h2
    subst hlj
    exact ⟨by simp only [Lf.den, B.den, hat, C.bool], trivial⟩
  | vec t => exact h2.elim
  | arr t =>
    subst hlj
    refine ⟨by simp only [Lf.den, hat, h2.1], ?_⟩
    simp only [Lf.ok, hat]
    exact h2.2
end Go.Proofs.Ytlbgcjpkegpmlaa
