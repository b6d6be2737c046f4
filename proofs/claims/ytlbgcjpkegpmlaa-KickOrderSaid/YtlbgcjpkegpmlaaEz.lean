/- The engine's last part: tables of contracts. -/
import Derived.Test.YtlbgcjpkegpmlaaEn
import Derived.Test.YtlbgcjpkegpmlaaProg
namespace Go.Proofs.Ytlbgcjpkegpmlaa
open Go.RowKit
set_option linter.unusedSimpArgs false
set_option linter.unusedVariables false

/-- A contract whose result is a function of the arguments. -/
def ctF (args res : List Sh0) (pre : List C → Prop) (g : List C → List C) : Ct := ⟨args, res, pre, fun cs rs => rs = g cs, true⟩
/-- A statement: it returns true. -/
def ctLaw (args : List Sh0) : Ct := ⟨args, [.lf .bool], fun _ => True, fun _ rs => rs = [.b true], false⟩
theorem ctF_det {args res : List Sh0} {pre : List C → Prop} {g : List C → List C} : (ctF args res pre g).det = true → ∀ cs rs rs', (ctF args res pre g).post cs rs → (ctF args res pre g).post cs rs' → rs = rs' :=
  fun _ _ _ _ h h' => h.trans h'.symm
/-- What the program's tables hold of a function. -/
structure Tab where
  ct : Nat → Option Ct
  inl : Nat → Option Inl
  sel : Nat → Option Sel := fun _ => none
/-- Functions that are carried out in place. -/
def fnsOf : List (Nat × Func) → Nat → Option Func
  | [], _ => none
  | (k, fn) :: l, f => if k = f then some fn else fnsOf l f
def FnOK (p : Nat × Func) : Prop := Try.prog.funcs[p.1]? = some p.2 ∧ Callable Try.prog p.1
noncomputable def Tab.only (t : Tab) (l : List Nat) (hv : Nat → List Pl) (fns : List (Nat × Func) := []) (n : Nat := 0) (wr : List Nat := []) : Cx :=
  Cx.deep (fnsOf fns) { P := Try.prog, ct := fun f => if l.contains f then t.ct f else none, inl := fun f => if l.contains f then t.inl f else none, sel := fun f => if l.contains f then t.sel f else none, hv := hv, H := fun _ _ _ _ => none, wr := wr } n
/-- What is shown of one function of a table. -/
def Tab.ok (t : Tab) (f : Nat) : Prop := Callable Try.prog f ∧ (∀ ct, t.ct f = some ct → CtOK Try.prog f ct ∧ (ct.det = true → ∀ cs rs rs', ct.post cs rs → ct.post cs rs' → rs = rs')) ∧ (∀ g, t.inl f = some g → InlOK Try.prog f g) ∧ ∀ g, t.sel f = some g → SelOK Try.prog f g
theorem mixedOrders : Try.prog.follows .mixedOrders = true := by kernel_rfl
theorem fns_nil : ∀ p ∈ ([] : List (Nat × Func)), FnOK p := fun p hp => by cases hp
theorem fns_cons {p : Nat × Func} {l : List (Nat × Func)} (h : FnOK p) (h' : ∀ q ∈ l, FnOK q) : ∀ q ∈ p :: l, FnOK q := fun q hq => by
  rcases List.mem_cons.1 hq with rfl | hq
  · exact h
  · exact h' q hq
theorem fnsOf_ok : ∀ {l : List (Nat × Func)}, (∀ p ∈ l, FnOK p) → ∀ f fn, fnsOf l f = some fn → Try.prog.funcs[f]? = some fn ∧ Callable Try.prog f
  | [], _, f, fn, h => by cases h
  | (k, g) :: l, hl, f, fn, h => by
    simp only [fnsOf] at h
    split at h
    · rename_i e; subst e; cases h; exact hl (k, g) (by simp)
    · exact fnsOf_ok (fun p hp => hl p (by simp [hp])) f fn h
theorem Tab.cx_ok {t : Tab} {l : List Nat} {hv : Nat → List Pl} {fns : List (Nat × Func)} {n : Nat} {wr : List Nat} (h : ∀ f ∈ l, t.ok f) (hf : ∀ p ∈ fns, FnOK p := by exact fns_nil) : CxOK (t.only l hv fns n wr) := by
  refine Cx.deep_ok (fun f ct hf => ?_) mixedOrders (fun f g hf => ?_) (fun f g hf => ?_) (fnsOf_ok hf) n
  · simp only [] at hf
    split at hf
    · rename_i hc
      obtain ⟨h1, h2, h3⟩ := h f (by simpa using hc)
      exact ⟨h1, h2 ct hf⟩
    · cases hf
  · simp only [] at hf
    split at hf
    · rename_i hc
      obtain ⟨h1, h2, h3, h4⟩ := h f (by simpa using hc)
      exact ⟨h1, h3 g hf⟩
    · cases hf
  · simp only [] at hf
    split at hf
    · rename_i hc
      obtain ⟨h1, h2, h3, h4⟩ := h f (by simpa using hc)
      exact ⟨h1, h4 g hf⟩
    · cases hf
theorem Tab.of_ct {t : Tab} {f : Nat} {ct : Ct} (h1 : t.ct f = some ct) (h2 : t.inl f = none) (hc : Callable Try.prog f) (hok : CtOK Try.prog f ct) (hdet : ct.det = true → ∀ cs rs rs', ct.post cs rs → ct.post cs rs' → rs = rs') (h3 : t.sel f = none := by rfl) : t.ok f :=
  ⟨hc, fun c h => (by rw [h1] at h; cases h; exact ⟨hok, hdet⟩), fun g h => (by rw [h2] at h; cases h), fun g h => (by rw [h3] at h; cases h)⟩
theorem Tab.of_inl {t : Tab} {f : Nat} {g : Inl} (h1 : t.ct f = none) (h2 : t.inl f = some g) (hc : Callable Try.prog f) (hok : InlOK Try.prog f g) (h3 : t.sel f = none := by rfl) : t.ok f :=
  ⟨hc, fun c h => (by rw [h1] at h; cases h), fun g' h => (by rw [h2] at h; cases h; exact hok), fun g h => (by rw [h3] at h; cases h)⟩
theorem Tab.of_sel {t : Tab} {f : Nat} {g : Sel} (h1 : t.ct f = none) (h2 : t.inl f = none) (hc : Callable Try.prog f) (h3 : t.sel f = some g) (hok : SelOK Try.prog f g) : t.ok f :=
  ⟨hc, fun c h => (by rw [h1] at h; cases h), fun g h => (by rw [h2] at h; cases h), fun g' h => (by rw [h3] at h; cases h; exact hok)⟩
theorem all_nil {p : Nat → Prop} : ∀ f ∈ ([] : List Nat), p f := fun f h => by cases h
theorem all_cons {p : Nat → Prop} {a : Nat} {l : List Nat} (h : p a) (h' : ∀ f ∈ l, p f) : ∀ f ∈ a :: l, p f := fun f hf => by
  rcases List.mem_cons.1 hf with rfl | hf
  · exact h
  · exact h' f hf

/-! A function written out in place, out of its contract -/
theorem LReps.plain {P : Program} {w : World} {O : Nat → Nat → Prop} {Γ : Env} : ∀ {ls : List Lf} {ks : List Lk} {us : List Value}, kindsL ls = some ks → ls.all Lf.plain = true → LReps P w O ks us (cs_ Γ.ρ ls) → us = ls.map (Lf.den Γ)
  | [], ks, us, hk, _, h => by simp [kindsL] at hk; subst hk; cases us with | nil => rfl | cons u us => exact h.elim
  | l :: ls, ks, us, hk, hp, h => by
    simp only [kindsL] at hk
    split at hk
    · rename_i k ks' h1 h2
      cases hk
      simp only [List.all_cons, Bool.and_eq_true] at hp
      cases us with
      | nil => exact h.elim
      | cons u us =>
        obtain ⟨h3, h4⟩ := h
        rw [LReps.plain h2 hp.2 h4]
        have : u = l.den Γ := by
          cases l with
          | int e => cases h1; obtain ⟨n, rfl, hn⟩ := h3.2; cases hn; rfl
          | bool e => cases h1; obtain ⟨n, rfl, hn⟩ := h3.2; cases hn; rfl
          | _ => cases hp.1
        rw [this]; rfl
    · cases hk
theorem Rep0.plain {P : Program} {w : World} {O : Nat → Nat → Prop} {old : Option Nat} {Γ : Env} {s : S0} {sh : Sh0} {v : Value} (hs : s.shape = some sh) (hp : s.plain = true) (h : Rep0 P w O old sh v (cs_ Γ.ρ s.cells)) : v = s.den Γ := by
  cases s with
  | lf l =>
    simp only [S0.shape, Option.map_eq_some_iff] at hs
    obtain ⟨k, hk, rfl⟩ := hs
    obtain ⟨c, hc, hr⟩ := h
    have := LReps.plain (P := P) (w := w) (O := O) (Γ := Γ) (ls := [l]) (ks := [k]) (us := [v]) (by simp [kindsL, hk]) hp (by
      have e : cs_ Γ.ρ (S0.lf l).cells = [c] := hc
      show LReps P w O [k] [v] (cs_ Γ.ρ (S0.lf l).cells)
      rw [e]; exact ⟨hr, trivial⟩)
    simpa [S0.den] using this
  | agg ls =>
    simp only [S0.shape, Option.map_eq_some_iff] at hs
    obtain ⟨k, hk, rfl⟩ := hs
    obtain ⟨us, rfl, hr⟩ := h
    rw [LReps.plain hk hp hr]
    rfl
theorem shapes_nil_noBox : ∀ {args : List S0} {ss : List Sh0}, shapes [] args = some ss → ss.all (fun s => !s.isBox) = true
  | [], ss, h => by simp [shapes] at h; subst h; rfl
  | s :: args, ss, h => by
    simp only [shapes] at h
    split at h
    · rename_i sh hss h1 h2
      cases h
      simp only [List.all_cons, Bool.and_eq_true]
      refine ⟨?_, shapes_nil_noBox h2⟩
      unfold S0.shapeM at h1
      split at h1
      · cases h1
      · cases s with
        | lf l => simp only [S0.shape, Option.map_eq_some_iff] at h1; obtain ⟨k, -, rfl⟩ := h1; rfl
        | agg l => simp only [S0.shape, Option.map_eq_some_iff] at h1; obtain ⟨k, -, rfl⟩ := h1; rfl
    · cases h
theorem Keeps.noBox {ss : List Sh0} {vs : List Value} {w w' : World} (hn : ss.all (fun s => !s.isBox) = true) (h : Keeps (fun i => i < w.heap.size ∧ ¬ IsBox ss vs i) w w') : Below w.heap.size w w' :=
  ⟨h.os, h.tape, h.output, h.size, fun i hi => h.block i ⟨hi, isBox_noBox hn⟩⟩
theorem Inl.of_ct {f : Nat} {g : Inl} {args : List Sh0} {r : Sh0} {pre : List C → Prop} {fn : List C → List C} (hf : CtOK Try.prog f (ctF args [r] pre fn))
    (h : ∀ bd ρ l obs s, g bd l = some (obs, s) → Num bd ρ → Obs ρ obs → shapes [] l = some args ∧ l.all S0.plain = true ∧ Obs ρ (rngL bd (cellsOf [] l)) ∧ pre (cs_ ρ (cellsOf [] l)) ∧ s.plain = true ∧ s.shape = some r ∧ fn (cs_ ρ (cellsOf [] l)) = cs_ ρ s.cells) : InlOK Try.prog f g := by
  intro Γ bd l obs s hn hg ho
  obtain ⟨h1, h2, h3, h4, h5, h6, h7⟩ := h bd Γ.ρ l obs s hg hn ho
  refine ⟨h5, fun w => ?_⟩
  have hno := shapes_nil_noBox h1
  have hreps := cells_rep (P := Try.prog) (w := w) (O := fun _ _ => False) (Γ := Γ) (old := none) hn h1 (fun s hs l hl => by
    have := List.all_eq_true.1 (List.all_eq_true.1 h2 s hs) l hl
    cases l <;> first | trivial | cases this) (fun b mb _ hb => by cases hb) h3
  refine (hf (fun _ _ => False) w _ _ (fun b o hb => hb.elim) hreps h4).mono ?_
  rintro e w' ⟨v, rs, outs, rfl, ⟨vs, rfl, hr, -⟩, hout, hpost, hb⟩
  refine ⟨?_, hb.noBox hno⟩
  have ho := outs_noBox hno hout
  subst ho
  have hrs : rs = cs_ Γ.ρ s.cells := by have := hpost.trans h7; rwa [List.append_nil] at this
  subst hrs
  match vs, hr with
  | [v], hr =>
    obtain ⟨c1, c2, hc, hr1, hr2⟩ := hr
    cases hr2
    rw [List.append_nil] at hc
    subst hc
    rw [Rep0.plain h6 h5 hr1]

/-! A statement's call -/
theorem law_walk {f : Nat} {ss : List Sh0} (h : CtOK Try.prog f (ctLaw ss)) (hno : ss.all (fun s => !s.isBox) = true) {W : World} {vs : List Value} {cs : List C} (hr : Reps Try.prog W (fun _ _ => False) none ss vs cs) :
    Calls Try.prog f vs.toArray W fun e w' => e = .returned (.bool true) ∧ Below W.heap.size W w' := by
  refine (h (fun _ _ => False) W vs cs (fun _ _ hb => hb.elim) hr trivial).mono ?_
  rintro e w' ⟨v, rs, outs, rfl, ⟨us, rfl, hres, -⟩, hout, hpost, hb⟩
  refine ⟨?_, hb.noBox hno⟩
  have ho := outs_noBox hno hout
  subst ho
  have hrs : rs = [.b true] := by have : rs ++ [] = [.b true] := hpost; rwa [List.append_nil] at this
  subst hrs
  match us, hres with
  | [v], hres =>
    obtain ⟨c1, c2, hc, ⟨c, rfl, hr1⟩, hr2⟩ := hres
    cases hr2
    cases hc
    obtain ⟨t, rfl, ht⟩ := hr1.2
    cases ht
    rfl
theorem rep_int {W : World} {O : Nat → Nat → Prop} {n : Int} (h : -9223372036854775808 ≤ n ∧ n ≤ 9223372036854775807) : LRep Try.prog W O .int (.int .i64 n) (.i n) :=
  ⟨fun m => by cases m <;> exact h, n, rfl, rfl⟩
theorem reps_ints {W : World} {O : Nat → Nat → Prop} : ∀ (ns : List Int), (∀ n ∈ ns, -9223372036854775808 ≤ n ∧ n ≤ 9223372036854775807) → LReps Try.prog W O (List.replicate ns.length .int) (ns.map (Value.int .i64)) (ns.map .i)
  | [], _ => trivial
  | n :: ns, h => ⟨rep_int (h n (by simp)), reps_ints ns fun m hm => h m (by simp [hm])⟩
theorem rep_agg {W : World} {O : Nat → Nat → Prop} {ss : List Sh0} {vs : List Value} {cs : List C} (ns : List Int) (h : ∀ n ∈ ns, -9223372036854775808 ≤ n ∧ n ≤ 9223372036854775807) {old : Option Nat} (hr : Reps Try.prog W O old ss vs cs) :
    Reps Try.prog W O old (.agg (List.replicate ns.length .int) :: ss) (.agg (ns.map (Value.int .i64)).toArray :: vs) (ns.map .i ++ cs) :=
  ⟨_, _, rfl, ⟨_, rfl, reps_ints ns h⟩, hr⟩
theorem rep_lf {W : World} {O : Nat → Nat → Prop} {ss : List Sh0} {vs : List Value} {cs : List C} {n : Int} (h : -9223372036854775808 ≤ n ∧ n ≤ 9223372036854775807) {old : Option Nat} (hr : Reps Try.prog W O old ss vs cs) :
    Reps Try.prog W O old (.lf .int :: ss) (.int .i64 n :: vs) (.i n :: cs) :=
  ⟨[_], _, rfl, ⟨_, rfl, rep_int h⟩, hr⟩

/-! Reading a tree -/
theorem den_cmp_le (ρ : List C) (a b : E) : ((B.cmp .le a b).den ρ = true) = (a.den ρ ≤ b.den ρ) := by simp [B.den, Cmp.den]
theorem den_cmp_lt (ρ : List C) (a b : E) : ((B.cmp .lt a b).den ρ = true) = (a.den ρ < b.den ρ) := by simp [B.den, Cmp.den]
theorem den_cmp_eq (ρ : List C) (a b : E) : ((B.cmp .eq a b).den ρ = true) = (a.den ρ = b.den ρ) := by simp [B.den, Cmp.den]
theorem den_cmp_ne (ρ : List C) (a b : E) : ((B.cmp .ne a b).den ρ = true) = (a.den ρ ≠ b.den ρ) := by simp [B.den, Cmp.den]
theorem den_cmp_le' (ρ : List C) (a b : E) : ((B.cmp .le a b).den ρ = false) = (b.den ρ < a.den ρ) := by simp [B.den, Cmp.den]
theorem den_cmp_lt' (ρ : List C) (a b : E) : ((B.cmp .lt a b).den ρ = false) = (b.den ρ ≤ a.den ρ) := by simp [B.den, Cmp.den]
theorem den_cmp_eq' (ρ : List C) (a b : E) : ((B.cmp .eq a b).den ρ = false) = (a.den ρ ≠ b.den ρ) := by simp [B.den, Cmp.den]
theorem den_cmp_ne' (ρ : List C) (a b : E) : ((B.cmp .ne a b).den ρ = false) = (a.den ρ = b.den ρ) := by simp [B.den, Cmp.den]
theorem den_and (ρ : List C) (a b : B) : ((B.and a b).den ρ = true) = (a.den ρ = true ∧ b.den ρ = true) := by simp [B.den]
theorem den_and' (ρ : List C) (a b : B) : ((B.and a b).den ρ = false) = (a.den ρ = true → b.den ρ = false) := by
  simp only [B.den]; cases a.den ρ <;> cases b.den ρ <;> simp
theorem den_or (ρ : List C) (a b : B) : ((B.or a b).den ρ = true) = (a.den ρ = true ∨ b.den ρ = true) := by simp [B.den]
theorem den_or' (ρ : List C) (a b : B) : ((B.or a b).den ρ = false) = (a.den ρ = false ∧ b.den ρ = false) := by simp [B.den]
theorem den_not (ρ : List C) (a : B) : ((B.not a).den ρ = true) = (a.den ρ = false) := by simp [B.den]
theorem den_not' (ρ : List C) (a : B) : ((B.not a).den ρ = false) = (a.den ρ = true) := by simp [B.den]
theorem den_blit (ρ : List C) (t : Bool) : (B.lit t).den ρ = t := rfl
theorem den_of (ρ : List C) (e : E) : (B.of e).den ρ = (e.ev ρ).bool := rfl
theorem ev_var (ρ : List C) (i : Nat) : (E.var i).ev ρ = at_ ρ i := rfl
theorem at_nil (i : Nat) : at_ [] i = .i 0 := rfl
theorem at_zero (c : C) (l : List C) : at_ (c :: l) 0 = c := rfl
theorem at_succ (c : C) (l : List C) (i : Nat) : at_ (c :: l) (i + 1) = at_ l i := rfl
theorem at_0 (a : C) (l : List C) : at_ (a :: l) 0 = a := rfl
theorem at_1 (a b : C) (l : List C) : at_ (a :: b :: l) 1 = b := rfl
theorem at_2 (a b c : C) (l : List C) : at_ (a :: b :: c :: l) 2 = c := rfl
theorem at_3 (a b c d : C) (l : List C) : at_ (a :: b :: c :: d :: l) 3 = d := rfl
theorem at_4 (a b c d e : C) (l : List C) : at_ (a :: b :: c :: d :: e :: l) 4 = e := rfl
theorem at_5 (a b c d e f : C) (l : List C) : at_ (a :: b :: c :: d :: e :: f :: l) 5 = f := rfl
theorem at_6 (a b c d e f g : C) (l : List C) : at_ (a :: b :: c :: d :: e :: f :: g :: l) 6 = g := rfl
theorem at_7 (a b c d e f g h : C) (l : List C) : at_ (a :: b :: c :: d :: e :: f :: g :: h :: l) 7 = h := rfl
theorem at_skip (a b c d e f g h : C) (l : List C) (i : Nat) : at_ (a :: b :: c :: d :: e :: f :: g :: h :: l) (i + 8) = at_ l i := rfl
theorem c_int (ρ : List C) (e : E) : (Lf.int e).c ρ = .i (e.den ρ) := rfl
theorem c_bool (ρ : List C) (b : B) : (Lf.bool b).c ρ = .b (b.den ρ) := rfl
theorem c_arr (ρ : List C) (t : TypeId) (e : E) : (Lf.arr t e).c ρ = e.ev ρ := rfl
theorem c_cnt (ρ : List C) (t : TypeId) (e : E) : (Lf.cnt t e).c ρ = e.ev ρ := rfl
theorem c_vec (ρ : List C) (t : TypeId) (i : Nat) : (Lf.vec t i).c ρ = at_ ρ i := rfl
theorem ev_nil (ρ : List C) : E.nil.ev ρ = .s (.slice none 0 0) [] := rfl
theorem ev_join (ρ : List C) (l r : E) : (E.join l r).ev ρ = .s (l.ev ρ).loc (r.ev ρ).rows := rfl
theorem ev_sub3 (ρ : List C) (a lo hi : E) (sz : Nat) : (E.sub3 a lo hi sz).ev ρ = .s (partLoc (a.ev ρ).loc (lo.den ρ).toNat (hi.den ρ).toNat sz) (((a.ev ρ).rows.take (hi.den ρ).toNat).drop (lo.den ρ).toNat) := rfl
theorem ev_cell (ρ : List C) (a x : E) (o : Nat) : (E.cell a x o).ev ρ = (a.ev ρ).at (x.den ρ).toNat o := rfl
theorem loc_s (v : Value) (r : List (List C)) : (C.s v r).loc = v := rfl
theorem int_i (n : Int) : (C.i n).int = n := rfl
theorem bool_b (t : Bool) : (C.b t).bool = t := rfl
theorem rows_s (v : Value) (r : List (List C)) : (C.s v r).rows = r := rfl
theorem cs_nil (ρ : List C) : cs_ ρ [] = [] := rfl
theorem cs_cons (ρ : List C) (l : Lf) (ls : List Lf) : cs_ ρ (l :: ls) = l.c ρ :: cs_ ρ ls := rfl
theorem kindsOf_nil : kindsOf [] = [] := rfl
theorem kindsOf_lf (k : Lk) (l : List Sh0) : kindsOf (.lf k :: l) = k :: kindsOf l := rfl
theorem kindsOf_box (t : TypeId) (ks : List Lk) (l : List Sh0) : kindsOf (.box t ks :: l) = ks ++ kindsOf l := rfl
theorem boxKinds_nil : boxKinds [] = [] := rfl
theorem boxKinds_lf (k : Lk) (l : List Sh0) : boxKinds (.lf k :: l) = boxKinds l := rfl
theorem boxKinds_agg (k : List Lk) (l : List Sh0) : boxKinds (.agg k :: l) = boxKinds l := rfl
theorem boxKinds_box (t : TypeId) (k : List Lk) (l : List Sh0) : boxKinds (.box t k :: l) = k ++ boxKinds l := rfl
theorem kindsOf_agg (ks : List Lk) (l : List Sh0) : kindsOf (.agg ks :: l) = ks ++ kindsOf l := rfl
theorem bds_nil (ρ : List C) : Bds.ok [] ρ := fun x lo hi h => by cases h
theorem cell_at (v : Value) (rows : List (List C)) (i o : Nat) : (C.s v rows).at i o = (rows.getD i []).getD o (.i 0) := rfl
end Go.Proofs.Ytlbgcjpkegpmlaa
