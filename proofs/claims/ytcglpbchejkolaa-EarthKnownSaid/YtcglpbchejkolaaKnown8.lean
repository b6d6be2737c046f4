/- Texts laid into one: XG1 XS7 XT9 XN1 XM2 XM3 XM4 XM5 XM6 XM7 XM8 XM9 XBE XBF XMA XMB XMC XBH XS9 XTE XBM XTD XBL. -/
import Derived.Test.YtcglpbchejkolaaKnown7
import Derived.Sort.OwnSortedInts
/- Earth: slices.Sort and slices.Compact of a slice of one's own. -/
namespace Go.Proofs.Ytcglpbchejkolaa
open Go.RowKit Go.Sort
set_option linter.unusedSimpArgs false
set_option linter.unusedVariables false

def intRows (l : List Int) : List (List C) := l.map fun n => [C.i n]
theorem intRows_len (l : List Int) : (intRows l).length = l.length := by simp [intRows]
theorem intRows_flat : ∀ l : List Int, (intRows l).flatten = l.map C.i
  | [] => rfl
  | n :: l => by
    have := intRows_flat l
    simp only [intRows, List.map_cons, List.flatten_cons] at this ⊢
    rw [this]; rfl
theorem rowsK_int : ∀ n, rowsK n [.int] = List.replicate n Lk.int
  | 0 => rfl
  | n + 1 => by
    have := rowsK_int n
    unfold rowsK at this ⊢
    rw [List.replicate_succ, List.flatten_cons, this, List.replicate_succ]; rfl
theorem creps_ints {P : Program} {w : World} {O : Nat → Nat → Prop} : ∀ (l : List Int), (∀ n ∈ l, ∀ m, C.small m (.i n)) → CReps P w O (List.replicate l.length Lk.int) (l.map (Value.int .i64)) (l.map C.i)
  | [], _ => trivial
  | n :: l, h => ⟨⟨h n (by simp), n, rfl, rfl⟩, creps_ints l fun x hx => h x (by simp [hx])⟩
theorem ints_ofG {P : Program} {w : World} {O : Nat → Nat → Prop} : ∀ {rows : List (List C)} {us : List Value}, (∀ r ∈ rows, r.length = 1) → CReps P w O (List.replicate rows.length Lk.int) us rows.flatten → ∃ zs : List Int, rows = intRows zs ∧ us = zs.map (Value.int .i64) ∧ ∀ n ∈ zs, ∀ m, C.small m (.i n)
  | [], us, _, h => by
    cases us with
    | nil => exact ⟨[], rfl, rfl, fun n hn => nomatch hn⟩
    | cons u us => exact h.elim
  | r :: rows, us, hl, h => by
    have h1 := hl r (by simp)
    match r, h1 with
    | [c], _ =>
      rw [List.flatten_cons, List.length_cons, List.replicate_succ] at h
      cases us with
      | nil => exact h.elim
      | cons u us =>
        obtain ⟨⟨hs, n, rfl, rfl⟩, h2⟩ := h
        obtain ⟨zs, rfl, rfl, h3⟩ := ints_ofG (fun x hx => hl x (by simp [hx])) h2
        refine ⟨n :: zs, rfl, rfl, fun x hx => ?_⟩
        rcases List.mem_cons.1 hx with rfl | hx
        · exact hs
        · exact h3 x hx
theorem ints_vec {P : Program} {w : World} {O : Nat → Nat → Prop} {te : TypeId} {v : Value} {c : C} (h : VecOK P w O te v c) (hk : kinds P te = some [.int]) : ∃ zs : List Int, c.rows = intRows zs ∧ w.ownsRow 0 te 1 v zs.length (zs.map (Value.int .i64)) ∧ ∀ n ∈ zs, ∀ m, C.small m (.i n) := by
  obtain ⟨ks, us, hk', -, hl, hr, ho⟩ := h
  rw [hk] at hk'
  cases hk'
  rw [rowsK_int] at hr
  obtain ⟨zs, h1, rfl, h3⟩ := ints_ofG hl hr
  rw [h1, intRows_len] at ho
  exact ⟨zs, h1, ho, h3⟩
theorem vec_ints {P : Program} {w : World} {O : Nat → Nat → Prop} {te : TypeId} {v u : Value} {zs : List Int} (hk : kinds P te = some [.int]) (ho : w.ownsRow 0 te 1 v zs.length (zs.map (Value.int .i64))) (hs : ∀ n ∈ zs, ∀ m, C.small m (.i n)) : VecOK P w O te v (.s u (intRows zs)) := by
  refine ⟨[.int], zs.map (Value.int .i64), hk, ⟨_, rfl⟩, fun r hr => ?_, ?_, ?_⟩
  · obtain ⟨n, -, rfl⟩ := List.mem_map.1 hr; rfl
  · show CReps P w O (rowsK (intRows zs).length [.int]) _ (intRows zs).flatten
    rw [intRows_len, rowsK_int, intRows_flat]
    exact creps_ints zs hs
  · show w.ownsRow 0 te 1 v (intRows zs).length _
    rw [intRows_len]; exact ho
section
variable {F : Nat → Prop} {w0 : World} {Γ : Env} {st : St} {a : Act} {w : World}
theorem sort_vec (h : Sat Try.prog F w0 Γ st a w) (hw : st.wf = true) {i : Nat} {e : E} (hi : look st.vec i = some (2, e)) {zs : List Int} (hz : (e.ev Γ.ρ).rows = intRows zs) (hne : zs ≠ []) (hlen : zs.length < 4611686018427387904) :
    Calls Try.prog 107 #[(at_ Γ.ρ i).loc] w fun x w' => x = .returned (.tuple #[]) ∧
      Sat Try.prog F w0 { Γ with ρ := Γ.ρ ++ [.s (at_ Γ.ρ i).loc (intRows (zs.mergeSort fun x y => decide (x ≤ y)))] } { st with nx := st.nx + 1, vec := (i, some (2, .var st.nx)) :: st.vec } a w' := by
  have hk : kinds Try.prog 2 = some [.int] := by kernel_rfl
  have hvec := (h.vec i _ hi).1
  obtain ⟨zs', h1, ho, hs⟩ := ints_vec hvec hk
  have hzz : zs' = zs := by
    have e2 : intRows zs' = intRows zs := h1.symm.trans hz
    have := congrArg (fun l : List (List C) => l.flatten.map C.int) e2
    simp only [intRows_flat, List.map_map] at this
    have hid : (C.int ∘ C.i) = id := funext fun n => rfl
    rw [hid, List.map_id, List.map_id] at this
    exact this
  subst hzz
  have hlt : ∀ b o, Own Γ st b o → b < w.heap.size := h.own_lt
  generalize hloc : (at_ Γ.ρ i).loc = loc at *
  rcases ho.2 with ⟨-, e2⟩ | ⟨g, cap, cur, e1, hB, hg, hnc, hcm, hcs, hct⟩
  · exact absurd (List.length_eq_zero_iff.1 e2) hne
  have hgl : g < w.heap.size := (Array.getElem?_eq_some_iff.1 hg).1
  have hct' : cur.toList.take zs'.length = zs'.map (Value.int .i64) := by rw [Nat.mul_one] at hct; exact hct
  have hH := holds_of_blockI hg hct'
  subst e1
  refine (AnyG.slices_Sort_int sort64 g 0 cap zs' w hH hgl hlen).mono ?_
  rintro x w' ⟨rfl, n, os, rfl⟩
  refine ⟨rfl, ?_⟩
  have hl : (zs'.mergeSort fun x y => decide (x ≤ y)).length = zs'.length := List.length_mergeSort _
  have hgb := grownBy_sortedI (w := w) (g := g) (n := n) (os := os) (zs'.mergeSort fun x y => decide (x ≤ y)).toArray
  have hown := ownsRow_sortedI (w := w) (base := 0) (n := n) (os := os) (ss := zs') (ts := zs'.mergeSort fun x y => decide (x ≤ y)) hl hB hg hnc hcm (by rw [hcs])
  have hv : VecOK Try.prog (grow (putRow (Value.int .i64) (Go.Sort.ahead w n) g 0 (zs'.mergeSort fun x y => decide (x ≤ y)).toArray) os) (fun b o => Own Γ st b o ∨ w.heap.size ≤ b) 2 (at_ Γ.ρ i).loc (.s (.slice (some ⟨g, 0, none⟩) zs'.length cap) (intRows (zs'.mergeSort fun x y => decide (x ≤ y)))) := by
    rw [hloc]
    refine vec_ints hk ?_ fun m hm => hs m ((List.mergeSort_perm zs' _).mem_iff.1 hm)
    rw [hl]; exact hown
  exact h.vupd hw hi (by rw [hloc]; exact hgb) hv
theorem compact_le (zs : List Int) : (Lib.compact zs).length ≤ zs.length := by
  unfold Lib.compact Lib.compactUpTo
  rw [List.length_map]
  have := List.length_filter_le (Lib.keeps zs.toArray) (List.range zs.length)
  simpa using this
theorem compact_mem {zs : List Int} {n : Int} (h : n ∈ Lib.compact zs) : n ∈ zs := by
  unfold Lib.compact Lib.compactUpTo at h
  obtain ⟨j, hj, rfl⟩ := List.mem_map.1 h
  have hj2 := List.mem_range.1 (List.mem_filter.1 hj).1
  have : zs.toArray[j]! = zs[j] := by simp [getElem!_pos, hj2]
  rw [this]; exact List.getElem_mem _
theorem compact_vec (h : Sat Try.prog F w0 Γ st a w) (hw : st.wf = true) {i : Nat} {e : E} (hi : look st.vec i = some (2, e)) {zs : List Int} (hz : (e.ev Γ.ρ).rows = intRows zs) (hne : zs ≠ []) (hlen : zs.length < 4611686018427387904) :
    Calls Try.prog 108 #[(at_ Γ.ρ i).loc] w fun x w' => ∃ v', x = .returned v' ∧
      Sat Try.prog F w0 { Γ with ρ := Γ.ρ ++ [.s v' (intRows (Lib.compact zs))] } { st with nx := st.nx + 1, vec := (st.nx, some (2, .var st.nx)) :: dropV (some i) st.vec } a w' := by
  have hk : kinds Try.prog 2 = some [.int] := by kernel_rfl
  have hvec := (h.vec i _ hi).1
  obtain ⟨zs', h1, ho, hs⟩ := ints_vec hvec hk
  have hzz : zs' = zs := by
    have e2 : intRows zs' = intRows zs := h1.symm.trans hz
    have := congrArg (fun l : List (List C) => l.flatten.map C.int) e2
    simp only [intRows_flat, List.map_map] at this
    have hid : (C.int ∘ C.i) = id := funext fun n => rfl
    rw [hid, List.map_id, List.map_id] at this
    exact this
  subst hzz
  generalize hloc : (at_ Γ.ρ i).loc = loc at *
  rcases ho.2 with ⟨-, e2⟩ | ⟨g, cap, cur, e1, hB, hg, hnc, hcm, hcs, hct⟩
  · exact absurd (List.length_eq_zero_iff.1 e2) hne
  have hgl : g < w.heap.size := (Array.getElem?_eq_some_iff.1 hg).1
  have hct' : cur.toList.take zs'.length = zs'.map (Value.int .i64) := by rw [Nat.mul_one] at hct; exact hct
  have hH := holds_of_blockI hg hct'
  subst e1
  refine (AnyG.slices_Compact_int comp64 g 0 cap zs' w hH (by omega) hnc).mono ?_
  rintro x w' ⟨rfl, q, rfl⟩
  refine ⟨_, rfl, ?_⟩
  have hle := compact_le zs'
  generalize hts : Lib.compact zs' ++ List.replicate (zs'.length - (Lib.compact zs').length) 0 = ts at *
  have hl : ts.length = zs'.length := by rw [← hts, List.length_append, List.length_replicate]; omega
  have hgb := grownBy_sortedI (w := w) (g := g) (n := q) (os := #[]) ts.toArray
  have hown := ownsRow_sortedI (w := w) (base := 0) (n := q) (os := #[]) (ss := zs') (ts := ts) hl hB hg hnc hcm (by rw [hcs])
  rw [grow_empty] at hgb hown
  have hown2 : (putRow (Value.int .i64) (Go.Sort.ahead w q) g 0 ts.toArray).ownsRow 0 2 1 (.slice (some ⟨g, 0, none⟩) (Lib.compact zs').length cap) (Lib.compact zs').length ((Lib.compact zs').map (Value.int .i64)) := by
    refine ⟨by simp, .inr ?_⟩
    rcases hown.2 with ⟨h0, -⟩ | ⟨g', cap', cur', hv, hB', hg', hnc', hcm', hcs', hct2⟩
    · cases h0
    cases hv
    refine ⟨g, cap, cur', rfl, hB', hg', by omega, hcm', hcs', ?_⟩
    rw [Nat.mul_one] at hct2 ⊢
    have : cur'.toList.take (Lib.compact zs').length = (cur'.toList.take zs'.length).take (Lib.compact zs').length := by rw [List.take_take, Nat.min_eq_left hle]
    rw [this, hct2, ← List.map_take, ← hts, List.take_left']
    rfl
  have hv : VecOK Try.prog (putRow (Value.int .i64) (Go.Sort.ahead w q) g 0 ts.toArray) (fun b o => Own Γ st b o ∨ w.heap.size ≤ b) 2 (C.s (.slice (some ⟨g, 0, none⟩) (Lib.compact zs').length cap) (intRows (Lib.compact zs'))).loc (.s (.slice (some ⟨g, 0, none⟩) (Lib.compact zs').length cap) (intRows (Lib.compact zs'))) :=
    vec_ints hk hown2 fun m hm => hs m (compact_mem hm)
  exact h.vnew hw (ci := some i) (row := some g) ⟨_, hi, by rw [hloc]; rfl⟩ hgb hv fun b hb => .inl hb
end
end Go.Proofs.Ytcglpbchejkolaa
/- Earth: contracts, more of them: depths, contradictions, conflicts. -/
namespace Go.Proofs.Ytcglpbchejkolaa
set_option linter.unusedVariables false

def insD (x : Int) : List Int → List Int
  | [] => [x]
  | y :: l => if x < y then x :: y :: l else if x = y then y :: l else y :: insD x l
def sortD (l : List Int) : List Int := l.foldl (fun a x => insD x a) []
def lowAt (b : Int) (l : List Kn) : List Int := (l.filter fun k => decide (k.1 ≤ b)).map (·.1)
def minAt (b : Int) (l : List Kn) : List Int := l.map fun k => min k.1 b
def lowAll (b : Int) (ls : List (List Kn)) : List Int := ls.flatMap (lowAt b)
def minAll (b : Int) (ls : List (List Kn)) : List Int := ls.flatMap (minAt b)
def Ear.lines (e : Ear) : List (List Kn) := [e.pl, e.ph, e.fl, e.fh]
def rawR (e : Ear) : List Int := [0, e.bottom] ++ lowAll e.bottom e.lines ++ e.reps.map (·.z)
def rawP (e : Ear) : List Int := [0, e.bottom] ++ minAll e.bottom e.lines ++ e.reps.map (·.z)
def depthsV (e : Ear) : List Int := sortD (rawR e)
/-- The depths of any earth. -/
def depthsE (e : Ear) : List Int := if checkV e = 0 then depthsV e else []
def Ear.only (e : Ear) (l : List Rep) : Ear := { e with reps := l }
def badAt (e : Ear) (z : Int) : Bool := decide (phV e z < plV e z) || decide (fhV e z < flV e z)
def crossV (e : Ear) : Bool := (depthsV e).any (badAt e)
def rep0 : Rep := ⟨0, 0, 0⟩
def alone (e : Ear) (i : Nat) : Bool := crossV (e.only [e.reps.getD i rep0])
def pairX (e : Ear) (i k : Nat) : Bool := crossV (e.only [e.reps.getD i rep0, e.reps.getD k rep0])
def singles (e : Ear) (n : Nat) : List (List Int) := ((List.range n).filter (alone e)).map fun (i : Nat) => [(i : Int)]
def pairsAt (e : Ear) (i n : Nat) : List (List Int) := ((List.range n).filter fun k => decide (i < k) && !alone e k && pairX e i k).map fun (k : Nat) => [(i : Int), (k : Int)]
def pairsOf (e : Ear) (n : Nat) : List (List Int) := (List.range n).flatMap fun i => if alone e i = true then [] else pairsAt e i e.reps.length
def conflictsV (e : Ear) : List (List Int) := if checkV e = 0 then (if crossV (e.only []) = true then [[]] else singles e e.reps.length ++ pairsOf e e.reps.length) else []
def lists (rows : List (List C)) : List (List Int) := rows.map fun r => ints (r.getD 0 (.i 0)).rows

def ctDepthsI : Ct := ⟨[earthSh], [.lf (.vec 2)], fun cs => checkV (earOf cs) = 0, fun cs rs => ∃ v rows, rs = [.s v rows] ∧ ints rows = depthsV (earOf cs), false⟩
def ctDepths : Ct := ⟨[earthSh], [.lf (.vec 2)], fun _ => True, fun cs rs => ∃ v rows, rs = [.s v rows] ∧ ints rows = depthsE (earOf cs), false⟩
def ctCrosses : Ct := ctF [earthSh, .lf (.arr 57)] [.lf .bool] (fun cs => checkV ((earOf cs).only (repsOf (at_ cs 8).rows)) = 0) (fun cs => [.b (crossV ((earOf cs).only (repsOf (at_ cs 8).rows)))])
def ctConflicts : Ct := ⟨[earthSh], [.lf (.vec 74)], fun _ => True, fun cs rs => ∃ v rows, rs = [.s v rows] ∧ lists rows = conflictsV (earOf cs), false⟩
def ctLongs : Ct := ctF [.lf (.arr 2), .lf (.arr 2)] [.lf .bool] (fun _ => True) (fun cs => [.b (ints (at_ cs 0).rows == ints (at_ cs 1).rows)])
def tab7 : Tab where
  ct := fun f => match f with
    | 86 | 87 => some ctDepthsI
    | 51 | 52 => some ctDepths
    | 88 => some ctCrosses
    | 54 => some ctConflicts
    | 50 => some ctLongs
    | f => tab6.ct f
  inl := tab6.inl
  sel := tab6.sel
theorem up7_ok {f : Nat} (h : tab6.ok f) (he : tab7.ct f = tab6.ct f := by rfl) : tab7.ok f :=
  ⟨h.1, fun ct hc => h.2.1 ct (he ▸ hc), h.2.2.1, h.2.2.2⟩
/-! Pieces of earth.depths -/
def endK (cx : Cx) (fn : Func) (ct : Ct) : Ex → St → Option Tree := fun x st => match x with
  | .ext _ => none
  | _ => endOf cx fn ct st
def depSt1 : St := { sl := [(3, some (.one (.lf (.vec 2 8))))], vec := [(8, some (2, .var 8))], mem := [], nt := 52, nb := 0, nx := 9, lvl := 1, bds := [] }
end Go.Proofs.Ytcglpbchejkolaa
/- What is to be shown of each function, as the executor has it. Printed by trees.py. -/
namespace Go.Proofs.Ytcglpbchejkolaa
noncomputable def flcrosses : List (Nat × Func) := [(109, Try.f109), (122, Try.f122), (110, Try.f110)]
theorem fxcrosses : ∀ p ∈ flcrosses, FnOK p := fns_cons ⟨Try.func109, ⟨_, Try.func109, by decide, rfl⟩⟩ (fns_cons ⟨Try.func122, ⟨_, Try.func122, by decide, rfl⟩⟩ (fns_cons ⟨Try.func110, ⟨_, Try.func110, by decide, rfl⟩⟩ (fns_nil)))
noncomputable def ccrosses : Cx := tab7.only [86, 95] (fun _ => []) flcrosses 3 [] (fun _ => none)
def tcrosses : Tree :=
  (.call 86 [(.int (.var 0)), (.arr 44 (.var 1)), (.arr 44 (.var 2)), (.arr 44 (.var 3)), (.arr 44 (.var 4)), (.int (.var 5)), (.int (.var 6)), (.arr 57 (.var 8))] (.arr [] (.loop [.int, .int] [(.int (.lit 0)), (.int (.lit 0))] (.split (.cmp .lt (.var 12) (.len (.var 9))) (.ob (.cmp .le (.lit 0) (.var 12)) (.ob (.cmp .lt (.var 12) (.len (.var 9))) (.call 95 [(.int (.var 0)), (.arr 44 (.var 1)), (.arr 44 (.var 2)), (.arr 44 (.var 3)), (.arr 44 (.var 4)), (.int (.var 5)), (.int (.var 6)), (.arr 57 (.var 8)), (.int (.cell (.var 9) (.var 12) 0))] (.split (.cmp .lt (.var 14) (.var 13)) (.ret [(.bool (.lit true))]) (.split (.cmp .lt (.var 16) (.var 15)) (.ret [(.bool (.lit true))]) (.back 0 [(.int (.var 11)), (.int (.add (.var 12) (.lit 1)))])))))) (.ret [(.bool (.lit false))])))))
noncomputable def cconflicts : Cx := tab7.only [35, 88] (fun r => match r with
  | 8 => [.vec 12]
  | _ => []) [] 0 [] (fun _ => none)
def tconflicts : Tree :=
  (.dfn .nil (.call 35 [(.int (.var 0)), (.arr 44 (.var 1)), (.arr 44 (.var 2)), (.arr 44 (.var 3)), (.arr 44 (.var 4)), (.int (.var 5)), (.int (.var 6)), (.arr 57 (.var 7))] (.split (.cmp .ne (.var 9) (.lit 0)) (.dfn .nil (.ret [(.cnt 74 (.var 10))])) (.call 88 [(.int (.var 0)), (.arr 44 (.var 1)), (.arr 44 (.var 2)), (.arr 44 (.var 3)), (.arr 44 (.var 4)), (.int (.var 5)), (.int (.var 6)), (.arr 57 (.var 7)), (.arr 57 .nil)] (.split (.of (.var 10)) (.arr [] (.dfn (.var 11) (.arr [[(.arr 3 (.var 12))]] (.ret [(.cnt 74 (.var 13))])))) (.dfn .nil (.ob (.cmp .le (.mul (.lit 1) (.len (.var 7))) (.lit 281474976710656)) (.mk (.len (.var 7)) [(.bool (.lit false))] (.loop [(.vec 74), .int, (.vec 4)] [(.cnt 74 (.var 11)), (.int (.lit 0)), (.cnt 4 (.var 12))] (.split (.cmp .lt (.var 14) (.len (.var 7))) (.ob (.cmp .le (.lit 0) (.var 14)) (.ob (.cmp .lt (.var 14) (.len (.var 7))) (.arr [[(.int (.cell (.var 7) (.var 14) 0)), (.int (.cell (.var 7) (.var 14) 1)), (.int (.cell (.var 7) (.var 14) 2))]] (.call 88 [(.int (.var 0)), (.arr 44 (.var 1)), (.arr 44 (.var 2)), (.arr 44 (.var 3)), (.arr 44 (.var 4)), (.int (.var 5)), (.int (.var 6)), (.arr 57 (.var 7)), (.arr 57 (.var 16))] (.ob (.cmp .lt (.var 14) (.len (.var 15))) (.upd (.var 15) (.var 14) 0 [(.bool (.of (.var 17)))] (.ob (.cmp .lt (.var 14) (.len (.var 18))) (.split (.of (.cell (.var 18) (.var 14) 0)) (.arr [[(.int (.var 14))]] (.dfn (.var 19) (.arr [[(.arr 3 (.var 20))]] (.ob (.cmp .le (.mul (.add (.len (.var 13)) (.len (.var 21))) (.lit 24)) (.lit 140737488355328)) (.cat (.var 13) (.var 21) (.back 0 [(.cnt 74 (.var 22)), (.int (.add (.var 14) (.lit 1))), (.cnt 4 (.var 18))])))))) (.back 0 [(.cnt 74 (.var 13)), (.int (.add (.var 14) (.lit 1))), (.cnt 4 (.var 18))]))))))))) (.loop [(.vec 74), .int] [(.cnt 74 (.var 13)), (.int (.lit 0))] (.split (.cmp .lt (.var 17) (.len (.var 7))) (.ob (.cmp .le (.lit 0) (.var 17)) (.ob (.cmp .lt (.var 17) (.len (.var 7))) (.ob (.cmp .lt (.var 17) (.len (.var 15))) (.split (.of (.cell (.var 15) (.var 17) 0)) (.back 1 [(.cnt 74 (.var 16)), (.int (.add (.var 17) (.lit 1)))]) (.loop [(.vec 74), .int] [(.cnt 74 (.var 16)), (.int (.add (.var 17) (.lit 1)))] (.split (.cmp .lt (.var 19) (.len (.var 7))) (.ob (.cmp .le (.lit 0) (.var 19)) (.ob (.cmp .lt (.var 19) (.len (.var 15))) (.split (.not (.of (.cell (.var 15) (.var 19) 0))) (.ob (.cmp .lt (.var 19) (.len (.var 7))) (.arr [[(.int (.cell (.var 7) (.var 17) 0)), (.int (.cell (.var 7) (.var 17) 1)), (.int (.cell (.var 7) (.var 17) 2))], [(.int (.cell (.var 7) (.var 19) 0)), (.int (.cell (.var 7) (.var 19) 1)), (.int (.cell (.var 7) (.var 19) 2))]] (.call 88 [(.int (.var 0)), (.arr 44 (.var 1)), (.arr 44 (.var 2)), (.arr 44 (.var 3)), (.arr 44 (.var 4)), (.int (.var 5)), (.int (.var 6)), (.arr 57 (.var 7)), (.arr 57 (.var 20))] (.split (.of (.var 21)) (.arr [[(.int (.var 17))], [(.int (.var 19))]] (.dfn (.var 22) (.arr [[(.arr 3 (.var 23))]] (.ob (.cmp .le (.mul (.add (.len (.var 18)) (.len (.var 24))) (.lit 24)) (.lit 140737488355328)) (.cat (.var 18) (.var 24) (.back 2 [(.cnt 74 (.var 25)), (.int (.add (.var 19) (.lit 1)))])))))) (.back 2 [(.cnt 74 (.var 18)), (.int (.add (.var 19) (.lit 1)))]))))) (.back 2 [(.cnt 74 (.var 18)), (.int (.add (.var 19) (.lit 1)))])))) (.back 1 [(.cnt 74 (.var 18)), (.int (.add (.var 17) (.lit 1)))]))))))) (.ret [(.cnt 74 (.var 16))])))))))))))))
noncomputable def fldep1 : List (Nat × Func) := [(69, Try.f69)]
theorem fxdep1 : ∀ p ∈ fldep1, FnOK p := fns_cons ⟨Try.func69, ⟨_, Try.func69, by decide, rfl⟩⟩ (fns_nil)
noncomputable def cdep1 : Cx := tab7.only [] (fun r => match r with
  | 3 => [.blk 2000005]
  | _ => []) fldep1 1 [] (fun _ => none)
def tdep1 : Tree :=
  (.dfn .nil (.arr [[(.int (.lit 0))], [(.int (.var 0))]] (.dfn .nil (.dfn .nil (.dfn .nil (.dfn .nil (.dfn .nil (.loop [(.vec 2), .int] [(.cnt 2 (.var 9)), (.int (.lit 0))] (.split (.cmp .lt (.var 16) (.len (.var 1))) (.ob (.cmp .le (.lit 0) (.var 16)) (.ob (.cmp .lt (.var 16) (.len (.var 1))) (.arr [[(.int (.min (.cell (.var 1) (.var 16) 0) (.var 0)))]] (.ob (.cmp .le (.mul (.add (.len (.var 15)) (.len (.var 17))) (.lit 8)) (.lit 140737488355328)) (.cat (.var 15) (.var 17) (.back 1 [(.cnt 2 (.var 18)), (.int (.add (.var 16) (.lit 1)))])))))) (.dfn .nil (.loop [(.vec 2), .int, .bool] [(.cnt 2 (.var 15)), (.int (.lit 0)), (.bool (.cmp .lt (.var 16) (.len (.var 1))))] (.split (.cmp .lt (.var 19) (.len (.var 2))) (.ob (.cmp .le (.lit 0) (.var 19)) (.ob (.cmp .lt (.var 19) (.len (.var 2))) (.arr [[(.int (.min (.cell (.var 2) (.var 19) 0) (.var 0)))]] (.ob (.cmp .le (.mul (.add (.len (.var 18)) (.len (.var 21))) (.lit 8)) (.lit 140737488355328)) (.cat (.var 18) (.var 21) (.back 2 [(.cnt 2 (.var 22)), (.int (.add (.var 19) (.lit 1))), (.bool (.cmp .lt (.var 19) (.len (.var 2))))])))))) (.dfn .nil (.loop [(.vec 2), .int, .bool] [(.cnt 2 (.var 18)), (.int (.lit 0)), (.bool (.cmp .lt (.var 19) (.len (.var 2))))] (.split (.cmp .lt (.var 23) (.len (.var 3))) (.ob (.cmp .le (.lit 0) (.var 23)) (.ob (.cmp .lt (.var 23) (.len (.var 3))) (.arr [[(.int (.min (.cell (.var 3) (.var 23) 0) (.var 0)))]] (.ob (.cmp .le (.mul (.add (.len (.var 22)) (.len (.var 25))) (.lit 8)) (.lit 140737488355328)) (.cat (.var 22) (.var 25) (.back 3 [(.cnt 2 (.var 26)), (.int (.add (.var 23) (.lit 1))), (.bool (.cmp .lt (.var 23) (.len (.var 3))))])))))) (.dfn .nil (.loop [(.vec 2), .int, .bool] [(.cnt 2 (.var 22)), (.int (.lit 0)), (.bool (.cmp .lt (.var 23) (.len (.var 3))))] (.split (.cmp .lt (.var 27) (.len (.var 4))) (.ob (.cmp .le (.lit 0) (.var 27)) (.ob (.cmp .lt (.var 27) (.len (.var 4))) (.arr [[(.int (.min (.cell (.var 4) (.var 27) 0) (.var 0)))]] (.ob (.cmp .le (.mul (.add (.len (.var 26)) (.len (.var 29))) (.lit 8)) (.lit 140737488355328)) (.cat (.var 26) (.var 29) (.back 4 [(.cnt 2 (.var 30)), (.int (.add (.var 27) (.lit 1))), (.bool (.cmp .lt (.var 27) (.len (.var 4))))])))))) (.loop [(.vec 2), .int] [(.cnt 2 (.var 26)), (.int (.lit 0))] (.split (.cmp .lt (.var 30) (.len (.var 7))) (.ob (.cmp .le (.lit 0) (.var 30)) (.ob (.cmp .lt (.var 30) (.len (.var 7))) (.arr [[(.int (.cell (.var 7) (.var 30) 1))]] (.ob (.cmp .le (.mul (.add (.len (.var 29)) (.len (.var 31))) (.lit 8)) (.lit 140737488355328)) (.cat (.var 29) (.var 31) (.back 5 [(.cnt 2 (.var 32)), (.int (.add (.var 30) (.lit 1)))])))))) (.back 0 [(.cnt 2 (.var 29))])))))))))))))))))))))
end Go.Proofs.Ytcglpbchejkolaa
/- Earth: the depths: plain laws of lists. -/
namespace Go.Proofs.Ytcglpbchejkolaa
open Go.RowKit
set_option linter.unusedSimpArgs false
set_option linter.unusedVariables false

/-- Strictly ascending. -/
def SA (l : List Int) : Prop := l.Pairwise (· < ·)
theorem insD_mem {x y : Int} : ∀ {l : List Int}, y ∈ insD x l ↔ y = x ∨ y ∈ l
  | [] => by simp [insD]
  | z :: l => by
    unfold insD
    split
    · simp
    · split
      · rename_i h; subst h; simp
      · have := insD_mem (x := x) (y := y) (l := l)
        simp only [List.mem_cons, this]
        constructor
        · rintro (h | h | h) <;> simp [h]
        · rintro (h | h | h) <;> simp [h]
theorem insD_asc {x : Int} : ∀ {l : List Int}, SA l → SA (insD x l)
  | [], _ => by simp [insD, SA]
  | z :: l, h => by
    unfold SA at h ⊢
    rw [List.pairwise_cons] at h
    unfold insD
    split
    · rename_i hx
      rw [List.pairwise_cons, List.pairwise_cons]
      exact ⟨fun y hy => by rcases List.mem_cons.1 hy with rfl | hy; exact hx; exact Int.lt_trans hx (h.1 y hy), h⟩
    · split
      · rw [List.pairwise_cons]; exact h
      · rename_i h1 h2
        rw [List.pairwise_cons]
        refine ⟨fun y hy => ?_, insD_asc h.2⟩
        rcases insD_mem.1 hy with rfl | hy
        · omega
        · exact h.1 y hy
theorem foldD_spec : ∀ (l a : List Int), SA a → SA (l.foldl (fun a x => insD x a) a) ∧ ∀ y, y ∈ l.foldl (fun a x => insD x a) a ↔ y ∈ a ∨ y ∈ l
  | [], a, h => ⟨h, fun y => by simp⟩
  | x :: l, a, h => by
    obtain ⟨h1, h2⟩ := foldD_spec l (insD x a) (insD_asc h)
    refine ⟨h1, fun y => ?_⟩
    rw [List.foldl_cons, h2, insD_mem, List.mem_cons]
    constructor
    · rintro ((h | h) | h) <;> simp [h]
    · rintro (h | h | h) <;> simp [h]
theorem sortD_asc (l : List Int) : SA (sortD l) := (foldD_spec l [] List.Pairwise.nil).1
theorem sortD_mem {l : List Int} {y : Int} : y ∈ sortD l ↔ y ∈ l := by
  have := (foldD_spec l [] List.Pairwise.nil).2 y
  unfold sortD
  rw [this]; simp
theorem asc_unique : ∀ {a b : List Int}, SA a → SA b → (∀ y, y ∈ a ↔ y ∈ b) → a = b
  | [], [], _, _, _ => rfl
  | [], y :: b, _, _, h => by have := (h y).2 (by simp); cases this
  | x :: a, [], _, _, h => by have := (h x).1 (by simp); cases this
  | x :: a, y :: b, ha, hb, h => by
    have ha' := List.pairwise_cons.1 ha
    have hb' := List.pairwise_cons.1 hb
    have e : x = y := by
      have h1 := (h x).1 (by simp)
      have h2 := (h y).2 (by simp)
      rcases List.mem_cons.1 h1 with h1 | h1
      · exact h1
      · rcases List.mem_cons.1 h2 with h2 | h2
        · exact h2.symm
        · have := hb'.1 x h1; have := ha'.1 y h2; omega
    subst e
    rw [asc_unique ha'.2 hb'.2 fun z => ?_]
    constructor
    · intro hz
      rcases List.mem_cons.1 ((h z).1 (by simp [hz])) with e | hz'
      · subst e; have := ha'.1 z hz; omega
      · exact hz'
    · intro hz
      rcases List.mem_cons.1 ((h z).2 (by simp [hz])) with e | hz'
      · subst e; have := hb'.1 z hz; omega
      · exact hz'
/-! slices.Compact of a sorted list -/
theorem compUp_spec {d : Array Int} (hd : ∀ i j, i < j → j < d.size → d[i]! ≤ d[j]!) : ∀ m, m ≤ d.size → SA (Lib.compactUpTo d m) ∧ (∀ y, y ∈ Lib.compactUpTo d m ↔ ∃ j, j < m ∧ d[j]! = y)
  | 0, _ => ⟨List.Pairwise.nil, fun y => by simp [Lib.compactUpTo]⟩
  | m + 1, hm => by
    obtain ⟨h1, h2⟩ := compUp_spec hd m (by omega)
    rw [Lib.compactUpTo_succ]
    by_cases hk : Lib.keeps d m = true
    · rw [if_pos hk]
      have hk' := of_decide_eq_true hk
      refine ⟨?_, fun y => ?_⟩
      · unfold SA at h1 ⊢
        rw [List.pairwise_append]
        refine ⟨h1, by simp, fun x hx y hy => ?_⟩
        rw [List.mem_singleton] at hy
        subst hy
        obtain ⟨j, hj, rfl⟩ := (h2 x).1 hx
        have hne : d[m]! ≠ d[m - 1]! := by
          rcases hk' with h | h
          · omega
          · exact h
        have a1 : d[j]! ≤ d[m - 1]! := by
          rcases Nat.lt_or_ge j (m - 1) with h | h
          · exact hd _ _ h (by omega)
          · rw [show j = m - 1 by omega]; exact Int.le_refl _
        have a2 := hd (m - 1) m (by omega) (by omega)
        omega
      · rw [List.mem_append, h2, List.mem_singleton]
        constructor
        · rintro (⟨j, hj, e⟩ | e)
          · exact ⟨j, by omega, e⟩
          · exact ⟨m, by omega, e.symm⟩
        · rintro ⟨j, hj, e⟩
          rcases Nat.lt_or_ge j m with h | h
          · exact .inl ⟨j, h, e⟩
          · exact .inr (by rw [← e, show j = m by omega])
    · rw [if_neg hk, List.append_nil]
      refine ⟨h1, fun y => ?_⟩
      have hk' : ¬ (m = 0 ∨ d[m]! ≠ d[m - 1]!) := fun h => hk (decide_eq_true h)
      have e0 : d[m]! = d[m - 1]! := Classical.byContradiction fun h => hk' (.inr h)
      have m0 : m ≠ 0 := fun h => hk' (.inl h)
      rw [h2]
      constructor
      · rintro ⟨j, hj, e⟩; exact ⟨j, by omega, e⟩
      · rintro ⟨j, hj, e⟩
        rcases Nat.lt_or_ge j m with h | h
        · exact ⟨j, h, e⟩
        · exact ⟨m - 1, by omega, by rw [← e, show j = m by omega, e0]⟩
theorem compact_sorted {zs : List Int} (h : zs.Pairwise (· ≤ ·)) : SA (Lib.compact zs) ∧ ∀ y, y ∈ Lib.compact zs ↔ y ∈ zs := by
  have hget : ∀ i, i < zs.length → zs.toArray[i]! = zs.getD i 0 := fun i hi => by simp [getElem!_pos, hi]
  have hd : ∀ i j, i < j → j < zs.toArray.size → zs.toArray[i]! ≤ zs.toArray[j]! := fun i j hij hj => by
    have hj' : j < zs.length := by simpa using hj
    rw [hget i (by omega), hget j hj']
    have := List.pairwise_iff_getElem.1 h i j (by omega) hj' hij
    simpa [List.getD_eq_getElem?_getD, List.getElem?_eq_getElem, hj', show i < zs.length by omega] using this
  obtain ⟨h1, h2⟩ := compUp_spec hd zs.length (by simp)
  refine ⟨h1, fun y => ?_⟩
  unfold Lib.compact
  rw [h2]
  constructor
  · rintro ⟨j, hj, rfl⟩
    have : zs.toArray[j]! = zs[j] := by simp [getElem!_pos, hj]
    rw [this]; exact List.getElem_mem _
  · intro hy
    obtain ⟨j, hj, e⟩ := List.getElem_of_mem hy
    exact ⟨j, hj, by rw [← e]; simp [getElem!_pos, hj]⟩
theorem sorted_merge (zs : List Int) : (zs.mergeSort fun x y => decide (x ≤ y)).Pairwise (· ≤ ·) := by
  have := List.pairwise_mergeSort (le := fun (x y : Int) => decide (x ≤ y)) (fun a b c h1 h2 => decide_eq_true (Int.le_trans (of_decide_eq_true h1) (of_decide_eq_true h2))) (fun a b => by
    rcases Int.le_total a b with h | h
    · simp [h]
    · simp [h]) zs
  exact this.imp fun h => of_decide_eq_true h
/-- What the program's sorting comes to. -/
theorem compact_merge {zs l : List Int} (h : ∀ y, y ∈ zs ↔ y ∈ l) : Lib.compact (zs.mergeSort fun x y => decide (x ≤ y)) = sortD l := by
  obtain ⟨h1, h2⟩ := compact_sorted (sorted_merge zs)
  refine asc_unique h1 (sortD_asc l) fun y => ?_
  rw [h2, sortD_mem, (List.mergeSort_perm zs _).mem_iff]
  exact h y
/-! Raw depths -/
theorem raw_same {b : Int} (b0 : 0 ≤ b) {ls : List (List Kn)} (l : List Int) (y : Int) : y ∈ [0, b] ++ minAll b ls ++ l ↔ y ∈ [0, b] ++ lowAll b ls ++ l := by
  have hm : ∀ y, y ∈ minAll b ls ↔ ∃ k, (∃ q ∈ ls, k ∈ q) ∧ y = min k.1 b := fun y => by
    unfold minAll minAt
    rw [List.mem_flatMap]
    constructor
    · rintro ⟨q, hq, hy⟩
      obtain ⟨k, hk, e⟩ := List.mem_map.1 hy
      exact ⟨k, ⟨q, hq, hk⟩, e.symm⟩
    · rintro ⟨k, ⟨q, hq, hk⟩, e⟩
      exact ⟨q, hq, List.mem_map.2 ⟨k, hk, e.symm⟩⟩
  have hl : ∀ y, y ∈ lowAll b ls ↔ ∃ k, (∃ q ∈ ls, k ∈ q) ∧ k.1 ≤ b ∧ y = k.1 := fun y => by
    unfold lowAll lowAt
    rw [List.mem_flatMap]
    constructor
    · rintro ⟨q, hq, hy⟩
      obtain ⟨k, hk, e⟩ := List.mem_map.1 hy
      obtain ⟨h1, h2⟩ := List.mem_filter.1 hk
      exact ⟨k, ⟨q, hq, h1⟩, of_decide_eq_true h2, e.symm⟩
    · rintro ⟨k, ⟨q, hq, hk⟩, h2, e⟩
      exact ⟨q, hq, List.mem_map.2 ⟨k, List.mem_filter.2 ⟨hk, decide_eq_true h2⟩, e.symm⟩⟩
  simp only [List.mem_append, hm, hl]
  constructor
  · rintro ((h | ⟨k, hk, e⟩) | h)
    · exact .inl (.inl h)
    · by_cases hb : k.1 ≤ b
      · exact .inl (.inr ⟨k, hk, hb, by omega⟩)
      · exact .inl (.inl (by simp; omega))
    · exact .inr h
  · rintro ((h | ⟨k, hk, hb, e⟩) | h)
    · exact .inl (.inl h)
    · exact .inl (.inr ⟨k, hk, by omega⟩)
    · exact .inr h
theorem depths_mem {e : Ear} {y : Int} : y ∈ depthsV e ↔ y = 0 ∨ y = e.bottom ∨ (∃ q ∈ e.lines, ∃ k ∈ q, k.1 ≤ e.bottom ∧ y = k.1) ∨ ∃ r ∈ e.reps, y = r.z := by
  unfold depthsV rawR
  rw [sortD_mem, List.mem_append, List.mem_append]
  unfold lowAll lowAt
  simp only [List.mem_cons, List.not_mem_nil, or_false, List.mem_flatMap, List.mem_map, List.mem_filter, decide_eq_true_eq]
  constructor
  · rintro (((h | h) | ⟨q, hq, k, ⟨hk, hb⟩, e⟩) | ⟨r, hr, e⟩)
    · exact .inl h
    · exact .inr (.inl h)
    · exact .inr (.inr (.inl ⟨q, hq, k, hk, hb, e.symm⟩))
    · exact .inr (.inr (.inr ⟨r, hr, e.symm⟩))
  · rintro (h | h | ⟨q, hq, k, hk, hb, e⟩ | ⟨r, hr, e⟩)
    · exact .inl (.inl (.inl h))
    · exact .inl (.inl (.inr h))
    · exact .inl (.inr ⟨q, hq, k, ⟨hk, hb⟩, e.symm⟩)
    · exact .inr ⟨r, hr, e.symm⟩
end Go.Proofs.Ytcglpbchejkolaa
/- Earth: the values of a line, part by part: plain laws. -/
namespace Go.Proofs.Ytcglpbchejkolaa
open Go.RowKit
set_option linter.unusedSimpArgs false
set_option linter.unusedVariables false

def segR (p q : Kn) (y : Int) : Kn := (p.2 + (q.2 - p.2) * (y - p.1) / (q.1 - p.1), p.2 + -(-((q.2 - p.2) * (y - p.1)) / (q.1 - p.1)))
def le2 (p q : Kn) : Prop := p.1 ≤ q.1 ∧ p.2 ≤ q.2
theorem rangeP_knot {ks : List Kn} (ha : Asc ks) {k : Kn} (hk : k ∈ ks) : rangeP ks k.1 = (k.2, k.2) := by
  unfold rangeP
  rw [valP_knot ha hk]
  show (k.2, k.2 + min 0 1) = _
  rw [show k.2 + min (0 : Int) 1 = k.2 by omega]
theorem val_mid {ks : List Kn} (ha : Asc ks) {i : Nat} (h1 : 0 < i) (h2 : i < ks.length) {y : Int} (hy : (ks.getD (i - 1) (0, 0)).1 ≤ y) (hy2 : y ≤ (ks.getD i (0, 0)).1) :
    rangeP ks y = segR (ks.getD (i - 1) (0, 0)) (ks.getD i (0, 0)) y := by
  have hlt := ha.lt (i := i - 1) (j := i) (by omega) h2
  have hp := getD_mem (l := ks) (i := i - 1) (by omega) (0, 0)
  have hq := getD_mem (l := ks) (i := i) h2 (0, 0)
  have hbefore : ∀ k < i, (ks.getD (i - 1) (0, 0)).1 < y → (ks.getD k (0, 0)).1 < y := fun k hk h => by
    rcases Nat.lt_or_ge k (i - 1) with h3 | h3
    · have := ha.lt (i := k) (j := i - 1) h3 (by omega); omega
    · rw [show k = i - 1 by omega]; exact h
  have hafter : ∀ k, i ≤ k → k < ks.length → y ≤ (ks.getD k (0, 0)).1 := fun k h3 h4 => by
    rcases Nat.lt_or_ge i k with h5 | h5
    · have := ha.lt (i := i) (j := k) h5 h4; omega
    · rw [show k = i by omega]; exact hy2
  by_cases e1 : (ks.getD (i - 1) (0, 0)).1 = y
  · rw [← e1, rangeP_knot ha hp]
    unfold segR
    rw [Int.sub_self, Int.mul_zero, Int.neg_zero, Int.zero_ediv]
    simp
  by_cases e2 : (ks.getD i (0, 0)).1 = y
  · rw [← e2, rangeP_knot ha hq]
    unfold segR
    rw [← Int.neg_mul, Int.mul_ediv_cancel _ (by omega), Int.mul_ediv_cancel _ (by omega)]
    ext <;> simp <;> omega
  have hf := findV_at (ks := ks) (by intro e; rw [e] at h2; simp at h2) (x := y) (i := i) (by omega) (fun k hk => hbefore k hk (by omega)) hafter
  rw [if_neg (fun h => e2 h.2), show min i (ks.length - 1) = i by omega] at hf
  unfold rangeP valP partAt
  rw [hf]
  generalize ks.getD (i - 1) (0, 0) = p at *
  generalize ks.getD i (0, 0) = q at *
  rw [if_neg (fun h : p = q => by rw [h] at hlt; omega)]
  unfold segR segP
  rw [ceil_law (by omega)]
  simp only [Int.add_assoc]
theorem val_low {ks : List Kn} (ha : Asc ks) (h0 : 0 < ks.length) {y : Int} (hy : y ≤ (ks.getD 0 (0, 0)).1) : rangeP ks y = ((ks.getD 0 (0, 0)).2, (ks.getD 0 (0, 0)).2) := by
  have hf := findV_at (ks := ks) (by intro e; rw [e] at h0; simp at h0) (x := y) (i := 0) (by omega) (fun k hk => by omega) (fun k _ h4 => by
    rcases Nat.eq_zero_or_pos k with h5 | h5
    · rw [h5]; exact hy
    · have := ha.lt (i := 0) (j := k) h5 h4; omega)
  have hf : findV ks y = (ks.getD 0 (0, 0), ks.getD 0 (0, 0)) := by rw [hf]; split <;> simp
  unfold rangeP valP partAt
  rw [hf, if_pos rfl]
  show ((ks.getD 0 (0, 0)).2, (ks.getD 0 (0, 0)).2 + min 0 1) = _
  rw [show (ks.getD 0 (0, 0)).2 + min (0 : Int) 1 = (ks.getD 0 (0, 0)).2 by omega]
theorem val_high {ks : List Kn} (ha : Asc ks) (h0 : 0 < ks.length) {y : Int} (hy : (ks.getD (ks.length - 1) (0, 0)).1 ≤ y) : rangeP ks y = ((ks.getD (ks.length - 1) (0, 0)).2, (ks.getD (ks.length - 1) (0, 0)).2) := by
  by_cases e : (ks.getD (ks.length - 1) (0, 0)).1 = y
  · rw [← e, rangeP_knot ha (getD_mem (by omega) _)]
  have hf := findV_at (ks := ks) (by intro e; rw [e] at h0; simp at h0) (x := y) (i := ks.length) (by omega) (fun k hk => by
    rcases Nat.lt_or_ge k (ks.length - 1) with h5 | h5
    · have := ha.lt (i := k) (j := ks.length - 1) h5 (by omega); omega
    · rw [show k = ks.length - 1 by omega]; omega) (fun k h3 h4 => by omega)
  rw [if_neg (fun h => by omega), show min ks.length (ks.length - 1) = ks.length - 1 by omega] at hf
  unfold rangeP valP partAt
  rw [hf, if_pos rfl]
  show ((ks.getD (ks.length - 1) (0, 0)).2, (ks.getD (ks.length - 1) (0, 0)).2 + min 0 1) = _
  rw [show (ks.getD (ks.length - 1) (0, 0)).2 + min (0 : Int) 1 = (ks.getD (ks.length - 1) (0, 0)).2 by omega]
theorem segR_up {p q : Kn} (h : p.1 < q.1) (hd : p.2 ≤ q.2) {x y : Int} (hxy : x ≤ y) : le2 (segR p q x) (segR p q y) := by
  have m : (q.2 - p.2) * (x - p.1) ≤ (q.2 - p.2) * (y - p.1) := Int.mul_le_mul_of_nonneg_left (by omega) (by omega)
  have a1 := Int.ediv_le_ediv (show 0 < q.1 - p.1 by omega) m
  have a2 := Int.ediv_le_ediv (show 0 < q.1 - p.1 by omega) (Int.neg_le_neg m)
  exact ⟨by show p.2 + _ ≤ p.2 + _; omega, by show p.2 + -_ ≤ p.2 + -_; omega⟩
theorem segR_down {p q : Kn} (h : p.1 < q.1) (hd : q.2 ≤ p.2) {x y : Int} (hxy : x ≤ y) : le2 (segR p q y) (segR p q x) := by
  have m : (q.2 - p.2) * (y - p.1) ≤ (q.2 - p.2) * (x - p.1) := Int.mul_le_mul_of_nonpos_left (by omega) (by omega)
  have a1 := Int.ediv_le_ediv (show 0 < q.1 - p.1 by omega) m
  have a2 := Int.ediv_le_ediv (show 0 < q.1 - p.1 by omega) (Int.neg_le_neg m)
  exact ⟨by show p.2 + _ ≤ p.2 + _; omega, by show p.2 + -_ ≤ p.2 + -_; omega⟩
/-- A part on which a line goes one way. -/
def Mono (ks : List Kn) (a b : Int) : Prop :=
  (∀ x y, a ≤ x → x ≤ y → y ≤ b → le2 (rangeP ks x) (rangeP ks y)) ∨ (∀ x y, a ≤ x → x ≤ y → y ≤ b → le2 (rangeP ks y) (rangeP ks x))
/-- Within a part each place lies in a smaller one, between knots or the part's ends, on which the line goes one way. -/
theorem piece {ks : List Kn} (ha : Asc ks) (h0 : 0 < ks.length) {u w x : Int} (hu : u ≤ x) (hw : x ≤ w) : ∃ a b, u ≤ a ∧ a ≤ x ∧ x ≤ b ∧ b ≤ w ∧ Mono ks a b ∧ (a = u ∨ ∃ k ∈ ks, k.1 = a) ∧ (b = w ∨ ∃ k ∈ ks, k.1 = b) := by
  have conc : ∀ {v : Int}, le2 (v, v) (v, v) := ⟨Int.le_refl _, Int.le_refl _⟩
  obtain ⟨i, hi, h1, h2⟩ := split_at ha x
  by_cases e0 : i = 0
  · subst e0
    have hx := h2 0 (Nat.le_refl _) h0
    by_cases hb : (ks.getD 0 (0, 0)).1 ≤ w
    · exact ⟨u, (ks.getD 0 (0, 0)).1, Int.le_refl _, hu, hx, hb, .inl fun y z _ h4 h5 => by rw [val_low ha h0 (by omega), val_low ha h0 h5]; exact conc, .inl rfl, .inr ⟨_, getD_mem h0 _, rfl⟩⟩
    · exact ⟨u, w, Int.le_refl _, hu, hw, Int.le_refl _, .inl fun y z _ h4 h5 => by rw [val_low ha h0 (by omega), val_low ha h0 (by omega)]; exact conc, .inl rfl, .inl rfl⟩
  have hp := h1 (i - 1) (by omega)
  have lo : ∃ a, u ≤ a ∧ a ≤ x ∧ (ks.getD (i - 1) (0, 0)).1 ≤ a ∧ (a = u ∨ ∃ k ∈ ks, k.1 = a) := by
    by_cases h : u ≤ (ks.getD (i - 1) (0, 0)).1
    · exact ⟨_, h, by omega, Int.le_refl _, .inr ⟨_, getD_mem (by omega) _, rfl⟩⟩
    · exact ⟨u, Int.le_refl _, hu, by omega, .inl rfl⟩
  obtain ⟨a, a1, a2, a3, a4⟩ := lo
  by_cases e1 : i = ks.length
  · subst e1
    exact ⟨a, w, a1, a2, hw, Int.le_refl _, .inl fun y z h3 h4 _ => by rw [val_high ha h0 (by omega), val_high ha h0 (by omega)]; exact conc, a4, .inl rfl⟩
  have hq := h2 i (Nat.le_refl _) (by omega)
  have hlt := ha.lt (i := i - 1) (j := i) (by omega) (by omega)
  have hi' : ∃ b, x ≤ b ∧ b ≤ w ∧ b ≤ (ks.getD i (0, 0)).1 ∧ (b = w ∨ ∃ k ∈ ks, k.1 = b) := by
    by_cases h : (ks.getD i (0, 0)).1 ≤ w
    · exact ⟨_, hq, h, Int.le_refl _, .inr ⟨_, getD_mem (by omega) _, rfl⟩⟩
    · exact ⟨w, hw, Int.le_refl _, by omega, .inl rfl⟩
  obtain ⟨b, b1, b2, b3, b4⟩ := hi'
  refine ⟨a, b, a1, a2, b1, b2, ?_, a4, b4⟩
  clear a4 b4
  rcases Int.le_total (ks.getD (i - 1) (0, 0)).2 (ks.getD i (0, 0)).2 with hd | hd
  · left
    intro y z h3 h4 h5
    rw [val_mid ha (i := i) (y := y) (by omega) (by omega) (by omega) (by omega), val_mid ha (i := i) (y := z) (by omega) (by omega) (by omega) (by omega)]
    exact segR_up hlt hd h4
  · right
    intro y z h3 h4 h5
    rw [val_mid ha (i := i) (y := y) (by omega) (by omega) (by omega) (by omega), val_mid ha (i := i) (y := z) (by omega) (by omega) (by omega) (by omega)]
    exact segR_down hlt hd h4
end Go.Proofs.Ytcglpbchejkolaa
/- Earth: the least and the greatest value of a part enclose all, and are among them: plain laws. -/
namespace Go.Proofs.Ytcglpbchejkolaa
open Go.RowKit
set_option linter.unusedSimpArgs false
set_option linter.unusedVariables false

section
variable {ks : List Kn} (hr : rightB ks = true) {a b : Int} (hab : a ≤ b)
include hr hab
end
end Go.Proofs.Ytcglpbchejkolaa
/- Earth: the earth made of numbers: its lines are lines. -/
namespace Go.Proofs.Ytcglpbchejkolaa
open Go.RowKit
set_option linter.unusedSimpArgs false
set_option linter.unusedVariables false

end Go.Proofs.Ytcglpbchejkolaa
/- Earth: bounds of a line's values; one cm's step of what a point allows. -/
namespace Go.Proofs.Ytcglpbchejkolaa
open Go.RowKit
set_option linter.unusedSimpArgs false
set_option linter.unusedVariables false

end Go.Proofs.Ytcglpbchejkolaa
/- Earth: one cm's step of a line that goes up. -/
namespace Go.Proofs.Ytcglpbchejkolaa
open Go.RowKit
set_option linter.unusedSimpArgs false
set_option linter.unusedVariables false

theorem Rise.slope {gl gh B : Int} : ∀ {l : List Kn}, Rise gl gh B l → ∀ {i : Nat}, 0 < i → i < l.length → gl * ((l.getD i (0, 0)).1 - (l.getD (i - 1) (0, 0)).1) ≤ (l.getD i (0, 0)).2 - (l.getD (i - 1) (0, 0)).2 ∧ (l.getD i (0, 0)).2 - (l.getD (i - 1) (0, 0)).2 ≤ gh * ((l.getD i (0, 0)).1 - (l.getD (i - 1) (0, 0)).1)
  | [], h, i, h1, h2 => by cases h
  | [k], h, i, h1, h2 => by simp at h2; omega
  | (a, v) :: (a', v') :: l, h, i, h1, h2 => by
    cases h with
    | cons ha hB g1 g2 ht =>
      match i, h1, h2 with
      | 1, _, _ => exact ⟨g1, g2⟩
      | i + 2, _, h2 => exact ht.slope (i := i + 1) (by omega) (by simpa using h2)
theorem segR_step {p q : Kn} {gl gh z : Int} (h : p.1 < q.1) (h1 : gl * (q.1 - p.1) ≤ q.2 - p.2) (h2 : q.2 - p.2 ≤ gh * (q.1 - p.1)) :
    ((segR p q z).1 + gl ≤ (segR p q (z + 1)).1 ∧ (segR p q (z + 1)).1 ≤ (segR p q z).1 + gh) ∧ (segR p q z).2 + gl ≤ (segR p q (z + 1)).2 ∧ (segR p q (z + 1)).2 ≤ (segR p q z).2 + gh := by
  unfold segR
  have hL : 0 < q.1 - p.1 := by omega
  have e : (q.2 - p.2) * (z + 1 - p.1) = (q.2 - p.2) * (z - p.1) + (q.2 - p.2) := by rw [show z + 1 - p.1 = (z - p.1) + 1 by omega, Int.mul_add, Int.mul_one]
  rw [e]
  generalize (q.2 - p.2) * (z - p.1) = N at *
  generalize q.2 - p.2 = D at *
  generalize q.1 - p.1 = L at *
  have a1 := Int.ediv_le_ediv hL (show N + gl * L ≤ N + D by omega)
  have a2 := Int.ediv_le_ediv hL (show N + D ≤ N + gh * L by omega)
  have a3 := Int.ediv_le_ediv hL (show -(N + D) ≤ -N + -gl * L by rw [Int.neg_mul]; omega)
  have a4 := Int.ediv_le_ediv hL (show -N + -gh * L ≤ -(N + D) by rw [Int.neg_mul]; omega)
  rw [Int.add_mul_ediv_right _ _ (by omega)] at a1 a2 a3 a4
  simp only []
  omega
theorem Rise.step {gl gh B : Int} {l : List Kn} (h : Rise gl gh B l) (h0 : 0 ≤ gl) (hg : gl ≤ gh) (z : Int) : le2 (rangeP l z) (rangeP l (z + 1)) ∧ (rangeP l (z + 1)).1 ≤ (rangeP l z).1 + gh ∧ (rangeP l (z + 1)).2 ≤ (rangeP l z).2 + gh := by
  have ha := h.asc
  have hl : 0 < l.length := List.length_pos_iff.2 h.ne
  obtain ⟨i, hi, h1, h2⟩ := split_at ha (z + 1)
  by_cases e0 : i = 0
  · subst e0
    have := h2 0 (Nat.le_refl _) hl
    rw [val_low ha hl (y := z) (by omega), val_low ha hl this]
    exact ⟨⟨Int.le_refl _, Int.le_refl _⟩, by show _ ≤ _ + gh; omega, by show _ ≤ _ + gh; omega⟩
  have hp := h1 (i - 1) (by omega)
  by_cases e1 : i = l.length
  · rw [e1] at hp
    rw [val_high ha hl (y := z) (by omega), val_high ha hl (y := z + 1) (by omega)]
    exact ⟨⟨Int.le_refl _, Int.le_refl _⟩, by show _ ≤ _ + gh; omega, by show _ ≤ _ + gh; omega⟩
  have hq := h2 i (Nat.le_refl _) (by omega)
  have hlt := ha.lt (i := i - 1) (j := i) (by omega) (by omega)
  obtain ⟨s1, s2⟩ := h.slope (i := i) (by omega) (by omega)
  rw [val_mid ha (i := i) (y := z) (by omega) (by omega) (by omega) (by omega), val_mid ha (i := i) (y := z + 1) (by omega) (by omega) (by omega) (by omega)]
  obtain ⟨⟨b1, b2⟩, b3, b4⟩ := segR_step (z := z) hlt s1 s2
  exact ⟨⟨by omega, by omega⟩, b2, b4⟩
end Go.Proofs.Ytcglpbchejkolaa
/- Earth: the earth whose lines are a truth's: valid, and what its ranges do in one cm. -/
namespace Go.Proofs.Ytcglpbchejkolaa
open Go.RowKit
set_option linter.unusedSimpArgs false
set_option linter.unusedVariables false

theorem same_ab {u l : List Kn} (hu : Good u) (hl : Good l) (h1 : ∀ k ∈ u, ∃ k' ∈ l, k'.1 = k.1 ∧ k'.2 ≤ k.2) (h2 : ∀ k ∈ l, ∃ k' ∈ u, k'.1 = k.1 ∧ k.2 ≤ k'.2) (to : Int) : aboveV u l to = true := by
  rw [aboveV_iff hu hl]
  refine ⟨fun k hk => .inr ?_, fun k hk => .inr ?_⟩
  · obtain ⟨k', m, e, le⟩ := h1 k hk
    rw [← e, rangeP_knot hl.asc m]; exact le
  · obtain ⟨k', m, e, le⟩ := h2 k hk
    rw [← e, rangeP_knot hu.asc m]; exact le
end Go.Proofs.Ytcglpbchejkolaa
/- Earth: lines compared everywhere: plain laws. -/
namespace Go.Proofs.Ytcglpbchejkolaa
open Go.RowKit
set_option linter.unusedSimpArgs false
set_option linter.unusedVariables false

theorem geP_iff {p q : Int × Int × Int} (p0 : 0 ≤ p.2.1) (p1 : p.2.1 < p.2.2) (q0 : 0 ≤ q.2.1) (q1 : q.2.1 < q.2.2) : geP p q = true ↔ (q.1 * q.2.2 + q.2.1) * p.2.2 ≤ (p.1 * p.2.2 + p.2.1) * q.2.2 := by
  obtain ⟨a, n, d⟩ := p
  obtain ⟨b, m, f⟩ := q
  simp only [] at p0 p1 q0 q1
  unfold geP
  simp only [Bool.or_eq_true, Bool.and_eq_true, decide_eq_true_eq, beq_iff_eq]
  have e1 : (b * f + m) * d = b * (d * f) + m * d := by rw [Int.add_mul, Int.mul_assoc, Int.mul_comm f d]
  have e2 : (a * d + n) * f = a * (d * f) + n * f := by rw [Int.add_mul, Int.mul_assoc]
  rw [e1, e2]
  have m0 : 0 ≤ m * d := Int.mul_nonneg q0 (by omega)
  have m1 : m * d < f * d := Int.mul_lt_mul_of_pos_right q1 (by omega)
  have n0 : 0 ≤ n * f := Int.mul_nonneg p0 (by omega)
  have n1 : n * f < d * f := Int.mul_lt_mul_of_pos_right p1 (by omega)
  have c : f * d = d * f := Int.mul_comm _ _
  have hdf : 0 ≤ d * f := Int.mul_nonneg (by omega) (by omega)
  rcases Int.lt_trichotomy b a with h | h | h
  · have := Int.mul_le_mul_of_nonneg_right (show b + 1 ≤ a by omega) hdf
    rw [Int.add_mul, Int.one_mul] at this
    exact ⟨fun _ => by omega, fun _ => .inl h⟩
  · subst h
    exact ⟨fun hh => by omega, fun hh => .inr ⟨rfl, by omega⟩⟩
  · have := Int.mul_le_mul_of_nonneg_right (show a + 1 ≤ b by omega) hdf
    rw [Int.add_mul, Int.one_mul] at this
    exact ⟨fun hh => by omega, fun hh => by omega⟩
/-- The value of a place is A / D. -/
def Is (t : Int × Int × Int) (A D : Int) : Prop := 0 < D ∧ 0 ≤ t.2.1 ∧ t.2.1 < t.2.2 ∧ (t.1 * t.2.2 + t.2.1) * D = A * t.2.2
theorem Is.ge {p q : Int × Int × Int} {A D B E : Int} (hp : Is p A D) (hq : Is q B E) : geP p q = true ↔ B * D ≤ A * E := by
  obtain ⟨d0, p0, p1, hp⟩ := hp
  obtain ⟨e0, q0, q1, hq⟩ := hq
  rw [geP_iff p0 p1 q0 q1]
  generalize p.1 * p.2.2 + p.2.1 = N at *
  generalize q.1 * q.2.2 + q.2.1 = M at *
  generalize p.2.2 = d at *
  generalize q.2.2 = f at *
  have k1 : M * d * (D * E) = B * D * (d * f) := by
    rw [show M * d * (D * E) = M * E * (D * d) by ac_rfl, hq]; ac_rfl
  have k2 : N * f * (D * E) = A * E * (d * f) := by
    rw [show N * f * (D * E) = N * D * (E * f) by ac_rfl, hp]; ac_rfl
  have p1 : 0 < D * E := Int.mul_pos d0 e0
  have p2 : 0 < d * f := Int.mul_pos (by omega) (by omega)
  constructor
  · intro h
    have := Int.mul_le_mul_of_nonneg_right h (Int.le_of_lt p1)
    rw [k1, k2] at this
    exact Int.le_of_mul_le_mul_right this p2
  · intro h
    have := Int.mul_le_mul_of_nonneg_right h (Int.le_of_lt p2)
    rw [← k1, ← k2] at this
    exact Int.le_of_mul_le_mul_right this p1
/-- What is at least another one has its ends at least there, too. -/
theorem geP_range {p q : Int × Int × Int} (hp : 0 ≤ p.2.1 ∧ p.2.1 < p.2.2) (hq : 0 ≤ q.2.1 ∧ q.2.1 < q.2.2) (h : geP p q = true) : q.1 ≤ p.1 ∧ q.1 + min q.2.1 1 ≤ p.1 + min p.2.1 1 := by
  unfold geP at h
  simp only [Bool.or_eq_true, Bool.and_eq_true, decide_eq_true_eq, beq_iff_eq] at h
  rcases h with h | ⟨h, h2⟩
  · omega
  · by_cases e : q.2.1 = 0
    · omega
    · have := Int.mul_pos (show 0 < q.2.1 by omega) (show 0 < p.2.2 by omega)
      have : 0 < p.2.1 := by
        rcases Int.lt_or_le 0 p.2.1 with h3 | h3
        · exact h3
        · have h4 : p.2.1 = 0 := by omega
          rw [h4, Int.zero_mul] at h2
          omega
      omega
/-! Values of a line, part by part, as fractions -/
theorem valP_low {ks : List Kn} (ha : Asc ks) (h0 : 0 < ks.length) {y : Int} (hy : y ≤ (ks.getD 0 (0, 0)).1) : valP ks y = ((ks.getD 0 (0, 0)).2, 0, 1) := by
  have hf := findV_at (ks := ks) (by intro e; rw [e] at h0; simp at h0) (x := y) (i := 0) (by omega) (fun k hk => by omega) (fun k _ h4 => by
    rcases Nat.eq_zero_or_pos k with h5 | h5
    · rw [h5]; exact hy
    · have := ha.lt (i := 0) (j := k) h5 h4; omega)
  have hf : findV ks y = (ks.getD 0 (0, 0), ks.getD 0 (0, 0)) := by rw [hf]; split <;> simp
  unfold valP partAt
  rw [hf, if_pos rfl]
theorem valP_high {ks : List Kn} (ha : Asc ks) (h0 : 0 < ks.length) {y : Int} (hy : (ks.getD (ks.length - 1) (0, 0)).1 ≤ y) : valP ks y = ((ks.getD (ks.length - 1) (0, 0)).2, 0, 1) := by
  by_cases e : (ks.getD (ks.length - 1) (0, 0)).1 = y
  · rw [← e, valP_knot ha (getD_mem (by omega) _)]
  have hf := findV_at (ks := ks) (by intro e; rw [e] at h0; simp at h0) (x := y) (i := ks.length) (by omega) (fun k hk => by
    rcases Nat.lt_or_ge k (ks.length - 1) with h5 | h5
    · have := ha.lt (i := k) (j := ks.length - 1) h5 (by omega); omega
    · rw [show k = ks.length - 1 by omega]; omega) (fun k h3 h4 => by omega)
  rw [if_neg (fun h => by omega), show min ks.length (ks.length - 1) = ks.length - 1 by omega] at hf
  unfold valP partAt
  rw [hf, if_pos rfl]
theorem Is.const (v x : Int) : Is (v, 0, 1) (v + 0 * x) 1 := by
  refine ⟨by decide, Int.le_refl _, by show (0 : Int) < 1; decide, ?_⟩
  simp
theorem Is_mid {ks : List Kn} (ha : Asc ks) {i : Nat} (h1 : 0 < i) (h2 : i < ks.length) {y : Int} (hy : (ks.getD (i - 1) (0, 0)).1 ≤ y) (hy2 : y ≤ (ks.getD i (0, 0)).1) :
    Is (valP ks y) ((ks.getD (i - 1) (0, 0)).2 * ((ks.getD i (0, 0)).1 - (ks.getD (i - 1) (0, 0)).1) - ((ks.getD i (0, 0)).2 - (ks.getD (i - 1) (0, 0)).2) * (ks.getD (i - 1) (0, 0)).1 + ((ks.getD i (0, 0)).2 - (ks.getD (i - 1) (0, 0)).2) * y) ((ks.getD i (0, 0)).1 - (ks.getD (i - 1) (0, 0)).1) := by
  have hlt := ha.lt (i := i - 1) (j := i) (by omega) h2
  have hp := getD_mem (l := ks) (i := i - 1) (by omega) (0, 0)
  have hq := getD_mem (l := ks) (i := i) h2 (0, 0)
  have hbefore : ∀ k < i, (ks.getD (i - 1) (0, 0)).1 < y → (ks.getD k (0, 0)).1 < y := fun k hk h => by
    rcases Nat.lt_or_ge k (i - 1) with h3 | h3
    · have := ha.lt (i := k) (j := i - 1) h3 (by omega); omega
    · rw [show k = i - 1 by omega]; exact h
  have hafter : ∀ k, i ≤ k → k < ks.length → y ≤ (ks.getD k (0, 0)).1 := fun k h3 h4 => by
    rcases Nat.lt_or_ge i k with h5 | h5
    · have := ha.lt (i := i) (j := k) h5 h4; omega
    · rw [show k = i by omega]; exact hy2
  by_cases e1 : (ks.getD (i - 1) (0, 0)).1 = y
  · rw [← e1, valP_knot ha hp]
    refine ⟨by omega, Int.le_refl _, by show (0 : Int) < 1; decide, ?_⟩
    simp only [Int.mul_one, Int.add_zero]
    omega
  by_cases e2 : (ks.getD i (0, 0)).1 = y
  · rw [← e2, valP_knot ha hq]
    refine ⟨by omega, Int.le_refl _, by show (0 : Int) < 1; decide, ?_⟩
    simp only [Int.mul_one, Int.add_zero]
    simp only [Int.mul_sub, Int.sub_mul]
    omega
  have hf := findV_at (ks := ks) (by intro e; rw [e] at h2; simp at h2) (x := y) (i := i) (by omega) (fun k hk => hbefore k hk (by omega)) hafter
  rw [if_neg (fun h => e2 h.2), show min i (ks.length - 1) = i by omega] at hf
  unfold valP partAt
  rw [hf]
  generalize ks.getD (i - 1) (0, 0) = p at *
  generalize ks.getD i (0, 0) = q at *
  rw [if_neg (fun h : p = q => by rw [h] at hlt; omega)]
  unfold segP
  have hL : 0 < q.1 - p.1 := by omega
  refine ⟨hL, Int.emod_nonneg _ (show q.1 - p.1 ≠ 0 by omega), Int.emod_lt_of_pos _ hL, ?_⟩
  simp only []
  refine congrArg (· * (q.1 - p.1)) ?_
  have e := Int.mul_ediv_add_emod ((q.2 - p.2) * (y - p.1)) (q.1 - p.1)
  have e3 : (q.2 - p.2) * (y - p.1) = (q.2 - p.2) * y - (q.2 - p.2) * p.1 := Int.mul_sub _ _ _
  rw [Int.add_mul, Int.mul_comm ((q.2 - p.2) * (y - p.1) / (q.1 - p.1)) (q.1 - p.1)]
  omega
/-- A part on which a line is straight. -/
def Aff (ks : List Kn) (a b : Int) : Prop := ∃ A M D : Int, ∀ x, a ≤ x → x ≤ b → Is (valP ks x) (A + M * x) D
theorem Aff.part {ks : List Kn} {a b a' b' : Int} (h : Aff ks a b) (h1 : a ≤ a') (h2 : b' ≤ b) : Aff ks a' b' := by
  obtain ⟨A, M, D, h⟩ := h
  exact ⟨A, M, D, fun x k1 k2 => h x (by omega) (by omega)⟩
theorem ge_between {u l : List Kn} {a b x : Int} (hu : Aff u a b) (hl : Aff l a b) (h1 : a ≤ x) (h2 : x ≤ b) (g1 : geP (valP u a) (valP l a) = true) (g2 : geP (valP u b) (valP l b) = true) : geP (valP u x) (valP l x) = true := by
  obtain ⟨A, M, D, hu⟩ := hu
  obtain ⟨B, N, E, hl⟩ := hl
  rw [(hu a (Int.le_refl _) (by omega)).ge (hl a (Int.le_refl _) (by omega))] at g1
  rw [(hu b (by omega) (Int.le_refl _)).ge (hl b (by omega) (Int.le_refl _))] at g2
  rw [(hu x h1 h2).ge (hl x h1 h2)]
  have e : ∀ y : Int, (A + M * y) * E - (B + N * y) * D = (A * E - B * D) + (M * E - N * D) * y := fun y => by
    rw [Int.add_mul, Int.add_mul, Int.sub_mul, show M * y * E = M * E * y by ac_rfl, show N * y * D = N * D * y by ac_rfl]; omega
  have ea := e a
  have eb := e b
  have ex := e x
  generalize A * E - B * D = F at *
  generalize M * E - N * D = S at *
  rcases Int.le_total 0 S with hs | hs
  · have := Int.mul_le_mul_of_nonneg_left h1 hs
    omega
  · have := Int.mul_le_mul_of_nonpos_left hs h2
    omega
/-- Within a part each place lies in a smaller one, between knots or the part's ends, on which the line is straight. -/
theorem pieceA {ks : List Kn} (ha : Asc ks) (h0 : 0 < ks.length) {u w x : Int} (hu : u ≤ x) (hw : x ≤ w) : ∃ a b, u ≤ a ∧ a ≤ x ∧ x ≤ b ∧ b ≤ w ∧ Aff ks a b ∧ (a = u ∨ ∃ k ∈ ks, k.1 = a) ∧ (b = w ∨ ∃ k ∈ ks, k.1 = b) := by
  obtain ⟨i, hi, h1, h2⟩ := split_at ha x
  by_cases e0 : i = 0
  · subst e0
    have hx := h2 0 (Nat.le_refl _) h0
    by_cases hb : (ks.getD 0 (0, 0)).1 ≤ w
    · exact ⟨u, (ks.getD 0 (0, 0)).1, Int.le_refl _, hu, hx, hb, ⟨_, _, _, fun y _ h5 => by rw [valP_low ha h0 h5]; exact Is.const _ _⟩, .inl rfl, .inr ⟨_, getD_mem h0 _, rfl⟩⟩
    · exact ⟨u, w, Int.le_refl _, hu, hw, Int.le_refl _, ⟨_, _, _, fun y _ h5 => by rw [valP_low ha h0 (by omega)]; exact Is.const _ _⟩, .inl rfl, .inl rfl⟩
  have hp := h1 (i - 1) (by omega)
  have lo : ∃ a, u ≤ a ∧ a ≤ x ∧ (ks.getD (i - 1) (0, 0)).1 ≤ a ∧ (a = u ∨ ∃ k ∈ ks, k.1 = a) := by
    by_cases h : u ≤ (ks.getD (i - 1) (0, 0)).1
    · exact ⟨_, h, by omega, Int.le_refl _, .inr ⟨_, getD_mem (by omega) _, rfl⟩⟩
    · exact ⟨u, Int.le_refl _, hu, by omega, .inl rfl⟩
  obtain ⟨a, a1, a2, a3, a4⟩ := lo
  by_cases e1 : i = ks.length
  · subst e1
    exact ⟨a, w, a1, a2, hw, Int.le_refl _, ⟨_, _, _, fun y h3 _ => by rw [valP_high ha h0 (by omega)]; exact Is.const _ _⟩, a4, .inl rfl⟩
  have hq := h2 i (Nat.le_refl _) (by omega)
  have hlt := ha.lt (i := i - 1) (j := i) (by omega) (by omega)
  have hi' : ∃ b, x ≤ b ∧ b ≤ w ∧ b ≤ (ks.getD i (0, 0)).1 ∧ (b = w ∨ ∃ k ∈ ks, k.1 = b) := by
    by_cases h : (ks.getD i (0, 0)).1 ≤ w
    · exact ⟨_, hq, h, Int.le_refl _, .inr ⟨_, getD_mem (by omega) _, rfl⟩⟩
    · exact ⟨w, hw, Int.le_refl _, by omega, .inl rfl⟩
  obtain ⟨b, b1, b2, b3, b4⟩ := hi'
  have hA : Aff ks a b := ⟨_, _, _, fun y h3 h4 => Is_mid ha (i := i) (y := y) (Nat.pos_of_ne_zero e0) (Nat.lt_of_le_of_ne hi e1) (Int.le_trans a3 h3) (Int.le_trans h4 b3)⟩
  exact ⟨a, b, a1, a2, b1, b2, hA, a4, b4⟩
/-- A line that is at least another one at a part's ends and at the knots of both is so in the part. -/
theorem ge_in {u l : List Kn} (hu : Asc u) (u0 : 0 < u.length) (hl : Asc l) (l0 : 0 < l.length) {lo hi x : Int} (h1 : lo ≤ x) (h2 : x ≤ hi) (g1 : geP (valP u lo) (valP l lo) = true) (g2 : geP (valP u hi) (valP l hi) = true) (g : ∀ k, k ∈ u ∨ k ∈ l → lo ≤ k.1 → k.1 ≤ hi → geP (valP u k.1) (valP l k.1) = true) : geP (valP u x) (valP l x) = true := by
  obtain ⟨a, b, a1, a2, b1, b2, hA, ea, eb⟩ := pieceA hu u0 h1 h2
  obtain ⟨a', b', a3, a4, b3, b4, hB, ea', eb'⟩ := pieceA hl l0 a2 b1
  have ga : geP (valP u a) (valP l a) = true := by
    rcases ea with rfl | ⟨k, hk, rfl⟩
    · exact g1
    · exact g k (.inl hk) a1 (by omega)
  have gb : geP (valP u b) (valP l b) = true := by
    rcases eb with rfl | ⟨k, hk, rfl⟩
    · exact g2
    · exact g k (.inl hk) (by omega) b2
  refine ge_between (hA.part a3 b4) hB a4 b3 ?_ ?_
  · rcases ea' with rfl | ⟨k, hk, rfl⟩
    · exact ga
    · exact g k (.inr hk) (by omega) (by omega)
  · rcases eb' with rfl | ⟨k, hk, rfl⟩
    · exact gb
    · exact g k (.inr hk) (by omega) (by omega)
/-- .. at the knots of both: everywhere. -/
theorem ge_all {u l : List Kn} (hu : Asc u) (u0 : 0 < u.length) (hl : Asc l) (l0 : 0 < l.length) (g : ∀ k, k ∈ u ∨ k ∈ l → geP (valP u k.1) (valP l k.1) = true) (x : Int) : geP (valP u x) (valP l x) = true := by
  have mu := getD_mem u0 (0, 0)
  have ml := getD_mem l0 (0, 0)
  have nu := getD_mem (l := u) (i := u.length - 1) (by omega) (0, 0)
  have nl := getD_mem (l := l) (i := l.length - 1) (by omega) (0, 0)
  -- below the first knots
  have low : ∀ y, y ≤ (u.getD 0 (0, 0)).1 → y ≤ (l.getD 0 (0, 0)).1 → geP (valP u y) (valP l y) = true := fun y h1 h2 => by
    rcases Int.le_total (u.getD 0 (0, 0)).1 (l.getD 0 (0, 0)).1 with h | h
    · have := g _ (.inl mu)
      rw [valP_low hu u0 (Int.le_refl _), valP_low hl l0 h] at this
      rw [valP_low hu u0 h1, valP_low hl l0 h2]; exact this
    · have := g _ (.inr ml)
      rw [valP_low hu u0 h, valP_low hl l0 (Int.le_refl _)] at this
      rw [valP_low hu u0 h1, valP_low hl l0 h2]; exact this
  have high : ∀ y, (u.getD (u.length - 1) (0, 0)).1 ≤ y → (l.getD (l.length - 1) (0, 0)).1 ≤ y → geP (valP u y) (valP l y) = true := fun y h1 h2 => by
    rcases Int.le_total (u.getD (u.length - 1) (0, 0)).1 (l.getD (l.length - 1) (0, 0)).1 with h | h
    · have := g _ (.inr nl)
      rw [valP_high hu u0 h, valP_high hl l0 (Int.le_refl _)] at this
      rw [valP_high hu u0 h1, valP_high hl l0 h2]; exact this
    · have := g _ (.inl nu)
      rw [valP_high hu u0 (Int.le_refl _), valP_high hl l0 h] at this
      rw [valP_high hu u0 h1, valP_high hl l0 h2]; exact this
  have g1 := low (min x (min (u.getD 0 (0, 0)).1 (l.getD 0 (0, 0)).1)) (by omega) (by omega)
  have g2 := high (max x (max (u.getD (u.length - 1) (0, 0)).1 (l.getD (l.length - 1) (0, 0)).1)) (by omega) (by omega)
  exact ge_in hu u0 hl l0 (by omega) (by omega) g1 g2 fun k hk _ _ => g k hk
theorem Good.pos {ks : List Kn} (h : Good ks) : 0 < ks.length := List.length_pos_iff.2 h.ne
theorem above_all {u l : List Kn} (hu : Good u) (hl : Good l) (h : ab u l = true) (x : Int) : geP (valP u x) (valP l x) = true := by
  refine ge_all hu.asc hu.pos hl.asc hl.pos (fun k hk => ?_) x
  unfold ab aboveV at h
  rw [List.all_eq_true] at h
  have h2 := h k (List.mem_append.2 hk)
  have hb : k.1 ≤ 1099511627776 := by
    rcases hk with hk | hk
    · exact (hu.bd hk).2.1
    · exact (hl.bd hk).2.1
  rw [decide_eq_false (by omega), Bool.false_or] at h2
  exact h2
theorem Good.wf {ks : List Kn} (h : Good ks) (x : Int) : 0 ≤ (valP ks x).2.1 ∧ (valP ks x).2.1 < (valP ks x).2.2 := ⟨(h.val x).1, (h.val x).2.1⟩
theorem above_range {u l : List Kn} (hu : Good u) (hl : Good l) {x : Int} (h : geP (valP u x) (valP l x) = true) : le2 (rangeP l x) (rangeP u x) := geP_range (hu.wf _) (hl.wf _) h
end Go.Proofs.Ytcglpbchejkolaa
/- Earth: a truth that fits lies in the ranges: plain laws. -/
namespace Go.Proofs.Ytcglpbchejkolaa
open Go.RowKit
set_option linter.unusedSimpArgs false
set_option linter.unusedVariables false

theorem Rise.len_pos {gl gh B : Int} {l : List Kn} (h : Rise gl gh B l) : 0 < l.length := List.length_pos_iff.2 h.ne
theorem Rise.last {gl gh B : Int} {l : List Kn} (h : Rise gl gh B l) : (l.getD (l.length - 1) (0, 0)).1 = B := h.end
/-- One cm's step within a line: how much it rises at least, too. -/
theorem Rise.stepIn {gl gh B : Int} {l : List Kn} (h : Rise gl gh B l) {z : Int} (h1 : (l.getD 0 (0, 0)).1 ≤ z) (h2 : z + 1 ≤ B) : ((rangeP l z).1 + gl ≤ (rangeP l (z + 1)).1 ∧ (rangeP l (z + 1)).1 ≤ (rangeP l z).1 + gh) ∧ (rangeP l z).2 + gl ≤ (rangeP l (z + 1)).2 ∧ (rangeP l (z + 1)).2 ≤ (rangeP l z).2 + gh := by
  have ha := h.asc
  have hl := h.len_pos
  have he := h.last
  obtain ⟨i, hi, g1, g2⟩ := split_at ha (z + 1)
  by_cases e0 : i = 0
  · subst e0
    have := g2 0 (Nat.le_refl _) hl
    omega
  have hp := g1 (i - 1) (by omega)
  by_cases e1 : i = l.length
  · rw [e1, he] at hp
    omega
  have hq := g2 i (Nat.le_refl _) (by omega)
  have hlt := ha.lt (i := i - 1) (j := i) (by omega) (by omega)
  obtain ⟨s1, s2⟩ := h.slope (i := i) (by omega) (by omega)
  rw [val_mid ha (i := i) (y := z) (by omega) (by omega) (by omega) (by omega), val_mid ha (i := i) (y := z + 1) (by omega) (by omega) (by omega) (by omega)]
  exact segR_step (z := z) hlt s1 s2
/-- .. and from place to place. -/
theorem Rise.far {gl gh B : Int} {l : List Kn} (h : Rise gl gh B l) {x : Int} (h1 : (l.getD 0 (0, 0)).1 ≤ x) : ∀ (n : Nat), x + n ≤ B → ((rangeP l x).1 + gl * n ≤ (rangeP l (x + n)).1 ∧ (rangeP l (x + n)).1 ≤ (rangeP l x).1 + gh * n) ∧ (rangeP l x).2 + gl * n ≤ (rangeP l (x + n)).2 ∧ (rangeP l (x + n)).2 ≤ (rangeP l x).2 + gh * n
  | 0, _ => by simp
  | n + 1, hn => by
    have ih := h.far h1 n (by omega)
    have st := h.stepIn (z := x + n) (by omega) (by omega)
    rw [show x + ((n + 1 : Nat) : Int) = x + n + 1 by omega, show ((n + 1 : Nat) : Int) = (n : Int) + 1 by omega, Int.mul_add, Int.mul_add, Int.mul_one, Int.mul_one]
    omega
theorem Rise.far2 {gl gh B : Int} {l : List Kn} (h : Rise gl gh B l) {x y : Int} (h1 : (l.getD 0 (0, 0)).1 ≤ x) (h2 : x ≤ y) (h3 : y ≤ B) : ((rangeP l x).1 + gl * (y - x) ≤ (rangeP l y).1 ∧ (rangeP l y).1 ≤ (rangeP l x).1 + gh * (y - x)) ∧ (rangeP l x).2 + gl * (y - x) ≤ (rangeP l y).2 ∧ (rangeP l y).2 ≤ (rangeP l x).2 + gh * (y - x) := by
  have := h.far h1 (y - x).toNat (by omega)
  rw [show x + ((y - x).toNat : Int) = y by omega, show ((y - x).toNat : Int) = y - x by omega] at this
  exact this
theorem Rise.grows {gl gh B : Int} : ∀ {l : List Kn}, Rise gl gh B l → growsV gl gh l = true
  | [], _ => rfl
  | [k], _ => rfl
  | k :: k' :: l, .cons ha hB h1 h2 ht => by
    rw [growsV, Bool.and_eq_true, inV_iff]
    exact ⟨⟨h1, h2⟩, ht.grows⟩
/-! Lines over lines from 0 to a bottom -/
/-- A truth that fits. -/
structure Fit (e : Ear) (tp tf : List Kn) : Prop where
  v : Valid e
  ltp : lineE tp = 0
  ltf : lineE tf = 0
  rp : Rise e.gl e.gh e.bottom tp
  rf : Rise e.gl e.gh e.bottom tf
  zp : (tp.getD 0 (0, 0)).1 = 0
  zf : (tf.getD 0 (0, 0)).1 = 0
  s1 : ∀ x, 0 ≤ x → x ≤ e.bottom → geP (valP tp x) (valP e.pl x) = true
  s2 : ∀ x, 0 ≤ x → x ≤ e.bottom → geP (valP e.ph x) (valP tp x) = true
  s3 : ∀ x, 0 ≤ x → x ≤ e.bottom → geP (valP tf x) (valP e.fl x) = true
  s4 : ∀ x, 0 ≤ x → x ≤ e.bottom → geP (valP e.fh x) (valP tf x) = true
  s5 : ∀ x, 0 ≤ x → x ≤ e.bottom → geP (valP tf x) (valP tp x) = true
  reps : ∀ r ∈ e.reps, trueV tp tf r = true
theorem lineE_good {ks : List Kn} (h : lineE ks = 0) : Good ks := good (rightB_of h)
/-! What points ask for and allow -/
theorem loP_le {gl gh B : Int} {l : List Kn} (h : Rise gl gh B l) (z0 : (l.getD 0 (0, 0)).1 = 0) {z : Int} (h0 : 0 ≤ z) (h1 : z ≤ B) {k : Kn} (k0 : 0 ≤ k.1) (k1 : k.1 ≤ B) (hk : k.2 ≤ (rangeP l k.1).1) : loP gl gh z k ≤ (rangeP l z).1 := by
  by_cases hz : z < k.1
  · rw [loP_lt hz]
    have := (h.far2 (x := z) (y := k.1) (by omega) (by omega) k1).1
    have e : gh * (z - k.1) = -(gh * (k.1 - z)) := by rw [show z - k.1 = -(k.1 - z) by omega, Int.mul_neg]
    omega
  · rw [loP_ge (by omega)]
    have := (h.far2 (x := k.1) (y := z) (by omega) (by omega) h1).1
    omega
theorem upP_ge2 {gl gh B : Int} {l : List Kn} (h : Rise gl gh B l) (z0 : (l.getD 0 (0, 0)).1 = 0) {z : Int} (h0 : 0 ≤ z) (h1 : z ≤ B) {k : Kn} (k0 : 0 ≤ k.1) (k1 : k.1 ≤ B) (hk : (rangeP l k.1).2 ≤ k.2) : (rangeP l z).2 ≤ upP gl gh z k := by
  by_cases hz : z < k.1
  · rw [upP_lt hz]
    have := (h.far2 (x := z) (y := k.1) (by omega) (by omega) k1).2
    have e : gl * (z - k.1) = -(gl * (k.1 - z)) := by rw [show z - k.1 = -(k.1 - z) by omega, Int.mul_neg]
    omega
  · rw [upP_ge (by omega)]
    have := (h.far2 (x := k.1) (y := z) (by omega) (by omega) h1).2
    omega
theorem loV_le {gl gh z c : Int} : ∀ (l : List Kn) (s : Int), (∀ k ∈ l, loP gl gh z k ≤ c) → s ≤ c → loV gl gh l z s ≤ c
  | [], s, _, h => h
  | k :: l, s, hl, h => by
    have h1 := hl k (by simp)
    exact loV_le l (max s (loP gl gh z k)) (fun x hx => hl x (by simp [hx])) (by omega)
theorem upV_ge {gl gh z c : Int} : ∀ (l : List Kn) (s : Int), (∀ k ∈ l, c ≤ upP gl gh z k) → c ≤ s → c ≤ upV gl gh l z s
  | [], s, _, h => h
  | k :: l, s, hl, h => by
    have h1 := hl k (by simp)
    exact upV_ge l (min s (upP gl gh z k)) (fun x hx => hl x (by simp [hx])) (by omega)
theorem points_mem {b : Int} {reps : List Rep} {l : List Kn} {kind : Int} {k : Kn} (h : k ∈ pointsV b reps l kind) : (k ∈ l ∧ k.1 ≤ b) ∨ ∃ r ∈ reps, r.kind = kind ∧ k = (r.z, r.p) := by
  unfold pointsV at h
  rcases List.mem_append.1 h with h | h
  · obtain ⟨h1, h2⟩ := List.mem_filter.1 h
    exact .inl ⟨h1, of_decide_eq_true h2⟩
  · obtain ⟨r, hr, rfl⟩ := List.mem_map.1 h
    obtain ⟨h1, h2⟩ := List.mem_filter.1 hr
    exact .inr ⟨r, h1, by simpa using h2, rfl⟩
theorem knot_le {u l : List Kn} (hu : Good u) (hl : Good l) {k : Kn} (hk : k ∈ l) (h : geP (valP u k.1) (valP l k.1) = true) : k.2 ≤ (rangeP u k.1).1 := by
  have := (above_range hu hl h).1
  rw [rangeP_knot hl.asc hk] at this
  exact this
theorem knot_ge {u l : List Kn} (hu : Good u) (hl : Good l) {k : Kn} (hk : k ∈ u) (h : geP (valP u k.1) (valP l k.1) = true) : (rangeP l k.1).2 ≤ k.2 := by
  have := (above_range hu hl h).2
  rw [rangeP_knot hu.asc hk] at this
  exact this
/-- The pressures of a truth that fits lie in the ranges. -/
theorem Fit.encl {e : Ear} {tp tf : List Kn} (h : Fit e tp tf) {z : Int} (z0 : 0 ≤ z) (z1 : z ≤ e.bottom) : (plV e z ≤ (rangeP tp z).1 ∧ (rangeP tp z).2 ≤ phV e z) ∧ flV e z ≤ (rangeP tf z).1 ∧ (rangeP tf z).2 ≤ fhV e z := by
  have gp := lineE_good h.ltp
  have gf := lineE_good h.ltf
  have npl := lineE_good h.v.pl
  have nph := lineE_good h.v.ph
  have nfl := lineE_good h.v.fl
  have nfh := lineE_good h.v.fh
  have a1 := above_range gp npl (h.s1 z z0 z1)
  have a2 := above_range nph gp (h.s2 z z0 z1)
  have a3 := above_range gf nfl (h.s3 z z0 z1)
  have a4 := above_range nfh gf (h.s4 z z0 z1)
  have a5 := above_range gf gp (h.s5 z z0 z1)
  have pos : 0 ≤ (rangeP tp z).1 := (gp.val z).2.2.2.1
  have l1 : loV e.gl e.gh (pointsV e.bottom e.reps e.pl 1) z (rangeP e.pl z).1 ≤ (rangeP tp z).1 := loV_le _ _ (fun k hk => by
    rcases points_mem hk with ⟨hk, hb⟩ | ⟨r, hr, hkind, rfl⟩
    · have := npl.bd hk
      exact loP_le h.rp h.zp z0 z1 this.1 hb (knot_le gp npl hk (h.s1 _ this.1 hb))
    · have hv := h.v.rep r hr
      have ht := h.reps r hr
      rw [true1 hkind] at ht
      exact loP_le h.rp h.zp z0 z1 hv.2.2.1 hv.2.2.2.1 (of_decide_eq_true ht)) a1.1
  have l2 : loV e.gl e.gh (pointsV e.bottom e.reps e.fl 3) z (rangeP e.fl z).1 ≤ (rangeP tf z).1 := loV_le _ _ (fun k hk => by
    rcases points_mem hk with ⟨hk, hb⟩ | ⟨r, hr, hkind, rfl⟩
    · have := nfl.bd hk
      exact loP_le h.rf h.zf z0 z1 this.1 hb (knot_le gf nfl hk (h.s3 _ this.1 hb))
    · have hv := h.v.rep r hr
      have ht := h.reps r hr
      rw [true3 hkind] at ht
      exact loP_le h.rf h.zf z0 z1 hv.2.2.1 hv.2.2.2.1 (of_decide_eq_true ht)) a3.1
  have u1 : (rangeP tp z).2 ≤ upV e.gl e.gh (pointsV e.bottom e.reps e.ph 2) z (rangeP e.ph z).2 := upV_ge _ _ (fun k hk => by
    rcases points_mem hk with ⟨hk, hb⟩ | ⟨r, hr, hkind, rfl⟩
    · have := nph.bd hk
      exact upP_ge2 h.rp h.zp z0 z1 this.1 hb (knot_ge nph gp hk (h.s2 _ this.1 hb))
    · have hv := h.v.rep r hr
      have ht := h.reps r hr
      rw [true2 (by omega) (by omega)] at ht
      exact upP_ge2 h.rp h.zp z0 z1 hv.2.2.1 hv.2.2.2.1 (of_decide_eq_true ht)) a2.2
  have u2 : (rangeP tf z).2 ≤ upV e.gl e.gh (pointsV e.bottom e.reps e.fh 4) z (rangeP e.fh z).2 := upV_ge _ _ (fun k hk => by
    rcases points_mem hk with ⟨hk, hb⟩ | ⟨r, hr, hkind, rfl⟩
    · have := nfh.bd hk
      exact upP_ge2 h.rf h.zf z0 z1 this.1 hb (knot_ge nfh gf hk (h.s4 _ this.1 hb))
    · have hv := h.v.rep r hr
      have ht := h.reps r hr
      rw [true4 (by omega)] at ht
      exact upP_ge2 h.rf h.zf z0 z1 hv.2.2.1 hv.2.2.2.1 (of_decide_eq_true ht)) a4.2
  obtain ⟨b1, b2⟩ := a5
  have P : plV e z ≤ (rangeP tp z).1 := by unfold plV; omega
  have F : (rangeP tf z).2 ≤ fhV e z := by unfold fhV; exact u2
  exact ⟨⟨P, by unfold phV; omega⟩, by unfold flV; omega, F⟩
/-! The earth and the truth of some numbers -/
/-- A line over another one with the same places. -/
def Dom (u l : List Kn) : Prop := (∀ k ∈ u, ∃ k' ∈ l, k'.1 = k.1 ∧ k'.2 ≤ k.2) ∧ ∀ k ∈ l, ∃ k' ∈ u, k'.1 = k.1 ∧ k.2 ≤ k'.2
theorem Dom.trans {u m l : List Kn} (h1 : Dom u m) (h2 : Dom m l) : Dom u l := by
  refine ⟨fun k hk => ?_, fun k hk => ?_⟩
  · obtain ⟨a, ha, e1, e2⟩ := h1.1 k hk
    obtain ⟨b, hb, e3, e4⟩ := h2.1 a ha
    exact ⟨b, hb, by omega, by omega⟩
  · obtain ⟨a, ha, e1, e2⟩ := h2.2 k hk
    obtain ⟨b, hb, e3, e4⟩ := h1.2 a ha
    exact ⟨b, hb, by omega, by omega⟩
theorem Dom.ab {u l : List Kn} (hu : Good u) (hl : Good l) (h : Dom u l) : ab u l = true := same_ab hu hl h.1 h.2 _
theorem Dom.ge {u l : List Kn} (hu : Good u) (hl : Good l) (h : Dom u l) (x : Int) : geP (valP u x) (valP l x) = true := above_all hu hl (h.ab hu hl) x
theorem Dom.cons {a b : Kn} {u l : List Kn} (h1 : b.1 = a.1) (h2 : b.2 ≤ a.2) (h : Dom u l) : Dom (a :: u) (b :: l) := by
  refine ⟨fun k hk => ?_, fun k hk => ?_⟩
  · rcases List.mem_cons.1 hk with rfl | hk
    · exact ⟨b, by simp, h1, h2⟩
    · obtain ⟨x, hx, e⟩ := h.1 k hk; exact ⟨x, by simp [hx], e⟩
  · rcases List.mem_cons.1 hk with rfl | hk
    · exact ⟨a, by simp, h1.symm, h2⟩
    · obtain ⟨x, hx, e⟩ := h.2 k hk; exact ⟨x, by simp [hx], e⟩
theorem Dom.nil : Dom [] [] := ⟨fun k hk => (nomatch hk), fun k hk => (nomatch hk)⟩
end Go.Proofs.Ytcglpbchejkolaa
/- Earth: the depths, by the table: the program's. -/
namespace Go.Proofs.Ytcglpbchejkolaa
open Go.RowKit
set_option linter.unusedSimpArgs false
set_option linter.unusedVariables false

theorem ints_snoc (rows : List (List C)) (n : Int) : ints (rows ++ [[.i n]]) = ints rows ++ [n] := by rw [ints_app]; rfl
theorem dep_split : bodyOf Try.f86 = pre (heads 4 (bodyOf Try.f86)) (nav [1, 1, 1, 1] (bodyOf Try.f86)) := by kernel_rfl
theorem dep_tree1 : execL cdep1 (heads 4 (bodyOf Try.f86)) { startOf Try.f86 ctDepthsI [] [] with lvl := (startOf Try.f86 ctDepthsI [] []).lvl + 1 } (joinK (startOf Try.f86 ctDepthsI [] []) depSt1 [.slot 3] [.vec 2] (endK cdep1 Try.f86 ctDepthsI)) = some tdep1 := by kernel_rfl
theorem dep_cx : CxOK cdep1 := Tab.cx_ok all_nil fxdep1
theorem dep_vc {R : List C → Prop} {b gl gh : Int} {v1 v2 v3 v4 v7 : Value} {r1 r2 r3 r4 r7 : List (List C)} {I : List C → Prop} (h : checkV ⟨b, knots r1, knots r2, knots r3, knots r4, gl, gh, repsOf r7⟩ = 0) (hI : ∀ v rows, ints rows = rawP ⟨b, knots r1, knots r2, knots r3, knots r4, gl, gh, repsOf r7⟩ → I [.s v rows]) :
    VC cdep1 R tdep1 [.i b, .s v1 r1, .s v2 r2, .s v3 r3, .s v4 r4, .i gl, .i gh, .s v7 r7] [I] := by
  unfold tdep1
  simp only [VC, allC, List.map_cons, List.map_nil, List.length_cons, List.length_nil, List.getElem?_cons_zero, List.getElem?_cons_succ, List.cons.injEq, C.i.injEq, C.b.injEq, and_true, true_and, forall_const, kindsOf_nil, kindsOf_lf, kindsOf_agg, kindsOf_box, boxKinds_nil, boxKinds_lf, boxKinds_agg, boxKinds_box, List.append_nil, List.cons_append, List.nil_append, den_cmp_le, den_cmp_lt, den_cmp_eq, den_cmp_ne, den_cmp_le', den_cmp_lt', den_cmp_eq', den_cmp_ne', den_and, den_and', den_or, den_or', den_not, den_not', den_blit, den_of, ev_var, at_0, at_1, at_2, at_3, at_4, at_5, at_6, at_7, at_skip, c_int, c_bool, c_arr, c_cnt, c_vec, ev_nil, ev_join, ev_sub3, loc_s, int_i, bool_b, rows_s, cs_nil, cs_cons, E.den_lit, E.den_var, E.den_add, E.den_sub, E.den_mul, E.den_quo, E.den_rem, E.den_max, E.den_min, E.den_len, E.den_wr, E.den_cell, ev_cell, kn1]
  have hv := valid h
  have l1 : (knots r1).length ≤ 24 := (lineE_box hv.pl).1
  have l2 : (knots r2).length ≤ 24 := (lineE_box hv.ph).1
  have l3 : (knots r3).length ≤ 24 := (lineE_box hv.fl).1
  have l4 : (knots r4).length ≤ 24 := (lineE_box hv.fh).1
  have l7 : (repsOf r7).length ≤ 24 := hv.reps
  have e7 : (repsOf r7).length = r7.length := by simp [repsOf]
  rw [← knots_len r1, ← knots_len r2, ← knots_len r3, ← knots_len r4, ← e7]
  simp only [rp1 v7 r7]
  generalize knots r1 = q1 at *
  generalize knots r2 = q2 at *
  generalize knots r3 = q3 at *
  generalize knots r4 = q4 at *
  generalize repsOf r7 = q7 at *
  have step : ∀ {A : List Int} {rows : List (List C)} {l : List Kn} {i : Int}, 0 ≤ i → i < l.length → ints rows = A ++ minAt b (l.take i.toNat) → ints (rows ++ [[.i (min (l.getD i.toNat (0, 0)).1 b)]]) = A ++ minAt b (l.take (i + 1).toNat) := fun {A rows l i} i0 i1 hr => by
    rw [ints_snoc, hr, show (i + 1).toNat = i.toNat + 1 by omega, take_snoc (by omega) (0, 0)]
    unfold minAt
    rw [List.map_append, List.append_assoc]; rfl
  have len : ∀ {A : List Int} {rows : List (List C)} {l : List Kn} {n : Nat}, A.length ≤ 200 → l.length ≤ 24 → ints rows = A ++ minAt b (l.take n) → rows.length ≤ 300 := fun {A rows l n} hA hl hr => by
    have := congrArg List.length hr
    rw [ints_len, List.length_append] at this
    unfold minAt at this
    rw [List.length_map, List.length_take] at this
    omega
  have all : ∀ {A : List Int} {rows : List (List C)} {l : List Kn} {i : Int}, (l.length : Int) ≤ i → ints rows = A ++ minAt b (l.take i.toNat) → ints rows = A ++ minAt b l := fun {A rows l i} hi hr => by
    rw [hr, List.take_of_length_le (by omega)]
  have z0 : ∀ {A : List Int} {rows : List (List C)} {l : List Kn}, ints rows = A → ints rows = A ++ minAt b (l.take (0 : Int).toNat) := fun {A rows l} hr => by
    rw [hr]; simp [minAt]
  have m1 : (minAt b q1).length ≤ 24 := by simp [minAt]; omega
  have m2 : (minAt b q2).length ≤ 24 := by simp [minAt]; omega
  have m3 : (minAt b q3).length ≤ 24 := by simp [minAt]; omega
  have m4 : (minAt b q4).length ≤ 24 := by simp [minAt]; omega
  intro v
  refine ⟨fun xs => match xs with | [.s _ rows, .i i] => 0 ≤ i ∧ i ≤ q1.length ∧ ints rows = [0, b] ++ minAt b (q1.take i.toNat) | _ => False, fun xs => match xs with | [_, .i i] => ((q1.length : Int) - i).toNat | _ => 0, ⟨by omega, by omega, z0 rfl⟩, ?_⟩
  rintro _ rows _ _ _ i _ _ ⟨i0, i1, hr⟩
  refine ⟨fun hlt => ⟨i0, hlt, by have := len (A := [0, b]) (by simp) l1 hr; omega, fun _ => ⟨⟨by omega, by omega, step i0 hlt hr⟩, (show ((q1.length : Int) - (i + 1)).toNat < ((q1.length : Int) - i).toNat by omega)⟩⟩, fun hge => ?_⟩
  replace hr := all hge hr
  generalize hA1 : [0, b] ++ minAt b q1 = A1 at hr
  have a1 : A1.length ≤ 26 := by rw [← hA1, List.length_append]; simp; omega
  refine ⟨fun xs => match xs with | [.s _ rows, .i i, _] => 0 ≤ i ∧ i ≤ q2.length ∧ ints rows = A1 ++ minAt b (q2.take i.toNat) | _ => False, fun xs => match xs with | [_, .i i, _] => ((q2.length : Int) - i).toNat | _ => 0, ⟨by omega, by omega, z0 hr⟩, ?_⟩
  rintro _ rows2 _ _ _ j _ _ _ ⟨j0, j1, hr2⟩
  refine ⟨fun hlt => ⟨j0, hlt, fun _ => ⟨by have := len (by omega) l2 hr2; omega, fun _ => ⟨⟨by omega, by omega, step j0 hlt hr2⟩, (show ((q2.length : Int) - (j + 1)).toNat < ((q2.length : Int) - j).toNat by omega)⟩⟩⟩, fun hge2 => ?_⟩
  replace hr2 := all hge2 hr2
  generalize hA2 : A1 ++ minAt b q2 = A2 at hr2
  have a2 : A2.length ≤ 50 := by rw [← hA2, List.length_append]; omega
  refine ⟨fun xs => match xs with | [.s _ rows, .i i, _] => 0 ≤ i ∧ i ≤ q3.length ∧ ints rows = A2 ++ minAt b (q3.take i.toNat) | _ => False, fun xs => match xs with | [_, .i i, _] => ((q3.length : Int) - i).toNat | _ => 0, ⟨by omega, by omega, z0 hr2⟩, ?_⟩
  rintro _ rows3 _ _ _ k _ _ _ ⟨k0, k1, hr3⟩
  refine ⟨fun hlt => ⟨k0, hlt, fun _ => ⟨by have := len (by omega) l3 hr3; omega, fun _ => ⟨⟨by omega, by omega, step k0 hlt hr3⟩, (show ((q3.length : Int) - (k + 1)).toNat < ((q3.length : Int) - k).toNat by omega)⟩⟩⟩, fun hge3 => ?_⟩
  replace hr3 := all hge3 hr3
  generalize hA3 : A2 ++ minAt b q3 = A3 at hr3
  have a3 : A3.length ≤ 74 := by rw [← hA3, List.length_append]; omega
  refine ⟨fun xs => match xs with | [.s _ rows, .i i, _] => 0 ≤ i ∧ i ≤ q4.length ∧ ints rows = A3 ++ minAt b (q4.take i.toNat) | _ => False, fun xs => match xs with | [_, .i i, _] => ((q4.length : Int) - i).toNat | _ => 0, ⟨by omega, by omega, z0 hr3⟩, ?_⟩
  rintro _ rows4 _ _ _ m _ _ _ ⟨m0, m1', hr4⟩
  refine ⟨fun hlt => ⟨m0, hlt, fun _ => ⟨by have := len (by omega) l4 hr4; omega, fun _ => ⟨⟨by omega, by omega, step m0 hlt hr4⟩, (show ((q4.length : Int) - (m + 1)).toNat < ((q4.length : Int) - m).toNat by omega)⟩⟩⟩, fun hge4 => ?_⟩
  replace hr4 := all hge4 hr4
  generalize hA4 : A3 ++ minAt b q4 = A4 at hr4
  have a4 : A4.length ≤ 98 := by rw [← hA4, List.length_append]; omega
  refine ⟨fun xs => match xs with | [.s _ rows, .i i] => 0 ≤ i ∧ i ≤ q7.length ∧ ints rows = A4 ++ (q7.take i.toNat).map (·.z) | _ => False, fun xs => match xs with | [_, .i i] => ((q7.length : Int) - i).toNat | _ => 0, ⟨by omega, by omega, by rw [hr4]; simp⟩, ?_⟩
  rintro v5 rows5 _ _ _ n _ _ ⟨n0, n1, hr5⟩
  refine ⟨fun hlt => ⟨n0, hlt, ?_, fun _ => ⟨⟨by omega, by omega, ?_⟩, (show ((q7.length : Int) - (n + 1)).toNat < ((q7.length : Int) - n).toNat by omega)⟩⟩, fun hge5 => ?_⟩
  · have := congrArg List.length hr5
    rw [ints_len, List.length_append, List.length_map, List.length_take] at this
    omega
  · rw [ints_snoc, hr5, show (n + 1).toNat = n.toNat + 1 by omega, take_snoc (by omega) ⟨0, 0, 0⟩, List.map_append, List.append_assoc]; rfl
  · refine hI v5 rows5 ?_
    rw [hr5, List.take_of_length_le (by omega), ← hA4, ← hA3, ← hA2, ← hA1]
    simp [rawP, minAll, Ear.lines, List.append_assoc]
theorem rawP_len {e : Ear} (h : Valid e) : 2 ≤ (rawP e).length ∧ (rawP e).length ≤ 122 := by
  have l1 := (lineE_box h.pl).1
  have l2 := (lineE_box h.ph).1
  have l3 := (lineE_box h.fl).1
  have l4 := (lineE_box h.fh).1
  have l7 := h.reps
  simp only [rawP, minAll, Ear.lines, minAt, List.flatMap_cons, List.flatMap_nil, List.length_append, List.length_map, List.length_cons, List.length_nil]
  omega
theorem callable_sort : Callable Try.prog 107 := ⟨_, Try.func107, by decide, rfl⟩
theorem callable_compact : Callable Try.prog 108 := ⟨_, Try.func108, by decide, rfl⟩
theorem of_ints {rows : List (List C)} {d : Nat} (h : TyN Try.prog d 2 rows) : rows = intRows (ints rows) := by
  cases d with
  | zero => exact h.elim
  | succ d =>
    obtain ⟨ks, hk, hh⟩ := h
    rw [show kinds Try.prog 2 = some [.int] by kernel_rfl] at hk
    cases hk
    unfold intRows ints
    rw [List.map_map]
    refine (List.map_congr_left (g := id) fun r hr => ?_).trans (List.map_id _) |>.symm
    obtain ⟨hl, hc⟩ := hh r hr
    obtain ⟨c0, h0, n0, rfl⟩ := hc 0 .int rfl
    match r, hl, h0 with
    | [a], _, h0 => simp at h0; subst h0; rfl
theorem ints_intRows (l : List Int) : ints (intRows l) = l := by
  unfold ints intRows
  rw [List.map_map]
  exact (List.map_congr_left (g := id) fun r _ => rfl).trans (List.map_id _)
def depStA : St := { depSt1 with sl := (48, none) :: depSt1.sl }
def depStA' : St := { depStA with nx := depStA.nx + 1, vec := (8, some (2, .var depStA.nx)) :: depStA.vec }
def depStB : St := { depStA' with sl := (49, none) :: depStA'.sl }
def depStC : St := { depStB with sl := (50, none) :: depStB.sl }
def depStC' : St := { depStC with nx := depStC.nx + 1, vec := (depStC.nx, some (2, .var depStC.nx)) :: dropV (some 8) depStC.vec }
def depStD : St := { depStC' with sl := (51, none) :: depStC'.sl }
def depStE : St := { depStD with sl := (2, some (.one (.lf (.vec 2 10)))) :: depStD.sl }
set_option maxRecDepth 100000 in
theorem depths_ok : tab7.ok 86 := by
  refine Tab.of_ct rfl rfl ⟨_, Try.func86, by decide, rfl⟩ ?_ (fun h => by cases h)
  refine ct_ok_open (cx := cdep1) (bds := []) dep_cx Try.func86 (c := bodyOf Try.f86) rfl ⟨by decide, by decide, by decide⟩ fun cs hcs hpre => ⟨bds_nil _, fun F w0 Γ a w Q hρ hs hk => ?_⟩
  obtain ⟨b, v1, r1, v2, r2, v3, r3, v4, r4, gl, gh, v7, r7, rfl⟩ : ∃ b v1 r1 v2 r2 v3 r3 v4 r4 gl gh v7 r7, cs = [.i b, .s v1 r1, .s v2 r2, .s v3 r3, .s v4 r4, .i gl, .i gh, .s v7 r7] := by
    match cs, hcs with
    | [c0, c1, c2, c3, c4, c5, c6, c7], ⟨⟨_, n0, e0⟩, ⟨_, v1, r1, d1, e1, _⟩, ⟨_, v2, r2, d2, e2, _⟩, ⟨_, v3, r3, d3, e3, _⟩, ⟨_, v4, r4, d4, e4, _⟩, ⟨_, n5, e5⟩, ⟨_, n6, e6⟩, ⟨_, v7, r7, d7, e7, _⟩, _⟩ =>
      exact ⟨n0, v1, r1, v2, r2, v3, r3, v4, r4, n5, n6, v7, r7, by rw [e0, e1, e2, e3, e4, e5, e6, e7]⟩
  have hpre : checkV ⟨b, knots r1, knots r2, knots r3, knots r4, gl, gh, repsOf r7⟩ = 0 := hpre
  have hval := valid hpre
  have hlen := rawP_len hval
  have hbot := hval.b
  rw [dep_split]
  refine pre_seg (R := ctDepthsI.post [.i b, .s v1 r1, .s v2 r2, .s v3 r3, .s v4 r4, .i gl, .i gh, .s v7 r7]) dep_cx (Ls := []) dep_tree1 (by kernel_rfl) rfl (I := fun xs => match xs with | [.s _ rows] => ints rows = rawP ⟨b, knots r1, knots r2, knots r3, knots r4, gl, gh, repsOf r7⟩ | _ => False) (by rw [hρ]; exact dep_vc hpre fun v rows hr => hr) hs ?_ ?_
  · intro xs Γx a' wp hxs hI hρ' he hs'
    obtain ⟨v8, r8, d8, rfl, hty⟩ : ∃ v8 r8 d8, xs = [.s v8 r8] ∧ TyN Try.prog d8 2 r8 := by
      match xs, hxs with
      | [c], ⟨⟨_, v8, r8, d8, e8, ht⟩, _⟩ => exact ⟨v8, r8, d8, by rw [e8], ht⟩
    have hI : ints r8 = rawP ⟨b, knots r1, knots r2, knots r3, knots r4, gl, gh, repsOf r7⟩ := hI
    have hr8 := of_ints hty
    rw [hI] at hr8
    generalize hraw : rawP ⟨b, knots r1, knots r2, knots r3, knots r4, gl, gh, repsOf r7⟩ = zs at *
    have hat8 : at_ Γx.ρ 8 = .s v8 r8 := by rw [hρ', hρ]; rfl
    have hlook : look depSt1.vec 8 = some (2, .var 8) := rfl
    have e3 : a'.eval (.tmp 3) = (at_ Γx.ρ 8).loc := by
      have := (hs'.slots 3 (.one (.lf (.vec 2 8))) rfl).1
      unfold slotV at this
      rwa [if_pos (by decide)] at this
    have hsz : a'.tmps.size = 52 := hs'.size
    have hzne : zs ≠ [] := fun e => by rw [e] at hlen; simp at hlen
    have hwf1 : depSt1.wf = true := by decide
    have hev : ((E.var 8).ev Γx.ρ).rows = intRows zs := by rw [ev_var, hat8]; exact hr8
    show (Code.seq (Code.region 16 _ _) (Code.seq (Code.region 17 _ _) Code.ret)).wp _ _ _ _
    refine wp_seq (wp_region_list (list_val rfl (v := (at_ Γx.ρ 8).loc) (w' := wp) (by simp [execOp, e3]) (list_call rfl (f := 107) (args := #[(at_ Γx.ρ 8).loc]) (by
      simp [execOp, resolve, invoke, eval_same, put_size, hsz]
      exact run_callFunc' callable_sort _ _) ?_)))
    have hs1 := hs'.drop (dst := some 48) (st' := depStA) rfl (at_ Γx.ρ 8).loc
    refine Calls.mono (sort_vec (st := depStA) hs1 (by decide) (i := 8) (e := .var 8) rfl hev hzne (by omega)) fun x w2 hx => ?_
    obtain ⟨rfl, hs2⟩ := hx
    refine ⟨_, rfl, ?_⟩
    have hs3 := hs2.drop (dst := some 49) (st' := depStB) rfl (.tuple #[])
    generalize hΓ2 : ({ Γx with ρ := Γx.ρ ++ [C.s (at_ Γx.ρ 8).loc (intRows (zs.mergeSort fun x y => decide (x ≤ y)))] } : Env) = Γ2 at *
    have hρ2 : Γ2.ρ = Γx.ρ ++ [C.s (at_ Γx.ρ 8).loc (intRows (zs.mergeSort fun x y => decide (x ≤ y)))] := by rw [← hΓ2]
    have hat2 : at_ Γ2.ρ 8 = .s v8 r8 := by rw [hρ2, hρ', hρ]; rfl
    have hat9 : at_ Γ2.ρ 9 = C.s (at_ Γx.ρ 8).loc (intRows (zs.mergeSort fun x y => decide (x ≤ y))) := by rw [hρ2, hρ', hρ]; rfl
    have hx2 : Ext Γx Γ2 := by rw [← hΓ2]; exact ⟨⟨_, rfl⟩, fun _ _ => rfl, Nat.le_refl _, rfl, rfl⟩
    generalize hacc : (a'.put (some 48) (at_ Γx.ρ 8).loc).put (some 49) (.tuple #[]) = a2 at *
    have hsz2 : a2.tmps.size = 52 := hs3.size
    have e32 : a2.eval (.tmp 3) = (at_ Γ2.ρ 8).loc := by
      have := (hs3.slots 3 (.one (.lf (.vec 2 8))) rfl).1
      unfold slotV at this
      rwa [if_pos (by decide)] at this
    show (Code.seq (Code.region 17 _ _) Code.ret).wp _ _ _ _
    refine wp_seq (wp_region_list (list_val rfl (v := (at_ Γ2.ρ 8).loc) (w' := w2) (by simp [execOp, e32]) (list_call rfl (f := 108) (args := #[(at_ Γ2.ρ 8).loc]) (by
      simp [execOp, resolve, invoke, eval_same, put_size, hsz2]
      exact run_callFunc' callable_compact _ _) ?_)))
    have hs4 := hs3.drop (dst := some 50) (st' := depStC) rfl (at_ Γ2.ρ 8).loc
    have hml : (zs.mergeSort fun x y => decide (x ≤ y)).length = zs.length := List.length_mergeSort _
    refine Calls.mono (compact_vec (st := depStC) hs4 (by decide) (i := 8) (e := .var 9) rfl (zs := zs.mergeSort fun x y => decide (x ≤ y)) (by rw [ev_var, hat9]; rfl) (fun e => hzne (List.length_eq_zero_iff.1 (by rw [← hml, e]; rfl))) (by omega)) fun x w3 hx => ?_
    obtain ⟨v', rfl, hs5⟩ := hx
    refine ⟨_, rfl, ?_⟩
    have hs6 := hs5.drop (dst := some 51) (st' := depStD) rfl v'
    generalize hΓ3 : ({ Γ2 with ρ := Γ2.ρ ++ [C.s v' (intRows (Lib.compact (zs.mergeSort fun x y => decide (x ≤ y))))] } : Env) = Γ3 at *
    have hat10 : at_ Γ3.ρ 10 = C.s v' (intRows (Lib.compact (zs.mergeSort fun x y => decide (x ≤ y)))) := by rw [← hΓ3]; show at_ (Γ2.ρ ++ _) 10 = _; rw [hρ2, hρ', hρ]; rfl
    have hx3 : Ext Γ2 Γ3 := by rw [← hΓ3]; exact ⟨⟨_, rfl⟩, fun _ _ => rfl, Nat.le_refl _, rfl, rfl⟩
    generalize hacc3 : (a2.put (some 50) (at_ Γ2.ρ 8).loc).put (some 51) v' = a3 at *
    have hsz3 : a3.tmps.size = 52 := hs6.size
    have e51 : a3.eval (.tmp 51) = v' := by rw [← hacc3]; exact eval_same (by rw [put_size, hsz2]; decide)
    refine list_val rfl (v := v') (w' := w3) (by simp [execOp, e51]) ?_
    have hok : (SV.one (.lf (.vec 2 10))).ok Try.prog w3 (Own Γ3 depStD) Γ3 := fun l hl => by
      simp only [S0.cells, List.mem_cons, List.not_mem_nil, or_false] at hl
      subst hl
      obtain ⟨ks, us, -, -, -, -, ho⟩ := (hs6.vec 10 (2, .var 10) rfl).1
      show ∃ a n cap, (at_ Γ3.ρ 10).loc = .slice a n cap
      rcases ho.2 with ⟨h, -⟩ | ⟨g, cap, cur, h, -⟩
      · exact ⟨_, _, _, h⟩
      · exact ⟨_, _, _, h⟩
    have hs7 := hs6.put (dst := some 2) (st' := depStE) rfl hok
    have hden : (SV.one (.lf (.vec 2 10))).den Γ3 = v' := by show (at_ Γ3.ρ 10).loc = v'; rw [hat10]; rfl
    rw [hden] at hs7
    show Code.ret.wp _ _ _ _
    refine wp_ret (hk .ret depStE (.ret [.cnt 2 (.var 10)]) Γ3 [fun _ => True] (show endOf cdep1 Try.f86 ctDepthsI depStE = _ by kernel_rfl) ((he.trans hx2).trans hx3) List.nil_prefix rfl ?_ _ _ hs7)
    show ∃ v rows, [(E.var 10).ev Γ3.ρ] = [.s v rows] ∧ ints rows = depthsV ⟨b, knots r1, knots r2, knots r3, knots r4, gl, gh, repsOf r7⟩
    refine ⟨v', intRows (Lib.compact (zs.mergeSort fun x y => decide (x ≤ y))), by rw [ev_var, hat10], ?_⟩
    rw [ints_intRows]
    unfold depthsV
    refine compact_merge fun y => ?_
    rw [← hraw]
    exact raw_same (by show 0 ≤ b; have : 1 ≤ b ∧ b ≤ 1048576 := hbot; omega) _ y
  · intro x st' T' Γ' Ls' hx hk' he hlen' hv' a' w' hs'
    exact hk x st' T' Γ' Ls' hk' he (List.nil_prefix) hlen' hv' a' w' hs'
end Go.Proofs.Ytcglpbchejkolaa
/- Earth: the depths, by the table: the document's, and both from outside. -/
namespace Go.Proofs.Ytcglpbchejkolaa
open Go.RowKit
set_option linter.unusedSimpArgs false
set_option linter.unusedVariables false

end Go.Proofs.Ytcglpbchejkolaa
/- Earth: an earth that a truth fits has no conflicts; a true report more: plain laws. -/
namespace Go.Proofs.Ytcglpbchejkolaa
open Go.RowKit
set_option linter.unusedSimpArgs false
set_option linter.unusedVariables false

theorem Valid.only {e : Ear} (h : Valid e) {l : List Rep} (hl : ∀ r ∈ l, r ∈ e.reps) (hn : l.length ≤ 24) : Valid (e.only l) where
  b := h.b
  g := h.g
  pl := h.pl
  ph := h.ph
  fl := h.fl
  fh := h.fh
  ab1 := h.ab1
  ab2 := h.ab2
  ab3 := h.ab3
  reps := hn
  rep := fun r hr => h.rep r (hl r hr)
theorem Fit.only {e : Ear} {tp tf : List Kn} (h : Fit e tp tf) {l : List Rep} (hl : ∀ r ∈ l, r ∈ e.reps) (hn : l.length ≤ 24) : Fit (e.only l) tp tf where
  v := h.v.only hl hn
  ltp := h.ltp
  ltf := h.ltf
  rp := h.rp
  rf := h.rf
  zp := h.zp
  zf := h.zf
  s1 := h.s1
  s2 := h.s2
  s3 := h.s3
  s4 := h.s4
  s5 := h.s5
  reps := fun r hr => h.reps r (hl r hr)
theorem depths_in {e : Ear} (h : Valid e) {z : Int} (hz : z ∈ depthsV e) : 0 ≤ z ∧ z ≤ e.bottom := by
  have hb := h.b
  rcases depths_mem.1 hz with rfl | rfl | ⟨q, hq, k, hk, h1, rfl⟩ | ⟨r, hr, rfl⟩
  · omega
  · omega
  · refine ⟨?_, h1⟩
    unfold Ear.lines at hq
    simp only [List.mem_cons, List.not_mem_nil, or_false] at hq
    rcases hq with rfl | rfl | rfl | rfl
    · exact ((lineE_good h.pl).bd hk).1
    · exact ((lineE_good h.ph).bd hk).1
    · exact ((lineE_good h.fl).bd hk).1
    · exact ((lineE_good h.fh).bd hk).1
  · have := h.rep r hr; omega
theorem Fit.quiet {e : Ear} {tp tf : List Kn} (h : Fit e tp tf) {z : Int} (z0 : 0 ≤ z) (z1 : z ≤ e.bottom) : badAt e z = false := by
  obtain ⟨⟨a1, a2⟩, a3, a4⟩ := h.encl z0 z1
  have gp : (rangeP tp z).1 ≤ (rangeP tp z).2 := by have := ((lineE_good h.ltp).val z).1; unfold rangeP; show (valP tp z).1 ≤ (valP tp z).1 + min _ 1; omega
  have gf : (rangeP tf z).1 ≤ (rangeP tf z).2 := by have := ((lineE_good h.ltf).val z).1; unfold rangeP; show (valP tf z).1 ≤ (valP tf z).1 + min _ 1; omega
  unfold badAt
  rw [decide_eq_false (by omega), decide_eq_false (by omega)]; rfl
theorem Fit.calm {e : Ear} {tp tf : List Kn} (h : Fit e tp tf) : crossV e = false := by
  unfold crossV
  rw [List.any_eq_false]
  intro z hz
  have := depths_in h.v hz
  rw [h.quiet this.1 this.2]; exact Bool.false_ne_true
theorem rep_mem {e : Ear} {i : Nat} (h : i < e.reps.length) : e.reps.getD i rep0 ∈ e.reps := getD_mem h rep0
theorem Fit.alone {e : Ear} {tp tf : List Kn} (h : Fit e tp tf) {i : Nat} (hi : i < e.reps.length) : alone e i = false :=
  (h.only (l := [e.reps.getD i rep0]) (fun r hr => by rw [List.mem_singleton] at hr; subst hr; exact rep_mem hi) (by simp)).calm
theorem Fit.pairX {e : Ear} {tp tf : List Kn} (h : Fit e tp tf) {i k : Nat} (hi : i < e.reps.length) (hk : k < e.reps.length) : pairX e i k = false :=
  (h.only (l := [e.reps.getD i rep0, e.reps.getD k rep0]) (fun r hr => by
    simp only [List.mem_cons, List.not_mem_nil, or_false] at hr
    rcases hr with rfl | rfl
    · exact rep_mem hi
    · exact rep_mem hk) (by simp)).calm
/-! A report more -/
theorem loV_self {gl gh z : Int} : ∀ (l : List Kn) (s : Int), s ≤ loV gl gh l z s
  | [], s => Int.le_refl _
  | k :: l, s => Int.le_trans (Int.le_max_left s (loP gl gh z k)) (loV_self l _)
theorem upV_self {gl gh z : Int} : ∀ (l : List Kn) (s : Int), upV gl gh l z s ≤ s
  | [], s => Int.le_refl _
  | k :: l, s => Int.le_trans (upV_self l _) (Int.min_le_left s (upP gl gh z k))
end Go.Proofs.Ytcglpbchejkolaa
/- Earth: an earth of whose reports no two conflict has none that do: plain laws. -/
namespace Go.Proofs.Ytcglpbchejkolaa
open Go.RowKit
set_option linter.unusedSimpArgs false
set_option linter.unusedVariables false

/-- Straight on a part; the floor, the ceiling of what is straight. -/
def Str (f : Int → Int) (a b : Int) : Prop := ∃ A M : Int, ∀ x, a ≤ x → x ≤ b → f x = A + M * x
def FlS (f : Int → Int) (a b : Int) : Prop := ∃ A M D : Int, 0 < D ∧ ∀ x, a ≤ x → x ≤ b → D * f x ≤ A + M * x ∧ A + M * x < D * (f x + 1)
theorem Str.fl {f : Int → Int} {a b : Int} (h : Str f a b) : FlS f a b := by
  obtain ⟨A, M, h⟩ := h
  exact ⟨A, M, 1, by decide, fun x h1 h2 => by have := h x h1 h2; omega⟩
theorem Str.part {f : Int → Int} {a b a' b' : Int} (h : Str f a b) (h1 : a ≤ a') (h2 : b' ≤ b) : Str f a' b' := by
  obtain ⟨A, M, h⟩ := h
  exact ⟨A, M, fun x k1 k2 => h x (by omega) (by omega)⟩
theorem FlS.part {f : Int → Int} {a b a' b' : Int} (h : FlS f a b) (h1 : a ≤ a') (h2 : b' ≤ b) : FlS f a' b' := by
  obtain ⟨A, M, D, d0, h⟩ := h
  exact ⟨A, M, D, d0, fun x k1 k2 => h x (by omega) (by omega)⟩
/-- Piece by piece; the pieces end at places. -/
def Pw (S : Int → Int → Prop) (pl : Int → Prop) : Prop := ∀ u w x : Int, u ≤ x → x ≤ w → ∃ a b, u ≤ a ∧ a ≤ x ∧ x ≤ b ∧ b ≤ w ∧ S a b ∧ (a = u ∨ pl a) ∧ (b = w ∨ pl b)
theorem meet {S T : Int → Int → Prop} {pl : Int → Prop} {f g : Int → Int} (hS : ∀ a b a' b', S a b → a ≤ a' → b' ≤ b → S a' b') (hf : Pw S pl) (hg : Pw T pl)
    (bt : ∀ a b x, S a b → T a b → a ≤ x → x ≤ b → f a ≤ g a → f b ≤ g b → f x ≤ g x) {u w x : Int} (h1 : u ≤ x) (h2 : x ≤ w) (hx : g x < f x) : ∃ p, u ≤ p ∧ p ≤ w ∧ (p = u ∨ p = w ∨ pl p) ∧ g p < f p := by
  obtain ⟨a, b, a1, a2, b1, b2, hA, ea, eb⟩ := hf u w x h1 h2
  obtain ⟨a', b', a3, a4, b3, b4, hB, ea', eb'⟩ := hg a b x a2 b1
  have pa : a' = u ∨ a' = w ∨ pl a' := by
    rcases ea' with rfl | h
    · rcases ea with h | h
      · exact .inl h
      · exact .inr (.inr h)
    · exact .inr (.inr h)
  have pb : b' = u ∨ b' = w ∨ pl b' := by
    rcases eb' with rfl | h
    · rcases eb with h | h
      · exact .inr (.inl h)
      · exact .inr (.inr h)
    · exact .inr (.inr h)
  by_cases g1 : g a' < f a'
  · exact ⟨a', by omega, by omega, pa, g1⟩
  by_cases g2 : g b' < f b'
  · exact ⟨b', by omega, by omega, pb, g2⟩
  have := bt a' b' x (hS _ _ _ _ hA a3 b4) hB a4 b3 (by omega) (by omega)
  omega
/-! What the ends of the ranges are made of -/
inductive LT (e : Ear) : Bool → List Rep → (Int → Int) → Prop
  | zero (s) : LT e s [] fun _ => 0
  | pl (s) : LT e s [] fun z => (rangeP e.pl z).1
  | plk (s) {k : Kn} (h : k ∈ e.pl) (hb : k.1 ≤ e.bottom) : LT e s [] fun z => loP e.gl e.gh z k
  | plr (s) {r : Rep} (h : r.kind = 1) : LT e s [r] fun z => loP e.gl e.gh z (r.z, r.p)
  | fl : LT e true [] fun z => (rangeP e.fl z).1
  | flk {k : Kn} (h : k ∈ e.fl) (hb : k.1 ≤ e.bottom) : LT e true [] fun z => loP e.gl e.gh z k
  | flr {r : Rep} (h : r.kind = 3) : LT e true [r] fun z => loP e.gl e.gh z (r.z, r.p)
inductive UT (e : Ear) : Bool → List Rep → (Int → Int) → Prop
  | fh (s) : UT e s [] fun z => (rangeP e.fh z).2
  | fhk (s) {k : Kn} (h : k ∈ e.fh) (hb : k.1 ≤ e.bottom) : UT e s [] fun z => upP e.gl e.gh z k
  | fhr (s) {r : Rep} (h : r.kind = 4) : UT e s [r] fun z => upP e.gl e.gh z (r.z, r.p)
  | ph : UT e false [] fun z => (rangeP e.ph z).2
  | phk {k : Kn} (h : k ∈ e.ph) (hb : k.1 ≤ e.bottom) : UT e false [] fun z => upP e.gl e.gh z k
  | phr {r : Rep} (h : r.kind = 2) : UT e false [r] fun z => upP e.gl e.gh z (r.z, r.p)
def lowE (e : Ear) (s : Bool) (z : Int) : Int := if s = true then flV e z else plV e z
def upE (e : Ear) (s : Bool) (z : Int) : Int := if s = true then fhV e z else phV e z
theorem loV_ge {gl gh z : Int} : ∀ (l : List Kn) (s : Int) {k : Kn}, k ∈ l → loP gl gh z k ≤ loV gl gh l z s
  | k' :: l, s, k, hk => by
    rcases List.mem_cons.1 hk with rfl | hk
    · exact Int.le_trans (Int.le_max_right s _) (loV_self l _)
    · exact loV_ge l _ hk
theorem upV_le {gl gh z : Int} : ∀ (l : List Kn) (s : Int) {k : Kn}, k ∈ l → upV gl gh l z s ≤ upP gl gh z k
  | k' :: l, s, k, hk => by
    rcases List.mem_cons.1 hk with rfl | hk
    · exact Int.le_trans (upV_self l _) (Int.min_le_right s _)
    · exact upV_le l _ hk
theorem mem_points {b : Int} {reps : List Rep} {l : List Kn} {kind : Int} {k : Kn} (h : k ∈ l) (hb : k.1 ≤ b) : k ∈ pointsV b reps l kind :=
  List.mem_append.2 (.inl (List.mem_filter.2 ⟨h, decide_eq_true hb⟩))
theorem rep_points {b : Int} {reps : List Rep} {l : List Kn} {kind : Int} {r : Rep} (h : r ∈ reps) (hk : r.kind = kind) : (r.z, r.p) ∈ pointsV b reps l kind :=
  List.mem_append.2 (.inr (List.mem_map.2 ⟨r, List.mem_filter.2 ⟨h, by simp [hk]⟩, rfl⟩))
theorem LT.le {e : Ear} {s : Bool} {l : List Rep} {f : Int → Int} (h : LT e s l f) {m : List Rep} (hm : ∀ r ∈ l, r ∈ m) (z : Int) : f z ≤ lowE (e.only m) s z := by
  have p1 : ∀ {v : Int}, v ≤ plV (e.only m) z → v ≤ lowE (e.only m) s z := fun {v} hv => by
    unfold lowE
    split
    · unfold flV; omega
    · exact hv
  have self1 := loV_self (gl := e.gl) (gh := e.gh) (z := z) (pointsV e.bottom m e.pl 1) (rangeP e.pl z).1
  have self2 := loV_self (gl := e.gl) (gh := e.gh) (z := z) (pointsV e.bottom m e.fl 3) (rangeP e.fl z).1
  cases h with
  | zero => exact p1 (Int.le_max_left _ _)
  | pl => exact p1 (Int.le_trans self1 (Int.le_max_right _ _))
  | plk _ hk hb => exact p1 (Int.le_trans (loV_ge _ _ (mem_points hk hb)) (Int.le_max_right _ _))
  | plr _ hk => exact p1 (Int.le_trans (loV_ge _ _ (rep_points (hm _ (by simp)) hk)) (Int.le_max_right _ _))
  | fl => exact Int.le_trans self2 (Int.le_max_right _ _)
  | flk hk hb => exact Int.le_trans (loV_ge _ _ (mem_points hk hb)) (Int.le_max_right _ _)
  | flr hk => exact Int.le_trans (loV_ge _ _ (rep_points (hm _ (by simp)) hk)) (Int.le_max_right _ _)
theorem UT.ge {e : Ear} {s : Bool} {l : List Rep} {f : Int → Int} (h : UT e s l f) {m : List Rep} (hm : ∀ r ∈ l, r ∈ m) (z : Int) : upE (e.only m) s z ≤ f z := by
  have p1 : ∀ {v : Int}, fhV (e.only m) z ≤ v → upE (e.only m) s z ≤ v := fun {v} hv => by
    unfold upE
    split
    · exact hv
    · unfold phV; omega
  have self1 := upV_self (gl := e.gl) (gh := e.gh) (z := z) (pointsV e.bottom m e.fh 4) (rangeP e.fh z).2
  have self2 := upV_self (gl := e.gl) (gh := e.gh) (z := z) (pointsV e.bottom m e.ph 2) (rangeP e.ph z).2
  cases h with
  | fh => exact p1 self1
  | fhk _ hk hb => exact p1 (upV_le _ _ (mem_points hk hb))
  | fhr _ hk => exact p1 (upV_le _ _ (rep_points (hm _ (by simp)) hk))
  | ph => exact Int.le_trans (Int.min_le_right _ _) self2
  | phk hk hb => exact Int.le_trans (Int.min_le_right _ _) (upV_le _ _ (mem_points hk hb))
  | phr hk => exact Int.le_trans (Int.min_le_right _ _) (upV_le _ _ (rep_points (hm _ (by simp)) hk))
end Go.Proofs.Ytcglpbchejkolaa
/- Earth: each report of a conflict is needed; without one of each none is left: plain laws. -/
namespace Go.Proofs.Ytcglpbchejkolaa
open Go.RowKit
set_option linter.unusedSimpArgs false
set_option linter.unusedVariables false

theorem conf_eq {e : Ear} (hv : Valid e) (h0 : crossV (e.only []) = false) : conflictsV e = singles e e.reps.length ++ pairsOf e e.reps.length := by
  unfold conflictsV
  rw [if_pos (valid_iff.2 hv), h0, if_neg Bool.false_ne_true]
end Go.Proofs.Ytcglpbchejkolaa
/- Earth: which reports conflict, by the table: the program's. -/
namespace Go.Proofs.Ytcglpbchejkolaa
open Go.RowKit
set_option linter.unusedSimpArgs false
set_option linter.unusedVariables false

theorem crosses_ok : tab7.ok 88 := by
  refine Tab.of_ct rfl rfl ⟨_, Try.func88, by decide, rfl⟩ ?_ ctF_det
  refine ct_ok (cx := ccrosses) (Tab.cx_ok (all_cons depths_ok (all_cons (up7_ok (up6_ok (up5_ok (up4_ok (up3_ok both_ok))))) all_nil)) fxcrosses) Try.func88 (bds := []) (T := tcrosses) (by kernel_rfl) ?_
  have h1 : ccrosses.ct 86 = some ctDepthsI := rfl
  have h2 : ccrosses.ct 95 = some ctBoth := rfl
  unfold tcrosses
  simp only [VC, allC, List.map_cons, List.map_nil, List.length_cons, List.length_nil, List.getElem?_cons_zero, List.getElem?_cons_succ, List.cons.injEq, C.i.injEq, C.b.injEq, and_true, true_and, forall_const, kindsOf_nil, kindsOf_lf, kindsOf_agg, kindsOf_box, boxKinds_nil, boxKinds_lf, boxKinds_agg, boxKinds_box, List.append_nil, List.cons_append, List.nil_append, den_cmp_le, den_cmp_lt, den_cmp_eq, den_cmp_ne, den_cmp_le', den_cmp_lt', den_cmp_eq', den_cmp_ne', den_and, den_and', den_or, den_or', den_not, den_not', den_blit, den_of, ev_var, at_0, at_1, at_2, at_3, at_4, at_5, at_6, at_7, at_skip, c_int, c_bool, c_arr, c_cnt, c_vec, ev_nil, ev_join, ev_sub3, loc_s, int_i, bool_b, rows_s, cs_nil, cs_cons, E.den_lit, E.den_var, E.den_add, E.den_sub, E.den_mul, E.den_quo, E.den_rem, E.den_max, E.den_min, E.den_len, E.den_wr, E.den_cell, ev_cell, in1, h1, h2, ctDepthsI, ctBoth, ctCrosses, ctF, earthSh, earthKs, rangeSh, n_, k_, earOf, Ear.only]
  intro b _ _ u1 r1 _ _ _ u2 r2 _ _ _ u3 r3 _ _ _ u4 r4 _ _ _ gl _ _ gh _ _ u7 r7 _ _ _ u8 r8 _ _ _ hp
  have hv := valid hp
  generalize hE : (⟨b, knots r1, knots r2, knots r3, knots r4, gl, gh, repsOf r8⟩ : Ear) = E at *
  refine ⟨bds_nil _, hp, ?_⟩
  rintro v rows _ _ _ ⟨_, _, e, hr⟩
  cases e
  rw [← ints_len rows, hr]
  have hin : ∀ j, j < (depthsV E).length → 0 ≤ (depthsV E).getD j 0 ∧ (depthsV E).getD j 0 ≤ E.bottom := fun j hj => depths_in hv (getD_mem hj 0)
  generalize hL : depthsV E = L at *
  refine ⟨fun xs => match xs with | [.i _, .i i] => 0 ≤ i ∧ i ≤ L.length ∧ ∀ j : Nat, j < i.toNat → badAt E (L.getD j 0) = false | _ => False, fun xs => match xs with | [_, .i i] => ((L.length : Int) - i).toNat | _ => 0, ⟨by omega, by omega, fun j hj => by omega⟩, ?_⟩
  rintro m _ _ i _ _ ⟨i0, i1, hI⟩
  refine ⟨fun hlt => ?_, fun hge => ?_⟩
  · obtain ⟨z0, z1⟩ := hin i.toNat (by omega)
    have hz := getD_mem (l := L) (i := i.toNat) (by omega) 0
    refine ⟨i0, hlt, okE_iff.2 ⟨hp, z0, z1⟩, ?_⟩
    rintro n2 _ _ n3 _ _ n4 _ _ n5 _ _ ⟨rfl, rfl, rfl, rfl⟩
    have bad : (phV E (L.getD i.toNat 0) < plV E (L.getD i.toNat 0) ∨ fhV E (L.getD i.toNat 0) < flV E (L.getD i.toNat 0)) → true = crossV E := fun h => by
      symm
      unfold crossV
      rw [hL, List.any_eq_true]
      exact ⟨_, hz, by unfold badAt; rw [Bool.or_eq_true, decide_eq_true_eq, decide_eq_true_eq]; exact h⟩
    refine ⟨fun h => bad (.inl h), fun h => ⟨fun h' => bad (.inr h'), fun h' => ⟨⟨by omega, by omega, fun j hj => ?_⟩, ?_⟩⟩⟩
    · by_cases e : j = i.toNat
      · subst e; unfold badAt; rw [decide_eq_false (by omega), decide_eq_false (by omega)]; rfl
      · exact hI j (by omega)
    · show ((L.length : Int) - (i + 1)).toNat < ((L.length : Int) - i).toNat
      omega
  · symm
    unfold crossV
    rw [hL, List.any_eq_false]
    intro z hz
    obtain ⟨j, hj, e⟩ := List.getElem_of_mem hz
    have := hI j (by omega)
    rw [List.getD_eq_getElem?_getD, List.getElem?_eq_getElem hj] at this
    rw [← e]
    simpa using this
/-- A list of truth values, by place. -/
def bl (rows : List (List C)) (j : Nat) : Bool := ((C.s (.slice none 0 0) rows).at j 0).bool
theorem bl_at (v : Value) (rows : List (List C)) (j : Nat) : ((C.s v rows).at j 0).bool = bl rows j := by
  unfold bl; simp only [cell_at]
theorem bl_rep {n j : Nat} : bl (List.replicate n [C.b false]) j = false := by
  unfold bl
  simp only [cell_at, List.getD_eq_getElem?_getD, List.getElem?_replicate]
  split <;> rfl
theorem bl_upd {rows : List (List C)} {i j : Nat} {t : Bool} (hi : i < rows.length) : bl (updRow rows i 0 [C.b t]) j = if j = i then t else bl rows j := by
  unfold bl updRow
  simp only [cell_at, List.getD_eq_getElem?_getD, List.getElem?_set]
  by_cases h : j = i
  · subst h; rw [if_pos rfl, if_pos hi, if_pos rfl]; rfl
  · rw [if_neg (fun e => h e.symm), if_neg h]
theorem upd_len (rows : List (List C)) (i o : Nat) (l : List C) : (updRow rows i o l).length = rows.length := by simp [updRow]
theorem lists_snoc (rows : List (List C)) (v : Value) (l : List (List C)) : lists (rows ++ [[C.s v l]]) = lists rows ++ [ints l] := by simp [lists, C.rows]
theorem lists_len (rows : List (List C)) : (lists rows).length = rows.length := by simp [lists]
theorem singles_succ (e : Ear) (i : Nat) : singles e (i + 1) = singles e i ++ (if alone e i = true then [[(i : Int)]] else []) := by
  unfold singles
  rw [List.range_succ, List.filter_append, List.map_append]
  split
  · rename_i h; rw [List.filter_cons_of_pos h]; rfl
  · rename_i h; rw [List.filter_cons_of_neg h]; rfl
theorem pairsAt_succ (e : Ear) (i k : Nat) : pairsAt e i (k + 1) = pairsAt e i k ++ (if i < k ∧ alone e k = false ∧ pairX e i k = true then [[(i : Int), (k : Int)]] else []) := by
  unfold pairsAt
  rw [List.range_succ, List.filter_append, List.map_append]
  split
  · rename_i h; rw [List.filter_cons_of_pos (by simp [h.1, h.2.1, h.2.2])]; rfl
  · rename_i h
    rw [List.filter_cons_of_neg]
    · rfl
    · intro h2
      simp only [Bool.and_eq_true, decide_eq_true_eq, Bool.not_eq_true'] at h2
      exact h ⟨h2.1.1, h2.1.2, h2.2⟩
theorem pairsOf_succ (e : Ear) (i : Nat) : pairsOf e (i + 1) = pairsOf e i ++ (if alone e i = true then [] else pairsAt e i e.reps.length) := by
  unfold pairsOf
  rw [List.range_succ, List.flatMap_append]; simp
theorem pairsAt_start (e : Ear) (i : Nat) : ∀ k, k ≤ i + 1 → pairsAt e i k = []
  | 0, _ => rfl
  | k + 1, h => by rw [pairsAt_succ, pairsAt_start e i k (by omega), if_neg (by omega)]; rfl
theorem singles_len (e : Ear) (n : Nat) : (singles e n).length ≤ n := by
  unfold singles
  rw [List.length_map]
  have := List.length_filter_le (alone e) (List.range n)
  rwa [List.length_range] at this
theorem pairsAt_len (e : Ear) (i n : Nat) : (pairsAt e i n).length ≤ n := by
  unfold pairsAt
  rw [List.length_map]
  refine Nat.le_trans (List.length_filter_le _ _) ?_
  rw [List.length_range]; exact Nat.le_refl _
theorem pairsOf_len (e : Ear) : ∀ n, (pairsOf e n).length ≤ n * e.reps.length
  | 0 => by simp [pairsOf]
  | n + 1 => by
    have h1 := pairsOf_len e n
    have h2 := pairsAt_len e n e.reps.length
    rw [pairsOf_succ, List.length_append, Nat.add_mul]
    split
    · simp; omega
    · omega
theorem repl_one (x : Rep) : repsOf [[.i x.kind, .i x.z, .i x.p]] = [x] := rfl
theorem repl_two (x y : Rep) : repsOf [[.i x.kind, .i x.z, .i x.p], [.i y.kind, .i y.z, .i y.p]] = [x, y] := rfl
theorem repl_none : repsOf [] = [] := rfl
set_option maxRecDepth 100000 in
theorem conflicts_ok : tab7.ok 54 := by
  refine Tab.of_ct rfl rfl ⟨_, Try.func54, by decide, rfl⟩ ?_ (fun h => by cases h)
  refine ct_ok (cx := cconflicts) (Tab.cx_ok (all_cons (up7_ok (up6_ok (up5_ok (up4_ok (up3_ok check_ok))))) (all_cons crosses_ok all_nil))) Try.func54 (bds := []) (T := tconflicts) (by kernel_rfl) ?_
  have h1 : cconflicts.ct 35 = some ctCheck := rfl
  have h2 : cconflicts.ct 88 = some ctCrosses := rfl
  unfold tconflicts
  simp only [VC, allC, List.map_cons, List.map_nil, List.length_cons, List.length_nil, List.getElem?_cons_zero, List.getElem?_cons_succ, List.cons.injEq, C.i.injEq, C.b.injEq, and_true, true_and, forall_const, kindsOf_nil, kindsOf_lf, kindsOf_agg, kindsOf_box, boxKinds_nil, boxKinds_lf, boxKinds_agg, boxKinds_box, List.append_nil, List.cons_append, List.nil_append, den_cmp_le, den_cmp_lt, den_cmp_eq, den_cmp_ne, den_cmp_le', den_cmp_lt', den_cmp_eq', den_cmp_ne', den_and, den_and', den_or, den_or', den_not, den_not', den_blit, den_of, ev_var, at_0, at_1, at_2, at_3, at_4, at_5, at_6, at_7, at_skip, c_int, c_bool, c_arr, c_cnt, c_vec, ev_nil, ev_join, ev_sub3, loc_s, int_i, bool_b, rows_s, cs_nil, cs_cons, E.den_lit, E.den_var, E.den_add, E.den_sub, E.den_mul, E.den_quo, E.den_rem, E.den_max, E.den_min, E.den_len, E.den_wr, E.den_cell, ev_cell, rp0, rp1, rp2, h1, h2, ctCheck, ctCrosses, ctConflicts, ctF, earthSh, earthKs, n_, k_, earOf, Ear.only]
  intro b _ _ u1 r1 _ _ _ u2 r2 _ _ _ u3 r3 _ _ _ u4 r4 _ _ _ gl _ _ gh _ _ u7 r7 _ _ _
  refine ⟨bds_nil _, ?_⟩
  rintro n _ _ hn
  refine ⟨fun h => ⟨_, _, rfl, ?_⟩, fun h => ?_⟩
  · show [] = conflictsV _
    symm
    unfold conflictsV
    rw [if_neg (by rw [← hn]; exact h)]
  rw [h] at hn
  have hv := valid hn.symm
  have e7 : (r7.length : Int) = ((repsOf r7).length : Int) := by simp [repsOf]
  have e7' : (r7.length : Int).toNat = (repsOf r7).length := by rw [e7]; omega
  rw [e7', e7]
  clear e7 e7'
  have hr0 : repsOf r7 = (⟨b, knots r1, knots r2, knots r3, knots r4, gl, gh, repsOf r7⟩ : Ear).reps := rfl
  generalize hE : (⟨b, knots r1, knots r2, knots r3, knots r4, gl, gh, repsOf r7⟩ : Ear) = E at *
  have hA : ∀ l : List Rep, (⟨b, knots r1, knots r2, knots r3, knots r4, gl, gh, l⟩ : Ear) = E.only l := fun l => by rw [← hE]; rfl
  simp only [hA, hr0, repl_one, repl_two, repl_none, bl_at]
  have hN : E.reps.length ≤ 24 := hv.reps
  refine ⟨valid_iff.2 (hv.only (fun r hr => nomatch hr) (by simp)), ?_⟩
  rintro t ht
  refine ⟨fun e => ?_, fun e => ?_⟩
  · intro v v1
    refine ⟨_, _, rfl, ?_⟩
    rw [e] at ht
    unfold conflictsV
    rw [if_pos hn.symm, if_pos ht.symm]; rfl
  rw [e] at ht
  have hC : conflictsV E = singles E E.reps.length ++ pairsOf E E.reps.length := conf_eq hv ht.symm
  rw [hC]
  refine ⟨by omega, fun v => ⟨fun xs => match xs with | [.s _ out, .i i, .s _ al] => 0 ≤ i ∧ i ≤ E.reps.length ∧ lists out = singles E i.toNat ∧ al.length = E.reps.length ∧ ∀ j : Nat, bl al j = (decide (j < i.toNat) && alone E j) | _ => False, fun xs => match xs with | [_, .i i, _] => ((E.reps.length : Int) - i).toNat | _ => 0, ⟨by omega, by omega, rfl, by simp, fun j => by rw [bl_rep]; simp⟩, ?_⟩⟩
  rintro v1 out _ _ _ i _ _ v2 al _ _ _ ⟨i0, i1, hout, hal, hbl⟩
  refine ⟨fun hlt => ?_, fun hge => ?_⟩
  · have hmem := rep_mem (e := E) (i := i.toNat) (by omega)
    have hol : out.length ≤ 24 := by
      have := singles_len E i.toNat
      rw [← hout, lists_len] at this; omega
    refine ⟨i0, hlt, valid_iff.2 (hv.only (fun r hr => by rw [List.mem_singleton] at hr; subst hr; exact hmem) (by simp)), ?_⟩
    rintro t ht
    have ht : t = alone E i.toNat := ht
    have hbl' : ∀ j, bl (updRow al i.toNat 0 [C.b t]) j = (decide (j < (i + 1).toNat) && alone E j) := fun j => by
      rw [bl_upd (by omega), hbl]
      by_cases hj : j = i.toNat
      · subst hj; rw [if_pos rfl, ht, decide_eq_true (by omega)]; rfl
      · rw [if_neg hj]
        congr 1
        exact decide_eq_decide.2 (by omega)
    have hii : (i.toNat : Int) = i := by omega
    have hs := singles_succ E i.toNat
    rw [← ht] at hs
    rw [bl_upd (by omega), if_pos rfl]
    refine ⟨by omega, fun v3 => ⟨by rw [upd_len]; omega, fun h => fun v4 => ⟨by simp only [Nat.zero_add]; omega, fun v5 => ⟨⟨by omega, by omega, ?_, by rw [upd_len]; exact hal, hbl'⟩, ?_⟩⟩, fun h => ⟨⟨by omega, by omega, ?_, by rw [upd_len]; exact hal, hbl'⟩, ?_⟩⟩⟩
    · rw [lists_snoc, hout, show (i + 1).toNat = i.toNat + 1 by omega, hs, if_pos h, hii]; rfl
    · show ((E.reps.length : Int) - (i + 1)).toNat < ((E.reps.length : Int) - i).toNat
      omega
    · rw [hout, show (i + 1).toNat = i.toNat + 1 by omega, hs, if_neg (by rw [h]; exact Bool.false_ne_true), List.append_nil]
    · show ((E.reps.length : Int) - (i + 1)).toNat < ((E.reps.length : Int) - i).toNat
      omega
  have hin : i.toNat = E.reps.length := by omega
  rw [hin] at hout hbl
  have hbl : ∀ j, j < E.reps.length → bl al j = alone E j := fun j hj => by rw [hbl, decide_eq_true hj, Bool.true_and]
  generalize hNN : E.reps.length = N at *
  have hsl := singles_len E N
  have hpl : ∀ j, j ≤ N → (pairsOf E j).length ≤ 576 := fun j hj => by
    have h1 := pairsOf_len E j
    rw [hNN] at h1
    have h2 : j * N ≤ 24 * 24 := Nat.mul_le_mul (by omega) hN
    omega
  refine ⟨fun xs => match xs with | [.s _ out, .i i] => 0 ≤ i ∧ i ≤ N ∧ lists out = singles E N ++ pairsOf E i.toNat | _ => False, fun xs => match xs with | [_, .i i] => ((N : Int) - i).toNat | _ => 0, ⟨by omega, by omega, by rw [hout]; simp [pairsOf]⟩, ?_⟩
  rintro v3 out3 _ _ _ k _ _ ⟨k0, k1, hout3⟩
  refine ⟨fun hlt => ?_, fun hge => ⟨_, _, rfl, by rw [hout3, show k.toNat = N by omega]⟩⟩
  have hps := pairsOf_succ E k.toNat
  rw [hbl k.toNat (by omega)]
  refine ⟨k0, hlt, by omega, fun h => ⟨⟨by omega, by omega, ?_⟩, ?_⟩, fun h => ?_⟩
  · rw [hout3, show (k + 1).toNat = k.toNat + 1 by omega, hps, if_pos h, List.append_nil]
  · show ((N : Int) - (k + 1)).toNat < ((N : Int) - k).toNat
    omega
  rw [if_neg (by rw [h]; exact Bool.false_ne_true), hNN] at hps
  refine ⟨fun xs => match xs with | [.s _ out, .i m] => k + 1 ≤ m ∧ m ≤ N ∧ lists out = singles E N ++ pairsOf E k.toNat ++ pairsAt E k.toNat m.toNat | _ => False, fun xs => match xs with | [_, .i m] => ((N : Int) - m).toNat | _ => 0, ⟨by omega, by omega, by rw [hout3, pairsAt_start E k.toNat _ (by omega), List.append_nil]⟩, ?_⟩
  rintro v4 out4 _ _ _ m _ _ ⟨m0, m1, hout4⟩
  have hol : out4.length ≤ 700 := by
    have h1 := congrArg List.length hout4
    have h2 := pairsAt_len E k.toNat m.toNat
    have h3 := hpl k.toNat (by omega)
    rw [lists_len, List.length_append, List.length_append] at h1
    omega
  refine ⟨fun hlt2 => ?_, fun hge2 => ⟨⟨by omega, by omega, ?_⟩, ?_⟩⟩
  rotate_left
  · rw [hout4, show (k + 1).toNat = k.toNat + 1 by omega, hps, show m.toNat = N by omega, List.append_assoc]
  · show ((N : Int) - (k + 1)).toNat < ((N : Int) - k).toNat
    omega
  have hpa := pairsAt_succ E k.toNat m.toNat
  have hmm : (m.toNat : Int) = m := by omega
  have hkk : (k.toNat : Int) = k := by omega
  have hmu : ((N : Int) - (m + 1)).toNat < ((N : Int) - m).toNat := by omega
  rw [hbl m.toNat (by omega)]
  refine ⟨by omega, by omega, fun hm => ⟨hlt2, ?_⟩, fun hm => ⟨⟨by omega, by omega, ?_⟩, hmu⟩⟩
  rotate_left
  · rw [hout4, show (m + 1).toNat = m.toNat + 1 by omega, hpa, if_neg (fun hx => by rw [hm] at hx; cases hx.2.1), List.append_nil]
  refine ⟨valid_iff.2 (hv.only (fun r hr => by
    simp only [List.mem_cons, List.not_mem_nil, or_false] at hr
    rcases hr with rfl | rfl
    · exact rep_mem (by omega)
    · exact rep_mem (by omega)) (by simp)), ?_⟩
  rintro t ht
  have ht : t = pairX E k.toNat m.toNat := ht
  refine ⟨fun ht1 => fun v7 => ⟨by simp only [Nat.zero_add]; omega, fun v8 => ⟨⟨by omega, by omega, ?_⟩, hmu⟩⟩, fun ht1 => ⟨⟨by omega, by omega, ?_⟩, hmu⟩⟩
  · rw [lists_snoc, hout4, show (m + 1).toNat = m.toNat + 1 by omega, hpa, if_pos ⟨by omega, hm, ht.symm.trans ht1⟩, hmm, hkk, List.append_assoc _ _ [_]]; rfl
  · rw [hout4, show (m + 1).toNat = m.toNat + 1 by omega, hpa, if_neg (fun hx => by rw [← ht, ht1] at hx; cases hx.2.2), List.append_nil]
end Go.Proofs.Ytcglpbchejkolaa
/- Earth: contracts, more of them: what the chapter's examples are made by. -/
namespace Go.Proofs.Ytcglpbchejkolaa
set_option linter.unusedVariables false

def ctMkLineA : Ct := ⟨[.lf (.arr 2)], [lineSh], fun cs => (at_ cs 0).rows.length ≤ 100, fun cs rs => ∃ v rows, rs = [.s v rows] ∧ knots rows = pairs (ints (at_ cs 0).rows), false⟩
def ctShownA : Ct := ⟨[], [earthSh], fun _ => True, fun _ rs => earOf rs = shownE, false⟩
def ctWith : Ct := ⟨[.lf (.arr 57)], [earthSh], fun _ => True, fun cs rs => earOf rs = shownE.only (repsOf (at_ cs 0).rows), false⟩
def ctInts : Ct := ctF [.lf (.arr 3), .lf (.arr 3)] [.lf .bool] (fun _ => True) (fun cs => [.b (ints (at_ cs 0).rows == ints (at_ cs 1).rows)])
def ctLists : Ct := ctF [.lf (.arr 74), .lf (.arr 74)] [.lf .bool] (fun _ => True) (fun cs => [.b (lists (at_ cs 0).rows == lists (at_ cs 1).rows)])
def tab9 : Tab where
  ct := fun f => match f with
    | 55 => some ctMkLineA
    | 56 => some ctShownA
    | 57 => some ctWith
    | 89 => some ctInts
    | 58 => some ctLists
    | f => tab7.ct f
  inl := tab7.inl
  sel := tab7.sel
theorem up9_ok {f : Nat} (h : tab7.ok f) (he : tab9.ct f = tab7.ct f := by rfl) : tab9.ok f :=
  ⟨h.1, fun ct hc => h.2.1 ct (he ▸ hc), h.2.2.1, h.2.2.2⟩
theorem mklineA_ok : tab9.ok 55 :=
  ⟨mkline_ok.1, fun ct hc => by cases hc; exact ⟨ct_arrs rfl (mkline_ok.2.1 ctMkLine rfl).1, fun h => by cases h⟩, mkline_ok.2.2.1, mkline_ok.2.2.2⟩
theorem shownA_ok : tab9.ok 56 :=
  ⟨shown_ok.1, fun ct hc => by cases hc; exact ⟨ct_arrs rfl (shown_ok.2.1 ctShown rfl).1, fun h => by cases h⟩, shown_ok.2.2.1, shown_ok.2.2.2⟩
end Go.Proofs.Ytcglpbchejkolaa
/- What is to be shown of each function, as the executor has it. Printed by trees.py. -/
namespace Go.Proofs.Ytcglpbchejkolaa
noncomputable def clknown : Cx := tab9.only [55, 56, 57, 58, 18, 23, 39, 41, 21, 27, 29, 54, 17] (fun _ => []) [] 0 [] (fun r => match r with
  | 50002 => some ([(2, true, [.bool])], [])
  | 50003 => some ([(3, true, [.bool])], [])
  | 50004 => some ([(4, true, [.bool])], [])
  | 50005 => some ([(5, true, [.bool])], [])
  | 50008 => some ([(8, true, [.bool])], [])
  | 50011 => some ([(11, true, [.bool])], [])
  | 50012 => some ([(0, true, [.bool])], [])
  | _ => none)
def tlknown_1 : Tree :=
  (.split (.cmp .eq (.var 7) (.lit 6)) (.arr [[(.int (.lit 5))], [(.int (.lit 1))], [(.int (.lit 5))], [(.int (.lit 2))]] (.dfn (.var 8) (.call 55 [(.arr 2 (.var 9))] (.call 18 [(.arr 44 (.var 10)), (.int (.lit 9)), (.int (.lit 9))] (.back 0 [(.bool (.cmp .eq (.var 11) (.lit 11)))]))))) (.back 0 [(.bool (.lit false))]))
def tlknown_2 : Tree :=
  (.split (.cmp .eq (.var 4) (.lit 0)) (.call 18 [(.arr 44 (.var 2)), (.int (.lit 29)), (.int (.lit 200))] (.split (.cmp .eq (.var 5) (.lit 2)) (.call 55 [(.arr 2 .nil)] (.call 18 [(.arr 44 (.var 6)), (.int (.lit 1)), (.int (.lit 1))] tlknown_1)) (.back 0 [(.bool (.lit false))]))) (.back 0 [(.bool (.lit false))]))
def tlknown_3 : Tree :=
  (.split (.and (.cmp .eq (.var 11) (.lit 100)) (.cmp .eq (.var 12) (.lit 100))) (.arr [[(.int (.lit 0))], [(.int (.lit 0))], [(.int (.lit 3))], [(.int (.lit 10))]] (.dfn (.var 13) (.call 55 [(.arr 2 (.var 14))] (.call 23 [(.arr 44 (.var 15)), (.int (.lit 1))] (.back 1 [(.bool (.and (.cmp .eq (.var 16) (.lit 3)) (.cmp .eq (.var 17) (.lit 4))))]))))) (.back 1 [(.bool (.lit false))]))
def tlknown_4 : Tree :=
  (.split (.and (.cmp .eq (.var 7) (.lit 150)) (.cmp .eq (.var 8) (.lit 150))) (.call 23 [(.arr 44 (.var 2)), (.int (.lit 11))] (.split (.and (.cmp .eq (.var 9) (.lit 195)) (.cmp .eq (.var 10) (.lit 195))) (.call 23 [(.arr 44 (.var 2)), (.int (.lit 99))] tlknown_3) (.back 1 [(.bool (.lit false))]))) (.back 1 [(.bool (.lit false))]))
def tlknown_5 : Tree :=
  (.split (.of (.var 15)) (.arr [[(.int (.lit 0))], [(.int (.lit 101))]] (.dfn (.var 16) (.call 55 [(.arr 2 (.var 17))] (.call 21 [(.arr 44 (.var 2)), (.arr 44 (.var 18))] (.back 2 [(.bool (.not (.of (.var 19))))]))))) (.back 2 [(.bool (.lit false))]))
def tlknown_6 : Tree :=
  (.split (.and (.cmp .eq (.var 10) (.lit 100)) (.cmp .eq (.var 11) (.lit 100))) (.arr [[(.int (.lit 0))], [(.int (.lit 100))]] (.dfn (.var 12) (.call 55 [(.arr 2 (.var 13))] (.call 21 [(.arr 44 (.var 2)), (.arr 44 (.var 14))] tlknown_5)))) (.back 2 [(.bool (.lit false))]))
def tlknown_7 : Tree :=
  (.split (.and (.cmp .eq (.var 6) (.lit 150)) (.cmp .eq (.var 7) (.lit 150))) (.call 41 [(.arr 44 (.var 2)), (.int (.lit 5)), (.int (.lit 15))] (.split (.and (.cmp .eq (.var 8) (.lit 200)) (.cmp .eq (.var 9) (.lit 200))) (.call 39 [(.arr 44 (.var 2)), (.int (.lit 0)), (.int (.lit 40))] tlknown_6) (.back 2 [(.bool (.lit false))]))) (.back 2 [(.bool (.lit false))]))
def tlknown_8 : Tree :=
  (.call 29 [(.int (.var 17)), (.arr 44 (.var 18)), (.arr 44 (.var 19)), (.arr 44 (.var 20)), (.arr 44 (.var 21)), (.int (.var 22)), (.int (.var 23)), (.arr 57 (.var 24)), (.int (.lit 50000))] (.back 3 [(.bool (.and (.cmp .eq (.var 25) (.lit 750000000)) (.cmp .eq (.var 26) (.lit 1000000000))))]))
def tlknown_9 : Tree :=
  (.call 27 [(.int (.var 7)), (.arr 44 (.var 8)), (.arr 44 (.var 9)), (.arr 44 (.var 10)), (.arr 44 (.var 11)), (.int (.var 12)), (.int (.var 13)), (.arr 57 (.var 14)), (.int (.lit 50000))] (.split (.and (.cmp .eq (.var 15) (.lit 450000000)) (.cmp .eq (.var 16) (.lit 600000000))) (.call 56 [] tlknown_8) (.back 3 [(.bool (.lit false))])))
def tlknown_10 : Tree :=
  (.split (.and (.cmp .eq (.var 40) (.lit 360000000)) (.cmp .eq (.var 41) (.lit 380000000))) (.call 27 [(.int (.var 25)), (.arr 44 (.var 26)), (.arr 44 (.var 27)), (.arr 44 (.var 28)), (.arr 44 (.var 29)), (.int (.var 30)), (.int (.var 31)), (.arr 57 (.var 32)), (.int (.lit 30000))] (.back 4 [(.bool (.and (.cmp .eq (.var 42) (.lit 270000000)) (.cmp .eq (.var 43) (.lit 360000000))))])) (.back 4 [(.bool (.lit false))]))
def tlknown_11 : Tree :=
  (.split (.and (.cmp .eq (.var 38) (.lit 450000000)) (.cmp .eq (.var 39) (.lit 600000000))) (.call 27 [(.int (.var 25)), (.arr 44 (.var 26)), (.arr 44 (.var 27)), (.arr 44 (.var 28)), (.arr 44 (.var 29)), (.int (.var 30)), (.int (.var 31)), (.arr 57 (.var 32)), (.int (.lit 40000))] tlknown_10) (.back 4 [(.bool (.lit false))]))
def tlknown_12 : Tree :=
  (.call 54 [(.int (.var 79)), (.arr 44 (.var 80)), (.arr 44 (.var 81)), (.arr 44 (.var 82)), (.arr 44 (.var 83)), (.int (.var 84)), (.int (.var 85)), (.arr 57 (.var 86))] (.back 5 [(.bool (.cmp .eq (.len (.var 87)) (.lit 0)))]))
def tlknown_13 : Tree :=
  (.arr [[(.int (.lit 0))]] (.dfn (.var 75) (.arr [[(.arr 3 (.var 76))]] (.call 58 [(.arr 74 (.var 74)), (.arr 74 (.var 77))] (.split (.of (.var 78)) (.call 56 [] tlknown_12) (.back 5 [(.bool (.lit false))]))))))
def tlknown_14 : Tree :=
  (.split (.of (.var 73)) (.call 54 [(.int (.var 56)), (.arr 44 (.var 57)), (.arr 44 (.var 58)), (.arr 44 (.var 59)), (.arr 44 (.var 60)), (.int (.var 61)), (.int (.var 62)), (.arr 57 (.var 63))] tlknown_13) (.back 5 [(.bool (.lit false))]))
def tlknown_15 : Tree :=
  (.dfn .nil (.dfn .nil (.dfn .nil (.dfn .nil (.dfn .nil (.join [.bool] (.call 54 [(.int (.var 41)), (.arr 44 (.var 42)), (.arr 44 (.var 43)), (.arr 44 (.var 44)), (.arr 44 (.var 45)), (.int (.var 46)), (.int (.var 47)), (.arr 57 (.var 48))] (.arr [[(.int (.lit 0))], [(.int (.lit 1))]] (.dfn (.var 70) (.arr [[(.arr 3 (.var 71))]] (.call 58 [(.arr 74 (.var 69)), (.arr 74 (.var 72))] tlknown_14))))) (.join [.bool] (.split (.of (.var 4)) (.split (.of (.var 5)) (.split (.of (.var 6)) (.split (.of (.var 7)) (.split (.of (.var 38)) (.split (.of (.var 69)) (.call 17 [] (.back 6 [(.bool (.of (.var 70)))])) (.back 6 [(.bool (.lit false))])) (.back 6 [(.bool (.lit false))])) (.back 6 [(.bool (.lit false))])) (.back 6 [(.bool (.lit false))])) (.back 6 [(.bool (.lit false))])) (.back 6 [(.bool (.lit false))])) (.ret [(.bool (.of (.var 70)))]))))))))
def tlknown_16 : Tree :=
  (.dfn .nil (.dfn .nil (.dfn .nil (.dfn .nil (.dfn .nil (.join [.bool] (.call 27 [(.int (.var 10)), (.arr 44 (.var 11)), (.arr 44 (.var 12)), (.arr 44 (.var 13)), (.arr 44 (.var 14)), (.int (.var 15)), (.int (.var 16)), (.arr 57 (.var 17)), (.int (.lit 50000))] tlknown_11) (.arr [[(.int (.lit 1)), (.int (.lit 50000)), (.int (.lit 590000000))], [(.int (.lit 2)), (.int (.lit 60000)), (.int (.lit 550000000))]] (.dfn (.var 39) (.call 57 [(.arr 57 (.var 40))] (.dfn .nil (.dfn .nil (.dfn .nil (.dfn .nil (.dfn .nil (.arr [[(.int (.lit 2)), (.int (.lit 50000)), (.int (.lit 440000000))]] (.dfn (.var 54) (.call 57 [(.arr 57 (.var 55))] tlknown_15)))))))))))))))))
def tlknown_17 : Tree :=
  (.dfn .nil (.join [.bool] (.call 18 [(.arr 44 (.var 2)), (.int (.lit 30)), (.int (.lit 200))] tlknown_2) (.join [.bool] (.call 23 [(.arr 44 (.var 2)), (.int (.lit (-5)))] (.split (.and (.cmp .eq (.var 5) (.lit 100)) (.cmp .eq (.var 6) (.lit 100))) (.call 23 [(.arr 44 (.var 2)), (.int (.lit 5))] tlknown_4) (.back 1 [(.bool (.lit false))]))) (.join [.bool] (.call 39 [(.arr 44 (.var 2)), (.int (.lit 5)), (.int (.lit 15))] tlknown_7) (.join [.bool] (.call 56 [] tlknown_9) (.arr [[(.int (.lit 2)), (.int (.lit 40000)), (.int (.lit 400000000))]] (.dfn (.var 8) (.call 57 [(.arr 57 (.var 9))] (.dfn .nil (.dfn .nil (.dfn .nil (.dfn .nil (.dfn .nil (.arr [[(.int (.lit 2)), (.int (.lit 40000)), (.int (.lit 380000000))]] (.dfn (.var 23) (.call 57 [(.arr 57 (.var 24))] tlknown_16))))))))))))))))
def tlknown : Tree :=
  (.arr [[(.int (.lit 0))], [(.int (.lit 100))], [(.int (.lit 10))], [(.int (.lit 200))], [(.int (.lit 30))], [(.int (.lit 100))]] (.dfn (.var 0) (.call 55 [(.arr 2 (.var 1))] tlknown_17)))
end Go.Proofs.Ytcglpbchejkolaa
/- Earth: EarthKnown's tree. -/
namespace Go.Proofs.Ytcglpbchejkolaa
theorem lknown_tree : execFn clknown Try.f14 (ctLaw []) [] = some tlknown := by kernel_rfl
end Go.Proofs.Ytcglpbchejkolaa
/- What is to be shown of each function, as the executor has it. Printed by trees.py. -/
namespace Go.Proofs.Ytcglpbchejkolaa
noncomputable def cwith : Cx := tab9.only [56] (fun _ => []) [] 0 [] (fun _ => none)
def twith : Tree :=
  (.dfn .nil (.dfn .nil (.dfn .nil (.dfn .nil (.dfn .nil (.call 56 [] (.dfn .nil (.dfn .nil (.dfn .nil (.dfn .nil (.dfn .nil (.ret [(.int (.var 6)), (.arr 44 (.var 7)), (.arr 44 (.var 8)), (.arr 44 (.var 9)), (.arr 44 (.var 10)), (.int (.var 11)), (.int (.var 12)), (.arr 57 (.var 0))]))))))))))))
noncomputable def csints : Cx := tab9.only [] (fun _ => []) [] 0 [] (fun _ => none)
def tsints : Tree :=
  (.loop [.bool, .int] [(.bool (.lit false)), (.int (.lit 0))] (.split (.cmp .lt (.var 3) (.len (.var 0))) (.split (.cmp .lt (.var 3) (.len (.var 1))) (.ob (.cmp .le (.lit 0) (.var 3)) (.ob (.cmp .lt (.var 3) (.len (.var 0))) (.ob (.cmp .lt (.var 3) (.len (.var 1))) (.split (.cmp .ne (.cell (.var 0) (.var 3) 0) (.cell (.var 1) (.var 3) 0)) (.ret [(.bool (.lit false))]) (.back 0 [(.bool (.of (.var 2))), (.int (.add (.var 3) (.lit 1)))]))))) (.ret [(.bool (.cmp .eq (.len (.var 0)) (.len (.var 1))))])) (.ret [(.bool (.cmp .eq (.len (.var 0)) (.len (.var 1))))])))
noncomputable def cslists : Cx := tab9.only [89] (fun _ => []) [] 0 [] (fun _ => none)
def tslists : Tree :=
  (.split (.cmp .ne (.len (.var 0)) (.len (.var 1))) (.ret [(.bool (.lit false))]) (.loop [.bool, .int] [(.bool (.lit false)), (.int (.lit 0))] (.split (.cmp .lt (.var 3) (.len (.var 0))) (.ob (.cmp .le (.lit 0) (.var 3)) (.ob (.cmp .lt (.var 3) (.len (.var 0))) (.ob (.cmp .lt (.var 3) (.len (.var 1))) (.call 89 [(.arr 3 (.cell (.var 0) (.var 3) 0)), (.arr 3 (.cell (.var 1) (.var 3) 0))] (.split (.not (.of (.var 4))) (.ret [(.bool (.lit false))]) (.back 0 [(.bool (.of (.var 2))), (.int (.add (.var 3) (.lit 1)))])))))) (.ret [(.bool (.lit true))]))))
end Go.Proofs.Ytcglpbchejkolaa
/- Earth: what the chapter's examples are made by, by the table. -/
namespace Go.Proofs.Ytcglpbchejkolaa
open Go.RowKit
set_option linter.unusedSimpArgs false
set_option linter.unusedVariables false

theorem with_ok : tab9.ok 57 := by
  refine Tab.of_ct rfl rfl ⟨_, Try.func57, by decide, rfl⟩ ?_ (fun h => by cases h)
  refine ct_ok (cx := cwith) (Tab.cx_ok (all_cons shownA_ok all_nil)) Try.func57 (bds := []) (T := twith) (by kernel_rfl) ?_
  have h1 : cwith.ct 56 = some ctShownA := rfl
  unfold twith
  simp only [VC, allC, List.map_cons, List.map_nil, List.length_cons, List.length_nil, List.getElem?_cons_zero, List.getElem?_cons_succ, List.cons.injEq, C.i.injEq, C.b.injEq, and_true, true_and, forall_const, kindsOf_nil, kindsOf_lf, kindsOf_agg, kindsOf_box, boxKinds_nil, boxKinds_lf, boxKinds_agg, boxKinds_box, List.append_nil, List.cons_append, List.nil_append, den_cmp_le, den_cmp_lt, den_cmp_eq, den_cmp_ne, den_cmp_le', den_cmp_lt', den_cmp_eq', den_cmp_ne', den_and, den_and', den_or, den_or', den_not, den_not', den_blit, den_of, ev_var, at_0, at_1, at_2, at_3, at_4, at_5, at_6, at_7, at_skip, c_int, c_bool, c_arr, c_cnt, c_vec, ev_nil, ev_join, ev_sub3, loc_s, int_i, bool_b, rows_s, cs_nil, cs_cons, E.den_lit, E.den_var, E.den_add, E.den_sub, E.den_mul, E.den_quo, E.den_rem, E.den_max, E.den_min, E.den_len, E.den_wr, E.den_cell, h1, ctShownA, ctWith, ctF, earthSh, earthKs, earOf, n_, k_]
  intro u r _ _ _
  refine ⟨bds_nil _, ?_⟩
  rintro b0 _ _ v1 r1 _ _ _ v2 r2 _ _ _ v3 r3 _ _ _ v4 r4 _ _ _ gl _ _ gh _ _ v7 r7 _ _ _ hE
  exact congrArg (fun e : Ear => { e with reps := repsOf r }) hE
theorem sints_ok : tab9.ok 89 := by
  refine Tab.of_ct rfl rfl ⟨_, Try.func89, by decide, rfl⟩ ?_ ctF_det
  refine ct_ok (cx := csints) (Tab.cx_ok all_nil) Try.func89 (bds := []) (T := tsints) (by kernel_rfl) ?_
  unfold tsints
  simp only [VC, allC, List.map_cons, List.map_nil, List.length_cons, List.length_nil, List.getElem?_cons_zero, List.getElem?_cons_succ, List.cons.injEq, C.i.injEq, C.b.injEq, and_true, true_and, forall_const, kindsOf_nil, kindsOf_lf, kindsOf_agg, kindsOf_box, boxKinds_nil, boxKinds_lf, boxKinds_agg, boxKinds_box, List.append_nil, List.cons_append, List.nil_append, den_cmp_le, den_cmp_lt, den_cmp_eq, den_cmp_ne, den_cmp_le', den_cmp_lt', den_cmp_eq', den_cmp_ne', den_and, den_and', den_or, den_or', den_not, den_not', den_blit, den_of, ev_var, at_0, at_1, at_2, at_3, at_4, at_5, at_6, at_7, at_skip, c_int, c_bool, c_arr, c_cnt, c_vec, ev_nil, ev_join, ev_sub3, loc_s, int_i, bool_b, rows_s, cs_nil, cs_cons, E.den_lit, E.den_var, E.den_add, E.den_sub, E.den_mul, E.den_quo, E.den_rem, E.den_max, E.den_min, E.den_len, E.den_wr, E.den_cell, ev_cell, in1, ctInts, ctF, n_]
  intro u r _ _ _ u' r' _ _ _
  have hr : (r.length : Int) = ((ints r).length : Int) := by rw [ints_len]
  have hr' : (r'.length : Int) = ((ints r').length : Int) := by rw [ints_len]
  rw [← ints_len r, ← ints_len r']
  generalize ints r = l at *
  generalize ints r' = m at *
  refine ⟨bds_nil _, fun xs => match xs with | [.b _, .i i] => 0 ≤ i ∧ i ≤ l.length ∧ i ≤ m.length ∧ l.take i.toNat = m.take i.toNat | _ => False, fun xs => match xs with | [_, .i i] => ((l.length : Int) - i).toNat | _ => 0, ⟨by omega, by omega, by omega, by simp⟩, ?_⟩
  rintro t i _ _ ⟨i0, i1, i2, hI⟩
  have hlen : B.den [C.s u r, C.s u' r', C.b t, C.i i] (B.cmp Cmp.eq (E.var 0).len (E.var 1).len) = decide ((r.length : Int) = (r'.length : Int)) := rfl
  rw [hlen, hr, hr']
  have fin : (i = l.length ∨ i = m.length) → decide ((l.length : Int) = (m.length : Int)) = (l == m) := fun h => by
    by_cases e : l.length = m.length
    · rw [decide_eq_true (by omega)]
      rw [List.take_of_length_le (by omega), List.take_of_length_le (by omega)] at hI
      rw [hI]; simp
    · rw [decide_eq_false (by omega)]
      symm
      rw [beq_eq_false_iff_ne]
      intro h2; exact e (congrArg List.length h2)
  refine ⟨fun hl => ⟨fun hm => ⟨i0, hl, hm, fun hne => ?_, fun heq => ⟨⟨by omega, by omega, by omega, ?_⟩, ?_⟩⟩, fun hm => fin (.inr (by omega))⟩, fun hl => fin (.inl (by omega))⟩
  · symm
    rw [beq_eq_false_iff_ne]
    intro h2; rw [h2] at hne; exact hne rfl
  · rw [show (i + 1).toNat = i.toNat + 1 by omega, take_snoc (by omega) 0, take_snoc (by omega) 0, hI, heq]
  · show ((l.length : Int) - (i + 1)).toNat < ((l.length : Int) - i).toNat
    omega
theorem lj1 (v : Value) (c : List (List C)) (n : Nat) : ints ((C.s v c).at n 0).rows = (lists c).getD n [] := by
  simp only [cell_at, lists, List.getD_eq_getElem?_getD, List.getElem?_map]
  cases c[n]? <;> rfl
theorem slists_ok : tab9.ok 58 := by
  refine Tab.of_ct rfl rfl ⟨_, Try.func58, by decide, rfl⟩ ?_ ctF_det
  refine ct_ok (cx := cslists) (Tab.cx_ok (all_cons sints_ok all_nil)) Try.func58 (bds := []) (T := tslists) (by kernel_rfl) ?_
  have h1 : cslists.ct 89 = some ctInts := rfl
  unfold tslists
  simp only [VC, allC, List.map_cons, List.map_nil, List.length_cons, List.length_nil, List.getElem?_cons_zero, List.getElem?_cons_succ, List.cons.injEq, C.i.injEq, C.b.injEq, and_true, true_and, forall_const, kindsOf_nil, kindsOf_lf, kindsOf_agg, kindsOf_box, boxKinds_nil, boxKinds_lf, boxKinds_agg, boxKinds_box, List.append_nil, List.cons_append, List.nil_append, den_cmp_le, den_cmp_lt, den_cmp_eq, den_cmp_ne, den_cmp_le', den_cmp_lt', den_cmp_eq', den_cmp_ne', den_and, den_and', den_or, den_or', den_not, den_not', den_blit, den_of, ev_var, at_0, at_1, at_2, at_3, at_4, at_5, at_6, at_7, at_skip, c_int, c_bool, c_arr, c_cnt, c_vec, ev_nil, ev_join, ev_sub3, loc_s, int_i, bool_b, rows_s, cs_nil, cs_cons, E.den_lit, E.den_var, E.den_add, E.den_sub, E.den_mul, E.den_quo, E.den_rem, E.den_max, E.den_min, E.den_len, E.den_wr, E.den_cell, ev_cell, h1, ctInts, ctLists, ctF, n_, lj1]
  intro u r _ _ _ u' r' _ _ _
  rw [← lists_len r, ← lists_len r']
  generalize lists r = l at *
  generalize lists r' = m at *
  refine ⟨bds_nil _, fun hne => ?_, fun heq => ?_⟩
  · symm
    rw [beq_eq_false_iff_ne]
    intro h2; rw [h2] at hne; exact hne rfl
  refine ⟨fun xs => match xs with | [.b _, .i i] => 0 ≤ i ∧ i ≤ l.length ∧ l.take i.toNat = m.take i.toNat | _ => False, fun xs => match xs with | [_, .i i] => ((l.length : Int) - i).toNat | _ => 0, ⟨by omega, by omega, by simp⟩, ?_⟩
  rintro t i _ _ ⟨i0, i1, hI⟩
  refine ⟨fun hl => ⟨i0, hl, by omega, ?_⟩, fun hge => ?_⟩
  · rintro t1 h1
    refine ⟨fun h => ?_, fun h => ⟨⟨by omega, by omega, ?_⟩, ?_⟩⟩
    · symm
      rw [beq_eq_false_iff_ne]
      intro h2
      rw [h2, beq_self_eq_true, h] at h1; cases h1
    · rw [h] at h1
      have h2 : l.getD i.toNat [] = m.getD i.toNat [] := beq_iff_eq.1 h1.symm
      rw [show (i + 1).toNat = i.toNat + 1 by omega, take_snoc (by omega) [], take_snoc (by omega) [], hI, h2]
    · show ((l.length : Int) - (i + 1)).toNat < ((l.length : Int) - i).toNat
      omega
  · rw [List.take_of_length_le (by omega), List.take_of_length_le (by omega)] at hI
    rw [hI]; simp
end Go.Proofs.Ytcglpbchejkolaa
