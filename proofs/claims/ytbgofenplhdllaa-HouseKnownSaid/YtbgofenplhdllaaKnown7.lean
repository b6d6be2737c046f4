/- Texts laid into one: Mp Hd Hs Hr Rg Rk XS XT XP XQ XR XU XY XB1 XB2 XB3 XB4 Ac XZ XA XV XW XS2. -/
import Derived.Test.YtbgofenplhdllaaKnown6
import Derived.Maps.Keyed
import Derived.Maps.Range
import Derived.Carry
import Derived.RangeFuncRecord
import Derived.RangeFuncSeq
import Derived.RangeFuncLeaves
import Derived.TacticsInMore
import Derived.LoopIn
import Derived.OwnWalkIn
import Derived.WalkKit
/- Maps with numbers as keys: what a block holds, looked up, written, ranged over. -/
namespace Go.Proofs.Ytbgofenplhdllaa
open Go.RowKit
open Go.ChangeMaps (setBlock heap_setBlock_same heap_setBlock_other)
set_option linter.unusedSimpArgs false
set_option linter.unusedVariables false

abbrev Prs := List (Int × Value)
def valAt : Prs → Int → Value → Value
  | [], _, z => z
  | (j, v) :: l, k, z => if j = k then v else valAt l k z
def putG : Prs → Int → Value → Prs
  | [], k, v => [(k, v)]
  | (j, u) :: l, k, v => if j = k then (k, v) :: l else (j, u) :: putG l k v
theorem valAt_none {k : Int} {z : Value} : ∀ {G : Prs}, (∀ g ∈ G, g.1 ≠ k) → valAt G k z = z
  | [], _ => rfl
  | (j, v) :: l, h => by
    simp only [valAt, if_neg (h (j, v) (by simp))]
    exact valAt_none fun g hg => h g (by simp [hg])
theorem valAt_some {k : Int} {v z : Value} : ∀ {G : Prs}, (G.map (·.1)).Nodup → (k, v) ∈ G → valAt G k z = v
  | [], _, h => by cases h
  | (j, u) :: l, hn, h => by
    simp only [List.map_cons, List.nodup_cons] at hn
    rcases List.mem_cons.1 h with h | h
    · cases h; simp [valAt]
    · have : j ≠ k := fun e => hn.1 (e ▸ List.mem_map_of_mem (f := (·.1)) h)
      simp only [valAt, if_neg this]
      exact valAt_some hn.2 h
theorem putG_none {k : Int} {v : Value} : ∀ {G : Prs}, (∀ g ∈ G, g.1 ≠ k) → putG G k v = G ++ [(k, v)]
  | [], _ => rfl
  | (j, u) :: l, h => by
    simp only [putG, if_neg (h (j, u) (by simp)), List.cons_append]
    rw [putG_none fun g hg => h g (by simp [hg])]
theorem putG_set {k : Int} {v : Value} : ∀ {G : Prs}, (G.map (·.1)).Nodup → ∀ {i : Nat} {u : Value}, G[i]? = some (k, u) → putG G k v = G.set i (k, v)
  | [], _, i, u, h => by simp at h
  | (j, w) :: l, hn, 0, u, h => by simp at h; obtain ⟨rfl, rfl⟩ := h; simp [putG]
  | (j, w) :: l, hn, i + 1, u, h => by
    simp only [List.map_cons, List.nodup_cons] at hn
    have h : l[i]? = some (k, u) := by simpa using h
    have : j ≠ k := fun e => hn.1 (e ▸ List.mem_map_of_mem (f := (·.1)) (List.mem_of_getElem? h))
    simp only [putG, if_neg this, List.set_cons_succ]
    rw [putG_set hn.2 h]
def PairsOf (es : Array MapEntry) (G : Prs) : Prop := es.toList.map (fun x => (x.key, x.val)) = G.map fun g => (Value.int .i64 g.1, g.2)
/-- A map's block, by its entries. -/
def MapAt (w : World) (b : Nat) (G : Prs) : Prop := ∃ es clock, w.heap[b]? = some (.map es clock) ∧ es.size ≤ maxLen ∧ MapKept.Stamped es clock ∧ PairsOf es G
theorem PairsOf.nodup {es : Array MapEntry} {G : Prs} {clock : Nat} (h : PairsOf es G) (hs : MapKept.Stamped es clock) : (G.map (·.1)).Nodup := by
  have h1 : es.toList.map (·.key) = G.map fun g => Value.int .i64 g.1 := by
    have := congrArg (List.map Prod.fst) h
    simpa [List.map_map, Function.comp_def] using this
  have h2 := hs.2.2
  rw [h1] at h2
  have e : (G.map fun g => Value.int .i64 g.1) = (G.map (·.1)).map (Value.int .i64) := by simp [List.map_map, Function.comp_def]
  rw [e] at h2
  exact (List.pairwise_map.1 h2).imp fun h e => h (by rw [e])
theorem PairsOf.at {es : Array MapEntry} {G : Prs} (h : PairsOf es G) {j : Nat} {x : MapEntry} (hx : es.toList[j]? = some x) : ∃ g, G[j]? = some g ∧ x.key = .int .i64 g.1 ∧ x.val = g.2 := by
  have := congrArg (fun l => l[j]?) h
  simp only [List.getElem?_map, hx, Option.map_some] at this
  cases hg : G[j]? with
  | none => rw [hg] at this; cases this
  | some g => rw [hg] at this; simp only [Option.map_some, Option.some.injEq, Prod.mk.injEq] at this; exact ⟨g, rfl, this.1, this.2⟩
theorem PairsOf.of {es : Array MapEntry} {G : Prs} (h : PairsOf es G) {j : Nat} {g : Int × Value} (hg : G[j]? = some g) : ∃ x, es.toList[j]? = some x ∧ x.key = .int .i64 g.1 ∧ x.val = g.2 := by
  have := congrArg (fun l => l[j]?) h
  simp only [List.getElem?_map, hg, Option.map_some] at this
  cases hx : es.toList[j]? with
  | none => rw [hx] at this; cases this
  | some x => rw [hx] at this; simp only [Option.map_some, Option.some.injEq, Prod.mk.injEq] at this; exact ⟨x, rfl, this.1, this.2⟩
theorem PairsOf.key {es : Array MapEntry} {G : Prs} (h : PairsOf es G) {x : MapEntry} (hx : x ∈ es.toList) : ∃ g ∈ G, x.key = .int .i64 g.1 ∧ x.val = g.2 := by
  obtain ⟨j, hj, e⟩ := List.getElem_of_mem hx
  obtain ⟨g, hg, h1, h2⟩ := h.at (show es.toList[j]? = some x by rw [List.getElem?_eq_getElem hj, e])
  exact ⟨g, List.mem_of_getElem? hg, h1, h2⟩
section
variable {P : Program} {t k e : TypeId} (ht : P.underlying t = some (.map k e)) (hk : P.underlying k = some (.int .i64)) {w : World} {b : Nat} {G : Prs}
theorem lit_wf {n : Int} (h : -9223372036854775808 ≤ n ∧ n ≤ 9223372036854775807) : (Lit.int .i64 n).wf = true := by
  have e1 : IntKind.i64.min = -9223372036854775808 := rfl
  have e2 : IntKind.i64.max = 9223372036854775807 := rfl
  simp [Lit.wf, e1, e2]
  omega
theorem MapAt.lt (h : MapAt w b G) : b < w.heap.size := by obtain ⟨es, clock, hb, -⟩ := h; exact (Array.getElem?_eq_some_iff.1 hb).1
theorem MapAt.nodup (h : MapAt w b G) : (G.map (·.1)).Nodup := by obtain ⟨es, clock, -, -, hs, hp⟩ := h; exact hp.nodup hs
theorem MapAt.made (w : World) : MapAt (w.alloc (.map #[] 0)) w.heap.size [] := ⟨#[], 0, (MapKept.heap_alloc w _).1, by simp, MapKept.stamped_empty 0, rfl⟩
include ht hk
theorem MapAt.look (h : MapAt w b G) (hG : ∀ g ∈ G, -9223372036854775808 ≤ g.1 ∧ g.1 ≤ 9223372036854775807) {n : Int} (hn : -9223372036854775808 ≤ n ∧ n ≤ 9223372036854775807) {z : Value} (hz : (zeroValue e).run P w = .ok z w) : (Instr.lookup t (.map (some b)) (.int .i64 n) false).run P w = .ok (valAt G n z) w := by
  obtain ⟨es, clock, hb, hsz, hst, hp⟩ := h
  have K := Maps.int_keyed hk
  have hkey := Maps.keyOf_int_mk hk (lit_wf hn)
  rcases K.find w hkey es.toList (fun x hx => by
    obtain ⟨g, hg, h1, -⟩ := hp.key hx
    rw [h1]
    exact ⟨_, Maps.keyOf_int_mk hk (lit_wf (hG g hg))⟩) with ⟨h1, h2⟩ | ⟨j, e0, h1, h2, h3⟩
  · rw [valAt_none fun g hg hgn => ?_]
    · simp [Instr.lookup, run_underlying ht, MapKept.run_getObj_map hb, K.check w _ hkey, h1, hz, Result.andThen]
    · obtain ⟨j, hj, ej⟩ := List.getElem_of_mem hg
      obtain ⟨x, hx, hx1, -⟩ := hp.of (show G[j]? = some g by rw [List.getElem?_eq_getElem hj, ej])
      exact h2 x (List.mem_of_getElem? hx) (by rw [hx1, hgn])
  · obtain ⟨g, hg, hg1, hg2⟩ := hp.at h2
    rw [h3] at hg1
    cases hg1
    rw [valAt_some (hp.nodup hst) (show (g.1, e0.val) ∈ G by rw [hg2]; exact List.mem_of_getElem? hg)]
    simp [Instr.lookup, run_underlying ht, MapKept.run_getObj_map hb, K.check w _ hkey, h1, Result.andThen]
theorem MapAt.store (h : MapAt w b G) (hG : ∀ g ∈ G, -9223372036854775808 ≤ g.1 ∧ g.1 ≤ 9223372036854775807) (hroom : G.length < maxLen) {n : Int} (hn : -9223372036854775808 ≤ n ∧ n ≤ 9223372036854775807) (v : Value) :
    ∃ o, (Instr.mapUpdate t (.map (some b)) (.int .i64 n) v).run P w = .ok () (setBlock w b o) ∧ MapAt (setBlock w b o) b (putG G n v) ∧ ∀ i, i ≠ b → (setBlock w b o).heap[i]? = w.heap[i]? := by
  obtain ⟨es, clock, hb, hsz, hst, hp⟩ := h
  have K := Maps.int_keyed hk
  have hkey := Maps.keyOf_int_mk hk (lit_wf hn)
  have hlen : es.size = G.length := by have := congrArg List.length hp; simpa using this
  rcases K.find w hkey es.toList (fun x hx => by
    obtain ⟨g, hg, h1, -⟩ := hp.key hx
    rw [h1]
    exact ⟨_, Maps.keyOf_int_mk hk (lit_wf (hG g hg))⟩) with ⟨h1, h2⟩ | ⟨j, e0, h1, h2, h3⟩
  · refine ⟨.map (es.push ⟨.int .i64 n, v, clock⟩) (clock + 1), ?_, ⟨_, _, heap_setBlock_same hb _, by simp; omega, MapKept.stamped_push hst h2, ?_⟩, fun i hi => heap_setBlock_other hb _ hi⟩
    · simp [Instr.mapUpdate, run_underlying ht, MapKept.run_getObj_map hb, K.check w false hkey, h1, MapKept.run_setObj_map _ hb, Result.andThen, setBlock]
    · rw [putG_none fun g hg hgn => ?_]
      · unfold PairsOf at hp ⊢
        simp [hp]
      · obtain ⟨j, hj, ej⟩ := List.getElem_of_mem hg
        obtain ⟨x, hx, hx1, -⟩ := hp.of (show G[j]? = some g by rw [List.getElem?_eq_getElem hj, ej])
        exact h2 x (List.mem_of_getElem? hx) (by rw [hx1, hgn])
  · have hj : es[j]? = some e0 := by simpa using h2
    obtain ⟨g, hg, hg1, hg2⟩ := hp.at h2
    rw [h3] at hg1
    cases hg1
    refine ⟨.map (es.modify j (fun e' => { e' with key := .int .i64 g.1, val := v })) clock, ?_, ⟨_, _, heap_setBlock_same hb _, by simpa using hsz, MapKept.stamped_modify hst _ _ (fun _ _ => rfl) (fun e' _ he' => by rw [hj] at he'; cases he'; exact h3.symm), ?_⟩, fun i hi => heap_setBlock_other hb _ hi⟩
    · simp [Instr.mapUpdate, run_underlying ht, MapKept.run_getObj_map hb, K.check w false hkey, h1, hj, h3, K.stays w hkey, MapKept.run_setObj_map _ hb, Result.andThen, setBlock]
    · rw [putG_set (hp.nodup hst) (show G[j]? = some (g.1, g.2) from hg)]
      unfold PairsOf at hp ⊢
      have hlist : (es.modify j (fun e' => { e' with key := Value.int .i64 g.1, val := v })).toList = es.toList.set j { e0 with key := .int .i64 g.1, val := v } := by
        rw [Array.toList_modify]
        apply List.ext_getElem?
        intro i
        simp only [List.getElem?_modify, List.getElem?_set]
        by_cases hij : j = i
        · subst hij
          simp only [if_true, h2, Option.map_some]
          have : j < es.toList.length := (List.getElem?_eq_some_iff.1 h2).1
          rw [if_pos (by simpa using this)]
          rfl
        · simp [hij]
      rw [hlist, List.map_set, List.map_set, hp]
omit ht hk in
/-- An iterator over a map: which keys it has handed out. -/
def IterAt (w : World) (r b : Nat) (G : Prs) (seen : List Int) : Prop :=
  ∃ es clock since sn c0, w.heap[b]? = some (.map es clock) ∧ MapKept.Stamped es clock ∧ PairsOf es G ∧ w.heap[r]? = some (.mapIter (some b) since sn c0) ∧ (∀ x ∈ es.toList, x.born < since) ∧ since ≤ c0 ∧ since ≤ clock ∧ ∀ x ∈ es.toList, ∀ g ∈ G, x.key = .int .i64 g.1 → (sn.contains x.born = true ↔ g.1 ∈ seen)
end
section
variable {P : Program} {t k e : TypeId} {w : World} {b r : Nat} {G : Prs} {seen : List Int}
theorem IterAt.start (ht : P.underlying t = some (.map k e)) (h : MapAt w b G) : ∃ o, (Instr.range t (.map (some b))).run P w = .ok (.pointer (some ⟨w.heap.size, 0, none⟩)) (w.alloc o) ∧ IterAt (w.alloc o) w.heap.size b G [] := by
  obtain ⟨es, clock, hb, hsz, hst, hp⟩ := h
  have hlt : b < w.heap.size := (Array.getElem?_eq_some_iff.1 hb).1
  refine ⟨.mapIter (some b) clock #[] clock, run_range_map w t k e b es clock ht hb, es, clock, clock, #[], clock, (heap_alloc_old w _ hlt).trans hb, hst, hp, heap_alloc_new w _, hst.1, Nat.le_refl _, Nat.le_refl _, fun x hx g hg hxg => by simp⟩
/-- The next round: nothing is left, or some key comes that had not come. -/
theorem IterAt.next (ty : TypeId) (hbr : b ≠ r) (h : IterAt w r b G seen) :
    ((∀ g ∈ G, g.1 ∈ seen) ∧ (Instr.next (.pointer (some ⟨r, 0, none⟩)) false ty).run P w = .ok (.tuple #[.bool false]) w) ∨
    ∃ g ∈ G, g.1 ∉ seen ∧ ∃ w', (Instr.next (.pointer (some ⟨r, 0, none⟩)) false ty).run P w = .ok (.tuple #[.bool true, .int .i64 g.1, g.2]) w' ∧ IterAt w' r b G (g.1 :: seen) ∧
      w'.heap.size = w.heap.size ∧ (∀ i, i ≠ r → w'.heap[i]? = w.heap[i]?) ∧ w'.os = w.os ∧ w'.tape = w.tape ∧ w'.output = w.output ∧
      ∀ u, u.heap[b]? = w'.heap[b]? → u.heap[r]? = w'.heap[r]? → (Instr.entry (.pointer (some ⟨r, 0, none⟩))).run P u = .ok (.tuple #[.int .i64 g.1, g.2]) u := by
  obtain ⟨es, clock, since, sn, c0, hb, hst, hp, hr, hold, hsc, hcl, hseen⟩ := h
  rcases run_next_at (P := P) w ty r b since c0 sn es clock hr hb hold hsc with ⟨h0, hrun⟩ | ⟨x, hx, w1, hw1, hrun⟩
  · refine .inl ⟨fun g hg => ?_, hrun⟩
    obtain ⟨j, hj, ej⟩ := List.getElem_of_mem hg
    obtain ⟨x, hx, hx1, -⟩ := hp.of (show G[j]? = some g by rw [List.getElem?_eq_getElem hj, ej])
    have hxm := List.mem_of_getElem? hx
    exact (hseen x hxm g hg hx1).1 (all_seen es sn h0 x hxm)
  · obtain ⟨hxm, hxs⟩ := mem_left hx
    obtain ⟨g, hg, hg1, hg2⟩ := hp.key hxm
    have hns : g.1 ∉ seen := fun hin => by rw [(hseen x hxm g hg hg1).2 hin] at hxs; cases hxs
    have hr1 : w1.heap[r]? = some (.mapIter (some b) since sn c0) := by rcases hw1 with rfl | rfl <;> exact hr
    have hw1h : w1.heap = w.heap := by rcases hw1 with rfl | rfl <;> rfl
    have hset : ∀ i, i ≠ r → (setBlock w1 r (.mapIter (some b) since (sn.push x.born) clock)).heap[i]? = w.heap[i]? := fun i hi => by
      simp only [setBlock, Array.getElem?_setIfInBounds, if_neg (Ne.symm hi), hw1h]
    have hsame : (setBlock w1 r (.mapIter (some b) since (sn.push x.born) clock)).heap[r]? = some (.mapIter (some b) since (sn.push x.born) clock) := by
      have : r < w1.heap.size := (Array.getElem?_eq_some_iff.1 hr1).1
      simp [setBlock, this]
    refine .inr ⟨g, hg, hns, setBlock w1 r (.mapIter (some b) since (sn.push x.born) clock), by rw [hrun, hg1, hg2], ?_, by simp [setBlock, hw1h], hset, ?_, ?_, ?_, ?_⟩
    · refine ⟨es, clock, since, sn.push x.born, clock, (hset b hbr).trans hb, hst, hp, hsame, hold, hcl, hcl, fun y hy g' hg' hyg => ?_⟩
      · rw [contains_push]
        simp only [Bool.or_eq_true, beq_iff_eq, List.mem_cons]
        rw [hseen y hy g' hg' hyg]
        have hnod := hst.2.1
        constructor
        · rintro (h | h)
          · exact .inr h
          · have := born_inj hnod hy hxm h
            subst this
            rw [hyg] at hg1
            exact .inl (by simpa using hg1)
        · rintro (h | h)
          · have hkk : y.key = x.key := by rw [hyg, hg1, h]
            have hpk : es.toList.Pairwise (fun x y => x.key ≠ y.key) := ((MapKept.stamped_iff es clock).1 hst).2.2
            refine .inr ?_
            rw [entry_eq_of_key hpk hy hxm hkk]
          · exact .inl h
    · rcases hw1 with rfl | rfl <;> rfl
    · rcases hw1 with rfl | rfl <;> rfl
    · rcases hw1 with rfl | rfl <;> rfl
    · intro u hub hur
      rw [← hg1, ← hg2]
      exact run_entry_at u r b since sn es clock x (hur.trans hsame) (hub.trans ((hset b hbr).trans hb)) hxm hst.2.1
end
end Go.Proofs.Ytbgofenplhdllaa
/- Pieces of a code by hand: what a state says where blocks of nobody's have turned. -/
namespace Go.Proofs.Ytbgofenplhdllaa
open Go.RowKit
set_option linter.unusedSimpArgs false
set_option linter.unusedVariables false

/-! Operations by hand -/
section
variable {P : Program} {ops : Array Oper} {Q : Exit → Act → World → Prop} {o : Oper} {rest : List Oper} {a : Act} {w w' : World} {v : Value}
theorem op_val {K : Act → World → Prop} (h : (execOp a.eval o).run P w = .ok (.value v) w') (hk : K (a.put o.dst v) w') : o.wp P a w K Q := by
  unfold Oper.wp; rw [h]; exact hk
theorem list_val (hg : o.guard = none) (h : (execOp a.eval o).run P w = .ok (.value v) w') (hk : wpList P ops Q rest (a.put o.dst v) w') : wpList P ops Q (o :: rest) a w := by
  unfold wpList
  rw [if_pos (by simp [Region.wanted, hg])]
  exact .inl (op_val h hk)
theorem eval_same {d : Nat} (h : d < a.tmps.size) : (a.put (some d) v).eval (.tmp d) = v := by
  simp [Act.put, Act.eval, h]
theorem eval_other {d t : Nat} (h : t ≠ d) : (a.put (some d) v).eval (.tmp t) = a.eval (.tmp t) := by
  simp [Act.put, Act.eval, Array.getElem?_setIfInBounds, Ne.symm h]
theorem put_size {d : Option Tmp} : (a.put d v).tmps.size = a.tmps.size := by cases d <;> simp [Act.put]
end
/-- Known less, otherwise the same; the variables from ρ0 on are new. -/
theorem Sat.less {P : Program} {F : Nat → Prop} {w0 : World} {Γ : Env} {st1 st : St} {a : Act} {w : World} (h : Sat P F w0 Γ st a w) {ρ0 : List C} (hρ : ∃ l, Γ.ρ = ρ0 ++ l) {n : Nat} (hn : ρ0.length = n) {ps : List Pl} {ks : List Lk} {vals : List Lf}
    (h1 : sameRest st1 st n ps = true) (h2 : backPs st1 st n ps = some vals) (h3 : kindsL vals = some ks) (h4 : Obs Γ.ρ (rngL st.bds vals)) (h5 : headWf st1 n ps = true) (h6 : st1.nt = st.nt) (h7 : st1.nb ≤ st.nb) (h8 : st1.nx = n + ks.length) (h9 : st1.bds = []) :
    CTy P ks (cs_ Γ.ρ vals) ∧ Sat P F w0 { Γ with ρ := ρ0 ++ cs_ Γ.ρ vals, nb := st1.nb } st1 a w := by
  subst hn
  refine h.rebase (st1 := st1) hρ h1 h2 h3 h4 h5 h6 h7 h8 ?_
  rw [h9]
  refine ⟨bds_nil _, fun i m => ?_⟩
  obtain ⟨l, e⟩ := hρ
  have := h.num.len
  rw [e] at this
  rcases Nat.lt_or_ge i ρ0.length with hi | hi
  · have h10 := this i m
    rw [at_ext hi] at h10
    exact h10
  · simp [at_, List.getD_eq_getElem?_getD, List.getElem?_eq_none hi, C.small_zero]
end Go.Proofs.Ytbgofenplhdllaa
/- Codes in parts, by the executor and by hand. -/
namespace Go.Proofs.Ytbgofenplhdllaa
open Go.RowKit
set_option linter.unusedSimpArgs false
set_option linter.unusedVariables false

/-- The way to a part of a code. -/
def nav : List Nat → Code → Code
  | [], c => c
  | n :: l, .seq a b => if n = 0 then nav l a else nav l b
  | n :: l, .cond _ a b => if n = 0 then nav l a else nav l b
  | _ :: l, .block _ c => nav l c
  | _ :: l, .loop c => nav l c
  | _, c => c
def bodyOf (f : Func) : Code := f.body.getD .skip
/-- The first parts, one behind another, and what follows. -/
def heads : Nat → Code → List Code
  | n + 1, .seq a b => a :: heads n b
  | _, _ => []
def pre : List Code → Code → Code
  | [], c => c
  | a :: l, c => .seq a (pre l c)
def execL (cx : Cx) : List Code → St → (Ex → St → Option Tree) → Option Tree
  | [], st, k => k .nrm st
  | a :: l, st, k => exec cx a st fun x st' => match x with
    | .nrm => execL cx l st' k
    | x => k x st'
theorem pre_sound_r {r : Option Nat} {cx : Cx} {R : List C → Prop} {F : Nat → Prop} {w0 : World} (hcx : CxOK cx) : ∀ (l : List Code) (st : St) (k : Ex → St → Option Tree) (T : Tree), execL cx l st k = some T →
    ∀ (Γ : Env) (Ls : List (List C → Prop)) (c : Code) (Q : Exit → Act → World → Prop), KOK cx R F w0 k Γ Ls (Exit.then (wpR r cx.P c Q) Q) → Ls.length = st.lvl → VC cx R T Γ.ρ Ls → ∀ a w, Sat cx.P F w0 Γ st a w → wpR r cx.P (pre l c) Q a w
  | [], st, k, T, h, Γ, Ls, c, Q, hk, hl, hv, a, w, hs => hk .nrm st T Γ Ls h (Ext.refl _) (List.prefix_refl _) hl hv a w hs
  | b :: l, st, k, T, h, Γ, Ls, c, Q, hk, hl, hv, a, w, hs => by
    refine wpIn_seq (exec_sound (R := R) (F := F) (w0 := w0) hcx b st _ T h Γ Ls _ ?_ hl hv a w hs)
    intro x st' T' Γ' Ls' hk' he hl' hlen hv' a' w' hs'
    cases x with
    | nrm => exact pre_sound_r hcx l st' k T' hk' Γ' Ls' c Q (hk.mono he hl') hlen hv' a' w' hs'
    | ret => exact hk .ret st' T' Γ' Ls' hk' he hl' hlen hv' a' w' hs'
    | ext i => exact hk (.ext i) st' T' Γ' Ls' hk' he hl' hlen hv' a' w' hs'
theorem join_KOK {cx : Cx} {R : List C → Prop} {F : Nat → Prop} {w0 : World} {st st1 : St} {ps : List Pl} {ks : List Lk} {k : Ex → St → Option Tree} (hok : joinOk st st1 ps ks = true)
    {Γ : Env} {Ls : List (List C → Prop)} (hl : Ls.length = st.lvl) {I : List C → Prop} {a : Act} {w : World} (hs : Sat cx.P F w0 Γ st a w) {Q : Exit → Act → World → Prop}
    (hn : ∀ xs Γx a' w', CTy cx.P ks xs → I xs → Γx.ρ = Γ.ρ ++ xs → Ext Γ Γx → Sat cx.P F w0 Γx st1 a' w' → Q .normal a' w')
    (hk : ∀ x st' T' Γ' Ls', x ≠ .nrm → k x st' = some T' → Ext Γ Γ' → Ls'.length = st'.lvl → VC cx R T' Γ'.ρ Ls' → ∀ a w, Sat cx.P F w0 Γ' st' a w → Q x.out a w) : KOK cx R F w0 (joinK st st1 ps ks k) Γ (Ls ++ [I]) Q := by
  obtain ⟨c2, c4, c5, c6, c7, c8⟩ := joinOk_spec hok
  have hlen : Γ.ρ.length = st.nx := hs.len
  have hnum1 : Num st1.bds Γ.ρ := by rw [c7]; exact hs.num
  intro e st' T' Γ' Ls' hk' he' hl' hlen' hv' a' w' hs'
  cases e with
  | ext i => exact hk (.ext i) st' T' Γ' Ls' (by intro h; cases h) hk' he' hlen' hv' a' w' hs'
  | ret => exact hk .ret st' T' Γ' Ls' (by intro h; cases h) hk' he' hlen' hv' a' w' hs'
  | nrm =>
    simp only [joinK, joinEnd] at hk'
    split at hk'
    · rename_i hc
      simp only [Bool.and_eq_true] at hc
      obtain ⟨⟨d1, d2⟩, d3⟩ := hc
      split at hk'
      · rename_i vals hvals
        split at hk'
        · rename_i hks'
          cases hk'
          obtain ⟨hob', hback⟩ := VC.obT hv'
          obtain ⟨l, hl2⟩ := he'.ρ
          obtain ⟨hty', hsat'⟩ := hs'.rebase (st1 := st1) (ρ0 := Γ.ρ) ⟨l, hl2⟩ (by rw [hlen]; exact d1) (by rw [hlen]; exact hvals) hks' hob' (by rw [hlen]; exact c2) (Nat.eq_of_beq_eq_true d3) (Nat.le_of_ble_eq_true d2) (by rw [hlen]; exact c4) hnum1
          have hget : Ls'[st.lvl]? = some I := by
            obtain ⟨m, rfl⟩ := hl'
            rw [List.append_assoc, List.getElem?_append_right (by omega), hl]
            simp
          simp only [VC, hget] at hback
          exact hn _ { Γ' with ρ := Γ.ρ ++ cs_ Γ'.ρ vals, nb := st1.nb } a' w' hty' hback rfl ⟨⟨_, rfl⟩, fun b hb => he'.blk b hb, by rw [hs.nb]; exact c5, he'.base, he'.up⟩ hsat'
        · cases hk'; exact hv'.elim
      · cases hk'; exact hv'.elim
    · cases hk'; exact hv'.elim
/-- A code's first parts by the executor, that end in a known state. -/
theorem pre_seg_r {r : Option Nat} {cx : Cx} {R : List C → Prop} {F : Nat → Prop} {w0 : World} (hcx : CxOK cx) {l : List Code} {c : Code} {st st1 : St} {ps : List Pl} {ks : List Lk} {k : Ex → St → Option Tree} {T : Tree} (hT : execL cx l { st with lvl := st.lvl + 1 } (joinK st st1 ps ks k) = some T) (hok : joinOk st st1 ps ks = true)
    {Γ : Env} {Ls : List (List C → Prop)} (hl : Ls.length = st.lvl) {I : List C → Prop} (hv : VC cx R T Γ.ρ (Ls ++ [I])) {a : Act} {w : World} (hs : Sat cx.P F w0 Γ st a w) {Q : Exit → Act → World → Prop}
    (hn : ∀ xs Γx a' w', CTy cx.P ks xs → I xs → Γx.ρ = Γ.ρ ++ xs → Ext Γ Γx → Sat cx.P F w0 Γx st1 a' w' → wpR r cx.P c Q a' w')
    (hk : ∀ x st' T' Γ' Ls', x ≠ .nrm → k x st' = some T' → Ext Γ Γ' → Ls'.length = st'.lvl → VC cx R T' Γ'.ρ Ls' → ∀ a w, Sat cx.P F w0 Γ' st' a w → Q x.out a w) : wpR r cx.P (pre l c) Q a w := by
  refine pre_sound_r (R := R) (F := F) (w0 := w0) hcx l _ _ T hT Γ (Ls ++ [I]) c Q (join_KOK hok hl hs (fun xs Γx a' w' h1 h2 h3 h4 h5 => hn xs Γx a' w' h1 h2 h3 h4 h5) fun x st' T' Γ' Ls' hx hk' he hlen hv' a' w' hs' => ?_) (by simp [hl]) hv a w (hs.relvl _)
  have := hk x st' T' Γ' Ls' hx hk' he hlen hv' a' w' hs'
  cases x with
  | nrm => exact absurd rfl hx
  | ret => exact this
  | ext i => exact this
theorem pre_seg {cx : Cx} {R : List C → Prop} {F : Nat → Prop} {w0 : World} (hcx : CxOK cx) {l : List Code} {c : Code} {st st1 : St} {ps : List Pl} {ks : List Lk} {k : Ex → St → Option Tree} {T : Tree} (hT : execL cx l { st with lvl := st.lvl + 1 } (joinK st st1 ps ks k) = some T) (hok : joinOk st st1 ps ks = true)
    {Γ : Env} {Ls : List (List C → Prop)} (hl : Ls.length = st.lvl) {I : List C → Prop} (hv : VC cx R T Γ.ρ (Ls ++ [I])) {a : Act} {w : World} (hs : Sat cx.P F w0 Γ st a w) {Q : Exit → Act → World → Prop}
    (hn : ∀ xs Γx a' w', CTy cx.P ks xs → I xs → Γx.ρ = Γ.ρ ++ xs → Ext Γ Γx → Sat cx.P F w0 Γx st1 a' w' → c.wp cx.P Q a' w')
    (hk : ∀ x st' T' Γ' Ls', x ≠ .nrm → k x st' = some T' → Ext Γ Γ' → Ls'.length = st'.lvl → VC cx R T' Γ'.ρ Ls' → ∀ a w, Sat cx.P F w0 Γ' st' a w → Q x.out a w) : (pre l c).wp cx.P Q a w :=
  wpR_none.1 (pre_seg_r hcx hT hok hl hv hs (fun xs Γx a' w' h1 h2 h3 h4 h5 => wpR_none.2 (hn xs Γx a' w' h1 h2 h3 h4 h5)) hk)
/-- A call, by hand. -/
theorem op_call {P : Program} {o : Oper} {a : Act} {w : World} {f : FuncId} {args : Array Value} {K : Act → World → Prop} {Q : Exit → Act → World → Prop} (h : (execOp a.eval o).run P w = .ok (.enter f args) w) (hk : Calls P f args w fun e w' => ∃ v, e = .returned v ∧ K (a.put o.dst v) w') : o.wp P a w K Q := by
  unfold Oper.wp
  rw [h]
  refine Calls.mono hk fun e w' he => ?_
  obtain ⟨v, rfl, h⟩ := he
  exact h
theorem list_call {P : Program} {ops : Array Oper} {Q : Exit → Act → World → Prop} {o : Oper} {rest : List Oper} {a : Act} {w : World} {f : FuncId} {args : Array Value} (hg : o.guard = none) (h : (execOp a.eval o).run P w = .ok (.enter f args) w) (hk : Calls P f args w fun e w' => ∃ v, e = .returned v ∧ wpList P ops Q rest (a.put o.dst v) w') : wpList P ops Q (o :: rest) a w := by
  unfold wpList
  rw [if_pos (by simp [Region.wanted, hg])]
  exact .inl (op_call h hk)
/-- What an iterator has not handed out yet. -/
def left : Prs → List Int → Nat
  | [], _ => 0
  | g :: G, seen => (if g.1 ∈ seen then 0 else 1) + left G seen
end Go.Proofs.Ytbgofenplhdllaa
/- A loop over a map, by hand. -/
namespace Go.Proofs.Ytbgofenplhdllaa
open Go.RowKit
set_option linter.unusedSimpArgs false
set_option linter.unusedVariables false

end Go.Proofs.Ytbgofenplhdllaa
/- A range over a function: what an iterator promises; the statement, by states of the engine. -/
namespace Go.Proofs.Ytbgofenplhdllaa
open Go.RowKit
set_option linter.unusedSimpArgs false
set_option linter.unusedVariables false

def C.val : C → Value
  | .i n => .int .i64 n
  | .b t => .bool t
  | .s v _ => v
/-- An iterator: what it has caught; what it hands out, one after another. -/
structure It where
  args : List Sh0
  els : List C → List (List C)
  val : List C → Array Value
  pre : List C → Prop
def elV (x : List C) : Array Value := (x.map C.val).toArray
def ItOK (P : Program) (f : FuncId) (it : It) : Prop :=
  ∀ (Base : Nat → Nat → Prop) (vs : List Value) (cs : List C) (l : Nat) (J : Nat → World → Prop) (Jx : World → Prop) (W : World), it.pre cs →
    (∀ k w, J k w → (∀ b o, Base b o → b < w.heap.size) ∧ Reps P w Base none it.args vs cs) →
    (∀ k w w', J k w → Below w.heap.size w w' → J k w') → (∀ w w', Jx w → Below w.heap.size w w' → Jx w') →
    (∀ k x w w', (it.els cs)[k]? = some x → J k w → Below w.heap.size w w' → YieldAt Fence.wide 0 P l (it.val x) w' fun e w'' => ((e = .returned (.bool true) ∧ J (k + 1) w'') ∧ Keeps (fun i => w.heap.size ≤ i ∧ i < w'.heap.size) w' w'') ∨ (e = .returned (.bool false) ∧ Jx w'')) →
    J 0 W → CallsIn Fence.wide 0 P f (#[.func (.yield l) #[] #[]] ++ vs.toArray) W fun e w' => (∃ v, e = .returned v) ∧ (J (it.els cs).length w' ∨ Jx w')

/-! Worlds -/
section
variable {P : Program} {F F' : Nat → Prop} {w0 w1 : World} {Γ : Env} {st : St} {a : Act} {w : World}
/-- The loop's record turns. -/
theorem Sat.record (h : Sat P F w0 Γ st a w) {l : Nat} {o : Obj} (hl : F l) (hb : ∀ x, Γ.base l x) : Sat P F (w.putObj l o) Γ st a (w.putObj l o) := by
  have hf : ∀ i, F i → i < w.heap.size := fun i hi => Nat.lt_of_lt_of_le (h.fold i hi) h.keeps.size
  exact h.hand (F' := F) (base' := Γ.base) (by simp) (fun i hi hn => World.putObj_heap_other fun e => hn (by subst e; exact ⟨hl, hb⟩)) (fun b o hb => .inl hb) (fun b o hb => by simp; exact h.base b o hb) fun i hi => ⟨by simp; exact hf i hi, .inl hi⟩
/-- Other things are watched over: a world that was like this one there. -/
theorem Sat.since (h : Sat P F w0 Γ st a w) (hk : Keeps F w1 w) (hf : ∀ i, F i → i < w1.heap.size) : Sat P F w1 Γ st a w := by
  have := h.back (F := F) (base' := Γ.base) (fun _ h => h) hk hf fun _ _ h => h
  exact this
/-- The state says of another frame what it says of this one. -/
theorem Sat.reAct {Γ1 Γx : Env} {F1 : Nat → Prop} {w2 w3 : World} {st1 : St} {a3 : Act} (h : Sat P F w0 Γ st a3 w) (hx : Sat P F1 w2 Γx st1 a w3) (hsl : st.sl = st1.sl) (hnt : st.nt = st1.nt) (e3 : Ext Γ1 Γ) (ex : Ext Γ1 Γx) (hwf : ∀ t sv, look st1.sl t = some sv → sv.wf Γ1.ρ.length Γ1.nb = true) : Sat P F w0 Γ st a w := by
  refine ⟨fun t sv ht => ⟨?_, (h.slots t sv ht).2⟩, hx.size.trans hnt.symm, h.mem, h.vec, h.clo, h.inj, h.keeps, h.fold, h.base, hx.defers.trans (by rw [ex.up, e3.up]), h.len, h.nb, h.num⟩
  rw [hsl] at ht
  have h1 := (hx.slots t sv ht).1
  rw [SV.den_ext e3 sv (hwf t sv ht), ← SV.den_ext ex sv (hwf t sv ht), ← h1]
  unfold slotV
  rw [e3.up, ex.up]
end
theorem Keeps.less {F : Nat → Prop} {l : Nat} {w w' : World} (h : Keeps F w w') : Keeps (fun i => F i ∧ i ≠ l) w w' := ⟨h.os, h.tape, h.output, h.size, fun i hi => h.block i hi.1⟩
/-- How a round's body is left. -/
def rangeQ (N : Act → World → Prop) (X : Act → World → Prop) : Exit → Act → World → Prop
  | .normal, a, w => N a w
  | .ret, a, w => X a w
  | _, _, _ => False
def mark (D : Nat) : Deferred := { target := .collected D, args := #[] }
/-- Since a frame was entered only a loop over a function has been done with: its mark. -/
structure MarkAt (F : Nat → Prop) (w0 : World) (Γ : Env) (F1 : Nat → Prop) (w1 : World) (Γ1 : Env) (D : Nat) : Prop where
  sub : ∀ i, F i → F1 i
  fd : F1 D
  bd : ∀ x, Γ1.base D x
  base : ∀ b o, Γ.base b o → Γ1.base b o
  heap : w1.heap[D]? = some (.deferred (some []))
  keeps : Keeps F w0 w1
  new : w0.heap.size ≤ D
  up : Γ1.up = ⟨Γ.up.sl, [mark D]⟩
  ρ : ∃ l, Γ1.ρ = Γ.ρ ++ l
  blk : ∀ b, b < Γ.nb → Γ1.blk b = Γ.blk b
  nb : Γ.nb ≤ Γ1.nb
theorem MarkAt.weaken {F F' : Nat → Prop} {w0 w0' : World} {Γ Γ' : Env} {F1 : Nat → Prop} {w1 : World} {Γ1 : Env} {D : Nat} (h : MarkAt F' w0' Γ' F1 w1 Γ1 D) (hF : ∀ i, F i → F' i) (hk : Keeps F w0 w0') (hb : ∀ b o, Γ.base b o → Γ'.base b o)
    (hu : Γ'.up.sl = Γ.up.sl) (hρ : ∃ l, Γ'.ρ = Γ.ρ ++ l) (hblk : ∀ b, b < Γ.nb → Γ'.blk b = Γ.blk b) (hnb : Γ.nb ≤ Γ'.nb) : MarkAt F w0 Γ F1 w1 Γ1 D := by
  obtain ⟨l, e⟩ := hρ
  obtain ⟨m, f⟩ := h.ρ
  exact ⟨fun i hi => h.sub i (hF i hi), h.fd, h.bd, fun b o hx => h.base b o (hb b o hx), h.heap, hk.trans ⟨h.keeps.os, h.keeps.tape, h.keeps.output, h.keeps.size, fun i hi => h.keeps.block i (hF i hi)⟩, Nat.le_trans hk.size h.new, by rw [h.up, hu], ⟨l ++ m, by rw [f, e, List.append_assoc]⟩, fun b hb => (h.blk b (by omega)).trans (hblk b hb), Nat.le_trans hnb h.nb⟩
theorem Sat.act {P : Program} {F : Nat → Prop} {w0 : World} {Γ : Env} {st : St} {a : Act} {w : World} (h : Sat P F w0 Γ st a w) {u : Up} (hu : u.sl = Γ.up.sl) {a' : Act} (ht : a'.tmps = a.tmps) (hd : a'.defers = u.ds) : Sat P F w0 { Γ with up := u } st a' w := by
  have := h.frame (u := u) (sl := st.sl) (nt := st.nt) (a' := a') (by rw [ht]; exact h.size) hd fun t sv hs => ⟨by
    rw [← (h.slots t sv hs).1]
    unfold slotV
    rw [ht, hu], (h.slots t sv hs).2⟩
  exact this
/-- The frame is left: the mark's block is shut. -/
theorem MarkAt.shut {P : Program} {F : Nat → Prop} {w0 : World} {Γ : Env} {F1 : Nat → Prop} {w1 : World} {Γ1 Γ' : Env} {D : Nat} (h : MarkAt F w0 Γ F1 w1 Γ1 D) (he : Ext Γ1 Γ') (hF : ∀ i, F i → i < w0.heap.size) (hds : Γ.up.ds = []) {st : St} {a : Act} {w : World} (hs : Sat P F1 w1 Γ' st a w) :
    a.defers = [mark D] ∧ w.heap[D]? = some (.deferred (some [])) ∧ Ext Γ { Γ' with base := Γ.base, up := Γ.up } ∧ Sat P F w0 { Γ' with base := Γ.base, up := Γ.up } st { a with defers := [] } (w.putObj D (.deferred none)) := by
  have hD : w.heap[D]? = some (.deferred (some [])) := (hs.keeps.block D h.fd).trans h.heap
  have s1 := hs.record (l := D) (o := .deferred none) h.fd fun x => by rw [he.base]; exact h.bd x
  have hk : Keeps F w0 (w.putObj D (.deferred none)) := by
    refine h.keeps.trans ⟨hs.keeps.os, hs.keeps.tape, hs.keeps.output, by have := hs.keeps.size; simp; exact this, fun i hi => ?_⟩
    have hne : i ≠ D := by
      have h1 := hF i hi
      have h2 := h.new
      omega
    exact (World.putObj_heap_other hne).trans (hs.keeps.block i (h.sub i hi))
  have s2 := s1.back (F := F) (w0 := w0) (base' := Γ.base) h.sub hk hF fun b o hb => by rw [he.base]; exact h.base b o hb
  have s3 := s2.act (u := Γ.up) (a' := { a with defers := [] }) (by show Γ.up.sl = Γ'.up.sl; rw [he.up, h.up]) rfl hds.symm
  obtain ⟨l, e⟩ := h.ρ
  obtain ⟨m, f⟩ := he.ρ
  refine ⟨by rw [hs.defers, he.up, h.up], hD, ⟨⟨l ++ m, by show Γ'.ρ = _; rw [f, e, List.append_assoc]⟩, fun b hb => (he.blk b (Nat.lt_of_lt_of_le hb h.nb)).trans (h.blk b hb), Nat.le_trans h.nb he.nb, rfl, rfl⟩, s3⟩
theorem range_law {P : Program} {F : Nat → Prop} {w0 : World} {Γ : Env} {st : St} {a : Act} {w : World} (hs : Sat P F w0 Γ st a w) {gf : FuncId} {it : It} (hit : ItOK P gf it) (hcl : Callable P gf) {g : Operand} {ps : Array Tmp} {assign body : Code} {vs : List Value} {cs : List C}
    (hg : a.eval g = .func (.func gf) #[] vs.toArray) (hpre : it.pre cs) (hps : ∀ x ∈ it.els cs, (it.val x).size = ps.size) {st1 : St} (E : (Nat → Nat → Prop) → Nat → Env → Prop) (E2 : (Nat → Nat → Prop) → Nat → Env → St → Prop) (EX : (Nat → Nat → Prop) → Env → St → Prop)
    (hE : ∀ B k Γx, E B k Γx → Ext { Γ with base := B } Γx) (hwf : ∀ t sv, look st1.sl t = some sv → sv.wf Γ.ρ.length Γ.nb = true)
    (hE2 : ∀ B k Γx st2, E2 B k Γx st2 → Ext { Γ with base := B } Γx) (hX : ∀ B Γx st3, EX B Γx st3 → Ext { Γ with base := B } Γx) (hXs : ∀ B Γx st3, EX B Γx st3 → st3.sl = st1.sl ∧ st3.nt = st1.nt) (hds : Γ.up.ds = [])
    (hrep : ∀ B k Γx F' w1 W, E B k Γx → Sat P F' w1 Γx st1 a W → (∀ i, F i → F' i) → (∀ b o, Γ.base b o → B b o) → Keeps F w W → Reps P W B none it.args vs cs)
    (h0 : ∀ B F' w1, Sat P F' w1 { Γ with base := B } st a w1 → ∃ Γx, E B 0 Γx ∧ Sat P F' w1 Γx st1 a w1)
    (hassign : ∀ l B k x Γx F' w1 W, (it.els cs)[k]? = some x → E B k Γx → Sat P F' w1 Γx st1 a W →
      wpR (some l) P assign (Exit.then (fun a2 w2 => ∃ Γ2 st2, E2 B k Γ2 st2 ∧ Sat P F' w1 Γ2 st2 a2 w2) (fun _ _ _ => False)) { tmps := (ps.zip (it.val x)).foldl (fun t (p, v) => t.setIfInBounds p v) a.tmps, defers := [] } W)
    (hbody : ∀ l B k x Γ2 st2 F' w1 a2 w2, (it.els cs)[k]? = some x → E2 B k Γ2 st2 → Sat P F' w1 Γ2 st2 a2 w2 →
      wpR (some l) P body (rangeQ (fun a3 w3 => ∃ Γ3, E B (k + 1) Γ3 ∧ Sat P F' w1 Γ3 st1 a3 w3) (fun a3 w3 => ∃ Γ3 st3, EX B Γ3 st3 ∧ Sat P F' w1 Γ3 st3 a3 w3)) a2 w2)
    {Q : Exit → Act → World → Prop}
    (hdone : ∀ B F1 w1 D Γx W, E B (it.els cs).length Γx → MarkAt F w0 Γ F1 w1 { Γx with up := ⟨Γ.up.sl, [mark D]⟩ } D → Sat P F1 w1 { Γx with up := ⟨Γ.up.sl, [mark D]⟩ } st1 { a with defers := [mark D] } W → Q .normal { a with defers := [mark D] } W)
    (hret : ∀ B F1 w1 D Γ3 st3 W, EX B Γ3 st3 → MarkAt F w0 Γ F1 w1 { Γ3 with up := ⟨Γ.up.sl, [mark D]⟩ } D → Sat P F1 w1 { Γ3 with up := ⟨Γ.up.sl, [mark D]⟩ } st3 { a with defers := [mark D] } W → Q .ret { a with defers := [mark D] } W) :
    wpR none P (.rangeFunc g ps assign body) Q a w := by
  refine wpIn_rangeFunc ?_
  intro fn _
  obtain ⟨rec, hrec⟩ : ∃ rec : LoopState → Option Code → Loop, rec = fun s pe => { state := s, pending := pe, fn, tmps := a.tmps, params := ps, assign, body, defers := w.heap.size } := ⟨_, rfl⟩
  obtain ⟨W1, hW1⟩ : ∃ W1, (w.alloc (.deferred (some []))).alloc (.loop (rec .ready none)) = W1 := ⟨_, rfl⟩
  have hL1 : W1.heap[w.heap.size + 1]? = some (.loop (rec .ready none)) := by
    rw [← hW1]; have := World.alloc_heap_new (w.alloc (.deferred (some []))) (.loop (rec .ready none)); rwa [World.size_alloc] at this
  have hK1 : W1.heap[w.heap.size]? = some (.deferred (some [])) := by
    rw [← hW1]; exact (Below.heap_alloc _ _ _ (by simp)).trans (World.alloc_heap_new w _)
  have hsz1 : W1.heap.size = w.heap.size + 2 := by rw [← hW1]; simp
  have hbel1 : Below w.heap.size w W1 := by rw [← hW1]; exact ((Below.refl _ w).alloc (Nat.le_refl _) _).alloc (by simp) _
  obtain ⟨l, hl⟩ : ∃ l, l = w.heap.size + 1 := ⟨_, rfl⟩
  obtain ⟨D, hD⟩ : ∃ D, D = w.heap.size := ⟨_, rfl⟩
  obtain ⟨F1, hF1⟩ : ∃ F1 : Nat → Prop, F1 = fun i => F i ∨ i = D ∨ i = l := ⟨_, rfl⟩
  obtain ⟨B, hB⟩ : ∃ B : Nat → Nat → Prop, B = fun b o => Γ.base b o ∨ b = D ∨ b = l := ⟨_, rfl⟩
  have hFl : F1 l := by rw [hF1]; exact .inr (.inr rfl)
  have hBl : ∀ x, B l x := fun x => by rw [hB]; exact .inr (.inr rfl)
  have hFs : ∀ i, F i → i < w.heap.size := fun i hi => Nat.lt_of_lt_of_le (hs.fold i hi) hs.keeps.size
  have hF1s : ∀ i, F1 i → i < W1.heap.size := fun i hi => by
    rw [hF1] at hi; rw [hsz1]
    rcases hi with hi | hi | hi
    · have := hFs i hi; omega
    · omega
    · omega
  have hs1 : Sat P F1 W1 { Γ with base := B } st a W1 := by
    refine hs.hand (F' := F1) (base' := B) hbel1.size (fun i hi _ => hbel1.block i hi) (fun b o hb => ?_) (fun b o hb => ?_) fun i hi => ⟨hF1s i hi, ?_⟩
    · rw [hB] at hb; rcases hb with hb | hb | hb
      · exact .inl hb
      · exact .inr (by omega)
      · exact .inr (by omega)
    · rw [hB] at hb; rw [hsz1]; rcases hb with hb | hb | hb
      · have := hs.base b o hb; omega
      · omega
      · omega
    · rw [hF1] at hi; rcases hi with hi | hi | hi
      · exact .inl hi
      · exact .inr (.inl (by omega))
      · exact .inr (.inl (by omega))
  have hEb : ∀ k Γx, E B k Γx → ∀ x, Γx.base l x := fun k Γx h x => by rw [(hE B k Γx h).base]; exact hBl x
  have hXb : ∀ Γx st3, EX B Γx st3 → ∀ x, Γx.base l x := fun Γx st3 h x => by rw [(hX B Γx st3 h).base]; exact hBl x
  -- what stands between two rounds
  obtain ⟨J, hJ⟩ : ∃ J : Nat → World → Prop, J = fun k W => ∃ Γx, E B k Γx ∧ Sat P F1 W1 Γx st1 a W := ⟨_, rfl⟩
  obtain ⟨Jx, hJx⟩ : ∃ Jx : World → Prop, Jx = fun W => (∃ Γ3 st3, EX B Γ3 st3 ∧ Sat P F1 W Γ3 st3 a W) ∧ Keeps (fun i => F1 i ∧ i ≠ l) W1 W ∧ W.heap[l]? = some (.loop (rec .done (some .ret))) := ⟨_, rfl⟩
  have hkl : ∀ {W : World}, Keeps F1 W1 W → W.heap[l]? = some (.loop (rec .ready none)) := fun h => by rw [h.block l hFl, hl]; exact hL1
  have hmid : ∀ {W2 W3 : World} {o : Obj}, Keeps F1 W1 W2 → Keeps F1 (W2.putObj l o) W3 → Keeps (fun i => F1 i ∧ i ≠ l) W1 W3 := fun {W2 W3 o} h2 h3 =>
    ⟨h3.os.trans h2.os, h3.tape.trans h2.tape, h3.output.trans h2.output, by have := h3.size; have := h2.size; simp at *; omega, fun i hi => (h3.block i hi.1).trans ((World.putObj_heap_other hi.2).trans (h2.block i hi.1))⟩
  have hput : ∀ {W3 : World} {o : Obj}, Keeps (fun i => F1 i ∧ i ≠ l) W1 W3 → Keeps (fun i => F1 i ∧ i ≠ l) W1 (W3.putObj l o) := fun h =>
    ⟨h.os, h.tape, h.output, by have := h.size; simp; exact this, fun i hi => (World.putObj_heap_other hi.2).trans (h.block i hi)⟩
  refine ⟨w.heap.size + 1, [mark w.heap.size], W1, { target := .fn (.func gf) vs.toArray, args := #[.func (.yield (w.heap.size + 1)) #[] #[]] }, W1, gf,
    #[.func (.yield (w.heap.size + 1)) #[] #[]] ++ vs.toArray, W1, ?_, ?_, (fun f' _ => trivial), ?_, (fun h => by cases h), ?_⟩
  · rw [← hW1, hrec]; exact run_enterLoop_outer _ _ _ _ _
  · simp only [resolve, hg]
    simp [go_sem]
  · simp [invoke, go_sem, run_callFunc' hcl]
  rw [← hl, ← hD]
  obtain ⟨Γ0, hE0, hS0⟩ := h0 B F1 W1 hs1
  refine CallsIn.mono (hit B vs cs l J Jx W1 hpre (fun k W hj => ?_) (fun k W W' hj hb => ?_) (fun W W' hj hb => ?_) (fun k x W W' hx hj hbw => ?_) ?_) ?_
  · rw [hJ] at hj
    obtain ⟨Γx, hEx, hSx⟩ := hj
    refine ⟨fun b o hb => hSx.base b o (by rw [(hE B k Γx hEx).base]; exact hb), hrep B k Γx F1 W1 W hEx hSx (fun i hi => by rw [hF1]; exact .inl hi) (fun b o hb => by rw [hB]; exact .inl hb) ?_⟩
    exact (Keeps.of_below hbel1 hFs).trans ⟨hSx.keeps.os, hSx.keeps.tape, hSx.keeps.output, hSx.keeps.size, fun i hi => hSx.keeps.block i (by rw [hF1]; exact .inl hi)⟩
  · rw [hJ] at hj ⊢
    obtain ⟨Γx, hEx, hSx⟩ := hj
    exact ⟨Γx, hEx, hSx.below hb⟩
  · rw [hJx] at hj ⊢
    obtain ⟨⟨Γ3, st3, h1, h2⟩, h3, h4⟩ := hj
    have hlt : l < W.heap.size := (Array.getElem?_eq_some_iff.1 h4).1
    refine ⟨⟨Γ3, st3, h1, (h2.below hb).since (Keeps.refl _ _) fun i hi => Nat.lt_of_lt_of_le (h2.fold i hi) hb.size⟩, ⟨hb.os.trans h3.os, hb.tape.trans h3.tape, hb.output.trans h3.output, Nat.le_trans h3.size hb.size, fun i hi => (hb.block i (h2.fold i hi.1)).trans (h3.block i hi)⟩, (hb.block l hlt).trans h4⟩
  · -- one round
    rw [hJ] at hj
    obtain ⟨Γx, hEx, hSx⟩ := hj
    have hlk0 := hkl hSx.keeps
    have hlt : l < W.heap.size := (Array.getElem?_eq_some_iff.1 hlk0).1
    have hlk : W'.heap[l]? = some (.loop (rec .ready none)) := (hbw.block l hlt).trans hlk0
    obtain ⟨F2, hF2⟩ : ∃ F2 : Nat → Prop, F2 = fun i => F1 i ∨ (W.heap.size ≤ i ∧ i < W'.heap.size) := ⟨_, rfl⟩
    have hF12 : ∀ i, F1 i → F2 i := fun i hi => by rw [hF2]; exact .inl hi
    have hFW : ∀ i, F1 i → i < W.heap.size := fun i hi => Nat.lt_of_lt_of_le (hF1s i hi) hSx.keeps.size
    have hKb : Keeps F1 W1 W' := hSx.keeps.trans (Keeps.of_below hbw hFW)
    have hSx2 : Sat P F2 W' { Γx with base := Γx.base } st1 a W' := hSx.hand (F' := F2) (base' := Γx.base) hbw.size (fun i hi _ => hbw.block i hi) (fun b o hb => .inl hb) (fun b o hb => by have := hSx.base b o hb; have := hbw.size; omega) fun i hi => by
      rw [hF2] at hi
      rcases hi with hi | ⟨h1, h2⟩
      · exact ⟨Nat.lt_of_lt_of_le (hFW i hi) hbw.size, .inl hi⟩
      · exact ⟨h2, .inr (.inl h1)⟩
    have hS00 : Sat P F2 W' Γx st1 a W' := hSx2
    have hy := run_yield (P := P) (args := it.val x) hlk (by rw [hrec]; exact hps x (List.mem_of_getElem? hx))
    rw [hrec] at hy
    refine ⟨fn, _, assign, body, hy, roundIn_of_wpIn trivial ?_⟩
    refine wpIn_mono (hassign l B k x Γx F2 W' W' hx hEx hS00) ?_
    intro e a2 W2 hq
    cases e with
    | normal =>
      obtain ⟨Γ2, st2, hE2', hS2⟩ := hq
      have hK2 : Keeps F1 W1 W2 := hKb.trans (hS2.keeps.part hF12)
      have hG2 : Keeps (fun i => W.heap.size ≤ i ∧ i < W'.heap.size) W' W2 := hS2.keeps.part fun i hi => by rw [hF2]; exact .inr hi
      have hl2 := hkl hK2
      refine ⟨_, run_beginRound hl2 (by rw [hrec]), ?_⟩
      have hS2' := hS2.record (o := .loop { rec .ready none with state := .busy }) (hF12 l hFl) fun x => by rw [(hE2 B k Γ2 st2 hE2').base]; exact hBl x
      refine wpIn_mono (hbody l B k x Γ2 st2 F2 _ a2 _ hx hE2' hS2') ?_
      have fin : ∀ {Γ3 : Env} {st3 : St} {a3 : Act} {W3 : World} (jump : Option Code), Sat P F2 (W2.putObj l (.loop { rec .ready none with state := .busy })) Γ3 st3 a3 W3 → (∀ x, Γ3.base l x) →
          (Instr.endRound l jump).run P W3 = .ok (.bool jump.isNone) (W3.putObj l (.loop (rec (if jump.isNone then .ready else .done) jump))) ∧
          (W3.putObj l (.loop (rec (if jump.isNone then .ready else .done) jump))).heap[l]? = some (.loop (rec (if jump.isNone then .ready else .done) jump)) ∧
          Keeps (fun i => F1 i ∧ i ≠ l) W1 (W3.putObj l (.loop (rec (if jump.isNone then .ready else .done) jump))) ∧
          Sat P F2 (W3.putObj l (.loop (rec (if jump.isNone then .ready else .done) jump))) Γ3 st3 a3 (W3.putObj l (.loop (rec (if jump.isNone then .ready else .done) jump))) ∧
          Keeps (fun i => W.heap.size ≤ i ∧ i < W'.heap.size) W' (W3.putObj l (.loop (rec (if jump.isNone then .ready else .done) jump))) := fun {Γ3 st3 a3 W3} jump h3 hb => by
        have hl3 : W3.heap[l]? = some (.loop { rec .ready none with state := .busy }) := (h3.keeps.block l (hF12 l hFl)).trans (World.putObj_heap_same (Array.getElem?_eq_some_iff.1 hl2).1)
        have := run_endRound (P := P) jump hl3
        have hk3 := h3.keeps
        refine ⟨?_, World.putObj_heap_same (Array.getElem?_eq_some_iff.1 hl3).1, hput (hmid hK2 (hk3.part hF12)), h3.record (hF12 l hFl) hb, ?_⟩
        · rw [hrec] at this ⊢; exact this
        · refine ⟨hk3.os.trans hG2.os, hk3.tape.trans hG2.tape, hk3.output.trans hG2.output, by have := hk3.size; have := hG2.size; simp at *; omega, fun i hi => ?_⟩
          have hil : i ≠ l := by have := hi.1; omega
          rw [World.putObj_heap_other hil]
          refine (hk3.block i (by rw [hF2]; exact .inr hi)).trans ?_
          rw [World.putObj_heap_other hil]
          exact hG2.block i hi
      rintro e a3 W3 hq
      cases e with
      | normal =>
        obtain ⟨Γ3, hE3, hS3⟩ := hq
        obtain ⟨r1, r2, r3, r4, r5⟩ := fin none hS3 (hEb _ _ hE3)
        refine ⟨_, _, r1, .inl ⟨⟨rfl, ?_⟩, r5⟩⟩
        rw [hJ]
        have hb4 := r4.back (F := F1) (w0 := W1) (base' := Γ3.base) hF12 ⟨r3.os, r3.tape, r3.output, r3.size, fun i hi => by
          by_cases e : i = l
          · subst e; rw [r2, hl]; exact hL1.symm
          · exact r3.block i ⟨hi, e⟩⟩ hF1s fun _ _ h => h
        exact ⟨Γ3, hE3, hb4.reAct hSx rfl rfl (hE _ _ _ hE3) (hE _ _ _ hEx) hwf⟩
      | ret =>
        obtain ⟨Γ3, st3, hX3, hS3⟩ := hq
        obtain ⟨r1, r2, r3, r4, r5⟩ := fin (some .ret) hS3 (hXb _ _ hX3)
        refine ⟨_, _, r1, .inr ⟨rfl, ?_⟩⟩
        rw [hJx]
        have hb4 := r4.back (F := F1) (w0 := W3.putObj l (.loop (rec (if (some Code.ret).isNone then .ready else .done) (some .ret)))) (base' := Γ3.base) hF12 (Keeps.refl _ _) (fun i hi => r4.fold i (hF12 i hi)) fun _ _ h => h
        exact ⟨⟨Γ3, st3, hX3, hb4.reAct hSx (hXs _ _ _ hX3).1 (hXs _ _ _ hX3).2 (hX _ _ _ hX3) (hE _ _ _ hEx) hwf⟩, r3, r2⟩
      | exit id => exact hq.elim
      | goto t => exact hq.elim
      | panic c => exact hq.elim
      | outgrown => exact hq.elim
    | exit id => exact hq.elim
    | goto t => exact hq.elim
    | ret => exact hq.elim
    | panic c => exact hq.elim
    | outgrown => exact hq.elim
  · rw [hJ]; exact ⟨Γ0, hE0, hS0⟩
  · have hFD : F1 D := by rw [hF1]; exact .inr (.inl rfl)
    have hDl : D ≠ l := by omega
    have last : ∀ {Γ3 : Env} {st3 : St} {W4 : World}, Ext { Γ with base := B } Γ3 → Keeps (fun i => F1 i ∧ i ≠ l) W1 W4 → Sat P F1 W4 Γ3 st3 a W4 → MarkAt F w0 Γ F1 W4 { Γ3 with up := ⟨Γ.up.sl, [mark D]⟩ } D ∧ Sat P F1 W4 { Γ3 with up := ⟨Γ.up.sl, [mark D]⟩ } st3 { a with defers := [mark D] } W4 := fun {Γ3 st3 W4} he hk hS => by
      have hkw : Keeps F w0 W4 := hs.keeps.trans ((Keeps.of_below hbel1 hFs).trans ⟨hk.os, hk.tape, hk.output, hk.size, fun i hi => hk.block i ⟨by rw [hF1]; exact .inl hi, by have := hFs i hi; omega⟩⟩)
      exact ⟨⟨fun i hi => by rw [hF1]; exact .inl hi, hFD, fun x => by show Γ3.base D x; rw [he.base, hB]; exact .inr (.inl rfl), fun b o hb => by show Γ3.base b o; rw [he.base, hB]; exact .inl hb, (hk.block D ⟨hFD, hDl⟩).trans (by rw [hD]; exact hK1), hkw, by have := hs.keeps.size; omega, rfl, he.ρ, he.blk, he.nb⟩, hS.act (by rw [he.up]) rfl rfl⟩
    rintro e W2 ⟨⟨v, rfl⟩, hj | hj⟩
    · rw [hJ] at hj
      obtain ⟨Γx, hEx, hSx⟩ := hj
      have hlk := hkl hSx.keeps
      refine ⟨none, _, by have := run_endLoop (P := P) hlk (by rw [hrec]; simp); rw [hrec] at this; exact this, ?_⟩
      have hS := hSx.record (o := .loop { rec .ready none with state := .exhausted }) hFl (hEb _ _ hEx)
      have hk := hput (o := .loop { rec .ready none with state := .exhausted }) (Keeps.less hSx.keeps)
      obtain ⟨m1, m2⟩ := last (hE _ _ _ hEx) hk hS
      have := hdone B F1 _ D Γx _ hEx m1 m2
      rw [hrec] at this
      show Q .normal { a with defers := [mark D] ++ a.defers } _
      rw [hs.defers, hds]; exact this
    · rw [hJx] at hj
      obtain ⟨⟨Γ3, st3, hX3, hS3⟩, hk3, hlk⟩ := hj
      refine ⟨some .ret, _, by have := run_endLoop (P := P) hlk (by rw [hrec]; simp); rw [hrec] at this; exact this, ?_⟩
      have hS := hS3.record (o := .loop { rec .done (some .ret) with state := .exhausted }) hFl (hXb _ _ hX3)
      have hk := hput (o := .loop { rec .done (some .ret) with state := .exhausted }) hk3
      obtain ⟨m1, m2⟩ := last (hX _ _ _ hX3) hk hS
      have := hret B F1 _ D Γ3 st3 _ hX3 m1 m2
      rw [hrec] at this
      refine wpIn_ret ?_
      show Q .ret { a with defers := [mark D] ++ a.defers } _
      rw [hs.defers, hds]; exact this
end Go.Proofs.Ytbgofenplhdllaa
/- A range over a function: contracts of the functions that hold one; a round's body by the executor. -/
namespace Go.Proofs.Ytbgofenplhdllaa
open Go.RowKit
set_option linter.unusedSimpArgs false
set_option linter.unusedVariables false

def endQ (cx : Cx) (fn : Func) (ct : Ct) : Ex → St → Option Tree := fun x st => match x with
  | .ext _ => none
  | _ => endOf cx fn ct st
theorem ct_ok_marks {cx : Cx} (hcx : CxOK cx) {f : FuncId} {fn : Func} (hf : cx.P.funcs[f]? = some fn) {ct : Ct} {bds : Bds} {c : Code} (hbody : fn.body = some c) (hle' : ct.args.length ≤ fn.ntmps ∧ ct.args.length ≤ 1000 ∧ boxOk ct = true)
    (hvc : ∀ cs, CTy cx.P (kindsOf ct.args) cs → ct.pre cs → bds.ok cs ∧ ∀ (F : Nat → Prop) (w0 : World) (Γ : Env) (a : Act) (w : World) (Q : Exit → Act → World → Prop), Γ.ρ = cs → Γ.up.ds = [] → Sat cx.P F w0 Γ (startOf fn ct bds cx.wr) a w →
      KOK cx (ct.post cs) F w0 (endQ cx fn ct) Γ [] Q → (∀ F1 w1 Γ1 D, MarkAt F w0 Γ F1 w1 Γ1 D → KOK cx (ct.post cs) F1 w1 (endQ cx fn ct) Γ1 [] Q) → c.wp cx.P Q a w) : CtOK cx.P f ct := by
  intro Base w vs cs hBase hreps hpre
  obtain ⟨hb, hmain⟩ := hvc cs hreps.ty hpre
  obtain ⟨Γ, hρ, hds, hs, fin⟩ := ct_start hcx hf (fn := fn) hle' hBase hreps hb
  refine callsIn_wide.1 (callsIn_of_wp_marks (F := Fence.wide) (n := 0) hf hbody trivial (wpIn_wide.2 (hmain _ _ Γ _ w _ hρ hds hs ?_ ?_)) rfl)
  · intro x st' T' Γ' Ls' hk he hl hlen hv' a' w' hs'
    have one : endOf cx fn ct st' = some T' → _ := fun hend => fin st' T' Γ' Ls' a' w' he hv' hs' hend
    cases x with
    | nrm => obtain ⟨h1, h2⟩ := one hk; show LeavesInM _ _ _ _ _ _ a'.defers .returning w'; rw [h1]; exact h2
    | ret => obtain ⟨h1, h2⟩ := one hk; show LeavesInM _ _ _ _ _ _ a'.defers .returning w'; rw [h1]; exact h2
    | ext i => cases hk
  · intro F1 w1 Γ1 D hm x st' T' Γ' Ls' hk he hl hlen hv' a' w' hs'
    obtain ⟨h1, h2, h3, h4⟩ := hm.shut he hs.fold hds hs'
    have one : endOf cx fn ct st' = some T' → _ := fun hend => (fin st' T' _ Ls' _ _ h3 hv' h4 hend).2
    cases x with
    | nrm => have h6 := one hk; show LeavesInM _ _ _ _ _ _ a'.defers .returning w'; rw [h1]; exact ⟨by simp, .inl ⟨D, _, rfl, run_takeDeferred h2, h6⟩⟩
    | ret => have h6 := one hk; show LeavesInM _ _ _ _ _ _ a'.defers .returning w'; rw [h1]; exact ⟨by simp, .inl ⟨D, _, rfl, run_takeDeferred h2, h6⟩⟩
    | ext i => cases hk

/-! A round's body -/
def rangeBody : Code → Code
  | .rangeFunc _ _ _ c => c
  | c => c

def backT (st1 : St) (n : Nat) (ps : List Pl) (ks : List Lk) (L : Nat) (st' : St) : Option Tree :=
  if sameRest st1 st' n ps && Nat.ble st1.nb st'.nb && Nat.beq st1.nt st'.nt then match backPs st1 st' n ps with
    | some vals => if kindsL vals = some ks then some (obT (rngL st'.bds vals) (.back L vals)) else some (.fail 62004 [])
    | none => some (.fail 62005 [])
  else some (.fail 62003 (diffs st1 st' n ps))
def headR (st1 : St) (n : Nat) (ps : List Pl) (ks : List Lk) : Bool := headWf st1 n ps && Nat.beq st1.nx (n + ks.length) && decide (st1.bds = [])
theorem back_sound {cx : Cx} {R : List C → Prop} {F : Nat → Prop} {w0 : World} {st1 : St} {n : Nat} {ps : List Pl} {ks : List Lk} (hok : headR st1 n ps ks = true) {L : Nat} {st' : St} {T' : Tree} (h : backT st1 n ps ks L st' = some T') {Γ0 Γ' : Env} {Ls' : List (List C → Prop)} (hn : Γ0.ρ.length = n) (hnb : Γ0.nb ≤ st1.nb) (he : Ext Γ0 Γ')
    (hv : VC cx R T' Γ'.ρ Ls') {I : List C → Prop} (hI : Ls'[L]? = some I) {a : Act} {w : World} (hs : Sat cx.P F w0 Γ' st' a w) :
    ∃ xs Γ3, CTy cx.P ks xs ∧ I xs ∧ Γ3.ρ = Γ0.ρ ++ xs ∧ Ext Γ0 Γ3 ∧ Sat cx.P F w0 Γ3 st1 a w := by
  simp only [headR, Bool.and_eq_true, decide_eq_true_eq] at hok
  obtain ⟨⟨c1, c2⟩, c3⟩ := hok
  have c2 := Nat.eq_of_beq_eq_true c2
  unfold backT at h
  split at h
  rotate_left
  · cases h; exact hv.elim
  rename_i hc
  simp only [Bool.and_eq_true] at hc
  obtain ⟨⟨d1, d2⟩, d3⟩ := hc
  split at h
  rotate_left
  · cases h; exact hv.elim
  rename_i vals hvals
  split at h
  rotate_left
  · cases h; exact hv.elim
  rename_i hks
  cases h
  obtain ⟨hob, hback⟩ := VC.obT hv
  subst hn
  obtain ⟨hty, hsat⟩ := hs.less (st1 := st1) he.ρ rfl d1 hvals hks hob c1 (Nat.eq_of_beq_eq_true d3) (Nat.le_of_ble_eq_true d2) c2 c3
  simp only [VC, hI] at hback
  exact ⟨_, { Γ' with ρ := Γ0.ρ ++ cs_ Γ'.ρ vals, nb := st1.nb }, hty, hback, rfl, ⟨⟨_, rfl⟩, fun b hb => he.blk b hb, hnb, he.base, he.up⟩, hsat⟩
/-- What follows a round's body: the next round's state; the state of a return. -/
def rK (S1 : St) (n : Nat) (ps1 : List Pl) (ks1 : List Lk) (S3 : St) (ps3 : List Pl) (ks3 : List Lk) : Ex → St → Option Tree
  | .nrm, st' => backT S1 n ps1 ks1 0 st'
  | .ret, st' => backT S3 n ps3 ks3 1 st'
  | .ext _, _ => none
theorem round_sound {r : Option Nat} {cx : Cx} {R : List C → Prop} {F : Nat → Prop} {w0 : World} (hcx : CxOK cx) {c : Code} {st S1 S3 : St} {n : Nat} {ps1 ps3 : List Pl} {ks1 ks3 : List Lk} {T : Tree} (hT : exec cx c { st with lvl := 2 } (rK S1 n ps1 ks1 S3 ps3 ks3) = some T)
    (hok1 : headR S1 n ps1 ks1 = true) (hok3 : headR S3 n ps3 ks3 = true) {Γ0 Γ : Env} (hn : Γ0.ρ.length = n) (hnb1 : Γ0.nb ≤ S1.nb) (hnb3 : Γ0.nb ≤ S3.nb) (he : Ext Γ0 Γ) {I1 I3 : List C → Prop} (hv : VC cx R T Γ.ρ [I1, I3]) {a : Act} {w : World} (hs : Sat cx.P F w0 Γ st a w) :
    wpR r cx.P c (rangeQ (fun a3 w3 => ∃ xs Γ3, CTy cx.P ks1 xs ∧ I1 xs ∧ Γ3.ρ = Γ0.ρ ++ xs ∧ Ext Γ0 Γ3 ∧ Sat cx.P F w0 Γ3 S1 a3 w3)
      (fun a3 w3 => ∃ xs Γ3, CTy cx.P ks3 xs ∧ I3 xs ∧ Γ3.ρ = Γ0.ρ ++ xs ∧ Ext Γ0 Γ3 ∧ Sat cx.P F w0 Γ3 S3 a3 w3)) a w := by
  refine exec_sound (R := R) hcx c _ _ T hT Γ [I1, I3] _ ?_ rfl hv a w (hs.relvl _)
  intro x st' T' Γ' Ls' hk he' hl' hlen' hv' a' w' hs'
  obtain ⟨m, rfl⟩ := hl'
  cases x with
  | nrm => exact back_sound hok1 hk hn hnb1 (he.trans he') hv' (by simp) hs'
  | ret => exact back_sound hok3 hk hn hnb3 (he.trans he') hv' (by simp) hs'
  | ext i => cases hk
theorem eval_cst (a : Act) (v : Value) : a.eval (.const v) = v := rfl
theorem eval_fn (a : Act) (f : FuncId) : a.eval (.func f) = .func (.func f) #[] #[] := rfl
/-- A variable of the loop gets its value. -/
theorem assign_one {r : Option Nat} {P : Program} {o : Oper} {id d s : Nat} {Q : Exit → Act → World → Prop} {a : Act} {w : World} (h1 : o.op = .assign (.tmp s)) (h2 : o.dst = some d) (h3 : o.guard = none) (h : Q .normal (a.put (some d) (a.eval (.tmp s))) w) : wpR r P (.region id #[o] false) Q a w := by
  refine region_list (by simp [Oper.noDefer, h1]) ?_
  refine list_val h3 (v := a.eval (.tmp s)) (w' := w) (by simp [execOp, h1]) ?_
  rw [h2]
  exact ⟨rfl, h⟩
end Go.Proofs.Ytbgofenplhdllaa
/- House: what each function of the program computes: blow-outs. -/
namespace Go.Proofs.Ytbgofenplhdllaa
set_option linter.unusedVariables false

/-! Blow-outs -/
structure Blow where
  lost : List Bool
  moves : List (List Int)
def bools (rows : List (List C)) : List Bool := rows.map fun r => (r.getD 0 (.i 0)).bool
def ints (rows : List (List C)) : List Int := rows.map fun r => (r.getD 0 (.i 0)).int
def intss (rows : List (List C)) : List (List Int) := rows.map fun r => ints (r.getD 0 (.i 0)).rows
def blowOf (cs : List C) : Blow := ⟨bools (at_ cs 0).rows, intss (at_ cs 1).rows⟩
def ofBools (l : List Bool) : List (List C) := l.map fun t => [.b t]
def ofInts (l : List Int) : List (List C) := l.map fun t => [.i t]
def outI (n : Nat) (k : Int) : Bool := decide (k < 0) || decide ((n : Int) ≤ k)
def badL (n : Nat) (l : List Int) : Int := if l.length = 0 then 6 else if 4 < l.length then 8 else if l.any (outI n) then 2 else 0
def badM (n : Nat) : List (List Int) → Int
  | [] => 0
  | l :: ls => if badL n l = 0 then badM n ls else badL n l
def checkV (b : Blow) : Int := if b.lost.length = 0 then 6 else if 64 < b.lost.length then 8 else if b.moves.length ≠ b.lost.length then 3 else badM b.lost.length b.moves
/-- Some move leads to a state that is safe. -/
def leads (now : List Bool) (l : List Int) : Bool := l.any fun k => now.getD k.toNat false
def nextS (b : Blow) (now : List Bool) : List Bool := (List.range b.lost.length).map fun i => leads now (b.moves.getD i []) && !b.lost.getD i false
def iterS (b : Blow) : Nat → List Bool
  | 0 => b.lost.map (!·)
  | n + 1 => nextS b (iterS b n)
def safeV (b : Blow) : List Bool := if checkV b = 0 then iterS b (b.lost.length + 1) else []
/-- The last place of a run that is safe. -/
def lastV (safe : List Bool) : List Int → Nat → Int × Bool → Int × Bool
  | [], _, r => r
  | k :: l, i, r => lastV safe l (i + 1) (if safe.getD k.toNat false then ((i : Int), true) else r)
def chanceV (b : Blow) (run : List Int) : Int × Bool :=
  if (safeV b).length = 0 ∨ 400 < run.length ∨ run.any (outI (safeV b).length) = true then (0, false) else lastV (safeV b) run 0 (0, false)

def blowSh : Sh0 := .agg [.arr 4, .arr 35]
def intsSh : Sh0 := .lf (.arr 3)
def ctCheckB : Ct := ctF [blowSh] [.lf .int] (fun _ => True) (fun cs => [.i (checkV (blowOf cs))])
def ctMin : Ct := ⟨[intsSh], [.lf .int], fun cs => (at_ cs 0).rows ≠ [], fun cs rs => ∃ m, rs = [.i m] ∧ m ∈ ints (at_ cs 0).rows ∧ ∀ k ∈ ints (at_ cs 0).rows, m ≤ k, true⟩
def ctMax : Ct := ⟨[intsSh], [.lf .int], fun cs => (at_ cs 0).rows ≠ [], fun cs rs => ∃ m, rs = [.i m] ∧ m ∈ ints (at_ cs 0).rows ∧ ∀ k ∈ ints (at_ cs 0).rows, k ≤ m, true⟩
def ctSafe : Ct := ⟨[blowSh], [.lf (.vec 4)], fun _ => True, fun cs rs => ∃ v, rs = [.s v (ofBools (safeV (blowOf cs)))], false⟩
def ctChance : Ct := ctF [blowSh, intsSh] [.lf .int, .lf .bool] (fun _ => True) (fun cs => [.i (chanceV (blowOf cs) (ints (at_ cs 2).rows)).1, .b (chanceV (blowOf cs) (ints (at_ cs 2).rows)).2])

/-! Phases -/
def phaseKs : List Lk := [.int, .int, .int, .int, .int, .int, .int, .int, .int, .int, .int, .int, .int, .int, .arr 2, .arr 133, .arr 135, .int, .int, .arr 137, .arr 137, .arr 139, .int, .int, .int, .int, .int, .arr 89, .int, .arr 141, .int, .int, .int, .int, .int, .int, .int, .arr 2, .arr 2]
def phaseSh : Sh0 := .agg phaseKs
def n_ (cs : List C) (i : Nat) : Int := (at_ cs i).int
def inV (n a b : Int) : Bool := decide (a ≤ n) && decide (n ≤ b)
def fluidsV (cs : List C) : Bool := inV (n_ cs 3) 1 1048576 && inV (n_ cs 4) 0 (n_ cs 3) && inV (n_ cs 5) 0 40000 && inV (n_ cs 6) 0 40000 && inV (n_ cs 7) 0 68719476736
def staticV (cs : List C) (z : Int) : Int := if fluidsV cs = true ∧ 0 ≤ z ∧ z ≤ n_ cs 3 then n_ cs 7 + n_ cs 5 * min z (n_ cs 4) + n_ cs 6 * max 0 (z - n_ cs 4) else 0
def ctWithin : Ct := ctF [.lf .int, .lf .int, .lf .int] [.lf .bool] (fun _ => True) (fun cs => [.b (inV (n_ cs 0) (n_ cs 1) (n_ cs 2))])
def withinI : Inl := fun bd l => match l with
  | [.lf (.int n), .lf (.int a), .lf (.int b)] => some (rngL bd (cellsOf [] l), .lf (.bool (.and (B.mkCmp bd .le a n) (B.mkCmp bd .le n b))))
  | _ => none
def ctFluids : Ct := ctF [phaseSh] [.lf .bool] (fun _ => True) (fun cs => [.b (fluidsV cs)])
def ctStatic : Ct := ctF [phaseSh, .lf .int] [.lf .int] (fun _ => True) (fun cs => [.i (staticV cs (n_ cs 39))])
def shownB : Blow := ⟨[false, false, true], [[1, 2], [2], [2]]⟩
def turnedB : Blow := ⟨[false, false, true], [[1, 2], [0], [2]]⟩
def ctBlow (b : Blow) : Ct := ⟨[], [.agg [.vec 4, .vec 35]], fun _ => True, fun _ rs => blowOf rs = b, false⟩
def ctSeas : Ct := ⟨[], [.agg (phaseKs.map fun k => match k with | .arr t => .vec t | k => k)], fun _ => True, fun _ rs => n_ rs 3 = 3000 ∧ n_ rs 4 = 1000 ∧ n_ rs 5 = 9810 ∧ n_ rs 6 = 12000 ∧ n_ rs 7 = 5 ∧ n_ rs 8 = 4000 ∧ n_ rs 9 = 300 ∧ n_ rs 10 = 50 ∧ n_ rs 11 = 100 ∧ n_ rs 12 = 10 ∧ n_ rs 13 = 1, false⟩
def ctAwake : Ct := ctF [] [.lf .bool] (fun _ => True) (fun _ => [.b true])
def ctMod : Ct := ctF [.lf .int, .lf .int] [.lf .int] (fun cs => 1 ≤ n_ cs 1) (fun cs => [.i (n_ cs 0 % n_ cs 1)])
def tab : Tab where
  ct := fun f => match f with
    | 16 | 17 => some ctCheckB
    | 36 => some ctMin
    | 37 => some ctMax
    | 14 | 15 => some ctSafe
    | 18 | 19 => some ctChance
    | 54 | 55 => some ctFluids
    | 27 | 28 => some ctStatic
    | 30 => some (ctBlow shownB)
    | 31 => some (ctBlow turnedB)
    | 32 => some ctSeas
    | 12 => some ctAwake
    | 13 => some ctMod
    | _ => none
  inl := fun f => match f with
    | 47 | 63 => some withinI
    | _ => none
end Go.Proofs.Ytbgofenplhdllaa
/- What is to be shown of each function, as the executor has it. Printed by trees.py. -/
namespace Go.Proofs.Ytbgofenplhdllaa
noncomputable def cwithin : Cx := tab.only [] (fun _ => []) [] 0 [] (fun _ => none)
def twithin : Tree :=
  (.split (.cmp .le (.var 1) (.var 0)) (.ret [(.bool (.cmp .le (.var 0) (.var 2)))]) (.ret [(.bool (.lit false))]))
noncomputable def cmin : Cx := tab.only [] (fun _ => []) [] 0 [] (fun _ => none)
def tmin : Tree :=
  (.split (.cmp .lt (.len (.var 0)) (.lit 1)) (.fail 8 [0]) (.ob (.cmp .lt (.lit 0) (.len (.var 0))) (.loop [.int, .int] [(.int (.cell (.var 0) (.lit 0) 0)), (.int (.lit 1))] (.split (.cmp .lt (.var 2) (.len (.var 0))) (.ob (.cmp .le (.lit 0) (.var 2)) (.ob (.cmp .lt (.var 2) (.len (.var 0))) (.back 0 [(.int (.min (.var 1) (.cell (.var 0) (.var 2) 0))), (.int (.add (.var 2) (.lit 1)))]))) (.ret [(.int (.var 1))])))))
noncomputable def cmax : Cx := tab.only [] (fun _ => []) [] 0 [] (fun _ => none)
def tmax : Tree :=
  (.split (.cmp .lt (.len (.var 0)) (.lit 1)) (.fail 8 [0]) (.ob (.cmp .lt (.lit 0) (.len (.var 0))) (.loop [.int, .int] [(.int (.cell (.var 0) (.lit 0) 0)), (.int (.lit 1))] (.split (.cmp .lt (.var 2) (.len (.var 0))) (.ob (.cmp .le (.lit 0) (.var 2)) (.ob (.cmp .lt (.var 2) (.len (.var 0))) (.back 0 [(.int (.max (.var 1) (.cell (.var 0) (.var 2) 0))), (.int (.add (.var 2) (.lit 1)))]))) (.ret [(.int (.var 1))])))))
noncomputable def ccheck : Cx := tab.only [36, 37] (fun _ => []) [] 0 [] (fun _ => none)
def tcheck : Tree :=
  (.split (.cmp .eq (.len (.var 0)) (.lit 0)) (.ret [(.int (.lit 6))]) (.split (.cmp .lt (.lit 64) (.len (.var 0))) (.ret [(.int (.lit 8))]) (.split (.cmp .ne (.len (.var 1)) (.len (.var 0))) (.ret [(.int (.lit 3))]) (.loop [.int, .int] [(.int (.lit 0)), (.int (.lit 0))] (.split (.cmp .lt (.var 3) (.len (.var 1))) (.ob (.cmp .le (.lit 0) (.var 3)) (.ob (.cmp .lt (.var 3) (.len (.var 1))) (.split (.cmp .eq (.len (.cell (.var 1) (.var 3) 0)) (.lit 0)) (.ret [(.int (.lit 6))]) (.split (.cmp .lt (.lit 4) (.len (.cell (.var 1) (.var 3) 0))) (.ret [(.int (.lit 8))]) (.call 36 [(.arr 3 (.cell (.var 1) (.var 3) 0))] (.split (.cmp .lt (.var 4) (.lit 0)) (.ret [(.int (.lit 2))]) (.call 37 [(.arr 3 (.cell (.var 1) (.var 3) 0))] (.split (.cmp .le (.len (.var 0)) (.var 5)) (.ret [(.int (.lit 2))]) (.back 0 [(.int (.var 2)), (.int (.add (.var 3) (.lit 1)))]))))))))) (.ret [(.int (.lit 0))]))))))
noncomputable def flsafe : List (Nat × Func) := [(35, Try.f35), (40, Try.f40), (34, Try.f34)]
theorem fxsafe : ∀ p ∈ flsafe, FnOK p := fns_cons ⟨Try.func35, ⟨_, Try.func35, by decide, rfl⟩⟩ (fns_cons ⟨Try.func40, ⟨_, Try.func40, by decide, rfl⟩⟩ (fns_cons ⟨Try.func34, ⟨_, Try.func34, by decide, rfl⟩⟩ (fns_nil)))
noncomputable def csafe : Cx := tab.only [16] (fun r => match r with
  | 5 => [.vec 4]
  | 10 => [.vec 4]
  | _ => []) flsafe 3 [] (fun _ => none)
def tsafe : Tree :=
  (.dfn .nil (.call 16 [(.arr 4 (.var 0)), (.arr 35 (.var 1))] (.split (.cmp .ne (.var 3) (.lit 0)) (.dfn .nil (.ret [(.cnt 4 (.var 4))])) (.ob (.cmp .le (.mul (.lit 1) (.len (.var 0))) (.lit 281474976710656)) (.mk (.len (.var 0)) [(.bool (.lit false))] (.dfn .nil (.loop [.int, (.vec 4)] [(.int (.lit 0)), (.cnt 4 (.var 4))] (.split (.cmp .lt (.var 6) (.len (.var 0))) (.ob (.cmp .le (.lit 0) (.var 6)) (.ob (.cmp .lt (.var 6) (.len (.var 0))) (.ob (.cmp .lt (.var 6) (.len (.var 7))) (.upd (.var 7) (.var 6) 0 [(.bool (.not (.of (.cell (.var 0) (.var 6) 0))))] (.back 0 [(.int (.add (.var 6) (.lit 1))), (.cnt 4 (.var 8))]))))) (.arr [] (.loop [(.vec 4), (.vec 4)] [(.cnt 4 (.var 2)), (.cnt 4 (.var 7))] (.loop [.int] [(.int (.lit 0))] (.split (.cmp .lt (.var 11) (.len (.var 1))) (.ob (.cmp .le (.lit 0) (.var 11)) (.ob (.cmp .lt (.var 11) (.len (.var 1))) (.ob (.cmp .lt (.var 11) (.len (.var 10))) (.split (.of (.cell (.var 10) (.var 11) 0)) (.loop [.int, .int] [(.int (.lit 0)), (.int (.lit 0))] (.split (.cmp .lt (.var 13) (.len (.cell (.var 1) (.var 11) 0))) (.ob (.cmp .le (.lit 0) (.var 13)) (.ob (.cmp .lt (.var 13) (.len (.cell (.var 1) (.var 11) 0))) (.ob (.cmp .le (.lit 0) (.cell (.cell (.var 1) (.var 11) 0) (.var 13) 0)) (.ob (.cmp .lt (.cell (.cell (.var 1) (.var 11) 0) (.var 13) 0) (.len (.var 10))) (.split (.of (.cell (.var 10) (.cell (.cell (.var 1) (.var 11) 0) (.var 13) 0) 0)) (.back 2 [(.int (.add (.var 11) (.lit 1)))]) (.back 3 [(.int (.var 12)), (.int (.add (.var 13) (.lit 1)))])))))) (.ob (.cmp .lt (.var 11) (.len (.var 10))) (.upd (.var 10) (.var 11) 0 [(.bool (.lit false))] (.back 1 [(.cnt 4 (.var 9)), (.cnt 4 (.var 14))]))))) (.back 2 [(.int (.add (.var 11) (.lit 1)))]))))) (.ret [(.cnt 4 (.join (.var 4) (.var 10)))])))))))))))))
noncomputable def flstatic : List (Nat × Func) := [(54, Try.f54)]
theorem fxstatic : ∀ p ∈ flstatic, FnOK p := fns_cons ⟨Try.func54, ⟨_, Try.func54, by decide, rfl⟩⟩ (fns_nil)
noncomputable def cstatic : Cx := tab.only [47] (fun _ => []) flstatic 1 [] (fun _ => none)
def tstatic : Tree :=
  (.dfn .nil (.dfn .nil (.dfn .nil (.dfn .nil (.dfn .nil (.dfn .nil (.dfn .nil (.dfn .nil (.dfn .nil (.dfn .nil (.split (.and (.cmp .le (.lit 1) (.var 3)) (.cmp .le (.var 3) (.lit 1048576))) (.split (.and (.cmp .le (.lit 0) (.var 4)) (.cmp .le (.var 4) (.var 3))) (.split (.and (.cmp .le (.lit 0) (.var 5)) (.cmp .le (.var 5) (.lit 40000))) (.split (.and (.cmp .le (.lit 0) (.var 6)) (.cmp .le (.var 6) (.lit 40000))) (.split (.not (.and (.cmp .le (.lit 0) (.var 7)) (.cmp .le (.var 7) (.lit 68719476736)))) (.ret [(.int (.lit 0))]) (.split (.not (.and (.cmp .le (.lit 0) (.var 39)) (.cmp .le (.var 39) (.var 3)))) (.ret [(.int (.lit 0))]) (.ret [(.int (.add (.add (.var 7) (.mul (.var 5) (.min (.var 39) (.var 4)))) (.mul (.var 6) (.max (.lit 0) (.sub (.var 39) (.var 4))))))]))) (.ret [(.int (.lit 0))])) (.ret [(.int (.lit 0))])) (.ret [(.int (.lit 0))])) (.ret [(.int (.lit 0))]))))))))))))
noncomputable def cshown : Cx := tab.only [] (fun _ => []) [] 0 [] (fun _ => none)
def tshown : Tree :=
  (.dfn .nil (.dfn .nil (.arr [[(.bool (.lit false))], [(.bool (.lit false))], [(.bool (.lit true))]] (.arr [[(.int (.lit 1))], [(.int (.lit 2))]] (.arr [[(.int (.lit 2))]] (.arr [[(.int (.lit 2))]] (.dfn (.var 3) (.dfn (.var 4) (.dfn (.var 5) (.arr [[(.arr 3 (.var 6))], [(.arr 3 (.var 7))], [(.arr 3 (.var 8))]] (.ret [(.cnt 4 (.var 2)), (.cnt 35 (.var 9))])))))))))))
noncomputable def cturned : Cx := tab.only [] (fun _ => []) [] 0 [] (fun _ => none)
def tturned : Tree :=
  (.dfn .nil (.dfn .nil (.arr [[(.bool (.lit false))], [(.bool (.lit false))], [(.bool (.lit true))]] (.arr [[(.int (.lit 1))], [(.int (.lit 2))]] (.arr [[(.int (.lit 0))]] (.arr [[(.int (.lit 2))]] (.dfn (.var 3) (.dfn (.var 4) (.dfn (.var 5) (.arr [[(.arr 3 (.var 6))], [(.arr 3 (.var 7))], [(.arr 3 (.var 8))]] (.ret [(.cnt 4 (.var 2)), (.cnt 35 (.var 9))])))))))))))
noncomputable def cseas : Cx := tab.only [] (fun _ => []) [] 0 [] (fun _ => none)
def tseas : Tree :=
  (.dfn .nil (.dfn .nil (.dfn .nil (.dfn .nil (.dfn .nil (.dfn .nil (.dfn .nil (.dfn .nil (.dfn .nil (.dfn .nil (.dfn .nil (.dfn .nil (.dfn .nil (.dfn .nil (.dfn .nil (.dfn .nil (.dfn .nil (.dfn .nil (.dfn .nil (.dfn .nil (.ret [(.int (.lit 0)), (.int (.lit 0)), (.int (.lit 0)), (.int (.lit 3000)), (.int (.lit 1000)), (.int (.lit 9810)), (.int (.lit 12000)), (.int (.lit 5)), (.int (.lit 4000)), (.int (.lit 300)), (.int (.lit 50)), (.int (.lit 100)), (.int (.lit 10)), (.int (.lit 1)), (.cnt 2 (.var 10)), (.cnt 133 (.var 11)), (.cnt 135 (.var 12)), (.int (.lit 0)), (.int (.lit 0)), (.cnt 137 (.var 13)), (.cnt 137 (.var 14)), (.cnt 139 (.var 15)), (.int (.lit 0)), (.int (.lit 0)), (.int (.lit 0)), (.int (.lit 0)), (.int (.lit 0)), (.cnt 89 (.var 16)), (.int (.lit 0)), (.cnt 141 (.var 17)), (.int (.lit 0)), (.int (.lit 0)), (.int (.lit 0)), (.int (.lit 0)), (.int (.lit 0)), (.int (.lit 0)), (.int (.lit 0)), (.cnt 2 (.var 18)), (.cnt 2 (.var 19))])))))))))))))))))))))
noncomputable def cawake : Cx := tab.only [31, 30, 32, 18, 27, 16] (fun _ => []) [] 0 [] (fun _ => none)
def tawake : Tree :=
  (.call 31 [] (.arr [[(.int (.lit 1))], [(.int (.lit 0))], [(.int (.lit 2))], [(.int (.lit 2))]] (.call 18 [(.arr 4 (.var 0)), (.arr 35 (.var 1)), (.arr 3 (.var 2))] (.split (.cmp .eq (.var 3) (.lit 1)) (.split (.of (.var 4)) (.call 32 [] (.call 27 [(.int (.var 5)), (.int (.var 6)), (.int (.var 7)), (.int (.var 8)), (.int (.var 9)), (.int (.var 10)), (.int (.var 11)), (.int (.var 12)), (.int (.var 13)), (.int (.var 14)), (.int (.var 15)), (.int (.var 16)), (.int (.var 17)), (.int (.var 18)), (.arr 2 (.var 19)), (.arr 133 (.var 20)), (.arr 135 (.var 21)), (.int (.var 22)), (.int (.var 23)), (.arr 137 (.var 24)), (.arr 137 (.var 25)), (.arr 139 (.var 26)), (.int (.var 27)), (.int (.var 28)), (.int (.var 29)), (.int (.var 30)), (.int (.var 31)), (.arr 89 (.var 32)), (.int (.var 33)), (.arr 141 (.var 34)), (.int (.var 35)), (.int (.var 36)), (.int (.var 37)), (.int (.var 38)), (.int (.var 39)), (.int (.var 40)), (.int (.var 41)), (.arr 2 (.var 42)), (.arr 2 (.var 43)), (.int (.lit 2000))] (.split (.cmp .eq (.var 44) (.lit 21810005)) (.call 30 [] (.call 16 [(.arr 4 (.var 45)), (.arr 35 (.var 46))] (.ret [(.bool (.cmp .eq (.var 47) (.lit 0)))]))) (.ret [(.bool (.lit false))])))) (.ret [(.bool (.lit false))])) (.ret [(.bool (.lit false))])))))
def tmod : Tree :=
  (.ob (.cmp .ne (.var 1) (.lit 0)) (.split (.cmp .lt (.rem (.var 0) (.var 1)) (.lit 0)) (.ob (.and (.cmp .le (.lit (-9223372036854775808)) (.add (.rem (.var 0) (.var 1)) (.var 1))) (.cmp .le (.add (.rem (.var 0) (.var 1)) (.var 1)) (.lit 9223372036854775807))) (.ob (.and (.cmp .le (.lit (-9223372036854775808)) (.add (.rem (.var 0) (.var 1)) (.var 1))) (.cmp .le (.add (.rem (.var 0) (.var 1)) (.var 1)) (.lit 9223372036854775807))) (.ret [(.int (.add (.rem (.var 0) (.var 1)) (.var 1)))]))) (.ob (.and (.cmp .le (.lit (-9223372036854775808)) (.rem (.var 0) (.var 1))) (.cmp .le (.rem (.var 0) (.var 1)) (.lit 9223372036854775807))) (.ret [(.int (.rem (.var 0) (.var 1)))]))))
end Go.Proofs.Ytbgofenplhdllaa
/- House: blow-outs, what is valid; the least and the greatest of a list. -/
namespace Go.Proofs.Ytbgofenplhdllaa
open Go.RowKit
set_option linter.unusedSimpArgs false
set_option linter.unusedVariables false

theorem bools_len (rows : List (List C)) : (bools rows).length = rows.length := by simp [bools]
theorem ints_len (rows : List (List C)) : (ints rows).length = rows.length := by simp [ints]
theorem intss_len (rows : List (List C)) : (intss rows).length = rows.length := by simp [intss]
theorem bool_at (v : Value) (rows : List (List C)) (i : Nat) : ((C.s v rows).at i 0).bool = (bools rows).getD i false := by
  simp only [cell_at, bools, List.getD_eq_getElem?_getD, List.getElem?_map]
  cases rows[i]? <;> rfl
theorem int_at (c : C) (i : Nat) : (c.at i 0).int = (ints c.rows).getD i 0 := by
  simp only [C.at, ints, List.getD_eq_getElem?_getD, List.getElem?_map]
  cases c.rows[i]? <;> rfl
theorem ints_at (v : Value) (rows : List (List C)) (i : Nat) : ints ((C.s v rows).at i 0).rows = (intss rows).getD i [] := by
  simp only [cell_at, intss, List.getD_eq_getElem?_getD, List.getElem?_map]
  cases rows[i]? <;> rfl
theorem rows_at_len (v : Value) (rows : List (List C)) (i : Nat) : ((C.s v rows).at i 0).rows.length = ((intss rows).getD i []).length := by rw [← ints_at, ints_len]
theorem cb_not (ρ : List C) (a : B) : C.b ((B.not a).den ρ) = C.b (!a.den ρ) := rfl
theorem bools_of (l : List Bool) : bools (ofBools l) = l := by simp [bools, ofBools, Function.comp_def, C.bool]
theorem ints_of' (l : List Int) : ints (ofInts l) = l := by simp [ints, ofInts, Function.comp_def, C.int]
theorem ofBools_len (l : List Bool) : (ofBools l).length = l.length := by simp [ofBools]
theorem ofInts_len (l : List Int) : (ofInts l).length = l.length := by simp [ofInts]
theorem take_snoc {α : Type} {l : List α} {i : Nat} (h : i < l.length) (d : α) : l.take (i + 1) = l.take i ++ [l.getD i d] := by
  rw [List.take_succ_eq_append_getElem h, List.getD_eq_getElem?_getD, List.getElem?_eq_getElem h]; rfl
theorem drop_cons {α : Type} {l : List α} {i : Nat} (h : i < l.length) (d : α) : l.drop i = l.getD i d :: l.drop (i + 1) := by
  rw [List.drop_eq_getElem_cons h, List.getD_eq_getElem?_getD, List.getElem?_eq_getElem h]; rfl
theorem getD_mem {α : Type} {l : List α} {i : Nat} (h : i < l.length) (d : α) : l.getD i d ∈ l := by
  rw [List.getD_eq_getElem?_getD, List.getElem?_eq_getElem h]; exact List.getElem_mem _

theorem within_ok : tab.ok 47 := by
  refine Tab.of_inl rfl rfl ⟨_, Try.func47, by decide, rfl⟩ ?_
  refine Inl.of_ct (args := [.lf .int, .lf .int, .lf .int]) (r := .lf .bool) (pre := fun _ => True) (fn := fun cs => [.b (inV (n_ cs 0) (n_ cs 1) (n_ cs 2))]) (ct_ok (cx := cwithin) (Tab.cx_ok all_nil) Try.func47 (bds := []) (T := twithin) (by kernel_rfl) ?_) ?_
  · unfold twithin
    simp only [VC, allC, List.map_cons, List.map_nil, List.length_cons, List.length_nil, List.getElem?_cons_zero, List.getElem?_cons_succ, List.cons.injEq, C.i.injEq, C.b.injEq, and_true, true_and, forall_const, kindsOf_nil, kindsOf_lf, kindsOf_agg, kindsOf_box, boxKinds_nil, boxKinds_lf, boxKinds_agg, boxKinds_box, List.append_nil, List.cons_append, List.nil_append, den_cmp_le, den_cmp_lt, den_cmp_eq, den_cmp_ne, den_cmp_le', den_cmp_lt', den_cmp_eq', den_cmp_ne', den_and, den_and', den_or, den_or', den_not, den_not', den_blit, den_of, ev_var, at_0, at_1, at_2, at_3, at_4, at_5, at_6, at_7, at_skip, c_int, c_bool, c_arr, c_cnt, c_vec, ev_nil, ev_join, ev_sub3, loc_s, int_i, bool_b, rows_s, cs_nil, cs_cons, E.den_lit, E.den_var, E.den_add, E.den_sub, E.den_mul, E.den_quo, E.den_rem, E.den_max, E.den_min, E.den_len, E.den_wr, E.den_cell, ctWithin, ctF, n_, inV]
    intro n _ _ a _ _ b _ _
    refine ⟨bds_nil _, ?_⟩
    simp only [B.den, Cmp.den, E.den_var, at_0, at_1, at_2, int_i]
    show (a ≤ n → decide (n ≤ b) = (decide (a ≤ n) && decide (n ≤ b))) ∧ (n < a → false = (decide (a ≤ n) && decide (n ≤ b)))
    exact ⟨fun h => by rw [decide_eq_true h, Bool.true_and], fun h => by rw [decide_eq_false (p := a ≤ n) (by omega), Bool.false_and]⟩
  · intro bd ρ l obs s hg hn ho
    unfold withinI at hg
    split at hg
    · rename_i n a b
      cases hg
      refine ⟨rfl, rfl, ho, trivial, rfl, rfl, ?_⟩
      simp [cs_, cellsOf, S0.cells, S0.cellsM, Lf.c, B.den, B.den_mkCmp hn, Cmp.den, inV, n_, at_0, at_1, at_2, int_i]
    · cases hg
theorem min_ok : tab.ok 36 := by
  refine Tab.of_ct rfl rfl ⟨_, Try.func36, by decide, rfl⟩ ?_ ?_
  · refine ct_ok (cx := cmin) (Tab.cx_ok all_nil) Try.func36 (bds := []) (T := tmin) (by kernel_rfl) ?_
    unfold tmin
    simp only [VC, allC, List.map_cons, List.map_nil, List.length_cons, List.length_nil, List.getElem?_cons_zero, List.getElem?_cons_succ, List.cons.injEq, C.i.injEq, C.b.injEq, and_true, true_and, forall_const, kindsOf_nil, kindsOf_lf, kindsOf_agg, kindsOf_box, boxKinds_nil, boxKinds_lf, boxKinds_agg, boxKinds_box, List.append_nil, List.cons_append, List.nil_append, den_cmp_le, den_cmp_lt, den_cmp_eq, den_cmp_ne, den_cmp_le', den_cmp_lt', den_cmp_eq', den_cmp_ne', den_and, den_and', den_or, den_or', den_not, den_not', den_blit, den_of, ev_var, at_0, at_1, at_2, at_3, at_4, at_5, at_6, at_7, at_skip, c_int, c_bool, c_arr, c_cnt, c_vec, ev_nil, ev_join, ev_sub3, loc_s, int_i, bool_b, rows_s, cs_nil, cs_cons, E.den_lit, E.den_var, E.den_add, E.den_sub, E.den_mul, E.den_quo, E.den_rem, E.den_max, E.den_min, E.den_len, E.den_wr, E.den_cell, ev_cell, int_at, ctMin, intsSh]
    intro v rows d _ hsm hne
    have hl := ints_len rows
    have h0 : 0 < rows.length := List.length_pos_iff.2 hne
    refine ⟨bds_nil _, fun h => by omega, fun _ => ⟨by omega, ?_⟩⟩
    have m0 := getD_mem (l := ints rows) (i := 0) (by omega) 0
    generalize ints rows = l at *
    refine ⟨fun xs => match xs with | [.i m, .i i] => 1 ≤ i ∧ i ≤ rows.length ∧ m ∈ l ∧ (∀ k ∈ l.take i.toNat, m ≤ k) | _ => False, fun xs => match xs with | [.i m, .i i] => ((rows.length : Int) - i).toNat | _ => 0, ⟨by omega, by omega, m0, fun k hk => ?_⟩, ?_⟩
    · rw [show (1 : Int).toNat = 0 + 1 from rfl, take_snoc (by omega) 0] at hk
      simp at hk; simp; omega
    · rintro m _ _ i _ _ ⟨i0, i1, hm, hk⟩
      refine ⟨fun h => ⟨by omega, h, ⟨by omega, by omega, ?_, fun k hk' => ?_⟩, (show ((rows.length : Int) - (i + 1)).toNat < ((rows.length : Int) - i).toNat by omega)⟩, fun h => ⟨m, rfl, hm, fun k hk' => hk k ?_⟩⟩
      · have := getD_mem (l := l) (i := i.toNat) (by omega) 0
        rcases Int.le_total m (l.getD i.toNat 0) with h' | h'
        · rw [Int.min_eq_left h']; exact hm
        · rw [Int.min_eq_right h']; exact this
      · rw [show (i + 1).toNat = i.toNat + 1 by omega, take_snoc (by omega) 0] at hk'
        rcases List.mem_append.1 hk' with h' | h'
        · have := hk k h'; omega
        · simp only [List.mem_singleton] at h'; subst h'; omega
      · rw [List.take_of_length_le (by omega)]; exact hk'
  · rintro - cs rs rs' ⟨m, rfl, h1, h2⟩ ⟨m', rfl, h3, h4⟩
    rw [Int.le_antisymm (h2 _ h3) (h4 _ h1)]
theorem max_ok : tab.ok 37 := by
  refine Tab.of_ct rfl rfl ⟨_, Try.func37, by decide, rfl⟩ ?_ ?_
  · refine ct_ok (cx := cmax) (Tab.cx_ok all_nil) Try.func37 (bds := []) (T := tmax) (by kernel_rfl) ?_
    unfold tmax
    simp only [VC, allC, List.map_cons, List.map_nil, List.length_cons, List.length_nil, List.getElem?_cons_zero, List.getElem?_cons_succ, List.cons.injEq, C.i.injEq, C.b.injEq, and_true, true_and, forall_const, kindsOf_nil, kindsOf_lf, kindsOf_agg, kindsOf_box, boxKinds_nil, boxKinds_lf, boxKinds_agg, boxKinds_box, List.append_nil, List.cons_append, List.nil_append, den_cmp_le, den_cmp_lt, den_cmp_eq, den_cmp_ne, den_cmp_le', den_cmp_lt', den_cmp_eq', den_cmp_ne', den_and, den_and', den_or, den_or', den_not, den_not', den_blit, den_of, ev_var, at_0, at_1, at_2, at_3, at_4, at_5, at_6, at_7, at_skip, c_int, c_bool, c_arr, c_cnt, c_vec, ev_nil, ev_join, ev_sub3, loc_s, int_i, bool_b, rows_s, cs_nil, cs_cons, E.den_lit, E.den_var, E.den_add, E.den_sub, E.den_mul, E.den_quo, E.den_rem, E.den_max, E.den_min, E.den_len, E.den_wr, E.den_cell, ev_cell, int_at, ctMax, intsSh]
    intro v rows d _ hsm hne
    have hl := ints_len rows
    have h0 : 0 < rows.length := List.length_pos_iff.2 hne
    refine ⟨bds_nil _, fun h => by omega, fun _ => ⟨by omega, ?_⟩⟩
    have m0 := getD_mem (l := ints rows) (i := 0) (by omega) 0
    generalize ints rows = l at *
    refine ⟨fun xs => match xs with | [.i m, .i i] => 1 ≤ i ∧ i ≤ rows.length ∧ m ∈ l ∧ (∀ k ∈ l.take i.toNat, k ≤ m) | _ => False, fun xs => match xs with | [.i m, .i i] => ((rows.length : Int) - i).toNat | _ => 0, ⟨by omega, by omega, m0, fun k hk => ?_⟩, ?_⟩
    · rw [show (1 : Int).toNat = 0 + 1 from rfl, take_snoc (by omega) 0] at hk
      simp at hk; simp; omega
    · rintro m _ _ i _ _ ⟨i0, i1, hm, hk⟩
      refine ⟨fun h => ⟨by omega, h, ⟨by omega, by omega, ?_, fun k hk' => ?_⟩, (show ((rows.length : Int) - (i + 1)).toNat < ((rows.length : Int) - i).toNat by omega)⟩, fun h => ⟨m, rfl, hm, fun k hk' => hk k ?_⟩⟩
      · have := getD_mem (l := l) (i := i.toNat) (by omega) 0
        rcases Int.le_total m (l.getD i.toNat 0) with h' | h'
        · rw [Int.max_eq_right h']; exact this
        · rw [Int.max_eq_left h']; exact hm
      · rw [show (i + 1).toNat = i.toNat + 1 by omega, take_snoc (by omega) 0] at hk'
        rcases List.mem_append.1 hk' with h' | h'
        · have := hk k h'; omega
        · simp only [List.mem_singleton] at h'; subst h'; omega
      · rw [List.take_of_length_le (by omega)]; exact hk'
  · rintro - cs rs rs' ⟨m, rfl, h1, h2⟩ ⟨m', rfl, h3, h4⟩
    rw [Int.le_antisymm (h4 _ h1) (h2 _ h3)]
end Go.Proofs.Ytbgofenplhdllaa
/- House: blow-outs, what is valid. -/
namespace Go.Proofs.Ytbgofenplhdllaa
open Go.RowKit
set_option linter.unusedSimpArgs false
set_option linter.unusedVariables false

theorem outI_iff {n : Nat} {k : Int} : outI n k = true ↔ k < 0 ∨ (n : Int) ≤ k := by simp [outI]
theorem badL_bad {n : Nat} {l : List Int} (h0 : l.length ≠ 0) (h4 : l.length ≤ 4) {k : Int} (hk : k ∈ l) (h : k < 0 ∨ (n : Int) ≤ k) : badL n l = 2 := by
  unfold badL
  rw [if_neg h0, if_neg (by omega), if_pos (List.any_eq_true.2 ⟨k, hk, outI_iff.2 h⟩)]
theorem badL_ok {n : Nat} {l : List Int} (h0 : l.length ≠ 0) (h4 : l.length ≤ 4) (h : ∀ k ∈ l, 0 ≤ k ∧ k < n) : badL n l = 0 := by
  unfold badL
  rw [if_neg h0, if_neg (by omega), if_neg]
  intro hc
  obtain ⟨k, hk, ho⟩ := List.any_eq_true.1 hc
  have := outI_iff.1 ho
  have := h k hk
  omega
theorem badL_short {n : Nat} {l : List Int} (h0 : l.length = 0) : badL n l = 6 := by unfold badL; rw [if_pos h0]
theorem badL_full {n : Nat} {l : List Int} (h4 : 4 < l.length) : badL n l = 8 := by unfold badL; rw [if_neg (by omega), if_pos h4]
theorem check_short {b : Blow} (h : b.lost.length = 0) : checkV b = 6 := by unfold checkV; rw [if_pos h]
theorem check_full {b : Blow} (h : 64 < b.lost.length) : checkV b = 8 := by unfold checkV; rw [if_neg (by omega), if_pos h]
theorem check_form {b : Blow} (h0 : b.lost.length ≠ 0) (h : b.lost.length ≤ 64) (h' : b.moves.length ≠ b.lost.length) : checkV b = 3 := by unfold checkV; rw [if_neg h0, if_neg (by omega), if_pos h']
theorem check_rest {b : Blow} (h0 : b.lost.length ≠ 0) (h : b.lost.length ≤ 64) (h' : b.moves.length = b.lost.length) : checkV b = badM b.lost.length b.moves := by unfold checkV; rw [if_neg h0, if_neg (by omega), if_neg (by omega)]
theorem badM_zero {n : Nat} {l : List Int} {ls : List (List Int)} (h : badL n l = 0) : badM n (l :: ls) = badM n ls := by rw [badM, if_pos h]
theorem badM_of {n : Nat} {l : List Int} {ls : List (List Int)} {e : Int} (h : badL n l = e) (he : e ≠ 0) : badM n (l :: ls) = e := by rw [badM, if_neg (by omega), h]
theorem check_ok : tab.ok 16 := by
  refine Tab.of_ct rfl rfl ⟨_, Try.func16, by decide, rfl⟩ ?_ ctF_det
  refine ct_ok (cx := ccheck) (Tab.cx_ok (all_cons min_ok (all_cons max_ok all_nil))) Try.func16 (bds := []) (T := tcheck) (by kernel_rfl) ?_
  have h1 : ccheck.ct 36 = some ctMin := rfl
  have h2 : ccheck.ct 37 = some ctMax := rfl
  unfold tcheck
  simp only [VC, allC, List.map_cons, List.map_nil, List.length_cons, List.length_nil, List.getElem?_cons_zero, List.getElem?_cons_succ, List.cons.injEq, C.i.injEq, C.b.injEq, and_true, true_and, forall_const, kindsOf_nil, kindsOf_lf, kindsOf_agg, kindsOf_box, boxKinds_nil, boxKinds_lf, boxKinds_agg, boxKinds_box, List.append_nil, List.cons_append, List.nil_append, den_cmp_le, den_cmp_lt, den_cmp_eq, den_cmp_ne, den_cmp_le', den_cmp_lt', den_cmp_eq', den_cmp_ne', den_and, den_and', den_or, den_or', den_not, den_not', den_blit, den_of, ev_var, at_0, at_1, at_2, at_3, at_4, at_5, at_6, at_7, at_skip, c_int, c_bool, c_arr, c_cnt, c_vec, ev_nil, ev_join, ev_sub3, loc_s, int_i, bool_b, rows_s, cs_nil, cs_cons, E.den_lit, E.den_var, E.den_add, E.den_sub, E.den_mul, E.den_quo, E.den_rem, E.den_max, E.den_min, E.den_len, E.den_wr, E.den_cell, ev_cell, rows_at_len, h1, h2, ctMin, ctMax, ctCheckB, ctF, blowSh, intsSh, ints_at]
  intro v0 r0 d0 _ hs0 v1 r1 d1 _ hs1; have e0 := bools_len r0; have e1 := intss_len r1; have hb : blowOf [C.s v0 r0, C.s v1 r1] = ⟨bools r0, intss r1⟩ := rfl; rw [hb]; generalize hM : intss r1 = M at *; generalize hL : bools r0 = L at *
  refine ⟨bds_nil _, fun h => (check_short (by simp only; omega)).symm, fun n0 => ⟨fun h => (check_full (by simp only; omega)).symm, fun n1 => ⟨fun h => (check_form (by simp only; omega) (by simp only; omega) (by simp only; omega)).symm, fun n2 => ?_⟩⟩⟩
  rw [check_rest (by simp only; omega) (by simp only; omega) (by simp only; omega)]
  refine ⟨fun xs => match xs with | [_, .i i] => 0 ≤ i ∧ i ≤ M.length ∧ badM L.length M = badM L.length (M.drop i.toNat) | _ => False, fun xs => match xs with | [_, .i i] => ((M.length : Int) - i).toNat | _ => 0, ⟨by omega, by omega, rfl⟩, ?_⟩
  rintro x _ _ i _ _ ⟨i0, i1, hi⟩
  refine ⟨fun hlt => ⟨i0, hlt, ?_⟩, fun hge => ?_⟩
  · rw [drop_cons (i := i.toNat) (by omega) []] at hi
    have hlen := rows_at_len v1 r1 i.toNat
    rw [hM] at hlen
    generalize M.getD i.toNat [] = l at *
    refine ⟨fun h => by rw [hi, badM_of (badL_short (by omega)) (by decide)], fun h0 => ⟨fun h => by rw [hi, badM_of (badL_full (by omega)) (by decide)], fun h4 => ?_⟩⟩
    have hne : ((C.s v1 r1).at i.toNat 0).rows ≠ [] := fun h => by rw [h] at hlen; simp at hlen; omega
    refine ⟨hne, ?_⟩
    rintro a _ _ ⟨_, rfl, ha1, ha2⟩
    refine ⟨fun h => by rw [hi, badM_of (badL_bad (by omega) (by omega) ha1 (.inl h)) (by decide)], fun h => ⟨hne, ?_⟩⟩
    rintro b _ _ ⟨_, rfl, hb1, hb2⟩
    refine ⟨fun h' => by rw [hi, badM_of (badL_bad (by omega) (by omega) hb1 (.inr (by omega))) (by decide)], fun h' => ⟨⟨by omega, by omega, ?_⟩, (show ((M.length : Int) - (i + 1)).toNat < ((M.length : Int) - i).toNat by omega)⟩⟩
    rw [hi, badM_zero (badL_ok (by omega) (by omega) fun k hk => ⟨by have := ha2 k hk; omega, by have := hb2 k hk; omega⟩), show (i + 1).toNat = i.toNat + 1 by omega]
  · rw [List.drop_eq_nil_of_le (by omega)] at hi
    rw [hi]; rfl
end Go.Proofs.Ytbgofenplhdllaa
/- House: the states from which losses are avoided: plain laws. -/
namespace Go.Proofs.Ytbgofenplhdllaa
open Go.RowKit
set_option linter.unusedSimpArgs false
set_option linter.unusedVariables false

def Sub (A B : List Bool) : Prop := ∀ i : Nat, A.getD i false = true → B.getD i false = true
theorem Sub.trans {A B D : List Bool} (h : Sub A B) (k : Sub B D) : Sub A D := fun i hi => k i (h i hi)
theorem leads_mono {A B : List Bool} (h : Sub A B) {l : List Int} (hl : leads A l = true) : leads B l = true := by
  obtain ⟨k, hk, hs⟩ := List.any_eq_true.1 hl
  exact List.any_eq_true.2 ⟨k, hk, h _ hs⟩
theorem nextS_len (b : Blow) (A : List Bool) : (nextS b A).length = b.lost.length := by simp [nextS]
theorem nextS_at (b : Blow) (A : List Bool) {i : Nat} (h : i < b.lost.length) : (nextS b A).getD i false = (leads A (b.moves.getD i []) && !b.lost.getD i false) := by
  simp [nextS, List.getD_eq_getElem?_getD, h]
theorem nextS_iff {b : Blow} {A : List Bool} {i : Nat} : (nextS b A).getD i false = true ↔ i < b.lost.length ∧ leads A (b.moves.getD i []) = true ∧ b.lost.getD i false = false := by
  rcases Nat.lt_or_ge i b.lost.length with h | h
  · rw [nextS_at b A h]; simp [h]
  · have : (nextS b A).getD i false = false := by rw [List.getD_eq_getElem?_getD, List.getElem?_eq_none (by rw [nextS_len]; exact h)]; rfl
    rw [this]; simp; omega
theorem nextS_mono {b : Blow} {A B : List Bool} (h : Sub A B) : Sub (nextS b A) (nextS b B) := fun i hi => by
  rw [nextS_iff] at hi ⊢
  exact ⟨hi.1, leads_mono h hi.2.1, hi.2.2⟩
theorem iterS_len (b : Blow) : ∀ n, (iterS b n).length = b.lost.length
  | 0 => by simp [iterS]
  | n + 1 => nextS_len _ _
theorem iterS_zero {b : Blow} {i : Nat} : (iterS b 0).getD i false = true ↔ i < b.lost.length ∧ b.lost.getD i false = false := by
  unfold iterS
  rw [List.getD_eq_getElem?_getD, List.getElem?_map]
  rcases Nat.lt_or_ge i b.lost.length with h | h
  · rw [List.getD_eq_getElem?_getD, List.getElem?_eq_getElem h]; simp [h]
  · rw [List.getElem?_eq_none h]; simp; omega
theorem iterS_dec (b : Blow) : ∀ n, Sub (iterS b (n + 1)) (iterS b n)
  | 0 => fun i hi => by
    have hi := nextS_iff.1 hi
    exact iterS_zero.2 ⟨hi.1, hi.2.2⟩
  | n + 1 => nextS_mono (iterS_dec b n)
def cnt (A : List Bool) : Nat := A.countP (·)
theorem getD_at {A : List Bool} {i : Nat} (h : i < A.length) : A.getD i false = A[i] := by rw [List.getD_eq_getElem?_getD, List.getElem?_eq_getElem h]; rfl
theorem sub_eq {A B : List Bool} (hl : A.length = B.length) (h : Sub A B) (k : Sub B A) : A = B := by
  refine List.ext_getElem hl fun i h1 h2 => ?_
  have a := h i; have b := k i
  rw [getD_at h1, getD_at h2] at a b
  exact Bool.eq_iff_iff.2 ⟨a, b⟩
theorem cnt_sub : ∀ {A B : List Bool}, A.length = B.length → Sub A B → cnt A ≤ cnt B ∧ (cnt A = cnt B → A = B)
  | [], [], _, _ => ⟨Nat.le_refl _, fun _ => rfl⟩
  | a :: A, b :: B, hl, h => by
    obtain ⟨h1, h2⟩ := cnt_sub (A := A) (B := B) (by simpa using hl) fun i hi => h (i + 1) hi
    have h0 : a = true → b = true := h 0
    unfold cnt at *
    simp only [List.countP_cons]
    cases a <;> cases b <;> simp at h0 ⊢
    · exact ⟨h1, h2⟩
    · refine ⟨by omega, fun h => by omega⟩
    · exact ⟨h1, h2⟩
theorem cnt_le (A : List Bool) : cnt A ≤ A.length := List.countP_le_length
/-- So many steps are enough. -/
theorem iterS_still (b : Blow) : ∀ n, (∃ k, k ≤ n ∧ iterS b (k + 1) = iterS b k) ∨ cnt (iterS b (n + 1)) + n + 1 ≤ b.lost.length
  | 0 => by
    obtain ⟨h1, h2⟩ := cnt_sub (by rw [iterS_len, iterS_len]) (iterS_dec b 0)
    have h3 := cnt_le (iterS b 0)
    rw [iterS_len] at h3
    by_cases h : cnt (iterS b (0 + 1)) = cnt (iterS b 0)
    · exact .inl ⟨0, Nat.le_refl _, h2 h⟩
    · exact .inr (by omega)
  | n + 1 => by
    rcases iterS_still b n with ⟨k, hk, h⟩ | h
    · exact .inl ⟨k, by omega, h⟩
    · obtain ⟨h1, h2⟩ := cnt_sub (by rw [iterS_len, iterS_len]) (iterS_dec b (n + 1))
      by_cases h : cnt (iterS b (n + 1 + 1)) = cnt (iterS b (n + 1))
      · exact .inl ⟨n + 1, Nat.le_refl _, h2 h⟩
      · exact .inr (by omega)
theorem iterS_stay {b : Blow} {k : Nat} (h : iterS b (k + 1) = iterS b k) : ∀ m, iterS b (k + m) = iterS b k
  | 0 => rfl
  | m + 1 => by
    show nextS b (iterS b (k + m)) = _
    rw [iterS_stay h m]; exact h
/-- What is left. -/
def safeF (b : Blow) : List Bool := iterS b (b.lost.length + 1)
theorem safeF_fix (b : Blow) : nextS b (safeF b) = safeF b := by
  rcases iterS_still b b.lost.length with ⟨k, hk, h⟩ | h
  · have h1 := iterS_stay h (b.lost.length + 1 - k)
    have h2 := iterS_stay h (b.lost.length + 2 - k)
    rw [show k + (b.lost.length + 1 - k) = b.lost.length + 1 by omega] at h1
    rw [show k + (b.lost.length + 2 - k) = b.lost.length + 1 + 1 by omega] at h2
    exact (show nextS b (safeF b) = iterS b k from h2).trans h1.symm
  · omega
theorem safeF_len (b : Blow) : (safeF b).length = b.lost.length := iterS_len _ _
theorem safeF_iff {b : Blow} {i : Nat} : (safeF b).getD i false = true ↔ i < b.lost.length ∧ leads (safeF b) (b.moves.getD i []) = true ∧ b.lost.getD i false = false := by
  have := @nextS_iff b (safeF b) i
  rwa [safeF_fix] at this
/-- It is the greatest one. -/
theorem safeF_top {b : Blow} {S : List Bool} (h : ∀ i : Nat, S.getD i false = true → i < b.lost.length ∧ leads S (b.moves.getD i []) = true ∧ b.lost.getD i false = false) : Sub S (safeF b) := by
  have : ∀ n, Sub S (iterS b n) := fun n => by
    induction n with
    | zero => exact fun i hi => iterS_zero.2 ⟨(h i hi).1, (h i hi).2.2⟩
    | succ n ih => exact fun i hi => nextS_mono ih i (nextS_iff.2 (h i hi))
  exact this _
theorem safeV_ok {b : Blow} (h : checkV b = 0) : safeV b = safeF b := by unfold safeV; rw [if_pos h]; rfl
theorem safeV_no {b : Blow} (h : checkV b ≠ 0) : safeV b = [] := by unfold safeV; rw [if_neg h]
/-- What a blow-out that is valid has. -/
theorem badM_all {n : Nat} : ∀ {M : List (List Int)}, badM n M = 0 → ∀ l ∈ M, l.length ≠ 0 ∧ l.length ≤ 4 ∧ ∀ k ∈ l, 0 ≤ k ∧ k < n
  | [], _, l, hl => by cases hl
  | m :: M, h, l, hl => by
    rw [badM] at h
    split at h
    · rename_i h0
      rcases List.mem_cons.1 hl with rfl | hl
      · unfold badL at h0
        split at h0
        · cases h0
        split at h0
        · cases h0
        split at h0
        · cases h0
        rename_i h1 h2 h3
        refine ⟨h1, by omega, fun k hk => ?_⟩
        have : ¬ outI n k = true := fun ho => h3 (List.any_eq_true.2 ⟨k, hk, ho⟩)
        rw [outI_iff] at this
        omega
      · exact badM_all h l hl
    · rename_i h0; exact absurd h h0
theorem check_all {b : Blow} (h : checkV b = 0) : b.lost.length ≠ 0 ∧ b.lost.length ≤ 64 ∧ b.moves.length = b.lost.length ∧ ∀ l ∈ b.moves, l.length ≠ 0 ∧ l.length ≤ 4 ∧ ∀ k ∈ l, 0 ≤ k ∧ k < b.lost.length := by
  unfold checkV at h
  split at h
  · cases h
  split at h
  · cases h
  split at h
  · cases h
  rename_i h1 h2 h3
  exact ⟨h1, by omega, by omega, badM_all h⟩
theorem check_at {b : Blow} (h : checkV b = 0) {i : Nat} (hi : i < b.lost.length) : (b.moves.getD i []).length ≠ 0 ∧ (b.moves.getD i []).length ≤ 4 ∧ ∀ k ∈ b.moves.getD i [], 0 ≤ k ∧ k < b.lost.length := by
  obtain ⟨-, -, h3, h4⟩ := check_all h
  exact h4 _ (getD_mem (by omega) _)
end Go.Proofs.Ytbgofenplhdllaa
/- House: the program's Safe. -/
namespace Go.Proofs.Ytbgofenplhdllaa
open Go.RowKit
set_option linter.unusedSimpArgs false
set_option linter.unusedVariables false

theorem updRow_bool (l : List Bool) (i : Nat) (t : Bool) : updRow (ofBools l) i 0 [.b t] = ofBools (l.set i t) := by
  unfold updRow ofBools
  rw [List.map_set]
  rcases Nat.lt_or_ge i l.length with h | h
  · congr 1
    simp [List.getD_eq_getElem?_getD, List.getElem?_eq_getElem h]
  · rw [List.set_eq_of_length_le (by simpa using h), List.set_eq_of_length_le (by simpa using h)]
theorem set_at {l : List Bool} {i j : Nat} {t : Bool} : (l.set i t).getD j false = if i = j ∧ i < l.length then t else l.getD j false := by
  simp only [List.getD_eq_getElem?_getD, List.getElem?_set]
  split
  · rename_i h; subst h
    split
    · rename_i h'; simp [h']
    · rename_i h'; rw [List.getElem?_eq_none (by omega), if_neg (by omega)]
  · rename_i h; rw [if_neg (by omega)]
theorem cnt_set : ∀ {l : List Bool} {i : Nat}, l.getD i false = true → cnt (l.set i false) < cnt l
  | [], i, h => by simp at h
  | a :: l, 0, h => by simp at h; subst h; simp [cnt]
  | a :: l, i + 1, h => by
    have := cnt_set (l := l) (i := i) h
    unfold cnt at *
    simp only [List.set_cons_succ, List.countP_cons]
    omega
theorem safe_ok : tab.ok 14 := by
  refine Tab.of_ct rfl rfl ⟨_, Try.func14, by decide, rfl⟩ ?_ (fun h => by cases h)
  refine ct_ok (cx := csafe) (Tab.cx_ok (all_cons check_ok all_nil) fxsafe) Try.func14 (bds := []) (T := tsafe) (by kernel_rfl) ?_
  have h1 : csafe.ct 16 = some ctCheckB := rfl
  unfold tsafe
  simp only [VC, allC, List.map_cons, List.map_nil, List.length_cons, List.length_nil, List.getElem?_cons_zero, List.getElem?_cons_succ, List.cons.injEq, C.i.injEq, C.b.injEq, and_true, true_and, forall_const, kindsOf_nil, kindsOf_lf, kindsOf_agg, kindsOf_box, boxKinds_nil, boxKinds_lf, boxKinds_agg, boxKinds_box, List.append_nil, List.cons_append, List.nil_append, den_cmp_le, den_cmp_lt, den_cmp_eq, den_cmp_ne, den_cmp_le', den_cmp_lt', den_cmp_eq', den_cmp_ne', den_and, den_and', den_or, den_or', den_not, den_not', den_blit, den_of, ev_var, at_0, at_1, at_2, at_3, at_4, at_5, at_6, at_7, at_skip, c_int, c_bool, c_arr, c_cnt, c_vec, ev_nil, ev_join, ev_sub3, loc_s, int_i, bool_b, rows_s, cs_nil, cs_cons, E.den_lit, E.den_var, E.den_add, E.den_sub, E.den_mul, E.den_quo, E.den_rem, E.den_max, E.den_min, E.den_len, E.den_wr, E.den_cell, ev_cell, cb_not, rows_at_len, int_at, ints_at, bool_at, h1, ctCheckB, ctSafe, ctF, blowSh, intsSh]
  intro v0 r0 d0 ty0 hs0 v1 r1 d1 ty1 hs1
  have e0 := bools_len r0
  have e1 := intss_len r1
  have hb : blowOf [C.s v0 r0, C.s v1 r1] = ⟨bools r0, intss r1⟩ := rfl
  rw [hb]
  have a0 := fun i => bool_at v0 r0 i
  have a1 := fun i => ints_at v1 r1 i
  generalize hM : intss r1 = M at *
  generalize hL : bools r0 = L at *
  generalize hB : Blow.mk L M = b at *
  have bl : b.lost = L := by rw [← hB]
  have bm : b.moves = M := by rw [← hB]
  refine ⟨bds_nil _, ?_⟩
  rintro e _ _ rfl
  refine ⟨fun h => ⟨_, by rw [safeV_no h]; rfl⟩, fun h => ?_⟩
  obtain ⟨k1, k2, k3, -⟩ := check_all h
  have kat := fun i => @check_at b h i
  have ftop := fun S => @safeF_top b S
  have fiff := fun i => @safeF_iff b i
  have flen := safeF_len b
  rw [safeV_ok h]
  generalize safeF b = F at *
  rw [bl] at k1 k2 k3 kat flen ftop fiff
  rw [bm] at k3 kat ftop fiff
  have z0 : ((r0.length : Int)).toNat = L.length := by omega
  refine ⟨by omega, fun v4 => ?_⟩
  refine ⟨fun xs => match xs with | [.i i, .s _ rows] => 0 ≤ i ∧ i ≤ L.length ∧ rows = ofBools ((L.take i.toNat).map (!·) ++ List.replicate (L.length - i.toNat) false) | _ => False, fun xs => match xs with | [.i i, _] => ((L.length : Int) - i).toNat | _ => 0, ⟨by omega, by omega, ?_⟩, ?_⟩
  · rw [z0]; simp [ofBools]
  rintro i _ _ v7 rows7 _ _ _ ⟨i0, i1, rfl⟩
  refine ⟨fun hlt => ⟨i0, hlt, ?_, fun v8 => ⟨⟨by omega, by omega, ?_⟩, (show ((L.length : Int) - (i + 1)).toNat < ((L.length : Int) - i).toNat by omega)⟩⟩, fun hge => ?_⟩
  · rw [ofBools_len]; simp; omega
  · have hi : i.toNat < L.length := by omega
    rw [updRow_bool]
    congr 1
    rw [show (i + 1).toNat = i.toNat + 1 by omega, take_snoc hi false, List.map_append, List.append_assoc, List.set_append_right _ _ (by simp; omega), show L.length - i.toNat = (L.length - (i.toNat + 1)) + 1 by omega, List.replicate_succ]
    simp [Nat.min_eq_left (Nat.le_of_lt hi)]
  rw [show L.length - i.toNat = 0 by omega, List.take_of_length_le (by omega), List.replicate_zero, List.append_nil]
  refine ⟨fun xs => match xs with | [_, .s _ rows] => ∃ S, rows = ofBools S ∧ S.length = L.length ∧ Sub F S ∧ ∀ j : Nat, S.getD j false = true → L.getD j false = false | _ => False, fun xs => match xs with | [_, .s _ rows] => cnt (bools rows) | _ => 0, ⟨_, rfl, by simp, fun j hj => ?_, fun j hj => ?_⟩, ?_⟩
  · have := (fiff j).1 hj
    rw [List.getD_eq_getElem?_getD, List.getElem?_map]
    have h2 := this.2.2
    rw [List.getD_eq_getElem?_getD, List.getElem?_eq_getElem this.1] at h2
    rw [List.getElem?_eq_getElem this.1]
    simp at h2 ⊢; exact h2
  · rw [List.getD_eq_getElem?_getD, List.getElem?_map] at hj
    rw [List.getD_eq_getElem?_getD]
    cases hc : L[j]? with
    | none => rfl
    | some t => rw [hc] at hj; simp at hj; simp [hj]
  rintro v9 rows9 _ _ _ v10 rows10 _ _ _ ⟨S, rfl, s1, s2, s3⟩
  have b0 := fun i => bool_at v10 (ofBools S) i
  rw [bools_of] at b0
  refine ⟨fun xs => match xs with | [.i i] => 0 ≤ i ∧ i ≤ M.length ∧ ∀ j : Nat, j < i.toNat → S.getD j false = true → leads S (M.getD j []) = true | _ => False, fun xs => match xs with | [.i i] => ((M.length : Int) - i).toNat | _ => 0, ⟨by omega, by omega, fun j hj => by simp at hj⟩, ?_⟩
  rintro i _ _ ⟨i0, i1, hI⟩
  rw [ofBools_len, bools_of]
  refine ⟨fun hlt => ⟨i0, hlt, by omega, fun hs => ?_, fun hs => ?_⟩, fun hge => ⟨v4, ?_⟩⟩
  · obtain ⟨-, -, hk⟩ := kat i.toNat (by omega)
    have hlM : leads S (M.getD i.toNat []) = true ↔ ∃ z ∈ M.getD i.toNat [], S.getD z.toNat false = true := List.any_eq_true
    have hFl : leads F (M.getD i.toNat []) = true → leads S (M.getD i.toNat []) = true := leads_mono s2
    have hnot := (fiff i.toNat)
    generalize hml : M.getD i.toNat [] = l at *
    refine ⟨fun xs => match xs with | [_, .i k] => 0 ≤ k ∧ k ≤ l.length ∧ ∀ z ∈ l.take k.toNat, S.getD z.toNat false = false | _ => False, fun xs => match xs with | [_, .i k] => ((l.length : Int) - k).toNat | _ => 0, ⟨by omega, by omega, fun z hz => by simp at hz⟩, ?_⟩
    rintro y _ _ k _ _ ⟨k0, k1, hK⟩
    refine ⟨fun hlt' => ?_, fun hge' => ⟨by omega, fun v => ?_⟩⟩
    · have hm := getD_mem (l := l) (i := k.toNat) (by omega) 0
      have hr := hk _ hm
      refine ⟨k0, hlt', hr.1, by omega, fun hz => ⟨⟨by omega, by omega, fun j hj hs' => ?_⟩, (show ((M.length : Int) - (i + 1)).toNat < ((M.length : Int) - i).toNat by omega)⟩, fun hz => ⟨⟨by omega, by omega, fun z hz' => ?_⟩, (show ((l.length : Int) - (k + 1)).toNat < ((l.length : Int) - k).toNat by omega)⟩⟩
      · rcases Nat.lt_or_ge j i.toNat with h' | h'
        · exact hI j h' hs'
        · rw [show j = i.toNat by omega, hml]
          exact hlM.2 ⟨_, hm, hz⟩
      · rw [show (k + 1).toNat = k.toNat + 1 by omega, take_snoc (by omega) 0] at hz'
        rcases List.mem_append.1 hz' with h2 | h2
        · exact hK z h2
        · simp only [List.mem_singleton] at h2; subst h2; exact hz
    · rw [List.take_of_length_le (by omega)] at hK
      have hnl : leads S l ≠ true := fun hc => by
        obtain ⟨z, hz, hs'⟩ := hlM.1 hc
        rw [hK z hz] at hs'; cases hs'
      refine ⟨⟨S.set i.toNat false, updRow_bool _ _ _, by simp [s1], fun j hj => ?_, fun j hj => ?_⟩, ?_⟩
      · rw [set_at]
        split
        · rename_i h'; rw [← h'.1] at hj; exact absurd (hFl (hnot.1 hj).2.1) hnl
        · exact s2 j hj
      · rw [set_at] at hj
        split at hj
        · cases hj
        · exact s3 j hj
      · show cnt (bools (updRow (ofBools S) i.toNat 0 [C.b false])) < cnt (bools (ofBools S))
        rw [updRow_bool, bools_of, bools_of]
        exact cnt_set hs
  · refine ⟨⟨by omega, by omega, fun j hj hs' => ?_⟩, (show ((M.length : Int) - (i + 1)).toNat < ((M.length : Int) - i).toNat by omega)⟩
    rcases Nat.lt_or_ge j i.toNat with h' | h'
    · exact hI j h' hs'
    · rw [show j = i.toNat by omega, hs] at hs'; cases hs'
  · have : S = F := sub_eq (by omega) (ftop S fun j hj => by
      have hjl : j < S.length := by
        rcases Nat.lt_or_ge j S.length with h' | h'
        · exact h'
        · rw [List.getD_eq_getElem?_getD, List.getElem?_eq_none h'] at hj; cases hj
      exact ⟨by omega, hI j (by omega) hj, s3 j hj⟩) s2
    rw [this]
end Go.Proofs.Ytbgofenplhdllaa
/- House: the document's Safe and Chance; static pressures; examples. -/
namespace Go.Proofs.Ytbgofenplhdllaa
open Go.RowKit
set_option linter.unusedSimpArgs false
set_option linter.unusedVariables false

theorem lastV_cons (S : List Bool) (k : Int) (l : List Int) (i : Nat) (r : Int × Bool) : lastV S (k :: l) i r = lastV S l (i + 1) (if S.getD k.toNat false = true then ((i : Int), true) else r) := rfl
theorem any_out {n : Nat} {l : List Int} {k : Int} (hk : k ∈ l) (h : k < 0 ∨ (n : Int) ≤ k) : l.any (outI n) = true := List.any_eq_true.2 ⟨k, hk, outI_iff.2 h⟩
theorem chance_no {b : Blow} {run : List Int} (h : (safeV b).length = 0 ∨ 400 < run.length ∨ run.any (outI (safeV b).length) = true) : chanceV b run = (0, false) := by unfold chanceV; rw [if_pos h]
theorem chance_of {b : Blow} {run : List Int} (h0 : (safeV b).length ≠ 0) (h1 : run.length ≤ 400) (h2 : ∀ k ∈ run, 0 ≤ k ∧ k < (safeV b).length) : chanceV b run = lastV (safeV b) run 0 (0, false) := by
  unfold chanceV
  rw [if_neg]
  rintro (h | h | h)
  · exact h0 h
  · omega
  · obtain ⟨k, hk, ho⟩ := List.any_eq_true.1 h
    have := outI_iff.1 ho
    have := h2 k hk
    omega
end Go.Proofs.Ytbgofenplhdllaa
/- House: slices.Backward over a []int: what it hands out. -/
namespace Go.Proofs.Ytbgofenplhdllaa
open Go.RowKit
set_option linter.unusedSimpArgs false
set_option linter.unusedVariables false

def backEls (l : List Int) : List (List C) := (List.range l.length).map fun k => [.i ((l.length - 1 - k : Nat) : Int), .i (l.getD (l.length - 1 - k) 0)]
def backIt : It := ⟨[.box 35 [.arr 3]], fun cs => backEls (ints (at_ cs 0).rows), elV, fun _ => True⟩
theorem backEls_at {l : List Int} {k : Nat} (h : k < l.length) : (backEls l)[k]? = some [.i ((l.length - 1 - k : Nat) : Int), .i (l.getD (l.length - 1 - k) 0)] := by
  simp [backEls, h]
/-- What the box holds. -/
theorem back_rep {w : World} {Base : Nat → Nat → Prop} {vs : List Value} {cs : List C} (h : Reps Try.prog w Base none backIt.args vs cs) :
    ∃ b v rows cap a, vs = [.pointer (some ⟨b, 0, none⟩)] ∧ cs = [.s v rows] ∧ v = .slice a rows.length cap ∧ w.cell? ⟨b, 0, none⟩ = some v ∧ (rows.length : Int) ≤ 9223372036854775807 ∧
      (rows ≠ [] → ∃ b' o, a = some ⟨b', o, none⟩ ∧ ∀ i, i < rows.length → w.cell? ⟨b', o + i, none⟩ = some (.int .i64 ((ints rows).getD i 0))) := by
  cases vs with
  | nil => exact h.elim
  | cons v0 vs =>
  obtain ⟨c1, c2, rfl, h1, h2⟩ := h
  cases vs with
  | cons _ _ => exact h2.elim
  | nil =>
  have h2 : c2 = [] := h2
  subst h2
  obtain ⟨b, us, rfl, hb, -, hr⟩ := h1
  match us, c1, hr with
  | [], [], hr => exact hr.elim
  | [], _ :: _, hr => exact hr.elim
  | _ :: _, [], hr => exact hr.elim
  | _ :: _ :: _, _ :: _, hr => exact hr.2.elim
  | [_], _ :: _ :: _, hr => exact hr.2.elim
  | [u], [c], hr =>
    obtain ⟨⟨hsm, hu, v, rows, rfl, d, S, hS, hA⟩, -⟩ := hr
    have hu : u = v := hu
    subst hu
    have hcell := hb.cell 0 (v := u) rfl
    cases d with
    | zero => exact hA.elim
    | succ d =>
      obtain ⟨ks, hk, a, cap, rfl, hA⟩ := hA
      rw [show kinds Try.prog 3 = some [.int] by kernel_rfl] at hk
      cases hk
      refine ⟨b, _, rows, cap, a, rfl, rfl, rfl, hcell, (hsm 1).1, fun hne => ?_⟩
      obtain ⟨b', o, rfl, -, hr⟩ := hA hne
      refine ⟨b', o, rfl, fun i hi => ?_⟩
      obtain ⟨-, hc⟩ := hr i rows[i] (List.getElem?_eq_getElem hi)
      obtain ⟨-, x, c, hx, hc1, n, rfl, rfl⟩ := hc 0 .int rfl
      have e : o + (i * [Lk.int].length + 0) = o + i := by simp
      rw [e] at hx
      rw [hx]
      congr 2
      have hri : (ints rows).getD i 0 = ((rows[i]).getD 0 (.i 0)).int := by
        simp only [ints, List.getD_eq_getElem?_getD, List.getElem?_map, List.getElem?_eq_getElem hi, Option.map_some, Option.getD_some]
      rw [hri, List.getD_eq_getElem?_getD, hc1]
      rfl
set_option maxRecDepth 100000 in
set_option maxHeartbeats 2000000 in
theorem back_ok : ItOK Try.prog 56 backIt := by
  intro Base vs cs l J Jx W _ hrep hJ hJx hY h0
  obtain ⟨b, v, rows, cap, a, rfl, rfl, rfl, hb0, hsm, -⟩ := back_rep (hrep 0 W h0).2
  have hbox : ∀ k w, J k w → w.cell? ⟨b, 0, none⟩ = some (.slice a rows.length cap) ∧ (rows ≠ [] → ∃ b' o, a = some ⟨b', o, none⟩ ∧ ∀ i, i < rows.length → w.cell? ⟨b', o + i, none⟩ = some (.int .i64 ((ints rows).getD i 0))) := fun k w hj => by
    obtain ⟨b2, v2, rows2, cap2, a2, e1, e2, e3, h1, -, h2⟩ := back_rep (hrep k w hj).2
    simp at e1 e2
    obtain ⟨rfl, rfl⟩ := e2
    obtain rfl := e1
    cases e3
    exact ⟨h1, h2⟩
  have hel : backIt.els [.s (.slice a rows.length cap) rows] = backEls (ints rows) := rfl
  rw [hel] at hY ⊢
  have hlen : (backEls (ints rows)).length = rows.length := by simp [backEls, ints_len]
  rw [hlen]
  have hY' : ∀ k w, k < rows.length → J k w → YieldAt Fence.wide 0 Try.prog l #[.int .i64 ((rows.length - 1 - k : Nat) : Int), .int .i64 ((ints rows).getD (rows.length - 1 - k) 0)] w fun e w' => (e = .returned (.bool true) ∧ J (k + 1) w') ∨ (e = .returned (.bool false) ∧ Jx w') := fun k w hk hj => by
    have := hY k _ w w (backEls_at (l := ints rows) (by rw [ints_len]; exact hk)) hj (Below.refl _ _)
    rw [ints_len] at this
    obtain ⟨fn, tmps, assign, body, hy, hR⟩ := this
    exact ⟨fn, tmps, assign, body, hy, hR.mono fun e w' h => h.imp And.left id⟩
  clear hY hel hrep
  generalize hn : rows.length = n at *
  refine callsIn_of_wp Try.func56 rfl trivial ?_ rfl
  simp only [Try.ntmps56, List.size_toArray, List.length_cons, List.length_nil, Nat.reduceAdd, Nat.reduceSub, Array.replicate_succ, Array.replicate_zero, List.push_toArray, List.append_toArray, List.nil_append, List.cons_append]
  gi_wp2
  gi_loopw [3] (fun i wr => ∃ k : Nat, k ≤ n ∧ i = .int .i64 ((n : Int) - 1 - k) ∧ J k wr) (fun i _ => (intOf i + 1).toNat)
  case atStart => exact ⟨0, Nat.zero_le _, by simp, h0⟩
  case round =>
    obtain ⟨k, hk, rfl, hj⟩ := hrel
    by_cases hlt : k < n
    · obtain ⟨m, hm⟩ : ∃ m, n = m + 1 + k := ⟨n - 1 - k, by omega⟩
      obtain ⟨hcb, hrow⟩ := hbox k wr hj
      obtain ⟨b', o, rfl, hce⟩ := hrow (by intro e; rw [e] at hn; simp at hn; omega)
      have hce := hce m (by omega)
      have hy := hY' k wr hlt hj
      rw [show n - 1 - k = m by omega] at hy
      rw [show (n : Int) - 1 - k = m by omega]
      have hb0 : (0 : Int) ≤ m := by omega
      have hb1 : (m : Int) < n := by omega
      generalize (ints rows).getD m 0 = x at *
      obtain ⟨fn, tmps, assign, body, hy1, hR⟩ := hy
      have hm1 : m + 1 + k ≤ n := by omega
      have hm2 : n ≤ m + 1 + k := by omega
      clear hm
      gi_wp2
      refine ⟨rfl, hR.mono ?_⟩
      rintro e W3 (⟨rfl, hj3⟩ | ⟨rfl, hx3⟩)
      · gi_wp2
        go_roundw
        case rel => exact ⟨k + 1, by omega, by congr 1; omega, hj3⟩
        case measure => first | (simp [intOf]; done) | (simp [intOf]; omega)
      · gi_wp2
        refine bodyPost_ret (results_none rfl _ _ _) rfl ?_
        exact ⟨⟨_, rfl⟩, .inr hx3⟩
    · obtain rfl : k = n := by omega
      rw [show (k : Int) - 1 - k = -1 by omega]
      gi_wp2
      go_end0
      exact ⟨⟨_, rfl⟩, .inl hj⟩
end Go.Proofs.Ytbgofenplhdllaa
/- House: the program's Chance: its states. -/
namespace Go.Proofs.Ytbgofenplhdllaa
open Go.RowKit
set_option linter.unusedSimpArgs false
set_option linter.unusedVariables false

def chS1 : St := { sl := [(1, some (.one (.lf (.arr 3 (.var 2))))), (4, some (.one (.lf (.ptr 1 0)))), (5, some (.one (.lf (.ptr 2 0)))), (6, some (.one (.lf (.ptr 3 0))))], mem := [(1, some (3, [.int (.lit 0)])), (2, some (4, [.bool (.lit false)])), (3, some (22, [.vec 4 3]))], nt := 30, nb := 4, nx := 4, lvl := 1, bds := [], vec := [(3, some (4, .var 3))] }
/-- Between two rounds. -/
def chS2 : St := { chS1 with sl := (22, none) :: (21, none) :: chS1.sl }
/-- In a round: the place and the state. -/
def chS3 : St := { chS2 with sl := (9, some (.one (.lf (.int (.var 5))))) :: (8, some (.one (.lf (.int (.var 4))))) :: (24, some (.one (.lf (.int (.var 5))))) :: (23, some (.one (.lf (.int (.var 4))))) :: chS2.sl, nx := 6 }
/-- A round has returned. -/
def chS4 : St := { chS2 with mem := [(1, some (3, [.int (.var 4)])), (2, some (4, [.bool (.of (.var 5))])), (3, some (22, [.vec 4 3]))], nx := 6 }
end Go.Proofs.Ytbgofenplhdllaa
/- What is to be shown of each function, as the executor has it. Printed by trees.py. -/
namespace Go.Proofs.Ytbgofenplhdllaa
noncomputable def flch1 : List (Nat × Func) := [(35, Try.f35), (40, Try.f40), (38, Try.f38)]
theorem fxch1 : ∀ p ∈ flch1, FnOK p := fns_cons ⟨Try.func35, ⟨_, Try.func35, by decide, rfl⟩⟩ (fns_cons ⟨Try.func40, ⟨_, Try.func40, by decide, rfl⟩⟩ (fns_cons ⟨Try.func38, ⟨_, Try.func38, by decide, rfl⟩⟩ (fns_nil)))
noncomputable def cch1 : Cx := tab.only [14] (fun _ => []) flch1 3 [] (fun _ => none)
def tch1 : Tree :=
  (.call 14 [(.arr 4 (.var 0)), (.arr 35 (.var 1))] (.dfn .nil (.arr [] (.split (.cmp .lt (.lit 400) (.len (.var 2))) (.ret [(.int (.lit 0)), (.bool (.lit false))]) (.loop [.int, .int] [(.int (.lit 0)), (.int (.lit 0))] (.split (.cmp .lt (.var 7) (.len (.var 2))) (.ob (.cmp .le (.lit 0) (.var 7)) (.ob (.cmp .lt (.var 7) (.len (.var 2))) (.split (.cmp .lt (.cell (.var 2) (.var 7) 0) (.lit 0)) (.ret [(.int (.lit 0)), (.bool (.lit false))]) (.split (.cmp .le (.len (.var 3)) (.cell (.var 2) (.var 7) 0)) (.ret [(.int (.lit 0)), (.bool (.lit false))]) (.back 1 [(.int (.var 6)), (.int (.add (.var 7) (.lit 1)))]))))) (.back 0 [(.cnt 4 (.var 3))])))))))
def tch2 : Tree :=
  (.ob (.cmp .le (.lit 0) (.var 5)) (.ob (.cmp .lt (.var 5) (.len (.var 3))) (.split (.of (.cell (.var 3) (.var 5) 0)) (.back 1 [(.int (.var 4)), (.bool (.lit true))]) (.back 0 []))))
def tch3 : Tree :=
  (.ret [(.int (.lit 0)), (.bool (.lit false))])
end Go.Proofs.Ytbgofenplhdllaa
/- House: the program's Chance. -/
namespace Go.Proofs.Ytbgofenplhdllaa
open Go.RowKit
set_option linter.unusedSimpArgs false
set_option linter.unusedVariables false

theorem callable_back : Callable Try.prog 56 := ⟨_, Try.func56, by decide, rfl⟩
theorem callable_backward : Callable Try.prog 39 := ⟨_, Try.func39, by decide, rfl⟩
theorem backward_made (a : Option Addr) (len cap : Nat) (w : World) : Calls Try.prog 39 #[.slice a len cap] w fun e w' => e = .returned (.func (.func 56) #[] #[.pointer (some ⟨w.heap.size, 0, none⟩)]) ∧ w' = w.alloc (.cells #[.slice a len cap] 35) := by
  refine (callsIn_wide (n := 0)).1 (callsIn_of_wp Try.func39 rfl trivial ?_ rfl)
  simp only [Try.ntmps39, List.size_toArray, List.length_cons, List.length_nil, Nat.reduceAdd, Nat.reduceSub, Array.replicate_succ, Array.replicate_zero, List.push_toArray, List.append_toArray, List.nil_append, List.cons_append]
  gi_wp2
  go_ret
  exact ⟨rfl, rfl⟩
theorem ch_split : bodyOf Try.f18 = pre (heads 4 (bodyOf Try.f18)) (nav [1, 1, 1, 1] (bodyOf Try.f18)) := by kernel_rfl
theorem ch_tree1 : execL cch1 (heads 4 (bodyOf Try.f18)) { startOf Try.f18 ctChance [] [] with lvl := (startOf Try.f18 ctChance [] []).lvl + 1 } (joinK (startOf Try.f18 ctChance [] []) chS1 [.blk 3] [.vec 4] (endQ cch1 Try.f18 ctChance)) = some tch1 := by kernel_rfl
theorem ch_tree2 : exec cch1 (rangeBody (nav [1, 1, 1, 1, 0, 1, 0] (bodyOf Try.f18))) { chS3 with lvl := 2 } (rK chS2 4 [] [] chS4 [.blk 1, .blk 2] [.int, .bool]) = some tch2 := by kernel_rfl
theorem ch_tree3 : exec cch1 (nav [1, 1, 1, 1, 1] (bodyOf Try.f18)) { chS2 with lvl := 0 } (endQ cch1 Try.f18 ctChance) = some tch3 := by kernel_rfl
theorem ch_tree4 : endOf cch1 Try.f18 ctChance { chS4 with lvl := 0 } = some (.ret [.int (.var 4), .bool (.of (.var 5))]) := by kernel_rfl
theorem ch_cx : CxOK cch1 := Tab.cx_ok (all_cons safe_ok all_nil) fxch1
theorem pr_of (p : Int × Bool) (x : Int) (y : Bool) (h : p = (x, y)) : x = p.1 ∧ y = p.2 := by rw [h]; exact ⟨rfl, rfl⟩
/-- What the first part says. -/
theorem ch_vc1 {R : List C → Prop} {v0 v1 v2 : Value} {r0 r1 r2 : List (List C)} {b : Blow} {run : List Int} (hb : blowOf [.s v0 r0, .s v1 r1] = b) (hr : ints r2 = run) (hR : ∀ x y, chanceV b run = (x, y) → R [.i x, .b y]) :
    VC cch1 R tch1 [.s v0 r0, .s v1 r1, .s v2 r2] [fun xs => match xs with | [.s _ rows] => rows = ofBools (safeV b) ∧ run.length ≤ 400 ∧ ∀ k ∈ run, 0 ≤ k ∧ k < (safeV b).length | _ => False] := by
  have h1 : cch1.ct 14 = some ctSafe := rfl
  have e2 := ints_len r2
  unfold tch1
  simp only [VC, allC, List.map_cons, List.map_nil, List.length_cons, List.length_nil, List.getElem?_cons_zero, List.getElem?_cons_succ, List.cons.injEq, C.i.injEq, C.b.injEq, and_true, true_and, forall_const, kindsOf_nil, kindsOf_lf, kindsOf_agg, kindsOf_box, boxKinds_nil, boxKinds_lf, boxKinds_agg, boxKinds_box, List.append_nil, List.cons_append, List.nil_append, den_cmp_le, den_cmp_lt, den_cmp_eq, den_cmp_ne, den_cmp_le', den_cmp_lt', den_cmp_eq', den_cmp_ne', den_and, den_and', den_or, den_or', den_not, den_not', den_blit, den_of, ev_var, at_0, at_1, at_2, at_3, at_4, at_5, at_6, at_7, at_skip, c_int, c_bool, c_arr, c_cnt, c_vec, ev_nil, ev_join, ev_sub3, loc_s, int_i, bool_b, rows_s, cs_nil, cs_cons, E.den_lit, E.den_var, E.den_add, E.den_sub, E.den_mul, E.den_quo, E.den_rem, E.den_max, E.den_min, E.den_len, E.den_wr, E.den_cell, ev_cell, int_at, bool_at, h1, ctSafe, hb, hr]
  rw [hr] at e2
  rintro v3 rows3 _ _ _ ⟨v, e⟩
  obtain ⟨-, rfl⟩ : v3 = v ∧ rows3 = ofBools (safeV b) := by simpa using e
  rw [ofBools_len]
  intro vc
  simp only [VC, allC, List.map_cons, List.map_nil, List.length_cons, List.length_nil, List.getElem?_cons_zero, List.getElem?_cons_succ, List.cons.injEq, C.i.injEq, C.b.injEq, and_true, true_and, forall_const, kindsOf_nil, kindsOf_lf, kindsOf_agg, kindsOf_box, boxKinds_nil, boxKinds_lf, boxKinds_agg, boxKinds_box, List.append_nil, List.cons_append, List.nil_append, den_cmp_le, den_cmp_lt, den_cmp_eq, den_cmp_ne, den_cmp_le', den_cmp_lt', den_cmp_eq', den_cmp_ne', den_and, den_and', den_or, den_or', den_not, den_not', den_blit, den_of, ev_var, at_0, at_1, at_2, at_3, at_4, at_5, at_6, at_7, at_skip, c_int, c_bool, c_arr, c_cnt, c_vec, ev_nil, ev_join, ev_sub3, loc_s, int_i, bool_b, rows_s, cs_nil, cs_cons, E.den_lit, E.den_var, E.den_add, E.den_sub, E.den_mul, E.den_quo, E.den_rem, E.den_max, E.den_min, E.den_len, E.den_wr, E.den_cell]
  refine ⟨fun h4 => hR _ _ (chance_no (.inr (.inl (by omega)))), fun h4 => ?_⟩
  refine ⟨fun xs => match xs with | [_, .i i] => 0 ≤ i ∧ i ≤ run.length ∧ ∀ k ∈ run.take i.toNat, 0 ≤ k ∧ k < (safeV b).length | _ => False, fun xs => match xs with | [_, .i i] => ((run.length : Int) - i).toNat | _ => 0, ⟨by omega, by omega, fun k hk => by simp at hk⟩, ?_⟩
  rintro x _ _ i _ _ ⟨i0, i1, hk⟩
  refine ⟨fun hlt => ⟨i0, hlt, ?_⟩, fun hge => ⟨by omega, ?_⟩⟩
  · have hm := getD_mem (l := run) (i := i.toNat) (by omega) 0
    refine ⟨fun hn => hR _ _ (chance_no (.inr (.inr (any_out hm (.inl hn))))), fun hn => ⟨fun hn' => hR _ _ (chance_no (.inr (.inr (any_out hm (.inr (by omega)))))), fun hn' => ⟨⟨by omega, by omega, fun k hk2 => ?_⟩, (show ((run.length : Int) - (i + 1)).toNat < ((run.length : Int) - i).toNat by omega)⟩⟩⟩
    rw [show (i + 1).toNat = i.toNat + 1 by omega, take_snoc (by omega) 0] at hk2
    rcases List.mem_append.1 hk2 with h | h
    · exact hk k h
    · rw [List.mem_singleton] at h; subst h; omega
  · rw [List.take_of_length_le (by omega)] at hk; exact hk
/-- The last chance: found from the end. -/
theorem lastV_snoc (S : List Bool) : ∀ (l : List Int) (x : Int) (i : Nat) (r : Int × Bool), lastV S (l ++ [x]) i r = if S.getD x.toNat false = true then (((i + l.length : Nat) : Int), true) else lastV S l i r
  | [], x, i, r => by simp [lastV]
  | k :: l, x, i, r => by
    rw [List.cons_append, lastV_cons, lastV_snoc S l, lastV_cons]
    rw [show i + 1 + l.length = i + (k :: l).length by simp; omega]
theorem lastV_from (S : List Bool) (l : List Int) (r : Int × Bool) : ∀ n, n ≤ l.length → (∀ j, n ≤ j → j < l.length → S.getD (l.getD j 0).toNat false = false) → lastV S l 0 r = lastV S (l.take n) 0 r := fun n hn h => by
  obtain ⟨m, hm⟩ : ∃ m, l.length = n + m := ⟨l.length - n, by omega⟩
  have : ∀ m, n + m ≤ l.length → lastV S (l.take (n + m)) 0 r = lastV S (l.take n) 0 r := fun m => by
    induction m with
    | zero => intro _; rfl
    | succ m ih =>
      intro hle
      rw [← Nat.add_assoc, take_snoc (by omega) 0, lastV_snoc, if_neg (by rw [h (n + m) (by omega) (by omega)]; simp)]
      exact ih (by omega)
  have h2 := this m (by omega)
  rw [← hm, List.take_length] at h2
  exact h2

theorem safeV_le (b : Blow) : (safeV b).length ≤ 64 := by
  by_cases h : checkV b = 0
  · rw [safeV_ok h, safeF_len]; exact (check_all h).2.1
  · rw [safeV_no h]; exact Nat.zero_le _
def chEl (run : List Int) (k : Nat) : List C := [.i ((run.length - 1 - k : Nat) : Int), .i (run.getD (run.length - 1 - k) 0)]
/-- The rest, from the loop on. -/
theorem ch_rest {F : Nat → Prop} {w0 : World} {Γ Γx : Env} {Q : Exit → Act → World → Prop} {R : List C → Prop} {v0 v1 v2 v3 : Value} {r0 r1 r2 : List (List C)} {b : Blow} {run : List Int} (hr : ints r2 = run) (hR : ∀ x y, chanceV b run = (x, y) → R [.i x, .b y])
    (hρ : Γx.ρ = [.s v0 r0, .s v1 r1, .s v2 r2, .s v3 (ofBools (safeV b))]) (hx : Ext Γ Γx) (hds : Γ.up.ds = []) (hl : run.length ≤ 400) (hin : ∀ k ∈ run, 0 ≤ k ∧ k < (safeV b).length)
    (hk : ∀ F1 w1 Γ1 D, MarkAt F w0 Γ F1 w1 Γ1 D → KOK cch1 R F1 w1 (endQ cch1 Try.f18 ctChance) Γ1 [] Q) {a : Act} {w : World} (hs : Sat Try.prog F w0 Γx chS1 a w) :
    (nav [1, 1, 1, 1] (bodyOf Try.f18)).wp Try.prog Q a w := by
  have e2 : run.length = r2.length := by rw [← hr, ints_len]
  have hdx : Γx.up.ds = [] := by rw [hx.up]; exact hds
  -- the argument
  obtain ⟨q1, q2⟩ := hs.slots 1 _ (rfl : look chS1.sl 1 = some (.one (.lf (.arr 3 (.var 2)))))
  have hat2 : at_ Γx.ρ 2 = .s v2 r2 := by rw [hρ]; rfl
  have h1 : a.eval (.tmp 1) = v2 := by
    unfold slotV at q1
    rw [if_pos (by decide)] at q1
    refine Eq.trans q1 ?_
    simp only [SV.den, S0.den, Lf.den, ev_var, hat2]
    rfl
  have hA : ArrOK Try.prog w (Own Γx chS1) 3 (.s v2 r2) := by
    have := q2 (.arr 3 (.var 2)) (by simp [S0.cells])
    have h2 : ArrOK Try.prog w (Own Γx chS1) 3 ((E.var 2).ev Γx.ρ) := this
    rwa [show (E.var 2).ev Γx.ρ = .s v2 r2 by rw [ev_var, hat2]] at h2
  obtain ⟨ad, cap, hloc⟩ := hA.loc
  have hloc : v2 = .slice ad r2.length cap := hloc
  show (Code.seq (Code.seq (Code.region 5 _ _) (Code.block 0 (Code.rangeFunc (.tmp 22) #[23, 24] (Code.seq (Code.region 6 _ _) (Code.region 7 _ _)) (rangeBody (nav [1, 1, 1, 1, 0, 1, 0] (bodyOf Try.f18)))))) (nav [1, 1, 1, 1, 1] (bodyOf Try.f18))).wp _ _ _ _
  refine wp_seq (wp_seq (wp_region_list (list_val rfl (v := v2) (w' := w) (by simp [execOp, h1]) (list_call rfl (f := 39) (args := #[v2]) (by
    have : (21 : Nat) < a.tmps.size := by rw [hs.size]; decide
    simp [execOp, resolve, invoke, eval_same this, eval_cst, eval_fn]
    exact run_callFunc' callable_backward _ _) ?_))))
  rw [hloc]
  refine Calls.mono (backward_made ad r2.length cap w) ?_
  rintro e w2 ⟨rfl, rfl⟩
  refine ⟨_, rfl, ?_⟩
  show Code.wp _ _ _ _ _
  rw [← hloc]
  generalize hfv : Value.func (.func 56) #[] #[.pointer (some ⟨w.heap.size, 0, none⟩)] = fv
  have hs2 : Sat Try.prog F w0 Γx chS2 ((a.put (some 21) v2).put (some 22) fv) w := (hs.drop (st' := { chS1 with sl := (21, none) :: chS1.sl }) rfl v2).drop rfl fv
  have hev : ((a.put (some 21) v2).put (some 22) fv).eval (.tmp 22) = fv := eval_same (by rw [put_size, hs.size]; decide)
  generalize (a.put (some 21) v2).put (some 22) fv = a2 at *
  obtain ⟨w2, hw2⟩ : ∃ w2, w.alloc (.cells #[v2] 35) = w2 := ⟨_, rfl⟩
  rw [hw2]
  have hb2 : Blk w2 w.heap.size 35 #[v2] := by rw [← hw2]; exact Blk.new w _ _
  have hbel : Below w.heap.size w w2 := by rw [← hw2]; exact below_alloc w _
  have hsz2 : w2.heap.size = w.heap.size + 1 := by rw [← hw2]; simp
  have hFs : ∀ i, F i → i < w.heap.size := fun i hi => Nat.lt_of_lt_of_le (hs.fold i hi) hs.keeps.size
  have hs3 : Sat Try.prog (fun i => F i ∨ i = w.heap.size) w2 { Γx with base := fun b o => Γx.base b o ∨ b = w.heap.size } chS2 a2 w2 := by
    refine hs2.hand hbel.size (fun i hi _ => hbel.block i hi) (fun b o hb => hb.imp id fun e => by omega) (fun b o hb => ?_) fun i hi => ⟨?_, ?_⟩
    · rcases hb with hb | hb
      · have := hs.base b o hb; omega
      · omega
    · rcases hi with hi | hi
      · have := hFs i hi; omega
      · omega
    · rcases hi with hi | hi
      · exact .inl hi
      · exact .inr (.inl (by omega))
  have hlen : (backIt.els [.s v2 r2]).length = run.length := by simp [backIt, backEls, at_, C.rows, hr, ints_len, e2]
  have hel : ∀ (k : Nat) (x : List C), (backIt.els [.s v2 r2])[k]? = some x → k < run.length ∧ x = chEl run k := fun k x hx => by
    have hk : k < run.length := by
      rcases Nat.lt_or_ge k run.length with h | h
      · exact h
      · rw [List.getElem?_eq_none (by rw [hlen]; exact h)] at hx; cases hx
    have h2 : (backEls (ints r2))[k]? = some x := hx
    rw [hr] at h2
    rw [backEls_at hk] at h2
    exact ⟨hk, (Option.some.inj h2).symm⟩
  have hsmall : ∀ n : Int, 0 ≤ n → n ≤ 9223372036854775807 → ∀ m, (C.i n).small m := fun n h0 h1 m => by cases m <;> exact ⟨by omega, h1⟩
  refine wp_block (wpR_none.1 (range_law (it := backIt) (st1 := chS2) (cs := [.s v2 r2]) (vs := [.pointer (some ⟨w.heap.size, 0, none⟩)]) hs3 back_ok callable_back (by rw [hev, ← hfv]) trivial (fun x hx => ?_)
    (fun B k Γk => Γk.ρ = Γx.ρ ∧ Ext { Γx with base := B } Γk ∧ ∀ j, run.length - k ≤ j → j < run.length → (safeV b).getD (run.getD j 0).toNat false = false)
    (fun B k Γk st2 => st2 = chS3 ∧ Γk.ρ = Γx.ρ ++ chEl run k ∧ Ext { Γx with base := B } Γk ∧ ∀ j, run.length - k ≤ j → j < run.length → (safeV b).getD (run.getD j 0).toNat false = false)
    (fun B Γk st3 => st3 = chS4 ∧ ∃ x y, chanceV b run = (x, y) ∧ Γk.ρ = Γx.ρ ++ [.i x, .b y] ∧ Ext { Γx with base := B } Γk)
    (fun B k Γk h => h.2.1) (fun t sv ht => ?_) (fun B k Γk st2 h => h.2.2.1) (fun B Γk st3 h => ?_) (fun B Γk st3 h => by rw [h.1]; exact ⟨rfl, rfl⟩) hdx ?_ ?_ ?_ ?_ ?_ ?_))
  · obtain ⟨k, hk⟩ := List.getElem?_of_mem hx
    rw [(hel k x hk).2]; rfl
  · rw [show ({ Γx with base := fun b o => Γx.base b o ∨ b = w.heap.size } : Env).ρ.length = 4 from hs.len, show ({ Γx with base := fun b o => Γx.base b o ∨ b = w.heap.size } : Env).nb = 4 from hs.nb]
    exact look_wf (f := fun _ v => wfS 4 4 v) (show chS2.sl.all (fun p => wfS 4 4 p.2) = true by kernel_rfl) ht
  · obtain ⟨-, x, y, -, -, h⟩ := h; exact h
  · rintro B k Γk F' w1 W ⟨hρk, hek, -⟩ hS hFF hBB hK
    have hq := (hS.slots 1 _ (rfl : look chS2.sl 1 = some (.one (.lf (.arr 3 (.var 2)))))).2 (.arr 3 (.var 2)) (by simp [S0.cells])
    have hq : ArrOK Try.prog W (Own Γk chS2) 3 ((E.var 2).ev Γk.ρ) := hq
    rw [show (E.var 2).ev Γk.ρ = .s v2 r2 by rw [ev_var, hρk, hat2]] at hq
    refine ⟨[.s v2 r2], [], rfl, ⟨w.heap.size, [v2], rfl, (hK.block _ (.inr rfl)).trans hb2, fun o => hBB _ _ (.inr rfl), ⟨⟨fun n => ?_, rfl, hq.anti fun x o hx => ?_⟩, trivial⟩⟩, rfl⟩
    · have := hs.num.len 2 n; rwa [hat2] at this
    · rcases hx with hx | hx
      · exact .inl (by rw [hek.base]; exact hx)
      · cases hx; exact .inl (by rw [hek.base]; exact hBB _ _ (.inr rfl))
  · intro B F' w1 h
    exact ⟨{ Γx with base := B }, ⟨rfl, Ext.refl _, fun j h1 h2 => by omega⟩, h⟩
  · rintro l B k x Γk F' w1 W hx ⟨hρk, hek, hinv⟩ hS
    obtain ⟨hkl, rfl⟩ := hel k x hx
    obtain ⟨i, hi⟩ : ∃ i : Nat, run.length - 1 - k = i := ⟨_, rfl⟩
    have hgrow := hS.grow (show chS2.wf = true by kernel_rfl) (rs := chEl run k) (hS.num.len.app fun c hc m => by
      unfold chEl at hc
      rw [hi] at hc
      have hm := hin _ (getD_mem (l := run) (i := i) (by omega) 0)
      have hss := safeV_le b
      simp only [List.mem_cons, List.not_mem_nil, or_false] at hc
      rcases hc with rfl | rfl
      · exact hsmall _ (by omega) (by omega) m
      · exact hsmall _ (by omega) (by omega) m)
    rw [hρk] at hgrow
    have hd4 : at_ (Γx.ρ ++ chEl run k) 4 = .i ((run.length - 1 - k : Nat) : Int) := by rw [hρ]; rfl
    have hd5 : at_ (Γx.ρ ++ chEl run k) 5 = .i (run.getD (run.length - 1 - k) 0) := by rw [hρ]; rfl
    have hp1 := hgrow.put (dst := some 23) (sv := .one (.lf (.int (.var 4)))) rfl (one_ok trivial)
    have hp2 := hp1.put (dst := some 24) (sv := .one (.lf (.int (.var 5)))) rfl (one_ok trivial)
    have hp3 := hp2.put (dst := some 8) (sv := .one (.lf (.int (.var 4)))) rfl (one_ok trivial)
    have hp4 := hp3.put (dst := some 9) (sv := .one (.lf (.int (.var 5)))) rfl (one_ok trivial)
    have hz : a2.tmps.size = 30 := hs2.size
    have hd : a2.defers = [] := by rw [hs2.defers]; exact hdx
    have hv4 : (SV.one (.lf (.int (.var 4)))).den { Γk with ρ := Γx.ρ ++ chEl run k } = .int .i64 ((run.length - 1 - k : Nat) : Int) := by simp only [SV.den, S0.den, Lf.den, E.den_var, hd4]; rfl
    have hv5 : (SV.one (.lf (.int (.var 5)))).den { Γk with ρ := Γx.ρ ++ chEl run k } = .int .i64 (run.getD (run.length - 1 - k) 0) := by simp only [SV.den, S0.den, Lf.den, E.den_var, hd5]; rfl
    rw [hv4, hv5] at hp4
    have hact : ({ tmps := (#[23, 24].zip (backIt.val (chEl run k))).foldl (fun t (p, v) => t.setIfInBounds p v) a2.tmps, defers := [] } : Act) = (a2.put (some 23) (.int .i64 ((run.length - 1 - k : Nat) : Int))).put (some 24) (.int .i64 (run.getD (run.length - 1 - k) 0)) := by
      simp [backIt, elV, chEl, C.val, Act.put, hd]
    rw [hact]
    refine wpIn_seq (assign_one (s := 23) rfl rfl rfl ?_)
    show wpR _ _ _ _ _ _
    refine assign_one (s := 24) rfl rfl rfl ?_
    refine ⟨{ Γk with ρ := Γx.ρ ++ chEl run k }, chS3, ⟨rfl, rfl, ⟨⟨_, rfl⟩, fun b hb => hek.blk b hb, hek.nb, hek.base, hek.up⟩, hinv⟩, ?_⟩
    have g1 : ((a2.put (some 23) (.int .i64 ((run.length - 1 - k : Nat) : Int))).put (some 24) (.int .i64 (run.getD (run.length - 1 - k) 0))).eval (.tmp 23) = .int .i64 ((run.length - 1 - k : Nat) : Int) := by
      rw [eval_other (by decide), eval_same (by rw [hz]; decide)]
    have g2 : ∀ v, (((a2.put (some 23) (.int .i64 ((run.length - 1 - k : Nat) : Int))).put (some 24) (.int .i64 (run.getD (run.length - 1 - k) 0))).put (some 8) v).eval (.tmp 24) = .int .i64 (run.getD (run.length - 1 - k) 0) := fun v => by
      rw [eval_other (by decide), eval_same (by rw [put_size, hz]; decide)]
    rw [g2, g1]
    exact hp4
  · rintro l B k x Γ2 st2 F' w1 a3 W hx ⟨rfl, hρ2, he2, hinv⟩ hS
    obtain ⟨hkl, rfl⟩ := hel k x hx
    obtain ⟨i, hi⟩ : ∃ i : Nat, run.length - 1 - k = i := ⟨_, rfl⟩
    have hm := hin _ (getD_mem (l := run) (i := i) (by omega) 0)
    have hvc : VC cch1 (fun _ => True) tch2 Γ2.ρ [fun _ => (safeV b).getD (run.getD i 0).toNat false = false, fun xs => xs = [.i (i : Int), .b true] ∧ (safeV b).getD (run.getD i 0).toNat false = true] := by
      rw [hρ2, hρ]
      unfold tch2 chEl
      rw [hi]
      simp only [VC, allC, List.map_cons, List.map_nil, List.length_cons, List.length_nil, List.getElem?_cons_zero, List.getElem?_cons_succ, List.cons.injEq, C.i.injEq, C.b.injEq, and_true, true_and, forall_const, kindsOf_nil, kindsOf_lf, kindsOf_agg, kindsOf_box, boxKinds_nil, boxKinds_lf, boxKinds_agg, boxKinds_box, List.append_nil, List.cons_append, List.nil_append, den_cmp_le, den_cmp_lt, den_cmp_eq, den_cmp_ne, den_cmp_le', den_cmp_lt', den_cmp_eq', den_cmp_ne', den_and, den_and', den_or, den_or', den_not, den_not', den_blit, den_of, ev_var, at_0, at_1, at_2, at_3, at_4, at_5, at_6, at_7, at_skip, c_int, c_bool, c_arr, c_cnt, c_vec, ev_nil, ev_join, ev_sub3, loc_s, int_i, bool_b, rows_s, cs_nil, cs_cons, E.den_lit, E.den_var, E.den_add, E.den_sub, E.den_mul, E.den_quo, E.den_rem, E.den_max, E.den_min, E.den_len, E.den_wr, E.den_cell, ev_cell, int_at, bool_at, bools_of, ofBools_len]
      exact ⟨by omega, by omega, fun h => h, fun h => h⟩
    refine wpIn_mono (round_sound (R := fun _ => True) ch_cx ch_tree2 (by kernel_rfl) (by kernel_rfl) (Γ0 := { Γx with base := B }) (n := 4) hs.len (by rw [show ({ Γx with base := B } : Env).nb = 4 from hs.nb]; decide) (by rw [show ({ Γx with base := B } : Env).nb = 4 from hs.nb]; decide) he2 hvc hS) ?_
    intro e a4 W4 hq
    cases e with
    | normal =>
      obtain ⟨xs, Γ3, hty, hI, hρ3, he3, hS3⟩ := hq
      have : xs = [] := by cases xs with | nil => rfl | cons x xs => exact hty.elim
      subst this
      refine ⟨Γ3, ⟨by rw [hρ3, List.append_nil], he3, fun j h1 h2 => ?_⟩, hS3⟩
      rcases Nat.lt_or_ge j (run.length - k) with h | h
      · rw [show j = i by omega]; exact hI
      · exact hinv j h h2
    | ret =>
      obtain ⟨xs, Γ3, hty, ⟨rfl, hI⟩, hρ3, he3, hS3⟩ := hq
      refine ⟨Γ3, chS4, ⟨rfl, (i : Int), true, ?_, hρ3, he3⟩, hS3⟩
      rw [chance_of (by omega) hl hin, lastV_from _ _ _ (i + 1) (by omega) fun j h1 h2 => hinv j (by omega) h2, take_snoc (by omega) 0, lastV_snoc, if_pos hI]
      simp; omega
    | exit id => exact hq.elim
    | goto t => exact hq.elim
    | panic c => exact hq.elim
    | outgrown => exact hq.elim
  · rintro B F1 w1 D Γk W ⟨hρk, hek, hinv⟩ hmk hS
    have hmk2 := hmk.weaken (F := F) (w0 := w0) (Γ := Γ) (fun i hi => .inl hi) (hs.keeps.trans (Keeps.of_below hbel hFs)) (fun b o hb => .inl (by rw [hx.base]; exact hb)) (by show Γx.up.sl = Γ.up.sl; rw [hx.up]) hx.ρ hx.blk hx.nb
    show Code.wp _ _ _ _ _
    refine wpR_none.1 (exec_sound (R := R) ch_cx _ _ _ _ ch_tree3 _ [] _ (hk F1 w1 _ D hmk2) rfl ?_ _ W (hS.relvl 0))
    refine hR 0 false ?_
    by_cases h0 : (safeV b).length = 0
    · exact chance_no (.inl h0)
    · rw [chance_of h0 hl hin, lastV_from _ _ _ 0 (Nat.zero_le _) fun j _ h2 => hinv j (by rw [hlen]; omega) h2]
      rfl
  · rintro B F1 w1 D Γ3 st3 W ⟨rfl, x, y, hc, hρ3, he3⟩ hmk hS
    have hmk2 := hmk.weaken (F := F) (w0 := w0) (Γ := Γ) (fun i hi => .inl hi) (hs.keeps.trans (Keeps.of_below hbel hFs)) (fun b o hb => .inl (by rw [hx.base]; exact hb)) (by show Γx.up.sl = Γ.up.sl; rw [hx.up]) hx.ρ hx.blk hx.nb
    show Q .ret _ W
    refine hk F1 w1 _ D hmk2 .ret { chS4 with lvl := 0 } _ _ [] ch_tree4 (Ext.refl _) (List.prefix_refl _) rfl ?_ _ W (hS.relvl 0)
    show R (cs_ Γ3.ρ _)
    rw [hρ3, hρ]
    exact hR x y hc
theorem chance_ok : tab.ok 18 := by
  refine Tab.of_ct rfl rfl ⟨_, Try.func18, by decide, rfl⟩ ?_ ctF_det
  refine ct_ok_marks (cx := cch1) (bds := []) ch_cx Try.func18 (c := bodyOf Try.f18) rfl ⟨by decide, by decide, by decide⟩ fun cs hcs _ => ⟨bds_nil _, fun F w0 Γ a w Q hρ hds hs hk hm => ?_⟩
  obtain ⟨v0, r0, v1, r1, v2, r2, rfl⟩ : ∃ v0 r0 v1 r1 v2 r2, cs = [.s v0 r0, .s v1 r1, .s v2 r2] := by
    match cs, hcs with
    | [c1, c2, c3], ⟨⟨_, v0, r0, _, e1, _⟩, ⟨_, v1, r1, _, e2, _⟩, ⟨_, v2, r2, _, e3, _⟩, _⟩ => exact ⟨v0, r0, v1, r1, v2, r2, by rw [e1, e2, e3]⟩
  have hR : ∀ x y, chanceV (blowOf [.s v0 r0, .s v1 r1]) (ints r2) = (x, y) → ctChance.post [.s v0 r0, .s v1 r1, .s v2 r2] [.i x, .b y] := fun x y h => by
    obtain ⟨rfl, rfl⟩ := pr_of _ x y h
    exact rfl
  rw [ch_split]
  refine pre_seg (R := ctChance.post [.s v0 r0, .s v1 r1, .s v2 r2]) ch_cx (Ls := []) ch_tree1 (by kernel_rfl) rfl (by rw [hρ]; exact ch_vc1 rfl rfl hR) hs ?_ ?_
  · intro xs Γx a' wp hxs hI hρ' he hs'
    match xs, hxs, hI with
    | [.s v3 rows], _, hI =>
      obtain ⟨rfl, hl, hin⟩ := hI
      exact ch_rest rfl hR (by rw [hρ', hρ]; rfl) he hds hl hin hm hs'
  · intro x st' T' Γ' Ls' hx hk' he hlen' hv' a' w' hs'
    exact hk x st' T' Γ' Ls' hk' he List.nil_prefix hlen' hv' a' w' hs'
end Go.Proofs.Ytbgofenplhdllaa
/- Wide structs: the cells by their number, never written out. -/
namespace Go.Proofs.Ytbgofenplhdllaa
open Go.RowKit
set_option linter.unusedSimpArgs false
set_option linter.unusedVariables false

theorem allC_intro {P : Program} : ∀ {ks : List Lk} {p : List C → Prop}, (∀ cs, CTy P ks cs → p cs) → allC P ks p
  | [], p, h => h [] trivial
  | .int :: ks, p, h => fun n h1 h2 => allC_intro fun cs hc => h (.i n :: cs) ⟨⟨fun m => by cases m <;> exact ⟨h1, h2⟩, n, rfl⟩, hc⟩
  | .bool :: ks, p, h => fun t => allC_intro fun cs hc => h (.b t :: cs) ⟨⟨fun m => by cases m <;> trivial, t, rfl⟩, hc⟩
  | .arr t :: ks, p, h => fun v rows d h1 h2 => allC_intro fun cs hc => h (.s v rows :: cs) ⟨⟨h2, v, rows, d, rfl, h1⟩, hc⟩
  | .vec t :: ks, p, h => fun v rows d h1 h2 => allC_intro fun cs hc => h (.s v rows :: cs) ⟨⟨h2, v, rows, d, rfl, h1⟩, hc⟩
  | .opq :: ks, p, h => fun v => allC_intro fun cs hc => h (.s v [] :: cs) ⟨⟨fun m => by cases m <;> simp [C.small], v, rfl⟩, hc⟩
theorem at_lt {cs l : List C} {i : Nat} (h : i < cs.length) : at_ (cs ++ l) i = at_ cs i := at_ext h
theorem at_end {cs l : List C} {i j : Nat} (h : i = cs.length + j) : at_ (cs ++ l) i = at_ l j := by
  subst h
  unfold at_
  rw [List.getD_eq_getElem?_getD, List.getElem?_append_right (by omega), Nat.add_sub_cancel_left, ← List.getD_eq_getElem?_getD]
theorem CTy.int {P : Program} : ∀ {ks : List Lk} {cs : List C}, CTy P ks cs → ∀ {i : Nat}, ks[i]? = some .int → at_ cs i = .i (at_ cs i).int ∧ -9223372036854775808 ≤ (at_ cs i).int ∧ (at_ cs i).int ≤ 9223372036854775807
  | k :: ks, c :: cs, h, 0, hi => by
    cases hi
    obtain ⟨⟨hs, n, rfl⟩, -⟩ := h
    exact ⟨rfl, (hs 0)⟩
  | k :: ks, c :: cs, h, i + 1, hi => CTy.int h.2 (i := i) (by simpa using hi)
  | [], _, _, i, hi => by simp at hi
/-! A tree, one node after another -/
section
variable {cx : Cx} {R : List C → Prop} {ρ : List C} {Ls : List (List C → Prop)} {t e : Tree}
theorem VC.callI {f : Nat} {args : List Lf} {ct : Ct} (h : cx.ct f = some ct) (hpre : ct.pre (cs_ ρ args)) (hk : ∀ rs, CTy cx.P (kindsOf ct.res ++ boxKinds ct.args) rs → ct.post (cs_ ρ args) rs → VC cx R t (ρ ++ rs) Ls) : VC cx R (.call f args t) ρ Ls := by
  simp only [VC, h]
  exact ⟨hpre, allC_intro hk⟩
theorem VC.arrI {rows : List (List Lf)} (h : ∀ v : Value, VC cx R t (ρ ++ [.s v (rows.map (cs_ ρ))]) Ls) : VC cx R (.arr rows t) ρ Ls := h
theorem VC.dfnI {x : E} (h : VC cx R t (ρ ++ [x.ev ρ]) Ls) : VC cx R (.dfn x t) ρ Ls := h
theorem VC.posI {b : B} (h : b.den ρ = true) (h1 : VC cx R t ρ Ls) : VC cx R (.split b t e) ρ Ls := ⟨fun _ => h1, fun h2 => absurd h2 (by rw [h]; simp)⟩
theorem VC.negI {b : B} (h : b.den ρ = false) (h1 : VC cx R e ρ Ls) : VC cx R (.split b t e) ρ Ls := ⟨fun h2 => absurd h2 (by rw [h]; simp), fun _ => h1⟩
theorem VC.obI {b : B} (h : b.den ρ = true) (h1 : VC cx R t ρ Ls) : VC cx R (.ob b t) ρ Ls := ⟨h, h1⟩
theorem VC.retI {l : List Lf} (h : R (cs_ ρ l)) : VC cx R (.ret l) ρ Ls := h
end
end Go.Proofs.Ytbgofenplhdllaa
/- House: static pressures; the examples; what every statement asks. -/
namespace Go.Proofs.Ytbgofenplhdllaa
open Go.RowKit
set_option linter.unusedSimpArgs false
set_option linter.unusedVariables false

theorem inV_iff {n a b : Int} : inV n a b = true ↔ a ≤ n ∧ n ≤ b := by simp [inV]
theorem fluids_iff {cs : List C} : fluidsV cs = true ↔ (1 ≤ n_ cs 3 ∧ n_ cs 3 ≤ 1048576) ∧ (0 ≤ n_ cs 4 ∧ n_ cs 4 ≤ n_ cs 3) ∧ (0 ≤ n_ cs 5 ∧ n_ cs 5 ≤ 40000) ∧ (0 ≤ n_ cs 6 ∧ n_ cs 6 ≤ 40000) ∧ (0 ≤ n_ cs 7 ∧ n_ cs 7 ≤ 68719476736) := by
  unfold fluidsV
  simp only [Bool.and_eq_true, inV_iff]
  constructor
  · rintro ⟨⟨⟨⟨h1, h2⟩, h3⟩, h4⟩, h5⟩; exact ⟨h1, h2, h3, h4, h5⟩
  · rintro ⟨h1, h2, h3, h4, h5⟩; exact ⟨⟨⟨⟨h1, h2⟩, h3⟩, h4⟩, h5⟩
theorem static_no {cs : List C} {z : Int} (h : fluidsV cs = false ∨ ¬ (0 ≤ z ∧ z ≤ n_ cs 3)) : staticV cs z = 0 := by
  unfold staticV; rw [if_neg]; rintro ⟨h1, h2⟩; rcases h with h | h
  · rw [h] at h1; cases h1
  · exact h h2
theorem static_of {cs : List C} {z : Int} (h : fluidsV cs = true) (h2 : 0 ≤ z ∧ z ≤ n_ cs 3) : staticV cs z = n_ cs 7 + n_ cs 5 * min z (n_ cs 4) + n_ cs 6 * max 0 (z - n_ cs 4) := by
  unfold staticV; rw [if_pos ⟨h, h2⟩]
theorem mul_bd {a b A B : Int} (h1 : 0 ≤ a) (h2 : a ≤ A) (h3 : 0 ≤ b) (h4 : b ≤ B) : 0 ≤ a * b ∧ a * b ≤ A * B :=
  ⟨Int.mul_nonneg h1 h3, Int.mul_le_mul h2 h4 h3 (by omega)⟩
theorem static_zero {cs : List C} (h : ¬ ((1 ≤ n_ cs 3 ∧ n_ cs 3 ≤ 1048576) ∧ (0 ≤ n_ cs 4 ∧ n_ cs 4 ≤ n_ cs 3) ∧ (0 ≤ n_ cs 5 ∧ n_ cs 5 ≤ 40000) ∧ (0 ≤ n_ cs 6 ∧ n_ cs 6 ≤ 40000) ∧ (0 ≤ n_ cs 7 ∧ n_ cs 7 ≤ 68719476736) ∧ 0 ≤ n_ cs 39 ∧ n_ cs 39 ≤ n_ cs 3)) : ctStatic.post cs [C.i 0] := by
  show [_] = [_]
  rw [static_no]
  by_cases hf : fluidsV cs = true
  · have := fluids_iff.1 hf
    exact .inr (by omega)
  · exact .inl (by simpa using hf)
theorem n_fold (cs : List C) (i : Nat) : (at_ cs i).int = n_ cs i := rfl
theorem static_ok : tab.ok 27 := by
  refine Tab.of_ct rfl rfl ⟨_, Try.func27, by decide, rfl⟩ ?_ ctF_det
  refine ct_ok (cx := cstatic) (Tab.cx_ok (all_cons within_ok all_nil) fxstatic) Try.func27 (bds := []) (T := tstatic) (by kernel_rfl) ?_
  unfold tstatic
  refine allC_intro fun cs hcs _ => ?_
  have hl : cs.length = 40 := hcs.len; refine ⟨bds_nil _, ?_⟩; simp only [VC, allC, List.map_cons, List.map_nil, List.length_cons, List.length_nil, List.getElem?_cons_zero, List.getElem?_cons_succ, List.cons.injEq, C.i.injEq, C.b.injEq, and_true, true_and, forall_const, kindsOf_nil, kindsOf_lf, kindsOf_agg, kindsOf_box, boxKinds_nil, boxKinds_lf, boxKinds_agg, boxKinds_box, List.append_nil, List.cons_append, List.nil_append, den_cmp_le, den_cmp_lt, den_cmp_eq, den_cmp_ne, den_cmp_le', den_cmp_lt', den_cmp_eq', den_cmp_ne', den_and, den_and', den_or, den_or', den_not, den_not', den_blit, den_of, ev_var, at_0, at_1, at_2, at_3, at_4, at_5, at_6, at_7, at_skip, c_int, c_bool, c_arr, c_cnt, c_vec, ev_nil, ev_join, ev_sub3, loc_s, int_i, bool_b, rows_s, cs_nil, cs_cons, E.den_lit, E.den_var, E.den_add, E.den_sub, E.den_mul, E.den_quo, E.den_rem, E.den_max, E.den_min, E.den_len, E.den_wr, E.den_cell, List.append_assoc]; (try simp (disch := (rw [hl]; decide)) only [at_lt]); simp only [n_fold]
  have no : ¬ ((1 ≤ n_ cs 3 ∧ n_ cs 3 ≤ 1048576) ∧ (0 ≤ n_ cs 4 ∧ n_ cs 4 ≤ n_ cs 3) ∧ (0 ≤ n_ cs 5 ∧ n_ cs 5 ≤ 40000) ∧ (0 ≤ n_ cs 6 ∧ n_ cs 6 ≤ 40000) ∧ (0 ≤ n_ cs 7 ∧ n_ cs 7 ≤ 68719476736) ∧ 0 ≤ n_ cs 39 ∧ n_ cs 39 ≤ n_ cs 3) → ctStatic.post cs [C.i 0] := static_zero
  refine ⟨fun h => ⟨fun h2 => ⟨fun h3 => ⟨fun h4 => ⟨fun h5 => no (by omega), fun h5 => ⟨fun h6 => no (by omega), fun h6 => ?_⟩⟩, fun h4 => no (by omega)⟩, fun h3 => no (by omega)⟩, fun h2 => no (by omega)⟩, fun h => no (by omega)⟩
  show [_] = [_]
  rw [static_of (fluids_iff.2 ⟨h, h2, h3, h4, h5⟩) h6]
theorem shown_ok : tab.ok 30 := by
  refine Tab.of_ct rfl rfl ⟨_, Try.func30, by decide, rfl⟩ ?_ (fun h => by cases h)
  refine ct_ok (cx := cshown) (Tab.cx_ok all_nil) Try.func30 (bds := []) (T := tshown) (by kernel_rfl) ?_
  unfold tshown
  simp only [VC, allC, List.map_cons, List.map_nil, List.length_cons, List.length_nil, List.getElem?_cons_zero, List.getElem?_cons_succ, List.cons.injEq, C.i.injEq, C.b.injEq, and_true, true_and, forall_const, kindsOf_nil, kindsOf_lf, kindsOf_agg, kindsOf_box, boxKinds_nil, boxKinds_lf, boxKinds_agg, boxKinds_box, List.append_nil, List.cons_append, List.nil_append, den_cmp_le, den_cmp_lt, den_cmp_eq, den_cmp_ne, den_cmp_le', den_cmp_lt', den_cmp_eq', den_cmp_ne', den_and, den_and', den_or, den_or', den_not, den_not', den_blit, den_of, ev_var, at_0, at_1, at_2, at_3, at_4, at_5, at_6, at_7, at_skip, c_int, c_bool, c_arr, c_cnt, c_vec, ev_nil, ev_join, ev_sub3, loc_s, int_i, bool_b, rows_s, cs_nil, cs_cons, E.den_lit, E.den_var, E.den_add, E.den_sub, E.den_mul, E.den_quo, E.den_rem, E.den_max, E.den_min, E.den_len, E.den_wr, E.den_cell, ctBlow]
  intros
  refine ⟨bds_nil _, ?_⟩
  intros
  rfl
theorem turned_ok : tab.ok 31 := by
  refine Tab.of_ct rfl rfl ⟨_, Try.func31, by decide, rfl⟩ ?_ (fun h => by cases h)
  refine ct_ok (cx := cturned) (Tab.cx_ok all_nil) Try.func31 (bds := []) (T := tturned) (by kernel_rfl) ?_
  unfold tturned
  simp only [VC, allC, List.map_cons, List.map_nil, List.length_cons, List.length_nil, List.getElem?_cons_zero, List.getElem?_cons_succ, List.cons.injEq, C.i.injEq, C.b.injEq, and_true, true_and, forall_const, kindsOf_nil, kindsOf_lf, kindsOf_agg, kindsOf_box, boxKinds_nil, boxKinds_lf, boxKinds_agg, boxKinds_box, List.append_nil, List.cons_append, List.nil_append, den_cmp_le, den_cmp_lt, den_cmp_eq, den_cmp_ne, den_cmp_le', den_cmp_lt', den_cmp_eq', den_cmp_ne', den_and, den_and', den_or, den_or', den_not, den_not', den_blit, den_of, ev_var, at_0, at_1, at_2, at_3, at_4, at_5, at_6, at_7, at_skip, c_int, c_bool, c_arr, c_cnt, c_vec, ev_nil, ev_join, ev_sub3, loc_s, int_i, bool_b, rows_s, cs_nil, cs_cons, E.den_lit, E.den_var, E.den_add, E.den_sub, E.den_mul, E.den_quo, E.den_rem, E.den_max, E.den_min, E.den_len, E.den_wr, E.den_cell, ctBlow]
  intros
  refine ⟨bds_nil _, ?_⟩
  intros
  rfl
theorem seas_ok : tab.ok 32 := by
  refine Tab.of_ct rfl rfl ⟨_, Try.func32, by decide, rfl⟩ ?_ (fun h => by cases h)
  refine ct_ok (cx := cseas) (Tab.cx_ok all_nil) Try.func32 (bds := []) (T := tseas) (by kernel_rfl) ?_
  refine fun _ => ⟨bds_nil _, ?_⟩
  exact ⟨rfl, rfl, rfl, rfl, rfl, rfl, rfl, rfl, rfl, rfl, rfl⟩
end Go.Proofs.Ytbgofenplhdllaa
/- House: what every statement asks. -/
namespace Go.Proofs.Ytbgofenplhdllaa
open Go.RowKit
set_option linter.unusedSimpArgs false
set_option linter.unusedVariables false

theorem static_seas {cs : List C} (h3 : n_ cs 3 = 3000) (h4 : n_ cs 4 = 1000) (h5 : n_ cs 5 = 9810) (h6 : n_ cs 6 = 12000) (h7 : n_ cs 7 = 5) (h39 : n_ cs 39 = 2000) : staticV cs (n_ cs 39) = 21810005 := by
  rw [static_of (fluids_iff.2 ⟨by omega, by omega, by omega, by omega, by omega⟩) (by omega), h4, h5, h6, h7, h39]
  rfl
theorem chance_turned : chanceV turnedB [1, 0, 2, 2] = (1, true) := by kernel_rfl
theorem awake_tail {A : List C} (hlA : A.length = 45) : VC cawake (ctAwake.post []) (.call 30 [] (.call 16 [.arr 4 (.var 45), .arr 35 (.var 46)] (.ret [.bool (.cmp .eq (.var 47) (.lit 0))]))) A [] := by
  refine VC.callI (ct := ctBlow shownB) rfl trivial fun rs5 hrs5 hb5 => ?_
  match rs5, hrs5 with
  | [c5, c6], _ =>
  refine VC.callI (ct := ctCheckB) rfl trivial fun rs6 _ h6 => ?_
  have e45 : at_ (A ++ [c5, c6]) 45 = c5 := by rw [at_end (j := 0) (by rw [hlA])]; rfl
  have e46 : at_ (A ++ [c5, c6]) 46 = c6 := by rw [at_end (j := 1) (by rw [hlA])]; rfl
  have h6 : rs6 = [.i (checkV (blowOf [at_ (A ++ [c5, c6]) 45, at_ (A ++ [c5, c6]) 46]))] := h6
  rw [e45, e46, show blowOf [c5, c6] = shownB from hb5, show checkV shownB = 0 by kernel_rfl] at h6
  subst h6
  refine VC.retI ?_
  show [C.b (B.den (A ++ [c5, c6] ++ [C.i 0]) (.cmp .eq (.var 47) (.lit 0)))] = [C.b true]
  have : (B.den (A ++ [c5, c6] ++ [C.i 0]) (.cmp .eq (.var 47) (.lit 0))) = true := by
    simp only [den_cmp_eq, E.den_var, E.den_lit]
    rw [at_end (j := 0) (by simp [hlA])]; rfl
  rw [this]
theorem awake_ok : tab.ok 12 := by
  refine Tab.of_ct rfl rfl ⟨_, Try.func12, by decide, rfl⟩ ?_ ctF_det
  refine ct_ok (cx := cawake) (Tab.cx_ok (all_cons turned_ok (all_cons shown_ok (all_cons seas_ok (all_cons chance_ok (all_cons static_ok (all_cons check_ok all_nil))))))) Try.func12 (bds := []) (T := tawake) (by kernel_rfl) ?_
  refine fun _ => ⟨bds_nil _, ?_⟩
  unfold tawake
  refine VC.callI (ct := ctBlow turnedB) rfl trivial fun rs hrs hb => ?_
  match rs, hrs with
  | [c0, c1], _ =>
  refine VC.arrI fun v => VC.callI (ct := ctChance) rfl trivial fun rs2 _ h2 => ?_
  have h2 : rs2 = [.i (chanceV (blowOf [c0, c1]) [1, 0, 2, 2]).1, .b (chanceV (blowOf [c0, c1]) [1, 0, 2, 2]).2] := h2
  rw [show blowOf [c0, c1] = turnedB from hb, chance_turned] at h2
  subst h2
  refine VC.posI rfl (VC.posI rfl (VC.callI (ct := ctSeas) rfl trivial fun rs3 hr3 h3 => VC.callI (ct := ctStatic) rfl trivial fun rs4 _ h4 => ?_))
  obtain ⟨g3, g4, g5, g6, g7, -⟩ := h3
  have h4 : rs4 = [.i 21810005] := Eq.trans h4 (congrArg (fun z => [C.i z]) (static_seas g3 g4 g5 g6 g7 rfl))
  subst h4
  have hl3 : rs3.length = 39 := CTy.len hr3
  refine VC.posI ?_ (awake_tail (by simp [hl3]))
  simp only [den_cmp_eq, E.den_var, E.den_lit]
  rw [at_end (j := 0) (by simp [hl3])]; rfl
end Go.Proofs.Ytbgofenplhdllaa
/- House: the wild well: plain law. -/
namespace Go.Proofs.Ytbgofenplhdllaa
open Go.RowKit
set_option linter.unusedSimpArgs false
set_option linter.unusedVariables false

/-- The place of a state. -/
def ix (T v c : Nat) : Nat := v * (T + 1) + c
def wildM (L R T i : Nat) : List Int :=
  if i % (T + 1) = T then [(i : Int), (i : Int)] else [((ix T (min L (i / (T + 1) + R)) (i % (T + 1)) : Nat) : Int), ((ix T (min L (i / (T + 1) + R)) (i % (T + 1) + 1) : Nat) : Int)]
def wildB (L R T : Nat) : Blow := ⟨(List.range ((L + 1) * (T + 1))).map fun i => decide (i / (T + 1) = L), (List.range ((L + 1) * (T + 1))).map (wildM L R T)⟩
theorem ix_lt {L T v c : Nat} (hv : v ≤ L) (hc : c ≤ T) : ix T v c < (L + 1) * (T + 1) := by
  have h1 : v * (T + 1) ≤ L * (T + 1) := Nat.mul_le_mul_right _ hv
  have h2 : (L + 1) * (T + 1) = L * (T + 1) + (T + 1) := by rw [Nat.add_mul, Nat.one_mul]
  unfold ix; omega
theorem ix_div {T v c : Nat} (hc : c ≤ T) : ix T v c / (T + 1) = v := by
  unfold ix
  rw [Nat.mul_comm, Nat.mul_add_div (Nat.succ_pos _), Nat.div_eq_of_lt (by omega), Nat.add_zero]
theorem ix_mod {T v c : Nat} (hc : c ≤ T) : ix T v c % (T + 1) = c := by
  unfold ix
  rw [Nat.mul_comm, Nat.mul_add_mod, Nat.mod_eq_of_lt (by omega)]
theorem wild_len (L R T : Nat) : (wildB L R T).lost.length = (L + 1) * (T + 1) := by simp [wildB]
theorem wild_mlen (L R T : Nat) : (wildB L R T).moves.length = (L + 1) * (T + 1) := by simp [wildB]
theorem wild_lost {L R T i : Nat} (h : i < (L + 1) * (T + 1)) : (wildB L R T).lost.getD i false = decide (i / (T + 1) = L) := by
  simp [wildB, List.getD_eq_getElem?_getD, h]
theorem wild_moves {L R T i : Nat} (h : i < (L + 1) * (T + 1)) : (wildB L R T).moves.getD i [] = wildM L R T i := by
  simp [wildB, List.getD_eq_getElem?_getD, h]
end Go.Proofs.Ytbgofenplhdllaa
/- House: the way from a state: plain law. -/
namespace Go.Proofs.Ytbgofenplhdllaa
open Go.RowKit
set_option linter.unusedSimpArgs false
set_option linter.unusedVariables false

/-- The first move that is safe. -/
def nextW (S : List Bool) (l : List Int) : Int := (l.find? fun k => S.getD k.toNat false).getD 0
def wayGo (M : List (List Int)) (S : List Bool) : Nat → List Int → Int → List Int
  | 0, out, s => out
  | n + 1, out, s => if out.contains s = true then out ++ [s] else wayGo M S n (out ++ [s]) (nextW S (M.getD s.toNat []))
def wayV (b : Blow) (s : Int) : List Int :=
  if 0 ≤ s ∧ s < (safeV b).length ∧ (safeV b).getD s.toNat false = true then wayGo b.moves (safeV b) (b.lost.length + 1) [] s else []
theorem wayGo_met {M : List (List Int)} {S : List Bool} {n : Nat} {out : List Int} {s : Int} (h : out.contains s = true) : wayGo M S (n + 1) out s = out ++ [s] := by rw [wayGo, if_pos h]
theorem wayGo_on {M : List (List Int)} {S : List Bool} {n : Nat} {out : List Int} {s : Int} (h : out.contains s = false) : wayGo M S (n + 1) out s = wayGo M S n (out ++ [s]) (nextW S (M.getD s.toNat [])) := by rw [wayGo, if_neg (by rw [h]; simp)]
theorem nodup_le : ∀ (n : Nat) (l : List Int), l.Nodup → (∀ x ∈ l, 0 ≤ x ∧ x < n) → l.length ≤ n
  | 0, l, _, h => by
    cases l with
    | nil => exact Nat.le_refl _
    | cons x l => have := h x (List.mem_cons_self ..); omega
  | n + 1, l, hn, h => by
    have h1 := nodup_le n (l.filter fun x => decide (x ≠ (n : Int))) (hn.sublist List.filter_sublist) fun x hx => by
      simp at hx
      have := h x hx.1
      omega
    have h2 : l.length = (l.filter fun x => decide (x ≠ (n : Int))).length + (l.filter fun x => !decide (x ≠ (n : Int))).length := by
      rw [← List.countP_eq_length_filter, ← List.countP_eq_length_filter]
      refine (List.length_eq_countP_add_countP (fun x : Int => decide (x ≠ (n : Int)))).trans ?_
      congr 1
      exact List.countP_congr fun x _ => by simp
    have h3 : (l.filter fun x => !decide (x ≠ (n : Int))).length ≤ 1 := by
      have hc := List.nodup_iff_count.1 hn (n : Int)
      rw [← List.countP_eq_length_filter]
      have : l.countP (fun x => !decide (x ≠ (n : Int))) = l.count (n : Int) := by
        unfold List.count
        exact List.countP_congr fun x _ => by simp
      omega
    omega
/-- What a way has when a state comes. -/
structure WayAt (b : Blow) (i : Int) (out : List Int) (s : Int) : Prop where
  nodup : out.Nodup
  inn : ∀ x ∈ out, 0 ≤ x ∧ x < b.lost.length ∧ (safeV b).getD x.toNat false = true
  s0 : 0 ≤ s ∧ s < b.lost.length ∧ (safeV b).getD s.toNat false = true
  chain : ∀ k : Nat, k < out.length → (k = 0 → out.getD 0 0 = i) ∧ (0 < k → out.getD k 0 ∈ b.moves.getD (out.getD (k - 1) 0).toNat [])
  last : (out = [] → s = i) ∧ (0 < out.length → s ∈ b.moves.getD (out.getD (out.length - 1) 0).toNat [])
theorem WayAt.len {b : Blow} {i s : Int} {out : List Int} (h : WayAt b i out s) : out.length ≤ b.lost.length := nodup_le _ _ h.nodup fun x hx => ⟨(h.inn x hx).1, (h.inn x hx).2.1⟩
theorem nextW_spec {b : Blow} (hc : checkV b = 0) {s : Int} (h0 : 0 ≤ s) (hs : (safeV b).getD s.toNat false = true) : nextW (safeV b) (b.moves.getD s.toNat []) ∈ b.moves.getD s.toNat [] ∧ 0 ≤ nextW (safeV b) (b.moves.getD s.toNat []) ∧ nextW (safeV b) (b.moves.getD s.toNat []) < b.lost.length ∧ (safeV b).getD (nextW (safeV b) (b.moves.getD s.toNat [])).toNat false = true := by
  rw [safeV_ok hc] at *
  obtain ⟨h1, h2, h3⟩ := safeF_iff.1 hs
  obtain ⟨k, hk, hk2⟩ := List.any_eq_true.1 h2
  have hat := check_at hc h1
  cases hf : (b.moves.getD s.toNat []).find? (fun k => (safeF b).getD k.toNat false) with
  | none => rw [List.find?_eq_none] at hf; exact absurd hk2 (hf k hk)
  | some x =>
    have hm := List.mem_of_find?_eq_some hf
    have hp := List.find?_some hf
    have e : nextW (safeF b) (b.moves.getD s.toNat []) = x := by unfold nextW; rw [hf]; rfl
    rw [e]
    have := hat.2.2 x hm
    exact ⟨hm, this.1, this.2, hp⟩
theorem getD_app {α : Type} {l : List α} {x d : α} {k : Nat} : (l ++ [x]).getD k d = if k < l.length then l.getD k d else if k = l.length then x else d := by
  simp only [List.getD_eq_getElem?_getD]
  split
  · rename_i h; rw [List.getElem?_append_left h]
  · rename_i h
    rw [List.getElem?_append_right (by omega)]
    split
    · rename_i h2; subst h2; simp
    · rename_i h2; rw [List.getElem?_eq_none (by simp; omega)]; rfl
theorem WayAt.step {b : Blow} (hc : checkV b = 0) {i s : Int} {out : List Int} (h : WayAt b i out s) (hn : out.contains s = false) : WayAt b i (out ++ [s]) (nextW (safeV b) (b.moves.getD s.toNat [])) := by
  obtain ⟨n1, n2, n3, n4⟩ := nextW_spec hc h.s0.1 h.s0.2.2
  refine ⟨List.nodup_append.2 ⟨h.nodup, by simp, fun a ha c hc' e => ?_⟩, fun x hx => ?_, ⟨n2, n3, n4⟩, fun k hk => ?_, fun h' => by simp at h', fun _ => ?_⟩
  · simp at hc'; subst hc'; subst e
    rw [List.contains_eq_mem, decide_eq_false_iff_not] at hn
    exact hn ha
  · rcases List.mem_append.1 hx with hx | hx
    · exact h.inn x hx
    · simp at hx; subst hx; exact h.s0
  · simp only [List.length_append, List.length_cons, List.length_nil] at hk
    refine ⟨fun hk0 => ?_, fun hk0 => ?_⟩
    · subst hk0
      rw [getD_app]
      split
      · rename_i hl; exact (h.chain 0 hl).1 rfl
      · rename_i hl
        have : out = [] := List.length_eq_zero_iff.1 (by omega)
        rw [if_pos (by omega)]; exact h.last.1 this
    · rw [getD_app, getD_app]
      rw [if_pos (show k - 1 < out.length by omega)]
      split
      · rename_i hl; exact (h.chain k hl).2 hk0
      · rename_i hl
        rw [if_pos (by omega), show k = out.length by omega]
        exact h.last.2 (by omega)
  · simp only [List.length_append, List.length_cons, List.length_nil, Nat.zero_add, Nat.add_sub_cancel]
    rw [getD_app, if_neg (by omega), if_pos rfl]
    exact n1
/-- What a way has at its end. -/
structure WayEnd (b : Blow) (i : Int) (w : List Int) : Prop where
  len : 1 < w.length
  inn : ∀ x ∈ w, 0 ≤ x ∧ x < b.lost.length ∧ b.lost.getD x.toNat false = false
  chain : ∀ k : Nat, k < w.length → (k = 0 → w.getD 0 0 = i) ∧ (0 < k → w.getD k 0 ∈ b.moves.getD (w.getD (k - 1) 0).toNat [])
  last : w.getD (w.length - 1) 0 ∈ w.take (w.length - 1)
theorem WayAt.start {b : Blow} {i : Int} (h : 0 ≤ i ∧ i < b.lost.length ∧ (safeV b).getD i.toNat false = true) : WayAt b i [] i :=
  ⟨List.nodup_nil, fun x hx => (by cases hx), h, fun k hk => (by simp at hk), fun _ => rfl, fun h => (by simp at h)⟩
theorem safeV_lt {b : Blow} {i : Nat} (h : (safeV b).getD i false = true) : checkV b = 0 ∧ i < b.lost.length := by
  by_cases hc : checkV b = 0
  · rw [safeV_ok hc] at h; exact ⟨hc, (safeF_iff.1 h).1⟩
  · rw [safeV_no hc] at h; cases h
end Go.Proofs.Ytbgofenplhdllaa
/- House: contracts, more of them: the wild well, ways, comparisons. -/
namespace Go.Proofs.Ytbgofenplhdllaa
set_option linter.unusedVariables false

def wildV (l r t : Int) : Blow × Int :=
  if 1 ≤ l ∧ l ≤ 15 ∧ 1 ≤ r ∧ r ≤ 15 ∧ 0 ≤ t ∧ t ≤ 3 then (if 64 < (l + 1) * (t + 1) then (⟨[], []⟩, 8) else (wildB l.toNat r.toNat t.toNat, 0)) else (⟨[], []⟩, 2)
def ctWild : Ct := ⟨[.lf .int, .lf .int, .lf .int], [.agg [.vec 4, .vec 35], .lf .int], fun _ => True, fun cs rs => blowOf rs = (wildV (n_ cs 0) (n_ cs 1) (n_ cs 2)).1 ∧ at_ rs 2 = .i (wildV (n_ cs 0) (n_ cs 1) (n_ cs 2)).2, false⟩
def ctSameLists : Ct := ctF [.lf (.arr 35), .lf (.arr 35)] [.lf .bool] (fun _ => True) (fun cs => [.b (intss (at_ cs 0).rows == intss (at_ cs 1).rows)])
def ctSameInts : Ct := ctF [intsSh, intsSh] [.lf .bool] (fun _ => True) (fun cs => [.b (ints (at_ cs 0).rows == ints (at_ cs 1).rows)])
def ctHas : Ct := ctF [intsSh, .lf .int] [.lf .bool] (fun _ => True) (fun cs => [.b ((ints (at_ cs 0).rows).contains (n_ cs 1))])
def ctWay : Ct := ⟨[blowSh, .lf .int], [.lf (.vec 3)], fun _ => True, fun cs rs => ∃ v, rs = [.s v (ofInts (wayV (blowOf cs) (n_ cs 2)))], false⟩
/-- A blow-out that is valid, of 1 to 12 states. -/
def ctBlowL : Ct := ⟨[intsSh], [.agg [.vec 4, .vec 35]], fun _ => True, fun _ rs => checkV (blowOf rs) = 0 ∧ (blowOf rs).lost.length ≤ 12, false⟩
def tab2 : Tab where
  ct := fun f => match f with
    | 9 | 10 => some ctWild
    | 11 => some ctSameLists
    | 20 => some ctSameInts
    | 24 => some ctHas
    | 21 | 22 => some ctWay
    | 23 => some ctBlowL
    | f => tab.ct f
  inl := tab.inl
  sel := tab.sel
theorem up_ok {f : Nat} (h : tab.ok f) (he : tab2.ct f = tab.ct f := by rfl) : tab2.ok f :=
  ⟨h.1, fun ct hc => h.2.1 ct (he ▸ hc), h.2.2.1, h.2.2.2⟩
end Go.Proofs.Ytbgofenplhdllaa
