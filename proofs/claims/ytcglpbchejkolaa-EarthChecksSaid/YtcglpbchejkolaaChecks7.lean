/- Texts laid into one: Mp Hd Hs Hr XS XT XP XQ XR XU XS2. -/
import Derived.Test.YtcglpbchejkolaaChecks6
import Derived.Maps.Keyed
import Derived.Maps.Range
import Derived.Carry
/- Maps with numbers as keys: what a block holds, looked up, written, ranged over. -/
namespace Go.Proofs.Ytcglpbchejkolaa
open Go.RowKit
open Go.ChangeMaps (setBlock heap_setBlock_same heap_setBlock_other)
set_option linter.unusedSimpArgs false
set_option linter.unusedVariables false

abbrev Prs := List (Int × Value)
def valAt : Prs → Int → Value → Value
  | [], _, z => z
  | (j, v) :: l, k, z => if j = k then v else valAt l k z
def putG : Prs → Int → Value → Prs
  | [], k, v => [(k, v)]
  | (j, u) :: l, k, v => if j = k then (k, v) :: l else (j, u) :: putG l k v
theorem valAt_none {k : Int} {z : Value} : ∀ {G : Prs}, (∀ g ∈ G, g.1 ≠ k) → valAt G k z = z
  | [], _ => rfl
  | (j, v) :: l, h => by
    simp only [valAt, if_neg (h (j, v) (by simp))]
    exact valAt_none fun g hg => h g (by simp [hg])
theorem valAt_some {k : Int} {v z : Value} : ∀ {G : Prs}, (G.map (·.1)).Nodup → (k, v) ∈ G → valAt G k z = v
  | [], _, h => by cases h
  | (j, u) :: l, hn, h => by
    simp only [List.map_cons, List.nodup_cons] at hn
    rcases List.mem_cons.1 h with h | h
    · cases h; simp [valAt]
    · have : j ≠ k := fun e => hn.1 (e ▸ List.mem_map_of_mem (f := (·.1)) h)
      simp only [valAt, if_neg this]
      exact valAt_some hn.2 h
theorem putG_none {k : Int} {v : Value} : ∀ {G : Prs}, (∀ g ∈ G, g.1 ≠ k) → putG G k v = G ++ [(k, v)]
  | [], _ => rfl
  | (j, u) :: l, h => by
    simp only [putG, if_neg (h (j, u) (by simp)), List.cons_append]
    rw [putG_none fun g hg => h g (by simp [hg])]
theorem putG_set {k : Int} {v : Value} : ∀ {G : Prs}, (G.map (·.1)).Nodup → ∀ {i : Nat} {u : Value}, G[i]? = some (k, u) → putG G k v = G.set i (k, v)
  | [], _, i, u, h => by simp at h
  | (j, w) :: l, hn, 0, u, h => by simp at h; obtain ⟨rfl, rfl⟩ := h; simp [putG]
  | (j, w) :: l, hn, i + 1, u, h => by
    simp only [List.map_cons, List.nodup_cons] at hn
    have h : l[i]? = some (k, u) := by simpa using h
    have : j ≠ k := fun e => hn.1 (e ▸ List.mem_map_of_mem (f := (·.1)) (List.mem_of_getElem? h))
    simp only [putG, if_neg this, List.set_cons_succ]
    rw [putG_set hn.2 h]
/-- Who stands in the map behind a store. -/
theorem putG_mem {k : Int} {v : Value} : ∀ {G : Prs} {g : Int × Value}, (G.map (·.1)).Nodup → (g ∈ putG G k v ↔ g = (k, v) ∨ (g ∈ G ∧ g.1 ≠ k))
  | [], g, _ => by simp [putG]
  | (j, u) :: l, g, hn => by
    simp only [List.map_cons, List.nodup_cons] at hn
    by_cases e : j = k
    · subst e
      simp only [putG, if_true, List.mem_cons]
      constructor
      · rintro (h | h)
        · exact .inl h
        · exact .inr ⟨.inr h, fun e => hn.1 (e ▸ List.mem_map_of_mem (f := (·.1)) h)⟩
      · rintro (h | ⟨h | h, h'⟩)
        · exact .inl h
        · subst h; exact absurd rfl h'
        · exact .inr h
    · simp only [putG, if_neg e, List.mem_cons, putG_mem hn.2]
      constructor
      · rintro (h | h | h)
        · subst h; exact .inr ⟨.inl rfl, e⟩
        · exact .inl h
        · exact .inr ⟨.inr h.1, h.2⟩
      · rintro (h | ⟨h | h, h'⟩)
        · exact .inr (.inl h)
        · exact .inl h
        · exact .inr (.inr ⟨h, h'⟩)
theorem putG_keys {k : Int} {v : Value} : ∀ {G : Prs}, (G.map (·.1)).Nodup → ((putG G k v).map (·.1)).Nodup
  | [], _ => by simp [putG]
  | (j, u) :: l, hn => by
    have hn' := hn
    simp only [List.map_cons, List.nodup_cons] at hn
    by_cases e : j = k
    · subst e; simpa [putG] using hn'
    · simp only [putG, if_neg e, List.map_cons, List.nodup_cons]
      refine ⟨fun hm => ?_, putG_keys hn.2⟩
      obtain ⟨g, hg, hj⟩ := List.mem_map.1 hm
      rcases (putG_mem hn.2).1 hg with rfl | ⟨hg, -⟩
      · exact e hj.symm
      · exact hn.1 (hj ▸ List.mem_map_of_mem (f := (·.1)) hg)
theorem putG_len {k : Int} {v : Value} : ∀ {G : Prs}, (putG G k v).length ≤ G.length + 1
  | [] => by simp [putG]
  | (j, u) :: l => by
    by_cases e : j = k
    · simp [putG, if_pos e]
    · simp only [putG, if_neg e, List.length_cons]
      have := @putG_len k v l
      omega

def PairsOf (es : Array MapEntry) (G : Prs) : Prop := es.toList.map (fun x => (x.key, x.val)) = G.map fun g => (Value.int .i64 g.1, g.2)
/-- A map's block, by its entries. -/
def MapAt (w : World) (b : Nat) (G : Prs) : Prop := ∃ es clock, w.heap[b]? = some (.map es clock) ∧ es.size ≤ maxLen ∧ MapKept.Stamped es clock ∧ PairsOf es G
theorem PairsOf.nodup {es : Array MapEntry} {G : Prs} {clock : Nat} (h : PairsOf es G) (hs : MapKept.Stamped es clock) : (G.map (·.1)).Nodup := by
  have h1 : es.toList.map (·.key) = G.map fun g => Value.int .i64 g.1 := by
    have := congrArg (List.map Prod.fst) h
    simpa [List.map_map, Function.comp_def] using this
  have h2 := hs.2.2
  rw [h1] at h2
  have e : (G.map fun g => Value.int .i64 g.1) = (G.map (·.1)).map (Value.int .i64) := by simp [List.map_map, Function.comp_def]
  rw [e] at h2
  exact (List.pairwise_map.1 h2).imp fun h e => h (by rw [e])
theorem PairsOf.at {es : Array MapEntry} {G : Prs} (h : PairsOf es G) {j : Nat} {x : MapEntry} (hx : es.toList[j]? = some x) : ∃ g, G[j]? = some g ∧ x.key = .int .i64 g.1 ∧ x.val = g.2 := by
  have := congrArg (fun l => l[j]?) h
  simp only [List.getElem?_map, hx, Option.map_some] at this
  cases hg : G[j]? with
  | none => rw [hg] at this; cases this
  | some g => rw [hg] at this; simp only [Option.map_some, Option.some.injEq, Prod.mk.injEq] at this; exact ⟨g, rfl, this.1, this.2⟩
theorem PairsOf.of {es : Array MapEntry} {G : Prs} (h : PairsOf es G) {j : Nat} {g : Int × Value} (hg : G[j]? = some g) : ∃ x, es.toList[j]? = some x ∧ x.key = .int .i64 g.1 ∧ x.val = g.2 := by
  have := congrArg (fun l => l[j]?) h
  simp only [List.getElem?_map, hg, Option.map_some] at this
  cases hx : es.toList[j]? with
  | none => rw [hx] at this; cases this
  | some x => rw [hx] at this; simp only [Option.map_some, Option.some.injEq, Prod.mk.injEq] at this; exact ⟨x, rfl, this.1, this.2⟩
theorem PairsOf.key {es : Array MapEntry} {G : Prs} (h : PairsOf es G) {x : MapEntry} (hx : x ∈ es.toList) : ∃ g ∈ G, x.key = .int .i64 g.1 ∧ x.val = g.2 := by
  obtain ⟨j, hj, e⟩ := List.getElem_of_mem hx
  obtain ⟨g, hg, h1, h2⟩ := h.at (show es.toList[j]? = some x by rw [List.getElem?_eq_getElem hj, e])
  exact ⟨g, List.mem_of_getElem? hg, h1, h2⟩
section
variable {P : Program} {t k e : TypeId} (ht : P.underlying t = some (.map k e)) (hk : P.underlying k = some (.int .i64)) {w : World} {b : Nat} {G : Prs}
theorem lit_wf {n : Int} (h : -9223372036854775808 ≤ n ∧ n ≤ 9223372036854775807) : (Lit.int .i64 n).wf = true := by
  have e1 : IntKind.i64.min = -9223372036854775808 := rfl
  have e2 : IntKind.i64.max = 9223372036854775807 := rfl
  simp [Lit.wf, e1, e2]
  omega
theorem MapAt.lt (h : MapAt w b G) : b < w.heap.size := by obtain ⟨es, clock, hb, -⟩ := h; exact (Array.getElem?_eq_some_iff.1 hb).1
theorem MapAt.nodup (h : MapAt w b G) : (G.map (·.1)).Nodup := by obtain ⟨es, clock, -, -, hs, hp⟩ := h; exact hp.nodup hs
theorem MapAt.kept {w' : World} (h : MapAt w b G) (hb : w'.heap[b]? = w.heap[b]?) : MapAt w' b G := by obtain ⟨es, clock, h1, h2⟩ := h; exact ⟨es, clock, hb.trans h1, h2⟩
theorem MapAt.made (w : World) : MapAt (w.alloc (.map #[] 0)) w.heap.size [] := ⟨#[], 0, (MapKept.heap_alloc w _).1, by simp, MapKept.stamped_empty 0, rfl⟩
include ht hk
theorem MapAt.look (h : MapAt w b G) (hG : ∀ g ∈ G, -9223372036854775808 ≤ g.1 ∧ g.1 ≤ 9223372036854775807) {n : Int} (hn : -9223372036854775808 ≤ n ∧ n ≤ 9223372036854775807) {z : Value} (hz : (zeroValue e).run P w = .ok z w) : (Instr.lookup t (.map (some b)) (.int .i64 n) false).run P w = .ok (valAt G n z) w := by
  obtain ⟨es, clock, hb, hsz, hst, hp⟩ := h
  have K := Maps.int_keyed hk
  have hkey := Maps.keyOf_int_mk hk (lit_wf hn)
  rcases K.find w hkey es.toList (fun x hx => by
    obtain ⟨g, hg, h1, -⟩ := hp.key hx
    rw [h1]
    exact ⟨_, Maps.keyOf_int_mk hk (lit_wf (hG g hg))⟩) with ⟨h1, h2⟩ | ⟨j, e0, h1, h2, h3⟩
  · rw [valAt_none fun g hg hgn => ?_]
    · simp [Instr.lookup, run_underlying ht, MapKept.run_getObj_map hb, K.check w _ hkey, h1, hz, Result.andThen]
    · obtain ⟨j, hj, ej⟩ := List.getElem_of_mem hg
      obtain ⟨x, hx, hx1, -⟩ := hp.of (show G[j]? = some g by rw [List.getElem?_eq_getElem hj, ej])
      exact h2 x (List.mem_of_getElem? hx) (by rw [hx1, hgn])
  · obtain ⟨g, hg, hg1, hg2⟩ := hp.at h2
    rw [h3] at hg1
    cases hg1
    rw [valAt_some (hp.nodup hst) (show (g.1, e0.val) ∈ G by rw [hg2]; exact List.mem_of_getElem? hg)]
    simp [Instr.lookup, run_underlying ht, MapKept.run_getObj_map hb, K.check w _ hkey, h1, Result.andThen]
theorem MapAt.store (h : MapAt w b G) (hG : ∀ g ∈ G, -9223372036854775808 ≤ g.1 ∧ g.1 ≤ 9223372036854775807) (hroom : G.length < maxLen) {n : Int} (hn : -9223372036854775808 ≤ n ∧ n ≤ 9223372036854775807) (v : Value) :
    ∃ o, (Instr.mapUpdate t (.map (some b)) (.int .i64 n) v).run P w = .ok () (setBlock w b o) ∧ MapAt (setBlock w b o) b (putG G n v) ∧ ∀ i, i ≠ b → (setBlock w b o).heap[i]? = w.heap[i]? := by
  obtain ⟨es, clock, hb, hsz, hst, hp⟩ := h
  have K := Maps.int_keyed hk
  have hkey := Maps.keyOf_int_mk hk (lit_wf hn)
  have hlen : es.size = G.length := by have := congrArg List.length hp; simpa using this
  rcases K.find w hkey es.toList (fun x hx => by
    obtain ⟨g, hg, h1, -⟩ := hp.key hx
    rw [h1]
    exact ⟨_, Maps.keyOf_int_mk hk (lit_wf (hG g hg))⟩) with ⟨h1, h2⟩ | ⟨j, e0, h1, h2, h3⟩
  · refine ⟨.map (es.push ⟨.int .i64 n, v, clock⟩) (clock + 1), ?_, ⟨_, _, heap_setBlock_same hb _, by simp; omega, MapKept.stamped_push hst h2, ?_⟩, fun i hi => heap_setBlock_other hb _ hi⟩
    · simp [Instr.mapUpdate, run_underlying ht, MapKept.run_getObj_map hb, K.check w false hkey, h1, MapKept.run_setObj_map _ hb, Result.andThen, setBlock]
    · rw [putG_none fun g hg hgn => ?_]
      · unfold PairsOf at hp ⊢
        simp [hp]
      · obtain ⟨j, hj, ej⟩ := List.getElem_of_mem hg
        obtain ⟨x, hx, hx1, -⟩ := hp.of (show G[j]? = some g by rw [List.getElem?_eq_getElem hj, ej])
        exact h2 x (List.mem_of_getElem? hx) (by rw [hx1, hgn])
  · have hj : es[j]? = some e0 := by simpa using h2
    obtain ⟨g, hg, hg1, hg2⟩ := hp.at h2
    rw [h3] at hg1
    cases hg1
    refine ⟨.map (es.modify j (fun e' => { e' with key := .int .i64 g.1, val := v })) clock, ?_, ⟨_, _, heap_setBlock_same hb _, by simpa using hsz, MapKept.stamped_modify hst _ _ (fun _ _ => rfl) (fun e' _ he' => by rw [hj] at he'; cases he'; exact h3.symm), ?_⟩, fun i hi => heap_setBlock_other hb _ hi⟩
    · simp [Instr.mapUpdate, run_underlying ht, MapKept.run_getObj_map hb, K.check w false hkey, h1, hj, h3, K.stays w hkey, MapKept.run_setObj_map _ hb, Result.andThen, setBlock]
    · rw [putG_set (hp.nodup hst) (show G[j]? = some (g.1, g.2) from hg)]
      unfold PairsOf at hp ⊢
      have hlist : (es.modify j (fun e' => { e' with key := Value.int .i64 g.1, val := v })).toList = es.toList.set j { e0 with key := .int .i64 g.1, val := v } := by
        rw [Array.toList_modify]
        apply List.ext_getElem?
        intro i
        simp only [List.getElem?_modify, List.getElem?_set]
        by_cases hij : j = i
        · subst hij
          simp only [if_true, h2, Option.map_some]
          have : j < es.toList.length := (List.getElem?_eq_some_iff.1 h2).1
          rw [if_pos (by simpa using this)]
          rfl
        · simp [hij]
      rw [hlist, List.map_set, List.map_set, hp]
omit ht hk in
/-- An iterator over a map: which keys it has handed out. -/
def IterAt (w : World) (r b : Nat) (G : Prs) (seen : List Int) : Prop :=
  ∃ es clock since sn c0, w.heap[b]? = some (.map es clock) ∧ MapKept.Stamped es clock ∧ PairsOf es G ∧ w.heap[r]? = some (.mapIter (some b) since sn c0) ∧ (∀ x ∈ es.toList, x.born < since) ∧ since ≤ c0 ∧ since ≤ clock ∧ ∀ x ∈ es.toList, ∀ g ∈ G, x.key = .int .i64 g.1 → (sn.contains x.born = true ↔ g.1 ∈ seen)
end
section
variable {P : Program} {t k e : TypeId} {w : World} {b r : Nat} {G : Prs} {seen : List Int}
theorem IterAt.kept {w' : World} (h : IterAt w r b G seen) (hb : w'.heap[b]? = w.heap[b]?) (hr : w'.heap[r]? = w.heap[r]?) : IterAt w' r b G seen := by
  obtain ⟨es, clock, since, sn, c0, h1, h2, h3, h4, h5⟩ := h
  exact ⟨es, clock, since, sn, c0, hb.trans h1, h2, h3, hr.trans h4, h5⟩
theorem IterAt.start (ht : P.underlying t = some (.map k e)) (h : MapAt w b G) : ∃ o, (Instr.range t (.map (some b))).run P w = .ok (.pointer (some ⟨w.heap.size, 0, none⟩)) (w.alloc o) ∧ IterAt (w.alloc o) w.heap.size b G [] := by
  obtain ⟨es, clock, hb, hsz, hst, hp⟩ := h
  have hlt : b < w.heap.size := (Array.getElem?_eq_some_iff.1 hb).1
  refine ⟨.mapIter (some b) clock #[] clock, run_range_map w t k e b es clock ht hb, es, clock, clock, #[], clock, (heap_alloc_old w _ hlt).trans hb, hst, hp, heap_alloc_new w _, hst.1, Nat.le_refl _, Nat.le_refl _, fun x hx g hg hxg => by simp⟩
/-- The next round: nothing is left, or some key comes that had not come. -/
theorem IterAt.next (ty : TypeId) (hbr : b ≠ r) (h : IterAt w r b G seen) :
    ((∀ g ∈ G, g.1 ∈ seen) ∧ (Instr.next (.pointer (some ⟨r, 0, none⟩)) false ty).run P w = .ok (.tuple #[.bool false]) w) ∨
    ∃ g ∈ G, g.1 ∉ seen ∧ ∃ w', (Instr.next (.pointer (some ⟨r, 0, none⟩)) false ty).run P w = .ok (.tuple #[.bool true, .int .i64 g.1, g.2]) w' ∧ IterAt w' r b G (g.1 :: seen) ∧
      w'.heap.size = w.heap.size ∧ (∀ i, i ≠ r → w'.heap[i]? = w.heap[i]?) ∧ w'.os = w.os ∧ w'.tape = w.tape ∧ w'.output = w.output ∧
      ∀ u, u.heap[b]? = w'.heap[b]? → u.heap[r]? = w'.heap[r]? → (Instr.entry (.pointer (some ⟨r, 0, none⟩))).run P u = .ok (.tuple #[.int .i64 g.1, g.2]) u := by
  obtain ⟨es, clock, since, sn, c0, hb, hst, hp, hr, hold, hsc, hcl, hseen⟩ := h
  rcases run_next_at (P := P) w ty r b since c0 sn es clock hr hb hold hsc with ⟨h0, hrun⟩ | ⟨x, hx, w1, hw1, hrun⟩
  · refine .inl ⟨fun g hg => ?_, hrun⟩
    obtain ⟨j, hj, ej⟩ := List.getElem_of_mem hg
    obtain ⟨x, hx, hx1, -⟩ := hp.of (show G[j]? = some g by rw [List.getElem?_eq_getElem hj, ej])
    have hxm := List.mem_of_getElem? hx
    exact (hseen x hxm g hg hx1).1 (all_seen es sn h0 x hxm)
  · obtain ⟨hxm, hxs⟩ := mem_left hx
    obtain ⟨g, hg, hg1, hg2⟩ := hp.key hxm
    have hns : g.1 ∉ seen := fun hin => by rw [(hseen x hxm g hg hg1).2 hin] at hxs; cases hxs
    have hr1 : w1.heap[r]? = some (.mapIter (some b) since sn c0) := by rcases hw1 with rfl | rfl <;> exact hr
    have hw1h : w1.heap = w.heap := by rcases hw1 with rfl | rfl <;> rfl
    have hset : ∀ i, i ≠ r → (setBlock w1 r (.mapIter (some b) since (sn.push x.born) clock)).heap[i]? = w.heap[i]? := fun i hi => by
      simp only [setBlock, Array.getElem?_setIfInBounds, if_neg (Ne.symm hi), hw1h]
    have hsame : (setBlock w1 r (.mapIter (some b) since (sn.push x.born) clock)).heap[r]? = some (.mapIter (some b) since (sn.push x.born) clock) := by
      have : r < w1.heap.size := (Array.getElem?_eq_some_iff.1 hr1).1
      simp [setBlock, this]
    refine .inr ⟨g, hg, hns, setBlock w1 r (.mapIter (some b) since (sn.push x.born) clock), by rw [hrun, hg1, hg2], ?_, by simp [setBlock, hw1h], hset, ?_, ?_, ?_, ?_⟩
    · refine ⟨es, clock, since, sn.push x.born, clock, (hset b hbr).trans hb, hst, hp, hsame, hold, hcl, hcl, fun y hy g' hg' hyg => ?_⟩
      · rw [contains_push]
        simp only [Bool.or_eq_true, beq_iff_eq, List.mem_cons]
        rw [hseen y hy g' hg' hyg]
        have hnod := hst.2.1
        constructor
        · rintro (h | h)
          · exact .inr h
          · have := born_inj hnod hy hxm h
            subst this
            rw [hyg] at hg1
            exact .inl (by simpa using hg1)
        · rintro (h | h)
          · have hkk : y.key = x.key := by rw [hyg, hg1, h]
            have hpk : es.toList.Pairwise (fun x y => x.key ≠ y.key) := ((MapKept.stamped_iff es clock).1 hst).2.2
            refine .inr ?_
            rw [entry_eq_of_key hpk hy hxm hkk]
          · exact .inl h
    · rcases hw1 with rfl | rfl <;> rfl
    · rcases hw1 with rfl | rfl <;> rfl
    · rcases hw1 with rfl | rfl <;> rfl
    · intro u hub hur
      rw [← hg1, ← hg2]
      exact run_entry_at u r b since sn es clock x (hur.trans hsame) (hub.trans ((hset b hbr).trans hb)) hxm hst.2.1
end
end Go.Proofs.Ytcglpbchejkolaa
/- Pieces of a code by hand: what a state says where blocks of nobody's have turned. -/
namespace Go.Proofs.Ytcglpbchejkolaa
open Go.RowKit
set_option linter.unusedSimpArgs false
set_option linter.unusedVariables false

/-- A piece of a code, by the executor, that ends in a known state. -/
theorem seg_sound_r {r : Option Nat} {cx : Cx} {R : List C → Prop} {F : Nat → Prop} {w0 : World} (hcx : CxOK cx) {c : Code} {st st1 : St} {ps : List Pl} {ks : List Lk} {k : Ex → St → Option Tree} {T : Tree} (hT : exec cx c { st with lvl := st.lvl + 1 } (joinK st st1 ps ks k) = some T) (hok : joinOk st st1 ps ks = true)
    {Γ : Env} {Ls : List (List C → Prop)} (hl : Ls.length = st.lvl) {I : List C → Prop} (hv : VC cx R T Γ.ρ (Ls ++ [I])) {a : Act} {w : World} (hs : Sat cx.P F w0 Γ st a w) {Q : Exit → Act → World → Prop}
    (hn : ∀ xs Γx a' w', CTy cx.P ks xs → I xs → Γx.ρ = Γ.ρ ++ xs → Ext Γ Γx → Sat cx.P F w0 Γx st1 a' w' → Q .normal a' w')
    (hk : ∀ x st' T' Γ' Ls', x ≠ .nrm → k x st' = some T' → Ext Γ Γ' → Ls'.length = st'.lvl → VC cx R T' Γ'.ρ Ls' → ∀ a w, Sat cx.P F w0 Γ' st' a w → Q x.out a w) : wpR r cx.P c Q a w := by
  obtain ⟨c2, c4, c5, c6, c7, c8⟩ := joinOk_spec hok
  have hlen : Γ.ρ.length = st.nx := hs.len
  have hnum1 : Num st1.bds Γ.ρ := by rw [c7]; exact hs.num
  refine exec_sound (R := R) hcx c _ _ T hT Γ (Ls ++ [I]) _ ?_ (by simp [hl]) hv a w (hs.relvl _)
  intro e st' T' Γ' Ls' hk' he' hl' hlen' hv' a' w' hs'
  cases e with
  | ext i => exact hk (.ext i) st' T' Γ' Ls' (by intro h; cases h) hk' he' hlen' hv' a' w' hs'
  | ret => exact hk .ret st' T' Γ' Ls' (by intro h; cases h) hk' he' hlen' hv' a' w' hs'
  | nrm =>
    simp only [joinK, joinEnd] at hk'
    split at hk'
    · rename_i hc
      simp only [Bool.and_eq_true] at hc
      obtain ⟨⟨d1, d2⟩, d3⟩ := hc
      split at hk'
      · rename_i vals hvals
        split at hk'
        · rename_i hks'
          cases hk'
          obtain ⟨hob', hback⟩ := VC.obT hv'
          obtain ⟨l, hl2⟩ := he'.ρ
          obtain ⟨hty', hsat'⟩ := hs'.rebase (st1 := st1) (ρ0 := Γ.ρ) ⟨l, hl2⟩ (by rw [hlen]; exact d1) (by rw [hlen]; exact hvals) hks' hob' (by rw [hlen]; exact c2) (Nat.eq_of_beq_eq_true d3) (Nat.le_of_ble_eq_true d2) (by rw [hlen]; exact c4) hnum1
          have hget : Ls'[st.lvl]? = some I := by
            obtain ⟨m, rfl⟩ := hl'
            rw [List.append_assoc, List.getElem?_append_right (by omega), hl]
            simp
          simp only [VC, hget] at hback
          exact hn _ { Γ' with ρ := Γ.ρ ++ cs_ Γ'.ρ vals, nb := st1.nb } a' w' hty' hback rfl ⟨⟨_, rfl⟩, fun b hb => he'.blk b hb, by rw [hs.nb]; exact c5, he'.base, he'.up⟩ hsat'
        · cases hk'; exact hv'.elim
      · cases hk'; exact hv'.elim
    · cases hk'; exact hv'.elim

theorem seg_sound {cx : Cx} {R : List C → Prop} {F : Nat → Prop} {w0 : World} (hcx : CxOK cx) {c : Code} {st st1 : St} {ps : List Pl} {ks : List Lk} {k : Ex → St → Option Tree} {T : Tree} (hT : exec cx c { st with lvl := st.lvl + 1 } (joinK st st1 ps ks k) = some T) (hok : joinOk st st1 ps ks = true)
    {Γ : Env} {Ls : List (List C → Prop)} (hl : Ls.length = st.lvl) {I : List C → Prop} (hv : VC cx R T Γ.ρ (Ls ++ [I])) {a : Act} {w : World} (hs : Sat cx.P F w0 Γ st a w) {Q : Exit → Act → World → Prop}
    (hn : ∀ xs Γx a' w', CTy cx.P ks xs → I xs → Γx.ρ = Γ.ρ ++ xs → Ext Γ Γx → Sat cx.P F w0 Γx st1 a' w' → Q .normal a' w')
    (hk : ∀ x st' T' Γ' Ls', x ≠ .nrm → k x st' = some T' → Ext Γ Γ' → Ls'.length = st'.lvl → VC cx R T' Γ'.ρ Ls' → ∀ a w, Sat cx.P F w0 Γ' st' a w → Q x.out a w) : c.wp cx.P Q a w :=
  wpR_none.1 (seg_sound_r hcx hT hok hl hv hs hn hk)
/-! Operations by hand -/
section
variable {P : Program} {ops : Array Oper} {Q : Exit → Act → World → Prop} {o : Oper} {rest : List Oper} {a : Act} {w w' : World} {v : Value}
theorem op_val {K : Act → World → Prop} (h : (execOp a.eval o).run P w = .ok (.value v) w') (hk : K (a.put o.dst v) w') : o.wp P a w K Q := by
  unfold Oper.wp; rw [h]; exact hk
theorem list_val (hg : o.guard = none) (h : (execOp a.eval o).run P w = .ok (.value v) w') (hk : wpList P ops Q rest (a.put o.dst v) w') : wpList P ops Q (o :: rest) a w := by
  unfold wpList
  rw [if_pos (by simp [Region.wanted, hg])]
  exact .inl (op_val h hk)
theorem eval_same {d : Nat} (h : d < a.tmps.size) : (a.put (some d) v).eval (.tmp d) = v := by
  simp [Act.put, Act.eval, h]
theorem eval_other {d t : Nat} (h : t ≠ d) : (a.put (some d) v).eval (.tmp t) = a.eval (.tmp t) := by
  simp [Act.put, Act.eval, Array.getElem?_setIfInBounds, Ne.symm h]
theorem put_size {d : Option Tmp} : (a.put d v).tmps.size = a.tmps.size := by cases d <;> simp [Act.put]
end
/-- Known less, otherwise the same; the variables from ρ0 on are new. -/
theorem Sat.less {P : Program} {F : Nat → Prop} {w0 : World} {Γ : Env} {st1 st : St} {a : Act} {w : World} (h : Sat P F w0 Γ st a w) {ρ0 : List C} (hρ : ∃ l, Γ.ρ = ρ0 ++ l) {n : Nat} (hn : ρ0.length = n) {ps : List Pl} {ks : List Lk} {vals : List Lf}
    (h1 : sameRest st1 st n ps = true) (h2 : backPs st1 st n ps = some vals) (h3 : kindsL vals = some ks) (h4 : Obs Γ.ρ (rngL st.bds vals)) (h5 : headWf st1 n ps = true) (h6 : st1.nt = st.nt) (h7 : st1.nb ≤ st.nb) (h8 : st1.nx = n + ks.length) (h9 : st1.bds = []) :
    CTy P ks (cs_ Γ.ρ vals) ∧ Sat P F w0 { Γ with ρ := ρ0 ++ cs_ Γ.ρ vals, nb := st1.nb } st1 a w := by
  subst hn
  refine h.rebase (st1 := st1) hρ h1 h2 h3 h4 h5 h6 h7 h8 ?_
  rw [h9]
  refine ⟨bds_nil _, fun i m => ?_⟩
  obtain ⟨l, e⟩ := hρ
  have := h.num.len
  rw [e] at this
  rcases Nat.lt_or_ge i ρ0.length with hi | hi
  · have h10 := this i m
    rw [at_ext hi] at h10
    exact h10
  · simp [at_, List.getD_eq_getElem?_getD, List.getElem?_eq_none hi, C.small_zero]
end Go.Proofs.Ytcglpbchejkolaa
/- Codes in parts, by the executor and by hand. -/
namespace Go.Proofs.Ytcglpbchejkolaa
open Go.RowKit
set_option linter.unusedSimpArgs false
set_option linter.unusedVariables false

/-- The way to a part of a code. -/
def nav : List Nat → Code → Code
  | [], c => c
  | n :: l, .seq a b => if n = 0 then nav l a else nav l b
  | n :: l, .cond _ a b => if n = 0 then nav l a else nav l b
  | _ :: l, .block _ c => nav l c
  | _ :: l, .loop c => nav l c
  | _, c => c
def bodyOf (f : Func) : Code := f.body.getD .skip
/-- The first parts, one behind another, and what follows. -/
def heads : Nat → Code → List Code
  | n + 1, .seq a b => a :: heads n b
  | _, _ => []
def pre : List Code → Code → Code
  | [], c => c
  | a :: l, c => .seq a (pre l c)
def execL (cx : Cx) : List Code → St → (Ex → St → Option Tree) → Option Tree
  | [], st, k => k .nrm st
  | a :: l, st, k => exec cx a st fun x st' => match x with
    | .nrm => execL cx l st' k
    | x => k x st'
theorem pre_sound_r {r : Option Nat} {cx : Cx} {R : List C → Prop} {F : Nat → Prop} {w0 : World} (hcx : CxOK cx) : ∀ (l : List Code) (st : St) (k : Ex → St → Option Tree) (T : Tree), execL cx l st k = some T →
    ∀ (Γ : Env) (Ls : List (List C → Prop)) (c : Code) (Q : Exit → Act → World → Prop), KOK cx R F w0 k Γ Ls (Exit.then (wpR r cx.P c Q) Q) → Ls.length = st.lvl → VC cx R T Γ.ρ Ls → ∀ a w, Sat cx.P F w0 Γ st a w → wpR r cx.P (pre l c) Q a w
  | [], st, k, T, h, Γ, Ls, c, Q, hk, hl, hv, a, w, hs => hk .nrm st T Γ Ls h (Ext.refl _) (List.prefix_refl _) hl hv a w hs
  | b :: l, st, k, T, h, Γ, Ls, c, Q, hk, hl, hv, a, w, hs => by
    refine wpIn_seq (exec_sound (R := R) (F := F) (w0 := w0) hcx b st _ T h Γ Ls _ ?_ hl hv a w hs)
    intro x st' T' Γ' Ls' hk' he hl' hlen hv' a' w' hs'
    cases x with
    | nrm => exact pre_sound_r hcx l st' k T' hk' Γ' Ls' c Q (hk.mono he hl') hlen hv' a' w' hs'
    | ret => exact hk .ret st' T' Γ' Ls' hk' he hl' hlen hv' a' w' hs'
    | ext i => exact hk (.ext i) st' T' Γ' Ls' hk' he hl' hlen hv' a' w' hs'
theorem pre_sound {cx : Cx} {R : List C → Prop} {F : Nat → Prop} {w0 : World} (hcx : CxOK cx) : ∀ (l : List Code) (st : St) (k : Ex → St → Option Tree) (T : Tree), execL cx l st k = some T →
    ∀ (Γ : Env) (Ls : List (List C → Prop)) (c : Code) (Q : Exit → Act → World → Prop), KOK cx R F w0 k Γ Ls (Exit.then (c.wp cx.P Q) Q) → Ls.length = st.lvl → VC cx R T Γ.ρ Ls → ∀ a w, Sat cx.P F w0 Γ st a w → (pre l c).wp cx.P Q a w :=
  fun l st k T h Γ Ls c Q hk hl hv a w hs => wpR_none.1 (pre_sound_r (R := R) hcx l st k T h Γ Ls c Q (fun x st' T' Γ' Ls' h1 h2 h3 h4 h5 a w hs' => by
    have := hk x st' T' Γ' Ls' h1 h2 h3 h4 h5 a w hs'
    cases x with
    | nrm => exact wpR_none.2 this
    | ret => exact this
    | ext i => exact this) hl hv a w hs)
theorem join_KOK {cx : Cx} {R : List C → Prop} {F : Nat → Prop} {w0 : World} {st st1 : St} {ps : List Pl} {ks : List Lk} {k : Ex → St → Option Tree} (hok : joinOk st st1 ps ks = true)
    {Γ : Env} {Ls : List (List C → Prop)} (hl : Ls.length = st.lvl) {I : List C → Prop} {a : Act} {w : World} (hs : Sat cx.P F w0 Γ st a w) {Q : Exit → Act → World → Prop}
    (hn : ∀ xs Γx a' w', CTy cx.P ks xs → I xs → Γx.ρ = Γ.ρ ++ xs → Ext Γ Γx → Sat cx.P F w0 Γx st1 a' w' → Q .normal a' w')
    (hk : ∀ x st' T' Γ' Ls', x ≠ .nrm → k x st' = some T' → Ext Γ Γ' → Ls'.length = st'.lvl → VC cx R T' Γ'.ρ Ls' → ∀ a w, Sat cx.P F w0 Γ' st' a w → Q x.out a w) : KOK cx R F w0 (joinK st st1 ps ks k) Γ (Ls ++ [I]) Q := by
  obtain ⟨c2, c4, c5, c6, c7, c8⟩ := joinOk_spec hok
  have hlen : Γ.ρ.length = st.nx := hs.len
  have hnum1 : Num st1.bds Γ.ρ := by rw [c7]; exact hs.num
  intro e st' T' Γ' Ls' hk' he' hl' hlen' hv' a' w' hs'
  cases e with
  | ext i => exact hk (.ext i) st' T' Γ' Ls' (by intro h; cases h) hk' he' hlen' hv' a' w' hs'
  | ret => exact hk .ret st' T' Γ' Ls' (by intro h; cases h) hk' he' hlen' hv' a' w' hs'
  | nrm =>
    simp only [joinK, joinEnd] at hk'
    split at hk'
    · rename_i hc
      simp only [Bool.and_eq_true] at hc
      obtain ⟨⟨d1, d2⟩, d3⟩ := hc
      split at hk'
      · rename_i vals hvals
        split at hk'
        · rename_i hks'
          cases hk'
          obtain ⟨hob', hback⟩ := VC.obT hv'
          obtain ⟨l, hl2⟩ := he'.ρ
          obtain ⟨hty', hsat'⟩ := hs'.rebase (st1 := st1) (ρ0 := Γ.ρ) ⟨l, hl2⟩ (by rw [hlen]; exact d1) (by rw [hlen]; exact hvals) hks' hob' (by rw [hlen]; exact c2) (Nat.eq_of_beq_eq_true d3) (Nat.le_of_ble_eq_true d2) (by rw [hlen]; exact c4) hnum1
          have hget : Ls'[st.lvl]? = some I := by
            obtain ⟨m, rfl⟩ := hl'
            rw [List.append_assoc, List.getElem?_append_right (by omega), hl]
            simp
          simp only [VC, hget] at hback
          exact hn _ { Γ' with ρ := Γ.ρ ++ cs_ Γ'.ρ vals, nb := st1.nb } a' w' hty' hback rfl ⟨⟨_, rfl⟩, fun b hb => he'.blk b hb, by rw [hs.nb]; exact c5, he'.base, he'.up⟩ hsat'
        · cases hk'; exact hv'.elim
      · cases hk'; exact hv'.elim
    · cases hk'; exact hv'.elim
/-- A code's first parts by the executor, that end in a known state. -/
theorem pre_seg_r {r : Option Nat} {cx : Cx} {R : List C → Prop} {F : Nat → Prop} {w0 : World} (hcx : CxOK cx) {l : List Code} {c : Code} {st st1 : St} {ps : List Pl} {ks : List Lk} {k : Ex → St → Option Tree} {T : Tree} (hT : execL cx l { st with lvl := st.lvl + 1 } (joinK st st1 ps ks k) = some T) (hok : joinOk st st1 ps ks = true)
    {Γ : Env} {Ls : List (List C → Prop)} (hl : Ls.length = st.lvl) {I : List C → Prop} (hv : VC cx R T Γ.ρ (Ls ++ [I])) {a : Act} {w : World} (hs : Sat cx.P F w0 Γ st a w) {Q : Exit → Act → World → Prop}
    (hn : ∀ xs Γx a' w', CTy cx.P ks xs → I xs → Γx.ρ = Γ.ρ ++ xs → Ext Γ Γx → Sat cx.P F w0 Γx st1 a' w' → wpR r cx.P c Q a' w')
    (hk : ∀ x st' T' Γ' Ls', x ≠ .nrm → k x st' = some T' → Ext Γ Γ' → Ls'.length = st'.lvl → VC cx R T' Γ'.ρ Ls' → ∀ a w, Sat cx.P F w0 Γ' st' a w → Q x.out a w) : wpR r cx.P (pre l c) Q a w := by
  refine pre_sound_r (R := R) (F := F) (w0 := w0) hcx l _ _ T hT Γ (Ls ++ [I]) c Q (join_KOK hok hl hs (fun xs Γx a' w' h1 h2 h3 h4 h5 => hn xs Γx a' w' h1 h2 h3 h4 h5) fun x st' T' Γ' Ls' hx hk' he hlen hv' a' w' hs' => ?_) (by simp [hl]) hv a w (hs.relvl _)
  have := hk x st' T' Γ' Ls' hx hk' he hlen hv' a' w' hs'
  cases x with
  | nrm => exact absurd rfl hx
  | ret => exact this
  | ext i => exact this
theorem pre_seg {cx : Cx} {R : List C → Prop} {F : Nat → Prop} {w0 : World} (hcx : CxOK cx) {l : List Code} {c : Code} {st st1 : St} {ps : List Pl} {ks : List Lk} {k : Ex → St → Option Tree} {T : Tree} (hT : execL cx l { st with lvl := st.lvl + 1 } (joinK st st1 ps ks k) = some T) (hok : joinOk st st1 ps ks = true)
    {Γ : Env} {Ls : List (List C → Prop)} (hl : Ls.length = st.lvl) {I : List C → Prop} (hv : VC cx R T Γ.ρ (Ls ++ [I])) {a : Act} {w : World} (hs : Sat cx.P F w0 Γ st a w) {Q : Exit → Act → World → Prop}
    (hn : ∀ xs Γx a' w', CTy cx.P ks xs → I xs → Γx.ρ = Γ.ρ ++ xs → Ext Γ Γx → Sat cx.P F w0 Γx st1 a' w' → c.wp cx.P Q a' w')
    (hk : ∀ x st' T' Γ' Ls', x ≠ .nrm → k x st' = some T' → Ext Γ Γ' → Ls'.length = st'.lvl → VC cx R T' Γ'.ρ Ls' → ∀ a w, Sat cx.P F w0 Γ' st' a w → Q x.out a w) : (pre l c).wp cx.P Q a w :=
  wpR_none.1 (pre_seg_r hcx hT hok hl hv hs (fun xs Γx a' w' h1 h2 h3 h4 h5 => wpR_none.2 (hn xs Γx a' w' h1 h2 h3 h4 h5)) hk)
/-- A state of slots and blocks. -/
theorem Sat.bare {P : Program} {F : Nat → Prop} {w0 : World} {Γ : Env} {st : St} {a : Act} {w : World} (h2 : st.vec = []) (h3 : st.clo = []) (hm : ∀ b mb, look st.mem b = some mb → Blk w (Γ.blk b) mb.1 (dens Γ mb.2) ∧ (∀ l ∈ mb.2, ∀ O, l.ok P w O Γ) ∧ ¬ F (Γ.blk b) ∧ b < st.nb)
    (hi : ∀ i j x y, look st.mem i = some x → look st.mem j = some y → Γ.blk i = Γ.blk j → i = j)
    (h4 : ∀ t sv, look st.sl t = some sv → slotV Γ a t = sv.den Γ ∧ sv.ok P w (fun b o => Γ.base b o ∨ ∃ j mb, look st.mem j = some mb ∧ Γ.blk j = b) Γ) (h5 : a.tmps.size = st.nt) (hk : Keeps F w0 w) (h6 : ∀ i, F i → i < w0.heap.size) (h7 : ∀ b o, Γ.base b o → b < w.heap.size)
    (h8 : a.defers = Γ.up.ds) (h9 : Γ.ρ.length = st.nx) (h10 : Γ.nb = st.nb) (h11 : st.bds = []) (h12 : Smalls Γ.ρ) : Sat P F w0 Γ st a w := by
  have hown : ∀ b o, Own Γ st b o → Γ.base b o ∨ ∃ j mb, look st.mem j = some mb ∧ Γ.blk j = b := fun b o h => by
    rcases h with h | ⟨j, mb, h, e⟩ | ⟨i, e, h, -⟩
    · exact .inl h
    · exact .inr ⟨j, mb, h, e⟩
    · rw [h2] at h; cases h
  refine ⟨fun t sv ht => ⟨(h4 t sv ht).1, SV.ok_anti (h4 t sv ht).2 hown⟩, h5, fun b mb hb => ?_, fun i e he => ?_, fun i e he => ?_, fun s j s' j' b h1 h2' => ?_, hk, h6, h7, h8, h9, h10, ⟨by rw [h11]; exact bds_nil _, h12⟩⟩
  · obtain ⟨m1, m2, m3, m4⟩ := hm b mb hb
    exact ⟨m1, fun l hl => m2 l hl _, m3, m4⟩
  · rw [h2] at he; cases he
  · rw [h3] at he; cases he
  · rcases h1.inv with ⟨rfl, mb, hb, rfl⟩ | ⟨rfl, e, he, -⟩
    · rcases h2'.inv with ⟨rfl, mb', hb', e'⟩ | ⟨rfl, e, he, -⟩
      · exact ⟨rfl, hi _ _ _ _ hb hb' e'.symm⟩
      · rw [h2] at he; cases he
    · rw [h2] at he; cases he
/-- A call, by hand. -/
theorem op_call {P : Program} {o : Oper} {a : Act} {w : World} {f : FuncId} {args : Array Value} {K : Act → World → Prop} {Q : Exit → Act → World → Prop} (h : (execOp a.eval o).run P w = .ok (.enter f args) w) (hk : Calls P f args w fun e w' => ∃ v, e = .returned v ∧ K (a.put o.dst v) w') : o.wp P a w K Q := by
  unfold Oper.wp
  rw [h]
  refine Calls.mono hk fun e w' he => ?_
  obtain ⟨v, rfl, h⟩ := he
  exact h
theorem list_call {P : Program} {ops : Array Oper} {Q : Exit → Act → World → Prop} {o : Oper} {rest : List Oper} {a : Act} {w : World} {f : FuncId} {args : Array Value} (hg : o.guard = none) (h : (execOp a.eval o).run P w = .ok (.enter f args) w) (hk : Calls P f args w fun e w' => ∃ v, e = .returned v ∧ wpList P ops Q rest (a.put o.dst v) w') : wpList P ops Q (o :: rest) a w := by
  unfold wpList
  rw [if_pos (by simp [Region.wanted, hg])]
  exact .inl (op_call h hk)
/-- What an iterator has not handed out yet. -/
def left : Prs → List Int → Nat
  | [], _ => 0
  | g :: G, seen => (if g.1 ∈ seen then 0 else 1) + left G seen
theorem left_le {k : Int} {seen : List Int} : ∀ {G : Prs}, left G (k :: seen) ≤ left G seen
  | [] => Nat.le_refl _
  | g :: G => by
    have ih := @left_le k seen G
    simp only [left]
    by_cases h : g.1 ∈ seen
    · rw [if_pos h, if_pos (List.mem_cons_of_mem _ h)]; omega
    · rw [if_neg h]; split <;> omega
theorem left_lt {seen : List Int} {g : Int × Value} : ∀ {G : Prs}, g ∈ G → g.1 ∉ seen → left G (g.1 :: seen) < left G seen
  | [], h, _ => by cases h
  | x :: G, h, hn => by
    have hle := @left_le g.1 seen G
    simp only [left]
    rcases List.mem_cons.1 h with rfl | h
    · rw [if_neg hn, if_pos (List.mem_cons_self ..)]; omega
    · have ih := left_lt h hn
      by_cases h : x.1 ∈ seen
      · rw [if_pos h, if_pos (List.mem_cons_of_mem _ h)]; omega
      · rw [if_neg h]; split <;> omega
end Go.Proofs.Ytcglpbchejkolaa
/- A loop over a map, by hand. -/
namespace Go.Proofs.Ytcglpbchejkolaa
open Go.RowKit
set_option linter.unusedSimpArgs false
set_option linter.unusedVariables false

/-- What a round's body hands on. -/
def roundQ (J : Act → World → Prop) (Q : Exit → Act → World → Prop) : Exit → Act → World → Prop
  | .normal, a, w => J a w
  | .ret, a, w => Q .ret a w
  | _, _, _ => False
theorem range_loop {P : Program} {b0 b1 idN tI tN cN nt bm r : Nat} {o1 o2 : Oper} {body : Code} {G : Prs} {J : List Int → Act → World → Prop} {Q : Exit → Act → World → Prop}
    (h1 : o1.op = .next (.tmp tI) false) (h1d : o1.dst = some tN) (h1g : o1.guard = none) (h2 : o2.op = .extract (.tmp tN) 0) (h2d : o2.dst = some cN) (h2g : o2.guard = none) (hN : tN < nt) (hC : cN < nt) (hNC : tN ≠ cN) (hbr : bm ≠ r)
    (hJ : ∀ seen a w, J seen a w → IterAt w r bm G seen ∧ a.eval (.tmp tI) = .pointer (some ⟨r, 0, none⟩) ∧ a.tmps.size = nt)
    (hstep : ∀ seen a w g w' v, J seen a w → g ∈ G → g.1 ∉ seen → IterAt w' r bm G (g.1 :: seen) → w'.heap.size = w.heap.size → (∀ i, i ≠ r → w'.heap[i]? = w.heap[i]?) → w'.os = w.os → w'.tape = w.tape → w'.output = w.output →
      (∀ u, u.heap[bm]? = w'.heap[bm]? → u.heap[r]? = w'.heap[r]? → (Instr.entry (.pointer (some ⟨r, 0, none⟩))).run P u = .ok (.tuple #[.int .i64 g.1, g.2]) u) → body.wp P (roundQ (J (g.1 :: seen)) Q) ((a.put (some tN) v).put (some cN) (.bool true)) w')
    (hend : ∀ seen a w v, J seen a w → (∀ g ∈ G, g.1 ∈ seen) → Q .normal ((a.put (some tN) v).put (some cN) (.bool false)) w) {a : Act} {w : World} (h0 : J [] a w) :
    (Code.block b0 (Code.loop (Code.seq (Code.region idN #[o1, o2] false) (Code.seq (Code.cond (.tmp cN) .skip (.exit b0)) (Code.block b1 body))))).wp P Q a w := by
  refine wp_block (wp_loop_ghost (fun n a w => ∃ seen, n = left G seen ∧ J seen a w) (left G []) ⟨[], rfl, h0⟩ ?_)
  rintro n a w ⟨seen, rfl, hj⟩
  obtain ⟨hit, hp, hsz⟩ := hJ seen a w hj
  rcases hit.next (P := P) o1.type hbr with ⟨hall, hrun⟩ | ⟨g, hg, hns, w', hrun, hit', hs', hb', ho', ht', hu', hent⟩
  · refine wp_seq (wp_region_list (list_val h1g (v := .tuple #[.bool false]) (w' := w) (by simp [execOp, h1, hp, hrun]) (list_val h2g (v := .bool false) (w' := w) (by rw [h1d]; simp [execOp, h2, eval_same (show tN < a.tmps.size by omega), Instr.extract]) ?_)))
    show Code.wp _ _ _ _ _
    rw [h1d, h2d]
    refine wp_seq (wp_cond (t := false) (eval_same (by rw [put_size]; omega)) ?_)
    refine wp_exit ?_
    show (if b0 = b0 then Q .normal _ _ else _)
    rw [if_pos rfl]
    exact hend seen a w _ hj hall
  · refine wp_seq (wp_region_list (list_val h1g (v := .tuple #[.bool true, .int .i64 g.1, g.2]) (w' := w') (by simp [execOp, h1, hp, hrun]) (list_val h2g (v := .bool true) (w' := w') (by rw [h1d]; simp [execOp, h2, eval_same (show tN < a.tmps.size by omega), Instr.extract]) ?_)))
    show Code.wp _ _ _ _ _
    rw [h1d, h2d]
    refine wp_seq (wp_cond (t := true) (eval_same (by rw [put_size]; omega)) ?_)
    refine wp_skip ?_
    show Code.wp _ _ _ _ _
    refine wp_block (wp_mono (hstep seen a w g w' (.tuple #[.bool true, .int .i64 g.1, g.2]) hj hg hns hit' hs' hb' ho' ht' hu' hent) ?_)
    intro e a2 w2 hq
    cases e with
    | normal => exact ⟨left G (g.1 :: seen), left_lt hg hns, g.1 :: seen, rfl, hq⟩
    | ret => exact hq
    | exit i => exact hq.elim
    | goto l => exact hq.elim
    | panic c => exact hq.elim
    | outgrown => exact hq.elim
end Go.Proofs.Ytcglpbchejkolaa
/- Earth: what each function of the program computes: lines, earths. -/
namespace Go.Proofs.Ytcglpbchejkolaa
set_option linter.unusedVariables false

abbrev Kn := Int × Int
def knots (rows : List (List C)) : List Kn := rows.map fun r => ((r.getD 0 (.i 0)).int, (r.getD 1 (.i 0)).int)
def n_ (cs : List C) (i : Nat) : Int := (at_ cs i).int
def k_ (cs : List C) (i : Nat) : List Kn := knots (at_ cs i).rows
def inV (n a b : Int) : Bool := decide (a ≤ n) && decide (n ≤ b)
/-! Lines -/
def badKs (a v : Int) : Int → List Kn → Int
  | _, [] => 0
  | last, k :: l => if inV k.1 0 a && inV k.2 0 v then (if k.1 ≤ last then 11 else badKs a v k.1 l) else 2
def lineV (ks : List Kn) (a v : Int) : Int := if inV a 0 1099511627776 && inV v 0 68719476736 then (if ks.length = 0 then 6 else if 24 < ks.length then 8 else badKs a v (-1) ks) else 2
def rightB (ks : List Kn) : Bool := lineV ks 1048576 68719476736 == 0 || lineV ks 1099511627776 1048576 == 0
def segP (a b : Kn) (x : Int) : Int × Int × Int := (a.2 + (b.2 - a.2) * (x - a.1) / (b.1 - a.1), (b.2 - a.2) * (x - a.1) % (b.1 - a.1), b.1 - a.1)
def partAt (p : Kn × Kn) (x : Int) : Int × Int × Int := if p.1 = p.2 then (p.1.2, 0, 1) else segP p.1 p.2 x
def findG : Kn → List Kn → Int → Kn × Kn
  | p, [], _ => (p, p)
  | p, k :: l, x => if k.1 < x then findG k l x else if k.1 = x then (k, k) else (p, k)
def findV : List Kn → Int → Kn × Kn
  | [], _ => ((0, 0), (0, 0))
  | k :: l, x => if k.1 < x then findG k l x else (k, k)
def valP (ks : List Kn) (x : Int) : Int × Int × Int := partAt (findV ks x) x
def rangeP (ks : List Kn) (x : Int) : Kn := ((valP ks x).1, (valP ks x).1 + min (valP ks x).2.1 1)
inductive Asc : List Kn → Prop
  | nil : Asc []
  | one (k : Kn) : Asc [k]
  | cons {a b : Kn} {l : List Kn} (h : a.1 < b.1) (ht : Asc (b :: l)) : Asc (a :: b :: l)
def atV (ks : List Kn) (x : Int) : Kn := if rightB ks = true then rangeP ks x else (0, 0)
/-- At least, as fractions. -/
def geP (p q : Int × Int × Int) : Bool := decide (q.1 < p.1) || (p.1 == q.1 && decide (q.2.1 * p.2.2 ≤ p.2.1 * q.2.2))
def aboveV (a b : List Kn) (to : Int) : Bool := (a ++ b).all fun k => decide (to < k.1) || geP (valP a k.1) (valP b k.1)

def lineSh : Sh0 := .agg [.arr 44]
def rangeSh : Sh0 := .agg [.int, .int]
def ofKn (k : Kn) : List C := [.i k.1, .i k.2]
def withinI : Inl := fun bd l => match l with
  | [.lf (.int n), .lf (.int a), .lf (.int b)] => some (rngL bd (cellsOf [] l), .lf (.bool (.and (B.mkCmp bd .le a n) (B.mkCmp bd .le n b))))
  | _ => none
def ctWithin : Ct := ctF [.lf .int, .lf .int, .lf .int] [.lf .bool] (fun _ => True) (fun cs => [.b (inV (n_ cs 0) (n_ cs 1) (n_ cs 2))])
def nanI : Inl := fun bd l => match l with
  | [.lf (.int n)] => some (rngL bd (cellsOf [] l), .lf (.bool (.lit false)))
  | _ => none
def ctNan : Ct := ctF [.lf .int] [.lf .bool] (fun _ => True) (fun cs => [.b false])
def ctLine : Ct := ctF [lineSh, .lf .int, .lf .int] [.lf .int] (fun _ => True) (fun cs => [.i (lineV (k_ cs 0) (n_ cs 1) (n_ cs 2))])
def ctRight : Ct := ctF [.lf (.arr 24)] [.lf .bool] (fun _ => True) (fun cs => [.b ((at_ cs 0).rows.all fun r => rightB (knots (r.getD 0 (.i 0)).rows))])
def ctRRight : Ct := ctF [lineSh] [.lf .bool] (fun _ => True) (fun cs => [.b (rightB (k_ cs 0))])
def ctFloor : Ct := ctF [.lf .int, .lf .int] [.lf .int] (fun cs => 0 < n_ cs 1 ∧ -9223372036854775807 ≤ n_ cs 0) (fun cs => [.i (n_ cs 0 / n_ cs 1)])
def ctFind : Ct := ctF [lineSh, .lf .int] [.agg [.int, .int, .int, .int]] (fun cs => Asc (k_ cs 0) ∧ k_ cs 0 ≠ [] ∧ (k_ cs 0).length ≤ 1000) (fun cs => ofKn (findV (k_ cs 0) (n_ cs 1)).1 ++ ofKn (findV (k_ cs 0) (n_ cs 1)).2)
/-- A part that can be reckoned with. -/
def PartOK (p : Kn × Kn) (x : Int) : Prop := 0 ≤ p.1.2 ∧ p.1.2 ≤ 68719476736 ∧ (p.1 = p.2 ∨ (0 ≤ p.1.1 ∧ p.1.1 < p.2.1 ∧ p.2.1 ≤ 1099511627776 ∧ p.1.1 ≤ x ∧ x ≤ p.2.1 ∧ 0 ≤ p.2.2 ∧ p.2.2 ≤ 68719476736 ∧ -1152921504606846976 ≤ (p.2.2 - p.1.2) * (x - p.1.1) ∧ (p.2.2 - p.1.2) * (x - p.1.1) ≤ 1152921504606846976))
def ctAt4 : Ct := ctF [.agg [.int, .int, .int, .int], .lf .int] [.lf .int, .lf .int, .lf .int] (fun cs => PartOK ((n_ cs 0, n_ cs 1), (n_ cs 2, n_ cs 3)) (n_ cs 4)) (fun cs => [.i (partAt ((n_ cs 0, n_ cs 1), (n_ cs 2, n_ cs 3)) (n_ cs 4)).1, .i (partAt ((n_ cs 0, n_ cs 1), (n_ cs 2, n_ cs 3)) (n_ cs 4)).2.1, .i (partAt ((n_ cs 0, n_ cs 1), (n_ cs 2, n_ cs 3)) (n_ cs 4)).2.2])
def ctValue : Ct := ctF [lineSh, .lf .int] [rangeSh] (fun cs => rightB (k_ cs 0) = true) (fun cs => ofKn (rangeP (k_ cs 0) (n_ cs 1)))
def ctAt : Ct := ctF [lineSh, .lf .int] [rangeSh] (fun _ => True) (fun cs => ofKn (atV (k_ cs 0) (n_ cs 1)))
/-- Two parts whose fractions can be compared. -/
def GeOK (p q : Int × Int × Int) : Prop := -9223372036854775808 ≤ q.2.1 * p.2.2 ∧ q.2.1 * p.2.2 ≤ 9223372036854775807 ∧ -9223372036854775808 ≤ p.2.1 * q.2.2 ∧ p.2.1 * q.2.2 ≤ 9223372036854775807
def ctAtLeast : Ct := ctF [lineSh, lineSh, .lf .int] [.lf .bool] (fun cs => rightB (k_ cs 0) = true ∧ rightB (k_ cs 1) = true ∧ GeOK (valP (k_ cs 0) (n_ cs 2)) (valP (k_ cs 1) (n_ cs 2))) (fun cs => [.b (geP (valP (k_ cs 0) (n_ cs 2)) (valP (k_ cs 1) (n_ cs 2)))])
def ctAboveI : Ct := ctF [lineSh, lineSh, .lf .int] [.lf .bool] (fun cs => rightB (k_ cs 0) = true ∧ rightB (k_ cs 1) = true) (fun cs => [.b (aboveV (k_ cs 0) (k_ cs 1) (n_ cs 2))])
def ctAbove : Ct := ctF [lineSh, lineSh] [.lf .bool] (fun _ => True) (fun cs => [.b (rightB (k_ cs 0) && rightB (k_ cs 1) && aboveV (k_ cs 0) (k_ cs 1) 2199023255552)])
def ctRAboveI : Ct := ctF [lineSh, lineSh] [.lf .bool] (fun cs => rightB (k_ cs 0) = true ∧ rightB (k_ cs 1) = true) (fun cs => [.b (aboveV (k_ cs 0) (k_ cs 1) 2199023255552)])
def tab : Tab where
  ct := fun f => match f with
    | 18 | 19 => some ctLine
    | 63 => some ctRight
    | 71 => some ctRRight
    | 115 | 101 => some ctFloor
    | 93 => some ctFind
    | 94 => some ctAt4
    | 65 | 72 => some ctValue
    | 23 | 38 => some ctAt
    | 92 => some ctAtLeast
    | 64 => some ctAboveI
    | 21 | 43 => some ctAbove
    | 77 => some ctRAboveI
    | _ => none
  inl := fun f => match f with
    | 60 => some withinI
    | 123 => some nanI
    | _ => none
end Go.Proofs.Ytcglpbchejkolaa
/- What is to be shown of each function, as the executor has it. Printed by trees.py. -/
namespace Go.Proofs.Ytcglpbchejkolaa
noncomputable def cwithin : Cx := tab.only [] (fun _ => []) [] 0 [] (fun _ => none)
def twithin : Tree :=
  (.split (.cmp .le (.var 1) (.var 0)) (.ret [(.bool (.cmp .le (.var 0) (.var 2)))]) (.ret [(.bool (.lit false))]))
noncomputable def cnan : Cx := tab.only [] (fun _ => []) [] 0 [] (fun _ => none)
def tnan : Tree :=
  (.ret [(.bool (.cmp .ne (.var 0) (.var 0)))])
noncomputable def cline : Cx := tab.only [60] (fun _ => []) [] 0 [] (fun _ => none)
def tline : Tree :=
  (.split (.not (.and (.cmp .le (.lit 0) (.var 1)) (.cmp .le (.var 1) (.lit 1099511627776)))) (.ret [(.int (.lit 2))]) (.split (.not (.and (.cmp .le (.lit 0) (.var 2)) (.cmp .le (.var 2) (.lit 68719476736)))) (.ret [(.int (.lit 2))]) (.split (.cmp .eq (.len (.var 0)) (.lit 0)) (.ret [(.int (.lit 6))]) (.split (.cmp .lt (.lit 24) (.len (.var 0))) (.ret [(.int (.lit 8))]) (.loop [.int, .int, .int] [(.int (.lit 0)), (.int (.lit (-1))), (.int (.lit 0))] (.split (.cmp .lt (.var 5) (.len (.var 0))) (.ob (.cmp .le (.lit 0) (.var 5)) (.ob (.cmp .lt (.var 5) (.len (.var 0))) (.split (.not (.and (.cmp .le (.lit 0) (.cell (.var 0) (.var 5) 0)) (.cmp .le (.cell (.var 0) (.var 5) 0) (.var 1)))) (.ret [(.int (.lit 2))]) (.split (.not (.and (.cmp .le (.lit 0) (.cell (.var 0) (.var 5) 1)) (.cmp .le (.cell (.var 0) (.var 5) 1) (.var 2)))) (.ret [(.int (.lit 2))]) (.split (.cmp .le (.cell (.var 0) (.var 5) 0) (.var 4)) (.ret [(.int (.lit 11))]) (.back 0 [(.int (.var 3)), (.int (.cell (.var 0) (.var 5) 0)), (.int (.add (.var 5) (.lit 1)))])))))) (.ret [(.int (.lit 0))])))))))
noncomputable def crline : Cx := tab.only [] (fun _ => []) [] 0 [] (fun _ => none)
def trline : Tree :=
  (.split (.cmp .lt (.var 1) (.lit 0)) (.ret [(.int (.lit 2))]) (.split (.cmp .lt (.lit 1099511627776) (.var 1)) (.ret [(.int (.lit 2))]) (.split (.cmp .lt (.var 2) (.lit 0)) (.ret [(.int (.lit 2))]) (.split (.cmp .lt (.lit 68719476736) (.var 2)) (.ret [(.int (.lit 2))]) (.split (.cmp .eq (.len (.var 0)) (.lit 0)) (.ret [(.int (.lit 6))]) (.split (.cmp .lt (.lit 24) (.len (.var 0))) (.ret [(.int (.lit 8))]) (.loop [.int, .int] [(.int (.lit 0)), (.int (.lit 0))] (.split (.cmp .lt (.var 4) (.len (.var 0))) (.ob (.cmp .le (.lit 0) (.var 4)) (.ob (.cmp .lt (.var 4) (.len (.var 0))) (.split (.cmp .lt (.cell (.var 0) (.var 4) 0) (.lit 0)) (.ret [(.int (.lit 2))]) (.split (.cmp .lt (.var 1) (.cell (.var 0) (.var 4) 0)) (.ret [(.int (.lit 2))]) (.split (.cmp .lt (.cell (.var 0) (.var 4) 1) (.lit 0)) (.ret [(.int (.lit 2))]) (.split (.cmp .lt (.var 2) (.cell (.var 0) (.var 4) 1)) (.ret [(.int (.lit 2))]) (.split (.cmp .lt (.lit 0) (.var 4)) (.ob (.cmp .lt (.sub (.var 4) (.lit 1)) (.len (.var 0))) (.split (.cmp .le (.cell (.var 0) (.var 4) 0) (.cell (.var 0) (.sub (.var 4) (.lit 1)) 0)) (.ret [(.int (.lit 11))]) (.back 0 [(.int (.var 3)), (.int (.add (.var 4) (.lit 1)))]))) (.back 0 [(.int (.var 3)), (.int (.add (.var 4) (.lit 1)))])))))))) (.ret [(.int (.lit 0))])))))))))
noncomputable def flright : List (Nat × Func) := [(90, Try.f90), (111, Try.f111), (91, Try.f91)]
theorem fxright : ∀ p ∈ flright, FnOK p := fns_cons ⟨Try.func90, ⟨_, Try.func90, by decide, rfl⟩⟩ (fns_cons ⟨Try.func111, ⟨_, Try.func111, by decide, rfl⟩⟩ (fns_cons ⟨Try.func91, ⟨_, Try.func91, by decide, rfl⟩⟩ (fns_nil)))
noncomputable def cright : Cx := tab.only [18] (fun _ => []) flright 3 [] (fun _ => none)
def tright : Tree :=
  (.loop [.int, .int] [(.int (.lit 0)), (.int (.lit 0))] (.split (.cmp .lt (.var 2) (.len (.var 0))) (.ob (.cmp .le (.lit 0) (.var 2)) (.ob (.cmp .lt (.var 2) (.len (.var 0))) (.call 18 [(.arr 44 (.cell (.var 0) (.var 2) 0)), (.int (.lit 1048576)), (.int (.lit 68719476736))] (.split (.cmp .ne (.var 3) (.lit 0)) (.call 18 [(.arr 44 (.cell (.var 0) (.var 2) 0)), (.int (.lit 1099511627776)), (.int (.lit 1048576))] (.split (.cmp .ne (.var 4) (.lit 0)) (.ret [(.bool (.lit false))]) (.back 0 [(.int (.var 1)), (.int (.add (.var 2) (.lit 1)))]))) (.back 0 [(.int (.var 1)), (.int (.add (.var 2) (.lit 1)))]))))) (.ret [(.bool (.lit true))])))
noncomputable def crright : Cx := tab.only [19] (fun _ => []) [] 0 [] (fun _ => none)
def trright : Tree :=
  (.call 19 [(.arr 44 (.var 0)), (.int (.lit 1048576)), (.int (.lit 68719476736))] (.split (.cmp .eq (.var 1) (.lit 0)) (.ret [(.bool (.lit true))]) (.call 19 [(.arr 44 (.var 0)), (.int (.lit 1099511627776)), (.int (.lit 1048576))] (.ret [(.bool (.cmp .eq (.var 2) (.lit 0)))]))))
noncomputable def cfloor : Cx := tab.only [] (fun _ => []) [] 0 [] (fun _ => none)
def tfloor : Tree :=
  (.ob (.cmp .ne (.var 1) (.lit 0)) (.ob (.and (.cmp .le (.lit (-9223372036854775808)) (.quo (.var 0) (.var 1))) (.cmp .le (.quo (.var 0) (.var 1)) (.lit 9223372036854775807))) (.ob (.cmp .ne (.var 1) (.lit 0)) (.split (.cmp .lt (.rem (.var 0) (.var 1)) (.lit 0)) (.ob (.and (.cmp .le (.lit (-9223372036854775808)) (.sub (.quo (.var 0) (.var 1)) (.lit 1))) (.cmp .le (.sub (.quo (.var 0) (.var 1)) (.lit 1)) (.lit 9223372036854775807))) (.ob (.and (.cmp .le (.lit (-9223372036854775808)) (.sub (.quo (.var 0) (.var 1)) (.lit 1))) (.cmp .le (.sub (.quo (.var 0) (.var 1)) (.lit 1)) (.lit 9223372036854775807))) (.ret [(.int (.sub (.quo (.var 0) (.var 1)) (.lit 1)))]))) (.ob (.and (.cmp .le (.lit (-9223372036854775808)) (.quo (.var 0) (.var 1))) (.cmp .le (.quo (.var 0) (.var 1)) (.lit 9223372036854775807))) (.ret [(.int (.quo (.var 0) (.var 1)))]))))))
noncomputable def crfloor : Cx := tab.only [] (fun _ => []) [] 0 [] (fun _ => none)
def trfloor : Tree :=
  (.ob (.cmp .ne (.var 1) (.lit 0)) (.ob (.and (.cmp .le (.lit (-9223372036854775808)) (.quo (.var 0) (.var 1))) (.cmp .le (.quo (.var 0) (.var 1)) (.lit 9223372036854775807))) (.ob (.cmp .ne (.var 1) (.lit 0)) (.split (.cmp .lt (.rem (.var 0) (.var 1)) (.lit 0)) (.ob (.and (.cmp .le (.lit (-9223372036854775808)) (.sub (.quo (.var 0) (.var 1)) (.lit 1))) (.cmp .le (.sub (.quo (.var 0) (.var 1)) (.lit 1)) (.lit 9223372036854775807))) (.ob (.and (.cmp .le (.lit (-9223372036854775808)) (.sub (.quo (.var 0) (.var 1)) (.lit 1))) (.cmp .le (.sub (.quo (.var 0) (.var 1)) (.lit 1)) (.lit 9223372036854775807))) (.ret [(.int (.sub (.quo (.var 0) (.var 1)) (.lit 1)))]))) (.ob (.and (.cmp .le (.lit (-9223372036854775808)) (.quo (.var 0) (.var 1))) (.cmp .le (.quo (.var 0) (.var 1)) (.lit 9223372036854775807))) (.ret [(.int (.quo (.var 0) (.var 1)))]))))))
noncomputable def flfind : List (Nat × Func) := [(112, Try.f112), (113, Try.f113), (114, Try.f114)]
theorem fxfind : ∀ p ∈ flfind, FnOK p := fns_cons ⟨Try.func112, ⟨_, Try.func112, by decide, rfl⟩⟩ (fns_cons ⟨Try.func113, ⟨_, Try.func113, by decide, rfl⟩⟩ (fns_cons ⟨Try.func114, ⟨_, Try.func114, by decide, rfl⟩⟩ (fns_nil)))
noncomputable def cfind : Cx := tab.only [123] (fun _ => []) flfind 3 [] (fun _ => none)
def tfind : Tree :=
  (.loop [.int, .int] [(.int (.lit 0)), (.int (.len (.var 0)))] (.split (.cmp .lt (.var 2) (.var 3)) (.ob (.and (.cmp .le (.lit (-9223372036854775808)) (.add (.var 2) (.var 3))) (.cmp .le (.add (.var 2) (.var 3)) (.lit 9223372036854775807))) (.ob (.cmp .le (.lit 0) (.add (.var 2) (.var 3))) (.ob (.cmp .le (.add (.var 2) (.var 3)) (.lit 9223372036854775807)) (.ob (.cmp .le (.lit 0) (.add (.var 2) (.var 3))) (.ob (.cmp .le (.lit 0) (.quo (.add (.var 2) (.var 3)) (.lit 2))) (.ob (.cmp .le (.quo (.add (.var 2) (.var 3)) (.lit 2)) (.lit 9223372036854775807)) (.ob (.cmp .le (.lit 0) (.quo (.add (.var 2) (.var 3)) (.lit 2))) (.ob (.cmp .lt (.quo (.add (.var 2) (.var 3)) (.lit 2)) (.len (.var 0))) (.split (.cmp .lt (.cell (.var 0) (.quo (.add (.var 2) (.var 3)) (.lit 2)) 0) (.var 1)) (.ob (.and (.cmp .le (.lit (-9223372036854775808)) (.add (.quo (.add (.var 2) (.var 3)) (.lit 2)) (.lit 1))) (.cmp .le (.add (.quo (.add (.var 2) (.var 3)) (.lit 2)) (.lit 1)) (.lit 9223372036854775807))) (.ob (.and (.cmp .le (.lit (-9223372036854775808)) (.add (.quo (.add (.var 2) (.var 3)) (.lit 2)) (.lit 1))) (.cmp .le (.add (.quo (.add (.var 2) (.var 3)) (.lit 2)) (.lit 1)) (.lit 9223372036854775807))) (.back 0 [(.int (.add (.quo (.add (.var 2) (.var 3)) (.lit 2)) (.lit 1))), (.int (.var 3))]))) (.split (.cmp .lt (.var 1) (.cell (.var 0) (.quo (.add (.var 2) (.var 3)) (.lit 2)) 0)) (.ob (.and (.cmp .le (.lit (-9223372036854775808)) (.quo (.add (.var 2) (.var 3)) (.lit 2))) (.cmp .le (.quo (.add (.var 2) (.var 3)) (.lit 2)) (.lit 9223372036854775807))) (.back 0 [(.int (.var 2)), (.int (.quo (.add (.var 2) (.var 3)) (.lit 2)))])) (.ob (.and (.cmp .le (.lit (-9223372036854775808)) (.quo (.add (.var 2) (.var 3)) (.lit 2))) (.cmp .le (.quo (.add (.var 2) (.var 3)) (.lit 2)) (.lit 9223372036854775807))) (.back 0 [(.int (.var 2)), (.int (.quo (.add (.var 2) (.var 3)) (.lit 2)))])))))))))))) (.split (.cmp .lt (.var 2) (.len (.var 0))) (.ob (.cmp .le (.lit 0) (.var 2)) (.ob (.cmp .lt (.var 2) (.len (.var 0))) (.split (.cmp .lt (.cell (.var 0) (.var 2) 0) (.var 1)) (.ob (.cmp .lt (.max (.sub (.var 2) (.lit 1)) (.lit 0)) (.len (.var 0))) (.ob (.cmp .le (.lit 0) (.min (.var 2) (.sub (.len (.var 0)) (.lit 1)))) (.ob (.cmp .lt (.min (.var 2) (.sub (.len (.var 0)) (.lit 1))) (.len (.var 0))) (.ret [(.int (.cell (.var 0) (.max (.sub (.var 2) (.lit 1)) (.lit 0)) 0)), (.int (.cell (.var 0) (.max (.sub (.var 2) (.lit 1)) (.lit 0)) 1)), (.int (.cell (.var 0) (.min (.var 2) (.sub (.len (.var 0)) (.lit 1))) 0)), (.int (.cell (.var 0) (.min (.var 2) (.sub (.len (.var 0)) (.lit 1))) 1))])))) (.split (.cmp .lt (.var 1) (.cell (.var 0) (.var 2) 0)) (.ob (.cmp .lt (.max (.sub (.var 2) (.lit 1)) (.lit 0)) (.len (.var 0))) (.ob (.cmp .le (.lit 0) (.min (.var 2) (.sub (.len (.var 0)) (.lit 1)))) (.ob (.cmp .lt (.min (.var 2) (.sub (.len (.var 0)) (.lit 1))) (.len (.var 0))) (.ret [(.int (.cell (.var 0) (.max (.sub (.var 2) (.lit 1)) (.lit 0)) 0)), (.int (.cell (.var 0) (.max (.sub (.var 2) (.lit 1)) (.lit 0)) 1)), (.int (.cell (.var 0) (.min (.var 2) (.sub (.len (.var 0)) (.lit 1))) 0)), (.int (.cell (.var 0) (.min (.var 2) (.sub (.len (.var 0)) (.lit 1))) 1))])))) (.ob (.cmp .le (.lit 0) (.min (.var 2) (.sub (.len (.var 0)) (.lit 1)))) (.ob (.cmp .lt (.min (.var 2) (.sub (.len (.var 0)) (.lit 1))) (.len (.var 0))) (.ob (.cmp .le (.lit 0) (.min (.var 2) (.sub (.len (.var 0)) (.lit 1)))) (.ob (.cmp .lt (.min (.var 2) (.sub (.len (.var 0)) (.lit 1))) (.len (.var 0))) (.ret [(.int (.cell (.var 0) (.min (.var 2) (.sub (.len (.var 0)) (.lit 1))) 0)), (.int (.cell (.var 0) (.min (.var 2) (.sub (.len (.var 0)) (.lit 1))) 1)), (.int (.cell (.var 0) (.min (.var 2) (.sub (.len (.var 0)) (.lit 1))) 0)), (.int (.cell (.var 0) (.min (.var 2) (.sub (.len (.var 0)) (.lit 1))) 1))]))))))))) (.ob (.cmp .lt (.max (.sub (.var 2) (.lit 1)) (.lit 0)) (.len (.var 0))) (.ob (.cmp .le (.lit 0) (.min (.var 2) (.sub (.len (.var 0)) (.lit 1)))) (.ob (.cmp .lt (.min (.var 2) (.sub (.len (.var 0)) (.lit 1))) (.len (.var 0))) (.ret [(.int (.cell (.var 0) (.max (.sub (.var 2) (.lit 1)) (.lit 0)) 0)), (.int (.cell (.var 0) (.max (.sub (.var 2) (.lit 1)) (.lit 0)) 1)), (.int (.cell (.var 0) (.min (.var 2) (.sub (.len (.var 0)) (.lit 1))) 0)), (.int (.cell (.var 0) (.min (.var 2) (.sub (.len (.var 0)) (.lit 1))) 1))])))))))
noncomputable def cat4 : Cx := tab.only [115] (fun _ => []) [] 0 [] (fun _ => none)
def tat4 : Tree :=
  (.split (.and (.cmp .eq (.var 0) (.var 2)) (.cmp .eq (.var 1) (.var 3))) (.ret [(.int (.var 1)), (.int (.lit 0)), (.int (.lit 1))]) (.ob (.and (.cmp .le (.lit (-9223372036854775808)) (.sub (.var 2) (.var 0))) (.cmp .le (.sub (.var 2) (.var 0)) (.lit 9223372036854775807))) (.ob (.and (.cmp .le (.lit (-9223372036854775808)) (.sub (.var 3) (.var 1))) (.cmp .le (.sub (.var 3) (.var 1)) (.lit 9223372036854775807))) (.ob (.and (.cmp .le (.lit (-9223372036854775808)) (.sub (.var 4) (.var 0))) (.cmp .le (.sub (.var 4) (.var 0)) (.lit 9223372036854775807))) (.ob (.and (.cmp .le (.lit (-9223372036854775808)) (.mul (.sub (.var 3) (.var 1)) (.sub (.var 4) (.var 0)))) (.cmp .le (.mul (.sub (.var 3) (.var 1)) (.sub (.var 4) (.var 0))) (.lit 9223372036854775807))) (.ob (.and (.cmp .le (.lit (-9223372036854775808)) (.mul (.sub (.var 3) (.var 1)) (.sub (.var 4) (.var 0)))) (.cmp .le (.mul (.sub (.var 3) (.var 1)) (.sub (.var 4) (.var 0))) (.lit 9223372036854775807))) (.ob (.and (.cmp .le (.lit (-9223372036854775808)) (.sub (.var 2) (.var 0))) (.cmp .le (.sub (.var 2) (.var 0)) (.lit 9223372036854775807))) (.call 115 [(.int (.mul (.sub (.var 3) (.var 1)) (.sub (.var 4) (.var 0)))), (.int (.sub (.var 2) (.var 0)))] (.ob (.and (.cmp .le (.lit (-9223372036854775808)) (.add (.var 1) (.var 5))) (.cmp .le (.add (.var 1) (.var 5)) (.lit 9223372036854775807))) (.ob (.and (.cmp .le (.lit (-9223372036854775808)) (.mul (.var 5) (.sub (.var 2) (.var 0)))) (.cmp .le (.mul (.var 5) (.sub (.var 2) (.var 0))) (.lit 9223372036854775807))) (.ob (.and (.cmp .le (.lit (-9223372036854775808)) (.sub (.mul (.sub (.var 3) (.var 1)) (.sub (.var 4) (.var 0))) (.mul (.var 5) (.sub (.var 2) (.var 0))))) (.cmp .le (.sub (.mul (.sub (.var 3) (.var 1)) (.sub (.var 4) (.var 0))) (.mul (.var 5) (.sub (.var 2) (.var 0)))) (.lit 9223372036854775807))) (.ob (.and (.cmp .le (.lit (-9223372036854775808)) (.add (.var 1) (.var 5))) (.cmp .le (.add (.var 1) (.var 5)) (.lit 9223372036854775807))) (.ob (.and (.cmp .le (.lit (-9223372036854775808)) (.sub (.mul (.sub (.var 3) (.var 1)) (.sub (.var 4) (.var 0))) (.mul (.var 5) (.sub (.var 2) (.var 0))))) (.cmp .le (.sub (.mul (.sub (.var 3) (.var 1)) (.sub (.var 4) (.var 0))) (.mul (.var 5) (.sub (.var 2) (.var 0)))) (.lit 9223372036854775807))) (.ob (.and (.cmp .le (.lit (-9223372036854775808)) (.sub (.var 2) (.var 0))) (.cmp .le (.sub (.var 2) (.var 0)) (.lit 9223372036854775807))) (.ret [(.int (.add (.var 1) (.var 5))), (.int (.sub (.mul (.sub (.var 3) (.var 1)) (.sub (.var 4) (.var 0))) (.mul (.var 5) (.sub (.var 2) (.var 0))))), (.int (.sub (.var 2) (.var 0)))])))))))))))))))
noncomputable def cvalue : Cx := tab.only [93, 94] (fun _ => []) [] 0 [] (fun _ => none)
def tvalue : Tree :=
  (.call 93 [(.arr 44 (.var 0)), (.int (.var 1))] (.call 94 [(.int (.var 2)), (.int (.var 3)), (.int (.var 4)), (.int (.var 5)), (.int (.var 1))] (.ob (.and (.cmp .le (.lit (-9223372036854775808)) (.add (.var 6) (.min (.var 7) (.lit 1)))) (.cmp .le (.add (.var 6) (.min (.var 7) (.lit 1))) (.lit 9223372036854775807))) (.ob (.and (.cmp .le (.lit (-9223372036854775808)) (.add (.var 6) (.min (.var 7) (.lit 1)))) (.cmp .le (.add (.var 6) (.min (.var 7) (.lit 1))) (.lit 9223372036854775807))) (.ret [(.int (.var 6)), (.int (.add (.var 6) (.min (.var 7) (.lit 1))))])))))
noncomputable def crvalue : Cx := tab.only [101] (fun _ => []) [] 0 [] (fun _ => none)
def trvalue : Tree :=
  (.ob (.cmp .lt (.lit 0) (.len (.var 0))) (.ob (.cmp .le (.lit 0) (.sub (.len (.var 0)) (.lit 1))) (.ob (.cmp .lt (.sub (.len (.var 0)) (.lit 1)) (.len (.var 0))) (.split (.cmp .le (.var 1) (.cell (.var 0) (.lit 0) 0)) (.ret [(.int (.cell (.var 0) (.lit 0) 1)), (.int (.cell (.var 0) (.lit 0) 1))]) (.split (.cmp .le (.cell (.var 0) (.sub (.len (.var 0)) (.lit 1)) 0) (.var 1)) (.ret [(.int (.cell (.var 0) (.sub (.len (.var 0)) (.lit 1)) 1)), (.int (.cell (.var 0) (.sub (.len (.var 0)) (.lit 1)) 1))]) (.loop [.int] [(.int (.lit 0))] (.ob (.and (.cmp .le (.lit (-9223372036854775808)) (.add (.var 2) (.lit 1))) (.cmp .le (.add (.var 2) (.lit 1)) (.lit 9223372036854775807))) (.ob (.cmp .le (.lit 0) (.add (.var 2) (.lit 1))) (.ob (.cmp .lt (.add (.var 2) (.lit 1)) (.len (.var 0))) (.split (.cmp .lt (.cell (.var 0) (.add (.var 2) (.lit 1)) 0) (.var 1)) (.ob (.and (.cmp .le (.lit (-9223372036854775808)) (.add (.var 2) (.lit 1))) (.cmp .le (.add (.var 2) (.lit 1)) (.lit 9223372036854775807))) (.ob (.and (.cmp .le (.lit (-9223372036854775808)) (.add (.var 2) (.lit 1))) (.cmp .le (.add (.var 2) (.lit 1)) (.lit 9223372036854775807))) (.back 0 [(.int (.add (.var 2) (.lit 1)))]))) (.ob (.cmp .le (.lit 0) (.var 2)) (.ob (.cmp .lt (.var 2) (.len (.var 0))) (.ob (.cmp .lt (.add (.var 2) (.lit 1)) (.len (.var 0))) (.ob (.and (.cmp .le (.lit (-9223372036854775808)) (.sub (.cell (.var 0) (.add (.var 2) (.lit 1)) 1) (.cell (.var 0) (.var 2) 1))) (.cmp .le (.sub (.cell (.var 0) (.add (.var 2) (.lit 1)) 1) (.cell (.var 0) (.var 2) 1)) (.lit 9223372036854775807))) (.ob (.and (.cmp .le (.lit (-9223372036854775808)) (.sub (.var 1) (.cell (.var 0) (.var 2) 0))) (.cmp .le (.sub (.var 1) (.cell (.var 0) (.var 2) 0)) (.lit 9223372036854775807))) (.ob (.and (.cmp .le (.lit (-9223372036854775808)) (.mul (.sub (.cell (.var 0) (.add (.var 2) (.lit 1)) 1) (.cell (.var 0) (.var 2) 1)) (.sub (.var 1) (.cell (.var 0) (.var 2) 0)))) (.cmp .le (.mul (.sub (.cell (.var 0) (.add (.var 2) (.lit 1)) 1) (.cell (.var 0) (.var 2) 1)) (.sub (.var 1) (.cell (.var 0) (.var 2) 0))) (.lit 9223372036854775807))) (.ob (.and (.cmp .le (.lit (-9223372036854775808)) (.sub (.cell (.var 0) (.add (.var 2) (.lit 1)) 0) (.cell (.var 0) (.var 2) 0))) (.cmp .le (.sub (.cell (.var 0) (.add (.var 2) (.lit 1)) 0) (.cell (.var 0) (.var 2) 0)) (.lit 9223372036854775807))) (.ob (.and (.cmp .le (.lit (-9223372036854775808)) (.mul (.sub (.cell (.var 0) (.add (.var 2) (.lit 1)) 1) (.cell (.var 0) (.var 2) 1)) (.sub (.var 1) (.cell (.var 0) (.var 2) 0)))) (.cmp .le (.mul (.sub (.cell (.var 0) (.add (.var 2) (.lit 1)) 1) (.cell (.var 0) (.var 2) 1)) (.sub (.var 1) (.cell (.var 0) (.var 2) 0))) (.lit 9223372036854775807))) (.ob (.and (.cmp .le (.lit (-9223372036854775808)) (.sub (.cell (.var 0) (.add (.var 2) (.lit 1)) 0) (.cell (.var 0) (.var 2) 0))) (.cmp .le (.sub (.cell (.var 0) (.add (.var 2) (.lit 1)) 0) (.cell (.var 0) (.var 2) 0)) (.lit 9223372036854775807))) (.call 101 [(.int (.mul (.sub (.cell (.var 0) (.add (.var 2) (.lit 1)) 1) (.cell (.var 0) (.var 2) 1)) (.sub (.var 1) (.cell (.var 0) (.var 2) 0)))), (.int (.sub (.cell (.var 0) (.add (.var 2) (.lit 1)) 0) (.cell (.var 0) (.var 2) 0)))] (.ob (.and (.cmp .le (.lit (-9223372036854775808)) (.add (.cell (.var 0) (.var 2) 1) (.var 3))) (.cmp .le (.add (.cell (.var 0) (.var 2) 1) (.var 3)) (.lit 9223372036854775807))) (.ob (.and (.cmp .le (.lit (-9223372036854775808)) (.sub (.lit 0) (.mul (.sub (.cell (.var 0) (.add (.var 2) (.lit 1)) 1) (.cell (.var 0) (.var 2) 1)) (.sub (.var 1) (.cell (.var 0) (.var 2) 0))))) (.cmp .le (.sub (.lit 0) (.mul (.sub (.cell (.var 0) (.add (.var 2) (.lit 1)) 1) (.cell (.var 0) (.var 2) 1)) (.sub (.var 1) (.cell (.var 0) (.var 2) 0)))) (.lit 9223372036854775807))) (.ob (.and (.cmp .le (.lit (-9223372036854775808)) (.sub (.lit 0) (.mul (.sub (.cell (.var 0) (.add (.var 2) (.lit 1)) 1) (.cell (.var 0) (.var 2) 1)) (.sub (.var 1) (.cell (.var 0) (.var 2) 0))))) (.cmp .le (.sub (.lit 0) (.mul (.sub (.cell (.var 0) (.add (.var 2) (.lit 1)) 1) (.cell (.var 0) (.var 2) 1)) (.sub (.var 1) (.cell (.var 0) (.var 2) 0)))) (.lit 9223372036854775807))) (.ob (.and (.cmp .le (.lit (-9223372036854775808)) (.sub (.cell (.var 0) (.add (.var 2) (.lit 1)) 0) (.cell (.var 0) (.var 2) 0))) (.cmp .le (.sub (.cell (.var 0) (.add (.var 2) (.lit 1)) 0) (.cell (.var 0) (.var 2) 0)) (.lit 9223372036854775807))) (.call 101 [(.int (.sub (.lit 0) (.mul (.sub (.cell (.var 0) (.add (.var 2) (.lit 1)) 1) (.cell (.var 0) (.var 2) 1)) (.sub (.var 1) (.cell (.var 0) (.var 2) 0))))), (.int (.sub (.cell (.var 0) (.add (.var 2) (.lit 1)) 0) (.cell (.var 0) (.var 2) 0)))] (.ob (.and (.cmp .le (.lit (-9223372036854775808)) (.sub (.cell (.var 0) (.var 2) 1) (.var 4))) (.cmp .le (.sub (.cell (.var 0) (.var 2) 1) (.var 4)) (.lit 9223372036854775807))) (.ob (.and (.cmp .le (.lit (-9223372036854775808)) (.add (.cell (.var 0) (.var 2) 1) (.var 3))) (.cmp .le (.add (.cell (.var 0) (.var 2) 1) (.var 3)) (.lit 9223372036854775807))) (.ob (.and (.cmp .le (.lit (-9223372036854775808)) (.sub (.cell (.var 0) (.var 2) 1) (.var 4))) (.cmp .le (.sub (.cell (.var 0) (.var 2) 1) (.var 4)) (.lit 9223372036854775807))) (.ret [(.int (.add (.cell (.var 0) (.var 2) 1) (.var 3))), (.int (.sub (.cell (.var 0) (.var 2) 1) (.var 4)))])))))))))))))))))))))))))))))
noncomputable def cat : Cx := tab.only [63, 65] (fun _ => []) [] 0 [] (fun _ => none)
def tat : Tree :=
  (.arr [[(.arr 44 (.var 0))]] (.call 63 [(.arr 24 (.var 2))] (.split (.not (.of (.var 3))) (.ret [(.int (.lit 0)), (.int (.lit 0))]) (.call 65 [(.arr 44 (.var 0)), (.int (.var 1))] (.ret [(.int (.var 4)), (.int (.var 5))])))))
noncomputable def crat : Cx := tab.only [71, 72] (fun _ => []) [] 0 [] (fun _ => none)
def trat : Tree :=
  (.call 71 [(.arr 44 (.var 0))] (.split (.not (.of (.var 2))) (.ret [(.int (.lit 0)), (.int (.lit 0))]) (.call 72 [(.arr 44 (.var 0)), (.int (.var 1))] (.ret [(.int (.var 3)), (.int (.var 4))]))))
noncomputable def catleast : Cx := tab.only [93, 94] (fun _ => []) [] 0 [] (fun _ => none)
def tatleast : Tree :=
  (.call 93 [(.arr 44 (.var 0)), (.int (.var 2))] (.call 94 [(.int (.var 3)), (.int (.var 4)), (.int (.var 5)), (.int (.var 6)), (.int (.var 2))] (.call 93 [(.arr 44 (.var 1)), (.int (.var 2))] (.call 94 [(.int (.var 10)), (.int (.var 11)), (.int (.var 12)), (.int (.var 13)), (.int (.var 2))] (.split (.cmp .lt (.var 14) (.var 7)) (.ret [(.bool (.lit true))]) (.split (.cmp .eq (.var 7) (.var 14)) (.ob (.and (.cmp .le (.lit (-9223372036854775808)) (.mul (.var 8) (.var 16))) (.cmp .le (.mul (.var 8) (.var 16)) (.lit 9223372036854775807))) (.ob (.and (.cmp .le (.lit (-9223372036854775808)) (.mul (.var 15) (.var 9))) (.cmp .le (.mul (.var 15) (.var 9)) (.lit 9223372036854775807))) (.ret [(.bool (.cmp .le (.mul (.var 15) (.var 9)) (.mul (.var 8) (.var 16))))]))) (.ret [(.bool (.lit false))])))))))
noncomputable def cabove : Cx := tab.only [92] (fun r => match r with
  | 2 => [.blk 2000003]
  | _ => []) [] 0 [] (fun _ => none)
def tabove : Tree :=
  (.dfn .nil (.loop [.bool, .int] [(.bool (.lit false)), (.int (.lit 0))] (.split (.cmp .lt (.var 5) (.len (.var 0))) (.ob (.cmp .le (.lit 0) (.var 5)) (.ob (.cmp .lt (.var 5) (.len (.var 0))) (.split (.cmp .le (.cell (.var 0) (.var 5) 0) (.var 2)) (.call 92 [(.arr 44 (.var 0)), (.arr 44 (.var 1)), (.int (.cell (.var 0) (.var 5) 0))] (.split (.not (.of (.var 6))) (.ret [(.bool (.lit false))]) (.back 0 [(.bool (.of (.var 4))), (.int (.add (.var 5) (.lit 1)))]))) (.back 0 [(.bool (.of (.var 4))), (.int (.add (.var 5) (.lit 1)))])))) (.dfn .nil (.loop [.bool, .int, .bool] [(.bool (.of (.var 4))), (.int (.lit 0)), (.bool (.cmp .lt (.var 5) (.len (.var 0))))] (.split (.cmp .lt (.var 8) (.len (.var 1))) (.ob (.cmp .le (.lit 0) (.var 8)) (.ob (.cmp .lt (.var 8) (.len (.var 1))) (.split (.cmp .le (.cell (.var 1) (.var 8) 0) (.var 2)) (.call 92 [(.arr 44 (.var 0)), (.arr 44 (.var 1)), (.int (.cell (.var 1) (.var 8) 0))] (.split (.not (.of (.var 10))) (.ret [(.bool (.lit false))]) (.back 1 [(.bool (.of (.var 7))), (.int (.add (.var 8) (.lit 1))), (.bool (.cmp .lt (.var 8) (.len (.var 1))))]))) (.back 1 [(.bool (.of (.var 7))), (.int (.add (.var 8) (.lit 1))), (.bool (.cmp .lt (.var 8) (.len (.var 1))))])))) (.ret [(.bool (.lit true))])))))))
noncomputable def cabove2 : Cx := tab.only [63, 64] (fun _ => []) [] 0 [] (fun _ => none)
def tabove2 : Tree :=
  (.arr [[(.arr 44 (.var 0))], [(.arr 44 (.var 1))]] (.call 63 [(.arr 24 (.var 2))] (.split (.of (.var 3)) (.call 64 [(.arr 44 (.var 0)), (.arr 44 (.var 1)), (.int (.lit 2199023255552))] (.ret [(.bool (.of (.var 4)))])) (.ret [(.bool (.lit false))]))))
noncomputable def crabove : Cx := tab.only [72] (fun _ => []) [] 0 [] (fun _ => none)
def trabove : Tree :=
  (.loop [.bool, .int] [(.bool (.lit false)), (.int (.lit 0))] (.split (.cmp .lt (.var 3) (.len (.var 0))) (.ob (.cmp .le (.lit 0) (.var 3)) (.ob (.cmp .lt (.var 3) (.len (.var 0))) (.ob (.cmp .lt (.var 3) (.len (.var 0))) (.call 72 [(.arr 44 (.var 1)), (.int (.cell (.var 0) (.var 3) 0))] (.split (.cmp .lt (.cell (.var 0) (.var 3) 1) (.var 5)) (.ret [(.bool (.lit false))]) (.back 0 [(.bool (.of (.var 2))), (.int (.add (.var 3) (.lit 1)))])))))) (.loop [.bool, .int] [(.bool (.of (.var 2))), (.int (.lit 0))] (.split (.cmp .lt (.var 5) (.len (.var 1))) (.ob (.cmp .le (.lit 0) (.var 5)) (.ob (.cmp .lt (.var 5) (.len (.var 1))) (.call 72 [(.arr 44 (.var 0)), (.int (.cell (.var 1) (.var 5) 0))] (.ob (.cmp .lt (.var 5) (.len (.var 1))) (.split (.cmp .lt (.var 6) (.cell (.var 1) (.var 5) 1)) (.ret [(.bool (.lit false))]) (.back 1 [(.bool (.of (.var 4))), (.int (.add (.var 5) (.lit 1)))])))))) (.ret [(.bool (.lit true))])))))
noncomputable def crabove2 : Cx := tab.only [71, 77] (fun _ => []) [] 0 [] (fun _ => none)
def trabove2 : Tree :=
  (.call 71 [(.arr 44 (.var 0))] (.split (.of (.var 2)) (.call 71 [(.arr 44 (.var 1))] (.split (.of (.var 3)) (.call 77 [(.arr 44 (.var 0)), (.arr 44 (.var 1))] (.ret [(.bool (.of (.var 4)))])) (.ret [(.bool (.lit false))]))) (.ret [(.bool (.lit false))])))
end Go.Proofs.Ytcglpbchejkolaa
/- Earth: which lines are valid. -/
namespace Go.Proofs.Ytcglpbchejkolaa
open Go.RowKit
set_option linter.unusedSimpArgs false
set_option linter.unusedVariables false

theorem knots_len (rows : List (List C)) : (knots rows).length = rows.length := by simp [knots]
theorem kn1 (v : Value) (rows : List (List C)) (i : Nat) : ((C.s v rows).at i 0).int = ((knots rows).getD i (0, 0)).1 := by
  simp only [cell_at, knots, List.getD_eq_getElem?_getD, List.getElem?_map]
  cases rows[i]? <;> rfl
theorem kn2 (v : Value) (rows : List (List C)) (i : Nat) : ((C.s v rows).at i 1).int = ((knots rows).getD i (0, 0)).2 := by
  simp only [cell_at, knots, List.getD_eq_getElem?_getD, List.getElem?_map]
  cases rows[i]? <;> rfl
theorem take_snoc {α : Type} {l : List α} {i : Nat} (h : i < l.length) (d : α) : l.take (i + 1) = l.take i ++ [l.getD i d] := by
  rw [List.take_succ_eq_append_getElem h, List.getD_eq_getElem?_getD, List.getElem?_eq_getElem h]; rfl
theorem drop_cons {α : Type} {l : List α} {i : Nat} (h : i < l.length) (d : α) : l.drop i = l.getD i d :: l.drop (i + 1) := by
  rw [List.drop_eq_getElem_cons h, List.getD_eq_getElem?_getD, List.getElem?_eq_getElem h]; rfl
theorem getD_mem {α : Type} {l : List α} {i : Nat} (h : i < l.length) (d : α) : l.getD i d ∈ l := by
  rw [List.getD_eq_getElem?_getD, List.getElem?_eq_getElem h]; exact List.getElem_mem _
theorem cb_not (ρ : List C) (a : B) : C.b ((B.not a).den ρ) = C.b (!a.den ρ) := rfl
theorem cb_and (ρ : List C) (a b : B) : C.b ((B.and a b).den ρ) = C.b (a.den ρ && b.den ρ) := rfl
theorem cb_or (ρ : List C) (a b : B) : C.b ((B.or a b).den ρ) = C.b (a.den ρ || b.den ρ) := rfl

theorem within_ok : tab.ok 60 := by
  refine Tab.of_inl rfl rfl ⟨_, Try.func60, by decide, rfl⟩ ?_
  refine Inl.of_ct (args := [.lf .int, .lf .int, .lf .int]) (r := .lf .bool) (pre := fun _ => True) (fn := fun cs => [.b (inV (n_ cs 0) (n_ cs 1) (n_ cs 2))]) (ct_ok (cx := cwithin) (Tab.cx_ok all_nil) Try.func60 (bds := []) (T := twithin) (by kernel_rfl) ?_) ?_
  · unfold twithin
    simp only [VC, allC, List.map_cons, List.map_nil, List.length_cons, List.length_nil, List.getElem?_cons_zero, List.getElem?_cons_succ, List.cons.injEq, C.i.injEq, C.b.injEq, and_true, true_and, forall_const, kindsOf_nil, kindsOf_lf, kindsOf_agg, kindsOf_box, boxKinds_nil, boxKinds_lf, boxKinds_agg, boxKinds_box, List.append_nil, List.cons_append, List.nil_append, den_cmp_le, den_cmp_lt, den_cmp_eq, den_cmp_ne, den_cmp_le', den_cmp_lt', den_cmp_eq', den_cmp_ne', den_and, den_and', den_or, den_or', den_not, den_not', den_blit, den_of, ev_var, at_0, at_1, at_2, at_3, at_4, at_5, at_6, at_7, at_skip, c_int, c_bool, c_arr, c_cnt, c_vec, ev_nil, ev_join, ev_sub3, loc_s, int_i, bool_b, rows_s, cs_nil, cs_cons, E.den_lit, E.den_var, E.den_add, E.den_sub, E.den_mul, E.den_quo, E.den_rem, E.den_max, E.den_min, E.den_len, E.den_wr, E.den_cell, ctWithin, ctF, n_, inV]
    intro n _ _ a _ _ b _ _
    refine ⟨bds_nil _, ?_⟩
    simp only [B.den, Cmp.den, E.den_var, at_0, at_1, at_2, int_i]
    show (a ≤ n → decide (n ≤ b) = (decide (a ≤ n) && decide (n ≤ b))) ∧ (n < a → false = (decide (a ≤ n) && decide (n ≤ b)))
    exact ⟨fun h => by rw [decide_eq_true h, Bool.true_and], fun h => by rw [decide_eq_false (p := a ≤ n) (by omega), Bool.false_and]⟩
  · intro bd ρ l obs s hg hn ho
    unfold withinI at hg
    split at hg
    · rename_i n a b
      cases hg
      refine ⟨rfl, rfl, ho, trivial, rfl, rfl, ?_⟩
      simp [cs_, cellsOf, S0.cells, S0.cellsM, Lf.c, B.den, B.den_mkCmp hn, Cmp.den, inV, n_, at_0, at_1, at_2, int_i]
    · cases hg
theorem nan_ok : tab.ok 123 := by
  refine Tab.of_inl rfl rfl ⟨_, Try.func123, by decide, rfl⟩ ?_
  refine Inl.of_ct (args := [.lf .int]) (r := .lf .bool) (pre := fun _ => True) (fn := fun cs => [.b false]) (ct_ok (cx := cnan) (Tab.cx_ok all_nil) Try.func123 (bds := []) (T := tnan) (by kernel_rfl) ?_) ?_
  · unfold tnan
    simp only [VC, allC, List.map_cons, List.map_nil, List.length_cons, List.length_nil, List.getElem?_cons_zero, List.getElem?_cons_succ, List.cons.injEq, C.i.injEq, C.b.injEq, and_true, true_and, forall_const, kindsOf_nil, kindsOf_lf, kindsOf_agg, kindsOf_box, boxKinds_nil, boxKinds_lf, boxKinds_agg, boxKinds_box, List.append_nil, List.cons_append, List.nil_append, den_cmp_le, den_cmp_lt, den_cmp_eq, den_cmp_ne, den_cmp_le', den_cmp_lt', den_cmp_eq', den_cmp_ne', den_and, den_and', den_or, den_or', den_not, den_not', den_blit, den_of, ev_var, at_0, at_1, at_2, at_3, at_4, at_5, at_6, at_7, at_skip, c_int, c_bool, c_arr, c_cnt, c_vec, ev_nil, ev_join, ev_sub3, loc_s, int_i, bool_b, rows_s, cs_nil, cs_cons, E.den_lit, E.den_var, E.den_add, E.den_sub, E.den_mul, E.den_quo, E.den_rem, E.den_max, E.den_min, E.den_len, E.den_wr, E.den_cell, ctNan, ctF, n_]
    intro n _ _
    exact bds_nil _
  · intro bd ρ l obs s hg hn ho
    unfold nanI at hg
    split at hg
    · cases hg
      exact ⟨rfl, rfl, ho, trivial, rfl, rfl, rfl⟩
    · cases hg
/-! Lines -/
theorem inV_iff {n a b : Int} : inV n a b = true ↔ a ≤ n ∧ n ≤ b := by simp [inV]
theorem badKs_range {a v last : Int} {k : Kn} {l : List Kn} (h : k.1 < 0 ∨ a < k.1 ∨ k.2 < 0 ∨ v < k.2) : badKs a v last (k :: l) = 2 := by
  rw [badKs, if_neg]
  rw [Bool.and_eq_true, inV_iff, inV_iff]; omega
theorem badKs_order {a v last : Int} {k : Kn} {l : List Kn} (h : 0 ≤ k.1 ∧ k.1 ≤ a ∧ 0 ≤ k.2 ∧ k.2 ≤ v) (h2 : k.1 ≤ last) : badKs a v last (k :: l) = 11 := by
  rw [badKs, if_pos, if_pos h2]
  rw [Bool.and_eq_true, inV_iff, inV_iff]; omega
theorem badKs_next {a v last : Int} {k : Kn} {l : List Kn} (h : 0 ≤ k.1 ∧ k.1 ≤ a ∧ 0 ≤ k.2 ∧ k.2 ≤ v) (h2 : last < k.1) : badKs a v last (k :: l) = badKs a v k.1 l := by
  rw [badKs, if_pos, if_neg (by omega)]
  rw [Bool.and_eq_true, inV_iff, inV_iff]; omega
section
variable {ks : List Kn} {a v : Int}
theorem lineV_range (h : a < 0 ∨ 1099511627776 < a ∨ v < 0 ∨ 68719476736 < v) : lineV ks a v = 2 := by
  unfold lineV
  rw [if_neg]
  rw [Bool.and_eq_true, inV_iff, inV_iff]; omega
theorem lineV_in (h : 0 ≤ a ∧ a ≤ 1099511627776 ∧ 0 ≤ v ∧ v ≤ 68719476736) : lineV ks a v = if ks.length = 0 then 6 else if 24 < ks.length then 8 else badKs a v (-1) ks := by
  unfold lineV
  rw [if_pos]
  rw [Bool.and_eq_true, inV_iff, inV_iff]; omega
end
theorem line_ok : tab.ok 18 := by
  refine Tab.of_ct rfl rfl ⟨_, Try.func18, by decide, rfl⟩ ?_ ctF_det
  refine ct_ok (cx := cline) (Tab.cx_ok (all_cons within_ok all_nil)) Try.func18 (bds := []) (T := tline) (by kernel_rfl) ?_
  unfold tline
  simp only [VC, allC, List.map_cons, List.map_nil, List.length_cons, List.length_nil, List.getElem?_cons_zero, List.getElem?_cons_succ, List.cons.injEq, C.i.injEq, C.b.injEq, and_true, true_and, forall_const, kindsOf_nil, kindsOf_lf, kindsOf_agg, kindsOf_box, boxKinds_nil, boxKinds_lf, boxKinds_agg, boxKinds_box, List.append_nil, List.cons_append, List.nil_append, den_cmp_le, den_cmp_lt, den_cmp_eq, den_cmp_ne, den_cmp_le', den_cmp_lt', den_cmp_eq', den_cmp_ne', den_and, den_and', den_or, den_or', den_not, den_not', den_blit, den_of, ev_var, at_0, at_1, at_2, at_3, at_4, at_5, at_6, at_7, at_skip, c_int, c_bool, c_arr, c_cnt, c_vec, ev_nil, ev_join, ev_sub3, loc_s, int_i, bool_b, rows_s, cs_nil, cs_cons, E.den_lit, E.den_var, E.den_add, E.den_sub, E.den_mul, E.den_quo, E.den_rem, E.den_max, E.den_min, E.den_len, E.den_wr, E.den_cell, ev_cell, kn1, kn2, ctLine, ctF, lineSh, n_, k_]
  intro u r d ty hs a _ _ v _ _
  have hk := knots_len r
  generalize hks : knots r = ks at *
  rw [← hk]
  refine ⟨bds_nil _, fun h => (lineV_range (by omega)).symm, fun h1 => ⟨fun h => (lineV_range (by omega)).symm, fun h2 => ?_⟩⟩
  rw [lineV_in (by omega)]
  refine ⟨fun h => by rw [if_pos (by omega)], fun h3 => ?_⟩
  rw [if_neg (by omega)]
  refine ⟨fun h => by rw [if_pos (by omega)], fun h4 => ?_⟩
  rw [if_neg (by omega)]
  refine ⟨fun xs => match xs with | [_, .i last, .i i] => 0 ≤ i ∧ i ≤ ks.length ∧ badKs a v (-1) ks = badKs a v last (ks.drop i.toNat) | _ => False, fun xs => match xs with | [_, _, .i i] => ((ks.length : Int) - i).toNat | _ => 0, ⟨by omega, by omega, rfl⟩, ?_⟩
  rintro x _ _ last _ _ i _ _ ⟨i0, i1, hi⟩
  refine ⟨fun hlt => ⟨i0, hlt, ?_⟩, fun hge => ?_⟩
  · rw [drop_cons (by omega) (0, 0), ← show (i + 1).toNat = i.toNat + 1 by omega] at hi
    generalize ks.getD i.toNat (0, 0) = k at *
    refine ⟨fun h => by rw [hi, badKs_range (by omega)], fun h5 => ⟨fun h => by rw [hi, badKs_range (by omega)], fun h6 => ⟨fun h => by rw [hi, badKs_order (by omega) h], fun h7 => ?_⟩⟩⟩
    exact ⟨⟨by omega, by omega, by rw [hi, badKs_next (by omega) h7]⟩, (show ((ks.length : Int) - (i + 1)).toNat < ((ks.length : Int) - i).toNat by omega)⟩
  · rw [hi, List.drop_of_length_le (by omega)]; rfl
theorem rline_ok : tab.ok 19 := by
  refine Tab.of_ct rfl rfl ⟨_, Try.func19, by decide, rfl⟩ ?_ ctF_det
  refine ct_ok (cx := crline) (Tab.cx_ok all_nil) Try.func19 (bds := []) (T := trline) (by kernel_rfl) ?_
  unfold trline
  simp only [VC, allC, List.map_cons, List.map_nil, List.length_cons, List.length_nil, List.getElem?_cons_zero, List.getElem?_cons_succ, List.cons.injEq, C.i.injEq, C.b.injEq, and_true, true_and, forall_const, kindsOf_nil, kindsOf_lf, kindsOf_agg, kindsOf_box, boxKinds_nil, boxKinds_lf, boxKinds_agg, boxKinds_box, List.append_nil, List.cons_append, List.nil_append, den_cmp_le, den_cmp_lt, den_cmp_eq, den_cmp_ne, den_cmp_le', den_cmp_lt', den_cmp_eq', den_cmp_ne', den_and, den_and', den_or, den_or', den_not, den_not', den_blit, den_of, ev_var, at_0, at_1, at_2, at_3, at_4, at_5, at_6, at_7, at_skip, c_int, c_bool, c_arr, c_cnt, c_vec, ev_nil, ev_join, ev_sub3, loc_s, int_i, bool_b, rows_s, cs_nil, cs_cons, E.den_lit, E.den_var, E.den_add, E.den_sub, E.den_mul, E.den_quo, E.den_rem, E.den_max, E.den_min, E.den_len, E.den_wr, E.den_cell, ev_cell, kn1, kn2, ctLine, ctF, lineSh, n_, k_]
  intro u r d ty hs a _ _ v _ _
  have hk := knots_len r
  generalize hks : knots r = ks at *
  rw [← hk]
  refine ⟨bds_nil _, fun h => (lineV_range (by omega)).symm, fun h1 => ⟨fun h => (lineV_range (by omega)).symm, fun h2 => ⟨fun h => (lineV_range (by omega)).symm, fun h2 => ⟨fun h => (lineV_range (by omega)).symm, fun h2 => ?_⟩⟩⟩⟩
  rw [lineV_in (by omega)]
  refine ⟨fun h => by rw [if_pos (by omega)], fun h3 => ?_⟩
  rw [if_neg (by omega)]
  refine ⟨fun h => by rw [if_pos (by omega)], fun h4 => ?_⟩
  rw [if_neg (by omega)]
  refine ⟨fun xs => match xs with | [_, .i i] => 0 ≤ i ∧ i ≤ ks.length ∧ badKs a v (-1) ks = badKs a v (if i = 0 then -1 else (ks.getD (i - 1).toNat (0, 0)).1) (ks.drop i.toNat) | _ => False, fun xs => match xs with | [_, .i i] => ((ks.length : Int) - i).toNat | _ => 0, ⟨by omega, by omega, rfl⟩, ?_⟩
  rintro x _ _ i _ _ ⟨i0, i1, hi⟩
  refine ⟨fun hlt => ⟨i0, hlt, ?_⟩, fun hge => ?_⟩
  · rw [drop_cons (by omega) (0, 0), ← show (i + 1).toNat = i.toNat + 1 by omega] at hi
    have hnx : badKs a v (ks.getD i.toNat (0, 0)).1 (ks.drop (i + 1).toNat) = badKs a v (if i + 1 = 0 then -1 else (ks.getD (i + 1 - 1).toNat (0, 0)).1) (ks.drop (i + 1).toNat) := by rw [if_neg (by omega), show i + 1 - 1 = i by omega]
    generalize ks.getD i.toNat (0, 0) = k at *
    refine ⟨fun h => by rw [hi, badKs_range (by omega)], fun h5 => ⟨fun h => by rw [hi, badKs_range (by omega)], fun h6 => ⟨fun h => by rw [hi, badKs_range (by omega)], fun h7 => ⟨fun h => by rw [hi, badKs_range (by omega)], fun h8 => ?_⟩⟩⟩⟩
    refine ⟨fun h => ?_, fun h => ?_⟩
    · rw [if_neg (by omega)] at hi
      refine ⟨by omega, fun h9 => by rw [hi, badKs_order (by omega) h9], fun h9 => ?_⟩
      exact ⟨⟨by omega, by omega, by rw [hi, badKs_next (by omega) h9, hnx]⟩, (show ((ks.length : Int) - (i + 1)).toNat < ((ks.length : Int) - i).toNat by omega)⟩
    · rw [if_pos (by omega)] at hi
      exact ⟨⟨by omega, by omega, by rw [hi, badKs_next (by omega) (by omega), hnx]⟩, (show ((ks.length : Int) - (i + 1)).toNat < ((ks.length : Int) - i).toNat by omega)⟩
  · rw [hi, List.drop_of_length_le (by omega)]; rfl
theorem right_ok : tab.ok 63 := by
  refine Tab.of_ct rfl rfl ⟨_, Try.func63, by decide, rfl⟩ ?_ ctF_det
  refine ct_ok (cx := cright) (Tab.cx_ok (all_cons line_ok all_nil) fxright) Try.func63 (bds := []) (T := tright) (by kernel_rfl) ?_
  have h1 : cright.ct 18 = some ctLine := rfl
  unfold tright
  simp only [VC, allC, List.map_cons, List.map_nil, List.length_cons, List.length_nil, List.getElem?_cons_zero, List.getElem?_cons_succ, List.cons.injEq, C.i.injEq, C.b.injEq, and_true, true_and, forall_const, kindsOf_nil, kindsOf_lf, kindsOf_agg, kindsOf_box, boxKinds_nil, boxKinds_lf, boxKinds_agg, boxKinds_box, List.append_nil, List.cons_append, List.nil_append, den_cmp_le, den_cmp_lt, den_cmp_eq, den_cmp_ne, den_cmp_le', den_cmp_lt', den_cmp_eq', den_cmp_ne', den_and, den_and', den_or, den_or', den_not, den_not', den_blit, den_of, ev_var, at_0, at_1, at_2, at_3, at_4, at_5, at_6, at_7, at_skip, c_int, c_bool, c_arr, c_cnt, c_vec, ev_nil, ev_join, ev_sub3, loc_s, int_i, bool_b, rows_s, cs_nil, cs_cons, E.den_lit, E.den_var, E.den_add, E.den_sub, E.den_mul, E.den_quo, E.den_rem, E.den_max, E.den_min, E.den_len, E.den_wr, E.den_cell, ev_cell, h1, ctLine, ctRight, ctF, lineSh, n_, k_]
  intro u r d ty hs
  refine ⟨bds_nil _, fun xs => match xs with | [_, .i i] => 0 ≤ i ∧ i ≤ r.length ∧ ∀ x ∈ r.take i.toNat, rightB (knots (x.getD 0 (.i 0)).rows) = true | _ => False, fun xs => match xs with | [_, .i i] => ((r.length : Int) - i).toNat | _ => 0, ⟨by omega, by omega, fun x hx => by simp at hx⟩, ?_⟩
  rintro x _ _ i _ _ ⟨i0, i1, hi⟩
  refine ⟨fun hlt => ⟨i0, hlt, ?_⟩, fun hge => ?_⟩
  · have hcell : ((C.s u r).at i.toNat 0).rows = ((r.getD i.toNat []).getD 0 (.i 0)).rows := rfl
    rw [hcell]
    generalize hx : r.getD i.toNat [] = x at *
    have hmem : x ∈ r := by rw [← hx]; exact getD_mem (by omega) []
    have next : rightB (knots (x.getD 0 (.i 0)).rows) = true → ∀ y ∈ r.take (i + 1).toNat, rightB (knots (y.getD 0 (.i 0)).rows) = true := fun h y hy => by
      rw [show (i + 1).toNat = i.toNat + 1 by omega, take_snoc (by omega) [], hx] at hy
      rcases List.mem_append.1 hy with hy | hy
      · exact hi y hy
      · rw [List.mem_singleton] at hy; subst hy; exact h
    rintro e1 _ _ he1
    refine ⟨fun hne => ?_, fun he => ?_⟩
    · rintro e2 _ _ he2
      refine ⟨fun hne2 => ?_, fun he' => ?_⟩
      · symm
        rw [List.all_eq_false]
        refine ⟨x, hmem, ?_⟩
        unfold rightB
        rw [← he1, ← he2]
        simp [hne, hne2]
      · exact ⟨⟨by omega, by omega, next (by unfold rightB; rw [← he1, ← he2, he']; simp)⟩, (show ((r.length : Int) - (i + 1)).toNat < ((r.length : Int) - i).toNat by omega)⟩
    · exact ⟨⟨by omega, by omega, next (by unfold rightB; rw [← he1, he]; simp)⟩, (show ((r.length : Int) - (i + 1)).toNat < ((r.length : Int) - i).toNat by omega)⟩
  · rw [List.take_of_length_le (by omega)] at hi
    exact (List.all_eq_true.2 hi).symm
theorem rright_ok : tab.ok 71 := by
  refine Tab.of_ct rfl rfl ⟨_, Try.func71, by decide, rfl⟩ ?_ ctF_det
  refine ct_ok (cx := crright) (Tab.cx_ok (all_cons rline_ok all_nil)) Try.func71 (bds := []) (T := trright) (by kernel_rfl) ?_
  have h1 : crright.ct 19 = some ctLine := rfl
  unfold trright
  simp only [VC, allC, List.map_cons, List.map_nil, List.length_cons, List.length_nil, List.getElem?_cons_zero, List.getElem?_cons_succ, List.cons.injEq, C.i.injEq, C.b.injEq, and_true, true_and, forall_const, kindsOf_nil, kindsOf_lf, kindsOf_agg, kindsOf_box, boxKinds_nil, boxKinds_lf, boxKinds_agg, boxKinds_box, List.append_nil, List.cons_append, List.nil_append, den_cmp_le, den_cmp_lt, den_cmp_eq, den_cmp_ne, den_cmp_le', den_cmp_lt', den_cmp_eq', den_cmp_ne', den_and, den_and', den_or, den_or', den_not, den_not', den_blit, den_of, ev_var, at_0, at_1, at_2, at_3, at_4, at_5, at_6, at_7, at_skip, c_int, c_bool, c_arr, c_cnt, c_vec, ev_nil, ev_join, ev_sub3, loc_s, int_i, bool_b, rows_s, cs_nil, cs_cons, E.den_lit, E.den_var, E.den_add, E.den_sub, E.den_mul, E.den_quo, E.den_rem, E.den_max, E.den_min, E.den_len, E.den_wr, E.den_cell, ev_cell, h1, ctLine, ctRRight, ctF, lineSh, n_, k_]
  intro u r d ty hs
  refine ⟨bds_nil _, ?_⟩
  rintro e1 _ _ he1
  refine ⟨fun h => ?_, fun h => ?_⟩
  · unfold rightB; rw [← he1, h]; rfl
  · rintro e2 _ _ he2
    show decide (e2 = 0) = _
    unfold rightB
    rw [← he1, ← he2]
    have : (e1 == 0) = false := by simpa using h
    rw [this, Bool.false_or]
    rfl
theorem floor_law {x y : Int} (hy : 0 < y) : (x.tmod y < 0 → x / y = x.tdiv y - 1) ∧ (0 ≤ x.tmod y → x / y = x.tdiv y) := by
  have h1 := Int.emod_nonneg x (b := y) (by omega)
  have h2 := Int.emod_lt_of_pos x hy
  have h3 := Int.mul_ediv_add_emod x y
  have h4 := Int.mul_tdiv_add_tmod x y
  have h5 : (x.tmod y).natAbs < y.natAbs := by rw [Int.natAbs_tmod]; exact Nat.mod_lt _ (by omega)
  have h6 : -y < x.tmod y ∧ x.tmod y < y := by omega
  generalize x / y = p at *
  generalize x.tdiv y = q at *
  generalize x % y = r at *
  generalize x.tmod y = s at *
  have h7 : y * (p - q) = s - r := by rw [Int.mul_sub]; omega
  refine ⟨fun h => ?_, fun h => ?_⟩
  · have : p - q = -1 := by
      have a1 : y * (p - q) < y * 0 := by omega
      have a2 : y * (-2) < y * (p - q) := by omega
      have b1 := Int.lt_of_mul_lt_mul_left a1 (by omega)
      have b2 := Int.lt_of_mul_lt_mul_left a2 (by omega)
      omega
    omega
  · have : p - q = 0 := by
      have a1 : y * (p - q) < y * 1 := by omega
      have a2 : y * (-1) < y * (p - q) := by omega
      have b1 := Int.lt_of_mul_lt_mul_left a1 (by omega)
      have b2 := Int.lt_of_mul_lt_mul_left a2 (by omega)
      omega
    omega
theorem tdiv_bd {x y : Int} (hy : 0 < y) (hx : -9223372036854775807 ≤ x) (hx' : x ≤ 9223372036854775807) : -9223372036854775807 ≤ x.tdiv y ∧ x.tdiv y ≤ 9223372036854775807 ∧ (x.tmod y < 0 → -9223372036854775807 ≤ x.tdiv y) := by
  have := tdiv_abs x y hx hx'
  omega
theorem floor_ok : tab.ok 115 := by
  refine Tab.of_ct rfl rfl ⟨_, Try.func115, by decide, rfl⟩ ?_ ctF_det
  refine ct_ok (cx := cfloor) (Tab.cx_ok all_nil) Try.func115 (bds := []) (T := tfloor) (by kernel_rfl) ?_
  unfold tfloor
  simp only [VC, allC, List.map_cons, List.map_nil, List.length_cons, List.length_nil, List.getElem?_cons_zero, List.getElem?_cons_succ, List.cons.injEq, C.i.injEq, C.b.injEq, and_true, true_and, forall_const, kindsOf_nil, kindsOf_lf, kindsOf_agg, kindsOf_box, boxKinds_nil, boxKinds_lf, boxKinds_agg, boxKinds_box, List.append_nil, List.cons_append, List.nil_append, den_cmp_le, den_cmp_lt, den_cmp_eq, den_cmp_ne, den_cmp_le', den_cmp_lt', den_cmp_eq', den_cmp_ne', den_and, den_and', den_or, den_or', den_not, den_not', den_blit, den_of, ev_var, at_0, at_1, at_2, at_3, at_4, at_5, at_6, at_7, at_skip, c_int, c_bool, c_arr, c_cnt, c_vec, ev_nil, ev_join, ev_sub3, loc_s, int_i, bool_b, rows_s, cs_nil, cs_cons, E.den_lit, E.den_var, E.den_add, E.den_sub, E.den_mul, E.den_quo, E.den_rem, E.den_max, E.den_min, E.den_len, E.den_wr, E.den_cell, ctFloor, ctF, n_]
  intro x x0 x1 y y0 y1 hp; refine ⟨bds_nil _, ?_⟩; obtain ⟨f1, f2⟩ := floor_law (x := x) hp.1; have f3 := tdiv_abs x y hp.2 x1; refine ⟨by omega, ⟨by omega, by omega⟩, by omega, fun h => ?_, fun h => ?_⟩
  · exact ⟨⟨by omega, by omega⟩, ⟨by omega, by omega⟩, (f1 h).symm⟩
  · exact ⟨⟨by omega, by omega⟩, (f2 h).symm⟩
theorem rfloor_ok : tab.ok 101 := by
  refine Tab.of_ct rfl rfl ⟨_, Try.func101, by decide, rfl⟩ ?_ ctF_det
  refine ct_ok (cx := crfloor) (Tab.cx_ok all_nil) Try.func101 (bds := []) (T := trfloor) (by kernel_rfl) ?_
  unfold trfloor
  simp only [VC, allC, List.map_cons, List.map_nil, List.length_cons, List.length_nil, List.getElem?_cons_zero, List.getElem?_cons_succ, List.cons.injEq, C.i.injEq, C.b.injEq, and_true, true_and, forall_const, kindsOf_nil, kindsOf_lf, kindsOf_agg, kindsOf_box, boxKinds_nil, boxKinds_lf, boxKinds_agg, boxKinds_box, List.append_nil, List.cons_append, List.nil_append, den_cmp_le, den_cmp_lt, den_cmp_eq, den_cmp_ne, den_cmp_le', den_cmp_lt', den_cmp_eq', den_cmp_ne', den_and, den_and', den_or, den_or', den_not, den_not', den_blit, den_of, ev_var, at_0, at_1, at_2, at_3, at_4, at_5, at_6, at_7, at_skip, c_int, c_bool, c_arr, c_cnt, c_vec, ev_nil, ev_join, ev_sub3, loc_s, int_i, bool_b, rows_s, cs_nil, cs_cons, E.den_lit, E.den_var, E.den_add, E.den_sub, E.den_mul, E.den_quo, E.den_rem, E.den_max, E.den_min, E.den_len, E.den_wr, E.den_cell, ctFloor, ctF, n_]
  intro x x0 x1 y y0 y1 hp; refine ⟨bds_nil _, ?_⟩; obtain ⟨f1, f2⟩ := floor_law (x := x) hp.1; have f3 := tdiv_abs x y hp.2 x1; refine ⟨by omega, ⟨by omega, by omega⟩, by omega, fun h => ?_, fun h => ?_⟩
  · exact ⟨⟨by omega, by omega⟩, ⟨by omega, by omega⟩, (f1 h).symm⟩
  · exact ⟨⟨by omega, by omega⟩, (f2 h).symm⟩
end Go.Proofs.Ytcglpbchejkolaa
/- Earth: the values of lines: plain laws. -/
namespace Go.Proofs.Ytcglpbchejkolaa
open Go.RowKit
set_option linter.unusedSimpArgs false
set_option linter.unusedVariables false

theorem badKs_ok {a v : Int} : ∀ {ks : List Kn} {last : Int}, badKs a v last ks = 0 → Asc ks ∧ (∀ k ∈ ks, 0 ≤ k.1 ∧ k.1 ≤ a ∧ 0 ≤ k.2 ∧ k.2 ≤ v) ∧ ∀ k l, ks = k :: l → last < k.1
  | [], last, _ => ⟨.nil, fun k hk => by simp at hk, fun k l h => by simp at h⟩
  | k :: ks, last, h => by
    rw [badKs] at h
    split at h
    rotate_left
    · omega
    rename_i hr
    rw [Bool.and_eq_true, inV_iff, inV_iff] at hr
    split at h
    · omega
    rename_i hl
    obtain ⟨h1, h2, h3⟩ := badKs_ok h
    refine ⟨?_, fun k' hk' => ?_, fun k' l e => by cases e; omega⟩
    · cases ks with
      | nil => exact .one k
      | cons b l => exact .cons (h3 b l rfl) h1
    · rcases List.mem_cons.1 hk' with rfl | hk'
      · omega
      · exact h2 k' hk'
/-- A line that is right. -/
structure Good (ks : List Kn) : Prop where
  ne : ks ≠ []
  len : ks.length ≤ 24
  asc : Asc ks
  box : (∀ k ∈ ks, 0 ≤ k.1 ∧ k.1 ≤ 1048576 ∧ 0 ≤ k.2 ∧ k.2 ≤ 68719476736) ∨ (∀ k ∈ ks, 0 ≤ k.1 ∧ k.1 ≤ 1099511627776 ∧ 0 ≤ k.2 ∧ k.2 ≤ 1048576)
theorem lineV_ok {ks : List Kn} {a v : Int} (h : lineV ks a v = 0) : ks ≠ [] ∧ ks.length ≤ 24 ∧ Asc ks ∧ (∀ k ∈ ks, 0 ≤ k.1 ∧ k.1 ≤ a ∧ 0 ≤ k.2 ∧ k.2 ≤ v) := by
  unfold lineV at h
  split at h
  rotate_left
  · omega
  split at h
  · omega
  rename_i h0
  split at h
  · omega
  rename_i h1
  obtain ⟨h2, h3, -⟩ := badKs_ok h
  exact ⟨fun e => h0 (by rw [e]; rfl), by omega, h2, h3⟩
theorem good {ks : List Kn} (h : rightB ks = true) : Good ks := by
  unfold rightB at h
  rw [Bool.or_eq_true, beq_iff_eq, beq_iff_eq] at h
  rcases h with h | h
  · obtain ⟨h1, h2, h3, h4⟩ := lineV_ok h; exact ⟨h1, h2, h3, .inl h4⟩
  · obtain ⟨h1, h2, h3, h4⟩ := lineV_ok h; exact ⟨h1, h2, h3, .inr h4⟩
theorem Good.bd {ks : List Kn} (h : Good ks) {k : Kn} (hk : k ∈ ks) : 0 ≤ k.1 ∧ k.1 ≤ 1099511627776 ∧ 0 ≤ k.2 ∧ k.2 ≤ 68719476736 := by
  rcases h.box with hb | hb
  · have := hb k hk; omega
  · have := hb k hk; omega
theorem Asc.tail {k : Kn} {l : List Kn} (h : Asc (k :: l)) : Asc l := by
  cases h with
  | one => exact .nil
  | cons h ht => exact ht
theorem Asc.head_lt : ∀ {l : List Kn} {k : Kn}, Asc (k :: l) → ∀ x ∈ l, k.1 < x.1
  | [], k, _, x, hx => by simp at hx
  | b :: l, k, h, x, hx => by
    cases h with
    | cons hkb ht =>
      rcases List.mem_cons.1 hx with rfl | hx
      · exact hkb
      · have := ht.head_lt x hx; omega
theorem Asc.lt : ∀ {ks : List Kn}, Asc ks → ∀ {i j : Nat}, i < j → j < ks.length → (ks.getD i (0, 0)).1 < (ks.getD j (0, 0)).1
  | [], _, i, j, _, hj => by simp at hj
  | k :: l, h, 0, j + 1, _, hj => by
    show k.1 < (l.getD j (0, 0)).1
    exact h.head_lt _ (getD_mem (by simpa using hj) _)
  | k :: l, h, i + 1, j + 1, hij, hj => by
    show (l.getD i (0, 0)).1 < (l.getD j (0, 0)).1
    exact h.tail.lt (by omega) (by simpa using hj)
/-! Where a place lies -/
theorem findG_spec : ∀ {l : List Kn} {p : Kn} {x : Int}, p.1 < x → (findG p l x).1 ∈ p :: l ∧ (findG p l x).2 ∈ p :: l ∧ ((findG p l x).1 = (findG p l x).2 ∨ ((findG p l x).1.1 < x ∧ x < (findG p l x).2.1))
  | [], p, x, _ => ⟨by simp [findG], by simp [findG], .inl rfl⟩
  | k :: l, p, x, hp => by
    rw [findG]
    split
    · rename_i h
      obtain ⟨h1, h2, h3⟩ := findG_spec (l := l) h
      exact ⟨List.mem_cons_of_mem _ h1, List.mem_cons_of_mem _ h2, h3⟩
    · split
      · exact ⟨by simp, by simp, .inl rfl⟩
      · exact ⟨by simp, by simp, .inr ⟨hp, by show x < k.1; omega⟩⟩
theorem findV_spec {ks : List Kn} (hne : ks ≠ []) (x : Int) : (findV ks x).1 ∈ ks ∧ (findV ks x).2 ∈ ks ∧ ((findV ks x).1 = (findV ks x).2 ∨ ((findV ks x).1.1 < x ∧ x < (findV ks x).2.1)) := by
  cases ks with
  | nil => exact absurd rfl hne
  | cons k l =>
    rw [findV]
    split
    · rename_i h; exact findG_spec h
    · exact ⟨by simp, by simp, .inl rfl⟩
theorem findG_at : ∀ {l : List Kn} {p : Kn} {x : Int} {i : Nat}, i ≤ l.length → (∀ k < i, (l.getD k (0, 0)).1 < x) → (∀ k, i ≤ k → k < l.length → x ≤ (l.getD k (0, 0)).1) →
    findG p l x = if i < l.length ∧ (l.getD i (0, 0)).1 = x then (l.getD i (0, 0), l.getD i (0, 0)) else ((p :: l).getD i (0, 0), (p :: l).getD (min (i + 1) l.length) (0, 0))
  | [], p, x, i, hi, _, _ => by
    have : i = 0 := by simpa using hi
    subst this
    rfl
  | k :: l, p, x, 0, hi, h1, h2 => by
    have hk : x ≤ k.1 := h2 0 (Nat.le_refl _) (by simp)
    rw [findG, if_neg (by omega)]
    by_cases e : k.1 = x
    · rw [if_pos e, if_pos ⟨by simp, e⟩]; rfl
    · rw [if_neg e, if_neg (fun h => e h.2)]
      have : min (0 + 1) (k :: l).length = 1 := by simp only [List.length_cons]; omega
      rw [this]; rfl
  | k :: l, p, x, i + 1, hi, h1, h2 => by
    have hk : k.1 < x := h1 0 (by omega)
    rw [findG, if_pos hk, findG_at (l := l) (i := i) (by simpa using hi) (fun j hj => h1 (j + 1) (by omega)) (fun j hj hj2 => h2 (j + 1) (by omega) (by simpa using hj2))]
    have e1 : min (i + 1 + 1) (k :: l).length = min (i + 1) l.length + 1 := by simp only [List.length_cons]; omega
    rw [e1]
    simp only [List.length_cons, Nat.add_lt_add_iff_right]
    rfl
theorem findV_at {ks : List Kn} (hne : ks ≠ []) {x : Int} {i : Nat} (hi : i ≤ ks.length) (h1 : ∀ k < i, (ks.getD k (0, 0)).1 < x) (h2 : ∀ k, i ≤ k → k < ks.length → x ≤ (ks.getD k (0, 0)).1) :
    findV ks x = if i < ks.length ∧ (ks.getD i (0, 0)).1 = x then (ks.getD i (0, 0), ks.getD i (0, 0)) else (ks.getD (i - 1) (0, 0), ks.getD (min i (ks.length - 1)) (0, 0)) := by
  cases ks with
  | nil => exact absurd rfl hne
  | cons k l =>
    rw [findV]
    match i, hi, h1, h2 with
    | 0, hi, h1, h2 =>
      have hk : x ≤ k.1 := h2 0 (Nat.le_refl _) (by simp)
      rw [if_neg (by omega), Nat.zero_sub, Nat.zero_min]
      split <;> rfl
    | i + 1, hi, h1, h2 =>
      have hk : k.1 < x := h1 0 (by omega)
      rw [if_pos hk, findG_at (l := l) (i := i) (by simpa using hi) (fun j hj => h1 (j + 1) (by omega)) (fun j hj hj2 => h2 (j + 1) (by omega) (by simpa using hj2))]
      have e1 : min (i + 1) ((k :: l).length - 1) = min (i + 1) l.length := by simp
      rw [e1]
      simp only [List.length_cons, Nat.add_lt_add_iff_right, Nat.add_sub_cancel]
      rfl
/-! Bounds -/
theorem mul_abs {y z V A : Int} (h1 : -V ≤ y) (h2 : y ≤ V) (h3 : 0 ≤ z) (h4 : z ≤ A) : -(V * A) ≤ y * z ∧ y * z ≤ V * A := by
  have hV : 0 ≤ V := by omega
  have a1 : V * z ≤ V * A := Int.mul_le_mul_of_nonneg_left h4 hV
  have a2 : y * z ≤ V * z := Int.mul_le_mul_of_nonneg_right h2 h3
  have a3 : -V * z ≤ y * z := Int.mul_le_mul_of_nonneg_right h1 h3
  rw [Int.neg_mul] at a3
  omega
theorem Good.part {ks : List Kn} (h : Good ks) (x : Int) : PartOK (findV ks x) x := by
  obtain ⟨m1, m2, hc⟩ := findV_spec h.ne x
  have b1 := h.bd m1
  have b2 := h.bd m2
  refine ⟨b1.2.2.1, b1.2.2.2, hc.imp id fun hc => ⟨b1.1, by omega, b2.2.1, by omega, by omega, b2.2.2.1, b2.2.2.2, ?_⟩⟩
  rcases h.box with hb | hb
  · have c1 := hb _ m1
    have c2 := hb _ m2
    have := mul_abs (y := (findV ks x).2.2 - (findV ks x).1.2) (z := x - (findV ks x).1.1) (V := 68719476736) (A := 1048576) (by omega) (by omega) (by omega) (by omega)
    omega
  · have c1 := hb _ m1
    have c2 := hb _ m2
    have := mul_abs (y := (findV ks x).2.2 - (findV ks x).1.2) (z := x - (findV ks x).1.1) (V := 1048576) (A := 1099511627776) (by omega) (by omega) (by omega) (by omega)
    omega
theorem seg_bd {y t d : Int} (hd : 0 < d) (h0 : 0 ≤ t) (h1 : t ≤ d) : min 0 y ≤ y * t / d ∧ y * t / d ≤ max 0 y := by
  rcases Int.le_total 0 y with hy | hy
  · have a1 : 0 ≤ y * t := Int.mul_nonneg hy h0
    have a2 : y * t ≤ y * d := Int.mul_le_mul_of_nonneg_left h1 hy
    have a3 := Int.ediv_nonneg a1 (Int.le_of_lt hd)
    have a4 : y * t / d ≤ y * d / d := Int.ediv_le_ediv hd a2
    rw [Int.mul_ediv_cancel _ (by omega)] at a4
    omega
  · have a1 : y * t ≤ 0 := Int.mul_nonpos_of_nonpos_of_nonneg hy h0
    have a2 : y * d ≤ y * t := Int.mul_le_mul_of_nonpos_left hy h1
    have a3 : y * t / d ≤ 0 / d := Int.ediv_le_ediv hd a1
    have a4 : y * d / d ≤ y * t / d := Int.ediv_le_ediv hd a2
    rw [Int.mul_ediv_cancel _ (by omega)] at a4
    simp at a3
    omega
/-- What the value of a part is. -/
theorem part_bd {p : Kn × Kn} {x : Int} (h : PartOK p x) : 0 ≤ (partAt p x).2.1 ∧ (partAt p x).2.1 < (partAt p x).2.2 ∧ (partAt p x).2.2 ≤ 1099511627776 ∧ 0 ≤ (partAt p x).1 ∧ (partAt p x).1 ≤ 68719476736 := by
  obtain ⟨h1, h2, h3⟩ := h
  unfold partAt
  split
  · exact ⟨Int.le_refl _, (by show (0 : Int) < 1; omega), (by show (1 : Int) ≤ _; omega), h1, h2⟩
  · rename_i hne
    obtain ⟨h4, h5, h6, h7, h8, h9, h10, -⟩ := h3.resolve_left hne
    have a1 := Int.emod_nonneg ((p.2.2 - p.1.2) * (x - p.1.1)) (b := p.2.1 - p.1.1) (by omega)
    have a2 := Int.emod_lt_of_pos ((p.2.2 - p.1.2) * (x - p.1.1)) (b := p.2.1 - p.1.1) (by omega)
    have a3 := seg_bd (y := p.2.2 - p.1.2) (t := x - p.1.1) (d := p.2.1 - p.1.1) (by omega) (by omega) (by omega)
    exact ⟨a1, a2, by show p.2.1 - p.1.1 ≤ _; omega, by show 0 ≤ p.1.2 + _; omega, by show p.1.2 + _ ≤ _; omega⟩
theorem Good.val {ks : List Kn} (h : Good ks) (x : Int) : 0 ≤ (valP ks x).2.1 ∧ (valP ks x).2.1 < (valP ks x).2.2 ∧ (valP ks x).2.2 ≤ 1099511627776 ∧ 0 ≤ (valP ks x).1 ∧ (valP ks x).1 ≤ 68719476736 := part_bd (h.part x)
/-- The value at a knot. -/
theorem findG_knot : ∀ {l : List Kn} {p k : Kn}, Asc (p :: l) → k ∈ l → findG p l k.1 = (k, k)
  | [], p, k, _, hk => by simp at hk
  | b :: l, p, k, h, hk => by
    rw [findG]
    rcases List.mem_cons.1 hk with rfl | hk
    · rw [if_neg (by omega), if_pos rfl]
    · rw [if_pos (h.tail.head_lt k hk)]
      exact findG_knot h.tail hk
theorem findV_knot {ks : List Kn} (h : Asc ks) {k : Kn} (hk : k ∈ ks) : findV ks k.1 = (k, k) := by
  cases ks with
  | nil => simp at hk
  | cons b l =>
    rw [findV]
    rcases List.mem_cons.1 hk with rfl | hk
    · rw [if_neg (by omega)]
    · rw [if_pos (h.head_lt k hk)]; exact findG_knot h hk
theorem valP_knot {ks : List Kn} (h : Asc ks) {k : Kn} (hk : k ∈ ks) : valP ks k.1 = (k.2, 0, 1) := by
  unfold valP partAt
  rw [findV_knot h hk, if_pos rfl]
theorem ceil_law {n d : Int} (hd : 0 < d) : -(-n / d) = n / d + min (n % d) 1 := by
  have h1 := Int.emod_nonneg n (b := d) (by omega)
  have h2 := Int.emod_lt_of_pos n hd
  have h3 := Int.mul_ediv_add_emod n d
  generalize hq : n / d = q at *
  generalize hr : n % d = r at *
  by_cases h0 : r = 0
  · have := ((Int.ediv_emod_unique (a := -n) (b := d) (r := 0) (q := -q) hd).2 ⟨by rw [Int.mul_neg]; omega, by omega, by omega⟩).1
    rw [this]; omega
  · have := ((Int.ediv_emod_unique (a := -n) (b := d) (r := d - r) (q := -q - 1) hd).2 ⟨by rw [Int.mul_sub, Int.mul_neg]; omega, by omega, by omega⟩).1
    rw [this]; omega
/-! Lines compared -/
theorem geP_left {v : Int} {q : Int × Int × Int} (hm : 0 ≤ q.2.1) : geP (v, 0, 1) q = decide (q.1 + min q.2.1 1 ≤ v) := by
  unfold geP
  simp only [Int.mul_one, Int.zero_mul]
  rw [Bool.eq_iff_iff]
  simp only [Bool.or_eq_true, Bool.and_eq_true, decide_eq_true_eq, beq_iff_eq]
  omega
theorem geP_right {v : Int} {p : Int × Int × Int} (hn : 0 ≤ p.2.1) : geP p (v, 0, 1) = decide (v ≤ p.1) := by
  unfold geP
  simp only [Int.mul_one, Int.zero_mul]
  rw [Bool.eq_iff_iff]
  simp only [Bool.or_eq_true, Bool.and_eq_true, decide_eq_true_eq, beq_iff_eq]
  omega
theorem aboveV_iff {a b : List Kn} (ha : Good a) (hb : Good b) {to : Int} : aboveV a b to = true ↔ (∀ k ∈ a, to < k.1 ∨ (rangeP b k.1).2 ≤ k.2) ∧ ∀ k ∈ b, to < k.1 ∨ k.2 ≤ (rangeP a k.1).1 := by
  unfold aboveV
  rw [List.all_eq_true]
  constructor
  · intro h
    refine ⟨fun k hk => ?_, fun k hk => ?_⟩
    · have := h k (by simp [hk])
      rw [valP_knot ha.asc hk, geP_left (hb.val _).1] at this
      simpa [rangeP] using this
    · have := h k (by simp [hk])
      rw [valP_knot hb.asc hk, geP_right (ha.val _).1] at this
      simpa [rangeP] using this
  · rintro ⟨h1, h2⟩ k hk
    rcases List.mem_append.1 hk with hk | hk
    · have := h1 k hk
      rw [valP_knot ha.asc hk, geP_left (hb.val _).1]
      simpa [rangeP] using this
    · have := h2 k hk
      rw [valP_knot hb.asc hk, geP_right (ha.val _).1]
      simpa [rangeP] using this
end Go.Proofs.Ytcglpbchejkolaa
/- Earth: the values of lines: what the functions compute. -/
namespace Go.Proofs.Ytcglpbchejkolaa
open Go.RowKit
set_option linter.unusedSimpArgs false
set_option linter.unusedVariables false

theorem find_ok : tab.ok 93 := by
  refine Tab.of_ct rfl rfl ⟨_, Try.func93, by decide, rfl⟩ ?_ ctF_det
  refine ct_ok (cx := cfind) (Tab.cx_ok (all_cons nan_ok all_nil) fxfind) Try.func93 (bds := []) (T := tfind) (by kernel_rfl) ?_
  unfold tfind
  simp only [VC, allC, List.map_cons, List.map_nil, List.length_cons, List.length_nil, List.getElem?_cons_zero, List.getElem?_cons_succ, List.cons.injEq, C.i.injEq, C.b.injEq, and_true, true_and, forall_const, kindsOf_nil, kindsOf_lf, kindsOf_agg, kindsOf_box, boxKinds_nil, boxKinds_lf, boxKinds_agg, boxKinds_box, List.append_nil, List.cons_append, List.nil_append, den_cmp_le, den_cmp_lt, den_cmp_eq, den_cmp_ne, den_cmp_le', den_cmp_lt', den_cmp_eq', den_cmp_ne', den_and, den_and', den_or, den_or', den_not, den_not', den_blit, den_of, ev_var, at_0, at_1, at_2, at_3, at_4, at_5, at_6, at_7, at_skip, c_int, c_bool, c_arr, c_cnt, c_vec, ev_nil, ev_join, ev_sub3, loc_s, int_i, bool_b, rows_s, cs_nil, cs_cons, E.den_lit, E.den_var, E.den_add, E.den_sub, E.den_mul, E.den_quo, E.den_rem, E.den_max, E.den_min, E.den_len, E.den_wr, E.den_cell, ev_cell, kn1, kn2, ctFind, ctF, lineSh, n_, k_, ofKn]
  intro u r d ty hs x _ _ hp
  have hk := knots_len r
  generalize hks : knots r = ks at *
  rw [← hk]
  obtain ⟨hasc, hne, hlen⟩ := hp
  have hpos : 0 < ks.length := List.length_pos_iff.2 hne
  refine ⟨bds_nil _, fun xs => match xs with | [.i i, .i j] => 0 ≤ i ∧ i ≤ j ∧ j ≤ ks.length ∧ (∀ k : Nat, (k : Int) < i → (ks.getD k (0, 0)).1 < x) ∧ ∀ k : Nat, j ≤ k → k < ks.length → x ≤ (ks.getD k (0, 0)).1 | _ => False, fun xs => match xs with | [.i i, .i j] => (j - i).toNat | _ => 0, ⟨by omega, by omega, by omega, fun k hk => by omega, fun k h1 h2 => by omega⟩, ?_⟩
  rintro i _ _ j _ _ ⟨i0, ij, jn, hlo, hhi⟩
  refine ⟨fun hlt => ?_, fun hge => ?_⟩
  · rw [Int.tdiv_eq_ediv_of_nonneg (by omega)]
    have hm1 : i ≤ (i + j) / 2 := by omega
    have hm2 : (i + j) / 2 < j := by omega
    generalize (i + j) / 2 = m at *
    refine ⟨⟨by omega, by omega⟩, by omega, by omega, by omega, by omega, by omega, by omega, by omega, fun h => ?_, fun h => ?_⟩
    · refine ⟨⟨by omega, by omega⟩, ⟨by omega, by omega⟩, ⟨by omega, by omega, by omega, fun k hk => ?_, hhi⟩, (show (j - (m + 1)).toNat < (j - i).toNat by omega)⟩
      by_cases e : (k : Int) = m
      · have : k = m.toNat := by omega
        rw [this]; exact h
      · have := hasc.lt (i := k) (j := m.toNat) (by omega) (by omega)
        omega
    · have key : ∀ k : Nat, m ≤ k → k < ks.length → x ≤ (ks.getD k (0, 0)).1 := fun k h1 h2 => by
        by_cases e : (k : Int) = m
        · have : k = m.toNat := by omega
          rw [this]; exact h
        · have := hasc.lt (i := m.toNat) (j := k) (by omega) h2
          omega
      exact ⟨fun _ => ⟨⟨by omega, by omega⟩, ⟨by omega, by omega, by omega, hlo, key⟩, (show (m - i).toNat < (j - i).toNat by omega)⟩, fun _ => ⟨⟨by omega, by omega⟩, ⟨by omega, by omega, by omega, hlo, key⟩, (show (m - i).toNat < (j - i).toNat by omega)⟩⟩
  · have e : j = i := by omega
    subst e
    have hf := findV_at hne (x := x) (i := j.toNat) (by omega) (fun k hk => hlo k (by omega)) (fun k h1 h2 => hhi k (by omega) h2)
    have e1 : (max (j - 1) 0).toNat = j.toNat - 1 := by omega
    have e2 : (min j ((ks.length : Int) - 1)).toNat = min j.toNat (ks.length - 1) := by omega
    rw [e1, e2]
    refine ⟨fun h => ⟨by omega, by omega, fun h2 => absurd h2 (by have := hhi j.toNat (by omega) (by omega); omega), fun h2 => ⟨fun h3 => ?_, fun h3 => ?_⟩⟩, fun h => ?_⟩
    · rw [if_neg (fun hc => by omega)] at hf
      rw [hf]
      exact ⟨by omega, by omega, by omega, rfl, rfl, rfl, rfl⟩
    · rw [if_pos ⟨by omega, by omega⟩] at hf
      rw [hf, show min j.toNat (ks.length - 1) = j.toNat by omega]
      exact ⟨by omega, by omega, by omega, by omega, rfl, rfl, rfl, rfl⟩
    · rw [if_neg (fun hc => by omega)] at hf
      rw [hf]
      exact ⟨by omega, by omega, by omega, rfl, rfl, rfl, rfl⟩
theorem at4_ok : tab.ok 94 := by
  refine Tab.of_ct rfl rfl ⟨_, Try.func94, by decide, rfl⟩ ?_ ctF_det
  refine ct_ok (cx := cat4) (Tab.cx_ok (all_cons floor_ok all_nil)) Try.func94 (bds := []) (T := tat4) (by kernel_rfl) ?_
  have h1 : cat4.ct 115 = some ctFloor := rfl
  unfold tat4
  simp only [VC, allC, List.map_cons, List.map_nil, List.length_cons, List.length_nil, List.getElem?_cons_zero, List.getElem?_cons_succ, List.cons.injEq, C.i.injEq, C.b.injEq, and_true, true_and, forall_const, kindsOf_nil, kindsOf_lf, kindsOf_agg, kindsOf_box, boxKinds_nil, boxKinds_lf, boxKinds_agg, boxKinds_box, List.append_nil, List.cons_append, List.nil_append, den_cmp_le, den_cmp_lt, den_cmp_eq, den_cmp_ne, den_cmp_le', den_cmp_lt', den_cmp_eq', den_cmp_ne', den_and, den_and', den_or, den_or', den_not, den_not', den_blit, den_of, ev_var, at_0, at_1, at_2, at_3, at_4, at_5, at_6, at_7, at_skip, c_int, c_bool, c_arr, c_cnt, c_vec, ev_nil, ev_join, ev_sub3, loc_s, int_i, bool_b, rows_s, cs_nil, cs_cons, E.den_lit, E.den_var, E.den_add, E.den_sub, E.den_mul, E.den_quo, E.den_rem, E.den_max, E.den_min, E.den_len, E.den_wr, E.den_cell, h1, ctFloor, ctAt4, ctF, n_]
  intro a0 _ _ a1 _ _ b0 _ _ b1 _ _ x _ _ hp
  have hbd := part_bd hp
  obtain ⟨p1, p2, p3⟩ := hp
  simp only [] at p1 p2 p3
  refine ⟨bds_nil _, fun h => ?_, fun h => ?_⟩
  · unfold partAt
    rw [if_pos (by rw [Prod.mk.injEq]; exact h)]
    exact ⟨rfl, rfl, rfl⟩
  · have hne : ¬ ((a0, a1) : Kn) = (b0, b1) := fun e => by
      rw [Prod.mk.injEq] at e
      exact h e.1 e.2
    obtain ⟨g1, g2, g3, g4, g5, g6, g7, g8, g9⟩ := p3.resolve_left hne
    unfold partAt at hbd ⊢
    rw [if_neg hne] at hbd ⊢
    unfold segP at hbd ⊢
    simp only [] at hbd ⊢
    have hde := Int.mul_ediv_add_emod ((b1 - a1) * (x - a0)) (b0 - a0)
    rw [Int.mul_comm (b0 - a0)] at hde
    generalize (b1 - a1) * (x - a0) = N at *
    refine ⟨⟨by omega, by omega⟩, ⟨by omega, by omega⟩, ⟨by omega, by omega⟩, ⟨by omega, by omega⟩, ⟨by omega, by omega⟩, ⟨by omega, by omega⟩, ⟨by omega, by omega⟩, ?_⟩
    rintro q _ _ rfl
    generalize N % (b0 - a0) = rr at *
    generalize hQ : N / (b0 - a0) = Q at *
    generalize hM : Q * (b0 - a0) = M at *
    exact ⟨⟨by omega, by omega⟩, ⟨by omega, by omega⟩, ⟨by omega, by omega⟩, ⟨by omega, by omega⟩, ⟨by omega, by omega⟩, ⟨by omega, by omega⟩, rfl, by omega, trivial⟩
theorem value_ok : tab.ok 65 := by
  refine Tab.of_ct rfl rfl ⟨_, Try.func65, by decide, rfl⟩ ?_ ctF_det
  refine ct_ok (cx := cvalue) (Tab.cx_ok (all_cons find_ok (all_cons at4_ok all_nil))) Try.func65 (bds := []) (T := tvalue) (by kernel_rfl) ?_
  have h1 : cvalue.ct 93 = some ctFind := rfl
  have h2 : cvalue.ct 94 = some ctAt4 := rfl
  unfold tvalue
  simp only [VC, allC, List.map_cons, List.map_nil, List.length_cons, List.length_nil, List.getElem?_cons_zero, List.getElem?_cons_succ, List.cons.injEq, C.i.injEq, C.b.injEq, and_true, true_and, forall_const, kindsOf_nil, kindsOf_lf, kindsOf_agg, kindsOf_box, boxKinds_nil, boxKinds_lf, boxKinds_agg, boxKinds_box, List.append_nil, List.cons_append, List.nil_append, den_cmp_le, den_cmp_lt, den_cmp_eq, den_cmp_ne, den_cmp_le', den_cmp_lt', den_cmp_eq', den_cmp_ne', den_and, den_and', den_or, den_or', den_not, den_not', den_blit, den_of, ev_var, at_0, at_1, at_2, at_3, at_4, at_5, at_6, at_7, at_skip, c_int, c_bool, c_arr, c_cnt, c_vec, ev_nil, ev_join, ev_sub3, loc_s, int_i, bool_b, rows_s, cs_nil, cs_cons, E.den_lit, E.den_var, E.den_add, E.den_sub, E.den_mul, E.den_quo, E.den_rem, E.den_max, E.den_min, E.den_len, E.den_wr, E.den_cell, h1, h2, ctFind, ctAt4, ctValue, ctF, lineSh, rangeSh, n_, k_, ofKn]
  intro u r d ty hs x _ _ hp
  generalize knots r = ks at *
  have hg := good hp
  refine ⟨bds_nil _, ⟨hg.asc, hg.ne, by have := hg.len; omega⟩, ?_⟩
  rintro a0 _ _ a1 _ _ b0 _ _ b1 _ _ ⟨rfl, rfl, rfl, rfl⟩
  refine ⟨hg.part x, ?_⟩
  have hv := hg.val x
  rintro p _ _ n _ _ dd _ _ ⟨rfl, rfl, rfl⟩
  change (0 ≤ (valP ks x).2.1 ∧ (valP ks x).2.1 < (valP ks x).2.2 ∧ (valP ks x).2.2 ≤ 1099511627776 ∧ 0 ≤ (valP ks x).1 ∧ (valP ks x).1 ≤ 68719476736) at hv
  show (-9223372036854775808 ≤ (valP ks x).1 + min (valP ks x).2.1 1 ∧ (valP ks x).1 + min (valP ks x).2.1 1 ≤ 9223372036854775807) ∧ (-9223372036854775808 ≤ (valP ks x).1 + min (valP ks x).2.1 1 ∧ (valP ks x).1 + min (valP ks x).2.1 1 ≤ 9223372036854775807) ∧ _
  exact ⟨⟨by omega, by omega⟩, ⟨by omega, by omega⟩, rfl, rfl⟩
theorem at_ok : tab.ok 23 := by
  refine Tab.of_ct rfl rfl ⟨_, Try.func23, by decide, rfl⟩ ?_ ctF_det
  refine ct_ok (cx := cat) (Tab.cx_ok (all_cons right_ok (all_cons value_ok all_nil))) Try.func23 (bds := []) (T := tat) (by kernel_rfl) ?_
  have h1 : cat.ct 63 = some ctRight := rfl
  have h2 : cat.ct 65 = some ctValue := rfl
  unfold tat
  simp only [VC, allC, List.map_cons, List.map_nil, List.length_cons, List.length_nil, List.getElem?_cons_zero, List.getElem?_cons_succ, List.cons.injEq, C.i.injEq, C.b.injEq, and_true, true_and, forall_const, kindsOf_nil, kindsOf_lf, kindsOf_agg, kindsOf_box, boxKinds_nil, boxKinds_lf, boxKinds_agg, boxKinds_box, List.append_nil, List.cons_append, List.nil_append, den_cmp_le, den_cmp_lt, den_cmp_eq, den_cmp_ne, den_cmp_le', den_cmp_lt', den_cmp_eq', den_cmp_ne', den_and, den_and', den_or, den_or', den_not, den_not', den_blit, den_of, ev_var, at_0, at_1, at_2, at_3, at_4, at_5, at_6, at_7, at_skip, c_int, c_bool, c_arr, c_cnt, c_vec, ev_nil, ev_join, ev_sub3, loc_s, int_i, bool_b, rows_s, cs_nil, cs_cons, E.den_lit, E.den_var, E.den_add, E.den_sub, E.den_mul, E.den_quo, E.den_rem, E.den_max, E.den_min, E.den_len, E.den_wr, E.den_cell, h1, h2, ctRight, ctValue, ctAt, ctF, lineSh, rangeSh, n_, k_, ofKn]
  intro u r d ty hs x _ _
  refine ⟨bds_nil _, fun t ht => ?_⟩
  have ht : t = rightB (knots r) := by rw [ht]; show (rightB (knots r) && true) = _; rw [Bool.and_true]
  subst ht
  unfold atV
  refine ⟨fun h => by rw [if_neg (by rw [h]; simp)]; exact ⟨rfl, rfl⟩, fun h => ⟨h, ?_⟩⟩
  rw [if_pos h]
  rintro a _ _ b _ _ hh
  exact hh
theorem rat_ok' (hv : tab.ok 72) : tab.ok 38 := by
  refine Tab.of_ct rfl rfl ⟨_, Try.func38, by decide, rfl⟩ ?_ ctF_det
  refine ct_ok (cx := crat) (Tab.cx_ok (all_cons rright_ok (all_cons hv all_nil))) Try.func38 (bds := []) (T := trat) (by kernel_rfl) ?_
  have h1 : crat.ct 71 = some ctRRight := rfl
  have h2 : crat.ct 72 = some ctValue := rfl
  unfold trat
  simp only [VC, allC, List.map_cons, List.map_nil, List.length_cons, List.length_nil, List.getElem?_cons_zero, List.getElem?_cons_succ, List.cons.injEq, C.i.injEq, C.b.injEq, and_true, true_and, forall_const, kindsOf_nil, kindsOf_lf, kindsOf_agg, kindsOf_box, boxKinds_nil, boxKinds_lf, boxKinds_agg, boxKinds_box, List.append_nil, List.cons_append, List.nil_append, den_cmp_le, den_cmp_lt, den_cmp_eq, den_cmp_ne, den_cmp_le', den_cmp_lt', den_cmp_eq', den_cmp_ne', den_and, den_and', den_or, den_or', den_not, den_not', den_blit, den_of, ev_var, at_0, at_1, at_2, at_3, at_4, at_5, at_6, at_7, at_skip, c_int, c_bool, c_arr, c_cnt, c_vec, ev_nil, ev_join, ev_sub3, loc_s, int_i, bool_b, rows_s, cs_nil, cs_cons, E.den_lit, E.den_var, E.den_add, E.den_sub, E.den_mul, E.den_quo, E.den_rem, E.den_max, E.den_min, E.den_len, E.den_wr, E.den_cell, h1, h2, ctRRight, ctValue, ctAt, ctF, lineSh, rangeSh, n_, k_, ofKn]
  intro u r d ty hs x _ _
  refine ⟨bds_nil _, fun t ht => ?_⟩
  subst ht
  unfold atV
  refine ⟨fun h => by rw [if_neg (by rw [h]; simp)]; exact ⟨rfl, rfl⟩, fun h => ⟨h, ?_⟩⟩
  rw [if_pos h]
  rintro a _ _ b _ _ hh
  exact hh
theorem rvalue_ok : tab.ok 72 := by
  refine Tab.of_ct rfl rfl ⟨_, Try.func72, by decide, rfl⟩ ?_ ctF_det
  refine ct_ok (cx := crvalue) (Tab.cx_ok (all_cons rfloor_ok all_nil)) Try.func72 (bds := []) (T := trvalue) (by kernel_rfl) ?_
  have h1 : crvalue.ct 101 = some ctFloor := rfl
  unfold trvalue
  simp only [VC, allC, List.map_cons, List.map_nil, List.length_cons, List.length_nil, List.getElem?_cons_zero, List.getElem?_cons_succ, List.cons.injEq, C.i.injEq, C.b.injEq, and_true, true_and, forall_const, kindsOf_nil, kindsOf_lf, kindsOf_agg, kindsOf_box, boxKinds_nil, boxKinds_lf, boxKinds_agg, boxKinds_box, List.append_nil, List.cons_append, List.nil_append, den_cmp_le, den_cmp_lt, den_cmp_eq, den_cmp_ne, den_cmp_le', den_cmp_lt', den_cmp_eq', den_cmp_ne', den_and, den_and', den_or, den_or', den_not, den_not', den_blit, den_of, ev_var, at_0, at_1, at_2, at_3, at_4, at_5, at_6, at_7, at_skip, c_int, c_bool, c_arr, c_cnt, c_vec, ev_nil, ev_join, ev_sub3, loc_s, int_i, bool_b, rows_s, cs_nil, cs_cons, E.den_lit, E.den_var, E.den_add, E.den_sub, E.den_mul, E.den_quo, E.den_rem, E.den_max, E.den_min, E.den_len, E.den_wr, E.den_cell, ev_cell, kn1, kn2, h1, ctFloor, ctValue, ctF, lineSh, rangeSh, n_, k_, ofKn]
  intro u r d ty hs x _ _ hp
  have hk := knots_len r
  generalize hks : knots r = ks at *
  rw [← hk]
  have hg := good hp
  have hpos : 0 < ks.length := List.length_pos_iff.2 hg.ne
  have hl24 := hg.len
  have bd := fun i (hi : i < ks.length) => hg.bd (getD_mem hi (0, 0))
  have hlt := fun i j (hij : i < j) (hj : j < ks.length) => hg.asc.lt hij hj
  rw [show (0 : Int).toNat = 0 from rfl, show ((ks.length : Int) - 1).toNat = ks.length - 1 by omega]
  refine ⟨bds_nil _, by omega, by omega, by omega, fun h => ?_, fun h => ⟨fun h2 => ?_, fun h2 => ?_⟩⟩
  · have hf := findV_at hg.ne (x := x) (i := 0) (by omega) (fun k hk => by omega) (fun k _ hk => by
      rcases Nat.eq_zero_or_pos k with e | e
      · rw [e]; exact h
      · have := hlt 0 k e hk; omega)
    have : valP ks x = ((ks.getD 0 (0, 0)).2, 0, 1) := by
      unfold valP partAt
      split at hf <;> rw [hf] <;> rw [if_pos (by first | rfl | (rw [Nat.zero_sub, Nat.zero_min]))] <;> rfl
    unfold rangeP
    rw [this]
    exact ⟨rfl, by show (ks.getD 0 (0, 0)).2 = (ks.getD 0 (0, 0)).2 + min 0 1; omega⟩
  · have : valP ks x = ((ks.getD (ks.length - 1) (0, 0)).2, 0, 1) := by
      by_cases e : (ks.getD (ks.length - 1) (0, 0)).1 = x
      · rw [← e]; exact valP_knot hg.asc (getD_mem (by omega) _)
      · have hf := findV_at hg.ne (x := x) (i := ks.length) (by omega) (fun k hk => by
          by_cases e2 : k = ks.length - 1
          · rw [e2]; omega
          · have := hlt k (ks.length - 1) (by omega) (by omega); omega) (fun k h3 h4 => by omega)
        rw [if_neg (fun hc => by omega)] at hf
        unfold valP partAt
        rw [hf, if_pos (by rw [show min ks.length (ks.length - 1) = ks.length - 1 by omega])]
    unfold rangeP
    rw [this]
    exact ⟨rfl, by show (ks.getD (ks.length - 1) (0, 0)).2 = (ks.getD (ks.length - 1) (0, 0)).2 + min 0 1; omega⟩
  · refine ⟨fun xs => match xs with | [.i i] => 0 ≤ i ∧ i + 1 < ks.length ∧ (ks.getD i.toNat (0, 0)).1 < x | _ => False, fun xs => match xs with | [.i i] => ((ks.length : Int) - i).toNat | _ => 0, ⟨by omega, ?_, h⟩, ?_⟩
    · rcases Nat.eq_or_lt_of_le (show 1 ≤ ks.length by omega) with e | e
      · exfalso
        rw [← e] at h2
        simp at h2 h
        omega
      · omega
    rintro i _ _ ⟨i0, i1, hi⟩
    rw [show (i + 1).toNat = i.toNat + 1 by omega]
    refine ⟨⟨by omega, by omega⟩, by omega, by omega, fun h3 => ?_, fun h3 => ?_⟩
    · refine ⟨⟨by omega, by omega⟩, ⟨by omega, by omega⟩, ⟨by omega, ?_, by rw [show (i + 1).toNat = i.toNat + 1 by omega]; exact h3⟩, (show ((ks.length : Int) - (i + 1)).toNat < ((ks.length : Int) - i).toNat by omega)⟩
      by_cases e : i.toNat + 1 = ks.length - 1
      · rw [e] at h3; omega
      · omega
    · have b1 := bd i.toNat (by omega)
      have b2 := bd (i.toNat + 1) (by omega)
      have l1 := hlt i.toNat (i.toNat + 1) (by omega) (by omega)
      have hf := findV_at hg.ne (x := x) (i := i.toNat + 1) (by omega) (fun k hk => by
          by_cases e2 : k = i.toNat
          · rw [e2]; omega
          · have := hlt k i.toNat (by omega) (by omega); omega) (fun k h4 h5 => by
          by_cases e2 : k = i.toNat + 1
          · rw [e2]; omega
          · have := hlt (i.toNat + 1) k (by omega) h5; omega)
      rw [show i.toNat + 1 - 1 = i.toNat by omega, show min (i.toNat + 1) (ks.length - 1) = i.toNat + 1 by omega] at hf
      have hbox := hg.box
      have mA := getD_mem (l := ks) (i := i.toNat) (by omega) (0, 0)
      have mB := getD_mem (l := ks) (i := i.toNat + 1) (by omega) (0, 0)
      generalize ks.getD i.toNat (0, 0) = a at *
      generalize ks.getD (i.toNat + 1) (0, 0) = b at *
      have hpr : -1152921504606846976 ≤ (b.2 - a.2) * (x - a.1) ∧ (b.2 - a.2) * (x - a.1) ≤ 1152921504606846976 := by
        rcases hbox with hb | hb
        · have c1 := hb _ mA
          have c2 := hb _ mB
          have := mul_abs (y := b.2 - a.2) (z := x - a.1) (V := 68719476736) (A := 1048576) (by omega) (by omega) (by omega) (by omega)
          omega
        · have c1 := hb _ mA
          have c2 := hb _ mB
          have := mul_abs (y := b.2 - a.2) (z := x - a.1) (V := 1048576) (A := 1099511627776) (by omega) (by omega) (by omega) (by omega)
          omega
      have hsb := seg_bd (y := b.2 - a.2) (t := x - a.1) (d := b.1 - a.1) (by omega) (by omega) (by omega)
      have hcl := ceil_law (n := (b.2 - a.2) * (x - a.1)) (d := b.1 - a.1) (by omega)
      have hr1 := Int.emod_nonneg ((b.2 - a.2) * (x - a.1)) (b := b.1 - a.1) (by omega)
      have hval : (rangeP ks x).1 = a.2 + (b.2 - a.2) * (x - a.1) / (b.1 - a.1) ∧ (rangeP ks x).2 = a.2 + (b.2 - a.2) * (x - a.1) / (b.1 - a.1) + min ((b.2 - a.2) * (x - a.1) % (b.1 - a.1)) 1 := by
        unfold rangeP valP
        by_cases e : b.1 = x
        · rw [if_pos ⟨by omega, e⟩] at hf
          rw [hf]
          unfold partAt
          rw [if_pos rfl]
          have e1 : (b.2 - a.2) * (x - a.1) / (b.1 - a.1) = b.2 - a.2 := by rw [← e]; exact Int.mul_ediv_cancel _ (by omega)
          have e2 : (b.2 - a.2) * (x - a.1) % (b.1 - a.1) = 0 := by rw [← e]; exact Int.mul_emod_left ..
          rw [e1, e2]
          exact ⟨by show b.2 = _; omega, by show b.2 + min 0 1 = _; omega⟩
        · rw [if_neg (fun hc => e hc.2)] at hf
          rw [hf]
          unfold partAt
          rw [if_neg (by show ¬ a = b; intro hab; rw [hab] at l1; omega)]
          exact ⟨rfl, rfl⟩
      rw [hval.1, hval.2]
      generalize (b.2 - a.2) * (x - a.1) = N at *
      generalize hD : b.1 - a.1 = D at *
      refine ⟨by omega, by omega, by omega, ⟨by omega, by omega⟩, ⟨by omega, by omega⟩, ⟨by omega, by omega⟩, ⟨by omega, by omega⟩, ⟨by omega, by omega⟩, ⟨by omega, by omega⟩, ⟨by omega, by omega⟩, ?_⟩
      rintro q _ _ rfl
      refine ⟨⟨by omega, by omega⟩, ⟨by omega, by omega⟩, ⟨by omega, by omega⟩, ⟨by omega, by omega⟩, ⟨by omega, by omega⟩, ?_⟩
      rintro q2 _ _ hq2
      have hq2 : q2 = (0 - N) / D := hq2
      rw [Int.zero_sub] at hq2
      rw [← hq2] at hcl
      exact ⟨⟨by omega, by omega⟩, ⟨by omega, by omega⟩, ⟨by omega, by omega⟩, rfl, by omega⟩
theorem rat_ok : tab.ok 38 := rat_ok' rvalue_ok
end Go.Proofs.Ytcglpbchejkolaa
/- Earth: lines compared. -/
namespace Go.Proofs.Ytcglpbchejkolaa
open Go.RowKit
set_option linter.unusedSimpArgs false
set_option linter.unusedVariables false

theorem atleast_ok : tab.ok 92 := by
  refine Tab.of_ct rfl rfl ⟨_, Try.func92, by decide, rfl⟩ ?_ ctF_det
  refine ct_ok (cx := catleast) (Tab.cx_ok (all_cons find_ok (all_cons at4_ok all_nil))) Try.func92 (bds := []) (T := tatleast) (by kernel_rfl) ?_
  have h1 : catleast.ct 93 = some ctFind := rfl
  have h2 : catleast.ct 94 = some ctAt4 := rfl
  unfold tatleast
  simp only [VC, allC, List.map_cons, List.map_nil, List.length_cons, List.length_nil, List.getElem?_cons_zero, List.getElem?_cons_succ, List.cons.injEq, C.i.injEq, C.b.injEq, and_true, true_and, forall_const, kindsOf_nil, kindsOf_lf, kindsOf_agg, kindsOf_box, boxKinds_nil, boxKinds_lf, boxKinds_agg, boxKinds_box, List.append_nil, List.cons_append, List.nil_append, den_cmp_le, den_cmp_lt, den_cmp_eq, den_cmp_ne, den_cmp_le', den_cmp_lt', den_cmp_eq', den_cmp_ne', den_and, den_and', den_or, den_or', den_not, den_not', den_blit, den_of, ev_var, at_0, at_1, at_2, at_3, at_4, at_5, at_6, at_7, at_skip, c_int, c_bool, c_arr, c_cnt, c_vec, ev_nil, ev_join, ev_sub3, loc_s, int_i, bool_b, rows_s, cs_nil, cs_cons, E.den_lit, E.den_var, E.den_add, E.den_sub, E.den_mul, E.den_quo, E.den_rem, E.den_max, E.den_min, E.den_len, E.den_wr, E.den_cell, h1, h2, ctFind, ctAt4, ctAtLeast, ctF, lineSh, rangeSh, n_, k_, ofKn]
  intro u r d ty hs u2 r2 d2 ty2 hs2 x _ _ hp
  generalize knots r = a at *
  generalize knots r2 = b at *
  obtain ⟨ha, hb, hge⟩ := hp
  have ga := good ha
  have gb := good hb
  refine ⟨bds_nil _, ⟨ga.asc, ga.ne, by have := ga.len; omega⟩, ?_⟩
  rintro a0 _ _ a1 _ _ b0 _ _ b1 _ _ ⟨rfl, rfl, rfl, rfl⟩
  refine ⟨ga.part x, ?_⟩
  rintro p _ _ n _ _ dd _ _ ⟨rfl, rfl, rfl⟩
  refine ⟨⟨gb.asc, gb.ne, by have := gb.len; omega⟩, ?_⟩
  rintro a0 _ _ a1 _ _ b0 _ _ b1 _ _ ⟨rfl, rfl, rfl, rfl⟩
  refine ⟨gb.part x, ?_⟩
  rintro q _ _ m _ _ f _ _ ⟨rfl, rfl, rfl⟩
  change _ ∧ _
  have e1 : ∀ ks : List Kn, partAt (((findV ks x).1.1, (findV ks x).1.2), ((findV ks x).2.1, (findV ks x).2.2)) x = valP ks x := fun _ => rfl
  simp only [e1]
  unfold geP
  obtain ⟨g1, g2, g3, g4⟩ := hge
  refine ⟨fun h => by rw [decide_eq_true h]; rfl, fun h => ⟨fun he => ⟨⟨by omega, by omega⟩, ⟨by omega, by omega⟩, ?_⟩, fun hne => ?_⟩⟩
  · show decide _ = _
    rw [decide_eq_false (p := (valP b x).1 < (valP a x).1) (by omega), Bool.false_or, he, beq_self_eq_true, Bool.true_and]
    rfl
  · rw [decide_eq_false (by omega), Bool.false_or, show ((valP a x).1 == (valP b x).1) = false by simpa using hne, Bool.false_and]
theorem Good.ge {a b : List Kn} (ha : Good a) (hb : Good b) {k : Kn} (hk : k ∈ a ∨ k ∈ b) : GeOK (valP a k.1) (valP b k.1) := by
  have va := ha.val k.1
  have vb := hb.val k.1
  rcases hk with hk | hk
  · rw [valP_knot ha.asc hk]
    refine ⟨?_, ?_, ?_, ?_⟩ <;> simp only [Int.mul_one, Int.zero_mul] <;> omega
  · rw [valP_knot hb.asc hk]
    refine ⟨?_, ?_, ?_, ?_⟩ <;> simp only [Int.mul_one, Int.zero_mul] <;> omega
theorem above_ok : tab.ok 64 := by
  refine Tab.of_ct rfl rfl ⟨_, Try.func64, by decide, rfl⟩ ?_ ctF_det
  refine ct_ok (cx := cabove) (Tab.cx_ok (all_cons atleast_ok all_nil)) Try.func64 (bds := []) (T := tabove) (by kernel_rfl) ?_
  have h1 : cabove.ct 92 = some ctAtLeast := rfl
  unfold tabove
  simp only [VC, allC, List.map_cons, List.map_nil, List.length_cons, List.length_nil, List.getElem?_cons_zero, List.getElem?_cons_succ, List.cons.injEq, C.i.injEq, C.b.injEq, and_true, true_and, forall_const, kindsOf_nil, kindsOf_lf, kindsOf_agg, kindsOf_box, boxKinds_nil, boxKinds_lf, boxKinds_agg, boxKinds_box, List.append_nil, List.cons_append, List.nil_append, den_cmp_le, den_cmp_lt, den_cmp_eq, den_cmp_ne, den_cmp_le', den_cmp_lt', den_cmp_eq', den_cmp_ne', den_and, den_and', den_or, den_or', den_not, den_not', den_blit, den_of, ev_var, at_0, at_1, at_2, at_3, at_4, at_5, at_6, at_7, at_skip, c_int, c_bool, c_arr, c_cnt, c_vec, ev_nil, ev_join, ev_sub3, loc_s, int_i, bool_b, rows_s, cs_nil, cs_cons, E.den_lit, E.den_var, E.den_add, E.den_sub, E.den_mul, E.den_quo, E.den_rem, E.den_max, E.den_min, E.den_len, E.den_wr, E.den_cell, ev_cell, kn1, kn2, h1, ctAtLeast, ctAboveI, ctF, lineSh, rangeSh, n_, k_, ofKn]
  intro u r d ty hs u2 r2 d2 ty2 hs2 to _ _ hp
  have hk := knots_len r
  have hk2 := knots_len r2
  generalize knots r = a at *
  generalize knots r2 = b at *
  rw [← hk, ← hk2]
  have ga := good hp.1
  have gb := good hp.2
  have one : ∀ {k : Kn}, (k ∈ a ∨ k ∈ b) → k.1 ≤ to → geP (valP a k.1) (valP b k.1) = false → false = aboveV a b to := fun {k} hk h1 h2 => by
    symm
    unfold aboveV
    rw [List.all_eq_false]
    exact ⟨k, List.mem_append.2 hk, by rw [h2, decide_eq_false (by omega)]; simp⟩
  refine ⟨bds_nil _, fun xs => match xs with | [_, .i i] => 0 ≤ i ∧ i ≤ a.length ∧ ∀ k ∈ a.take i.toNat, (decide (to < k.1) || geP (valP a k.1) (valP b k.1)) = true | _ => False, fun xs => match xs with | [_, .i i] => ((a.length : Int) - i).toNat | _ => 0, ⟨by omega, by omega, fun k hk => by simp at hk⟩, ?_⟩
  rintro x i _ _ ⟨i0, i1, hi⟩
  refine ⟨fun hlt => ⟨i0, hlt, ?_⟩, fun hge => ?_⟩
  · have hm := getD_mem (l := a) (i := i.toNat) (by omega) (0, 0)
    have next : (decide (to < (a.getD i.toNat (0, 0)).1) || geP (valP a (a.getD i.toNat (0, 0)).1) (valP b (a.getD i.toNat (0, 0)).1)) = true → ∀ k ∈ a.take (i + 1).toNat, (decide (to < k.1) || geP (valP a k.1) (valP b k.1)) = true := fun h k hk => by
      rw [show (i + 1).toNat = i.toNat + 1 by omega, take_snoc (by omega) (0, 0)] at hk
      rcases List.mem_append.1 hk with hk | hk
      · exact hi k hk
      · rw [List.mem_singleton] at hk; subst hk; exact h
    generalize a.getD i.toNat (0, 0) = k at *
    refine ⟨fun hle => ⟨⟨hp.1, hp.2, ga.ge gb (.inl hm)⟩, ?_⟩, fun hgt => ⟨⟨by omega, by omega, next (by rw [decide_eq_true hgt]; rfl)⟩, (show ((a.length : Int) - (i + 1)).toNat < ((a.length : Int) - i).toNat by omega)⟩⟩
    rintro t ht
    refine ⟨fun hf => one (.inl hm) hle (by rw [← ht]; exact hf), fun htt => ⟨⟨by omega, by omega, next (by rw [← ht, htt, Bool.or_true])⟩, (show ((a.length : Int) - (i + 1)).toNat < ((a.length : Int) - i).toNat by omega)⟩⟩
  · rw [List.take_of_length_le (by omega)] at hi
    refine ⟨fun xs => match xs with | [_, .i i, _] => 0 ≤ i ∧ i ≤ b.length ∧ ∀ k ∈ b.take i.toNat, (decide (to < k.1) || geP (valP a k.1) (valP b k.1)) = true | _ => False, fun xs => match xs with | [_, .i i, _] => ((b.length : Int) - i).toNat | _ => 0, ⟨by omega, by omega, fun k hk => by simp at hk⟩, ?_⟩
    rintro x2 j _ _ t2 ⟨j0, j1, hj⟩
    refine ⟨fun hlt => ⟨j0, hlt, ?_⟩, fun hge2 => ?_⟩
    · have hm := getD_mem (l := b) (i := j.toNat) (by omega) (0, 0)
      have next : (decide (to < (b.getD j.toNat (0, 0)).1) || geP (valP a (b.getD j.toNat (0, 0)).1) (valP b (b.getD j.toNat (0, 0)).1)) = true → ∀ k ∈ b.take (j + 1).toNat, (decide (to < k.1) || geP (valP a k.1) (valP b k.1)) = true := fun h k hk => by
        rw [show (j + 1).toNat = j.toNat + 1 by omega, take_snoc (by omega) (0, 0)] at hk
        rcases List.mem_append.1 hk with hk | hk
        · exact hj k hk
        · rw [List.mem_singleton] at hk; subst hk; exact h
      generalize b.getD j.toNat (0, 0) = k at *
      refine ⟨fun hle => ⟨⟨hp.1, hp.2, ga.ge gb (.inr hm)⟩, ?_⟩, fun hgt => ⟨⟨by omega, by omega, next (by rw [decide_eq_true hgt]; rfl)⟩, (show ((b.length : Int) - (j + 1)).toNat < ((b.length : Int) - j).toNat by omega)⟩⟩
      rintro t ht
      refine ⟨fun hf => one (.inr hm) hle (by rw [← ht]; exact hf), fun htt => ⟨⟨by omega, by omega, next (by rw [← ht, htt, Bool.or_true])⟩, (show ((b.length : Int) - (j + 1)).toNat < ((b.length : Int) - j).toNat by omega)⟩⟩
    · rw [List.take_of_length_le (by omega)] at hj
      symm
      unfold aboveV
      rw [List.all_eq_true]
      intro k hk
      rcases List.mem_append.1 hk with hk | hk
      · exact hi k hk
      · exact hj k hk
theorem above2_ok : tab.ok 21 := by
  refine Tab.of_ct rfl rfl ⟨_, Try.func21, by decide, rfl⟩ ?_ ctF_det
  refine ct_ok (cx := cabove2) (Tab.cx_ok (all_cons right_ok (all_cons above_ok all_nil))) Try.func21 (bds := []) (T := tabove2) (by kernel_rfl) ?_
  have h1 : cabove2.ct 63 = some ctRight := rfl
  have h2 : cabove2.ct 64 = some ctAboveI := rfl
  unfold tabove2
  simp only [VC, allC, List.map_cons, List.map_nil, List.length_cons, List.length_nil, List.getElem?_cons_zero, List.getElem?_cons_succ, List.cons.injEq, C.i.injEq, C.b.injEq, and_true, true_and, forall_const, kindsOf_nil, kindsOf_lf, kindsOf_agg, kindsOf_box, boxKinds_nil, boxKinds_lf, boxKinds_agg, boxKinds_box, List.append_nil, List.cons_append, List.nil_append, den_cmp_le, den_cmp_lt, den_cmp_eq, den_cmp_ne, den_cmp_le', den_cmp_lt', den_cmp_eq', den_cmp_ne', den_and, den_and', den_or, den_or', den_not, den_not', den_blit, den_of, ev_var, at_0, at_1, at_2, at_3, at_4, at_5, at_6, at_7, at_skip, c_int, c_bool, c_arr, c_cnt, c_vec, ev_nil, ev_join, ev_sub3, loc_s, int_i, bool_b, rows_s, cs_nil, cs_cons, E.den_lit, E.den_var, E.den_add, E.den_sub, E.den_mul, E.den_quo, E.den_rem, E.den_max, E.den_min, E.den_len, E.den_wr, E.den_cell, ev_cell, kn1, kn2, h1, h2, ctRight, ctAboveI, ctAbove, ctF, lineSh, rangeSh, n_, k_, ofKn]
  intro u r d ty hs u2 r2 d2 ty2 hs2
  refine ⟨bds_nil _, fun t ht => ?_⟩
  have ht : t = (rightB (knots r) && rightB (knots r2)) := by rw [ht]; show (rightB (knots r) && (rightB (knots r2) && true)) = _; rw [Bool.and_true]
  subst ht
  refine ⟨fun h => ⟨by rw [Bool.and_eq_true] at h; exact h, fun t ht => by rw [h, Bool.true_and]; exact ht⟩, fun h => by rw [h, Bool.false_and]⟩
theorem rabove_ok : tab.ok 77 := by
  refine Tab.of_ct rfl rfl ⟨_, Try.func77, by decide, rfl⟩ ?_ ctF_det
  refine ct_ok (cx := crabove) (Tab.cx_ok (all_cons rvalue_ok all_nil)) Try.func77 (bds := []) (T := trabove) (by kernel_rfl) ?_
  have h1 : crabove.ct 72 = some ctValue := rfl
  unfold trabove
  simp only [VC, allC, List.map_cons, List.map_nil, List.length_cons, List.length_nil, List.getElem?_cons_zero, List.getElem?_cons_succ, List.cons.injEq, C.i.injEq, C.b.injEq, and_true, true_and, forall_const, kindsOf_nil, kindsOf_lf, kindsOf_agg, kindsOf_box, boxKinds_nil, boxKinds_lf, boxKinds_agg, boxKinds_box, List.append_nil, List.cons_append, List.nil_append, den_cmp_le, den_cmp_lt, den_cmp_eq, den_cmp_ne, den_cmp_le', den_cmp_lt', den_cmp_eq', den_cmp_ne', den_and, den_and', den_or, den_or', den_not, den_not', den_blit, den_of, ev_var, at_0, at_1, at_2, at_3, at_4, at_5, at_6, at_7, at_skip, c_int, c_bool, c_arr, c_cnt, c_vec, ev_nil, ev_join, ev_sub3, loc_s, int_i, bool_b, rows_s, cs_nil, cs_cons, E.den_lit, E.den_var, E.den_add, E.den_sub, E.den_mul, E.den_quo, E.den_rem, E.den_max, E.den_min, E.den_len, E.den_wr, E.den_cell, ev_cell, kn1, kn2, h1, ctValue, ctRAboveI, ctF, lineSh, rangeSh, n_, k_, ofKn]
  intro u r d ty hs u2 r2 d2 ty2 hs2 hp
  have hk := knots_len r
  have hk2 := knots_len r2
  generalize knots r = a at *
  generalize knots r2 = b at *
  rw [← hk, ← hk2]
  have ga := good hp.1
  have gb := good hp.2
  have hall := aboveV_iff ga gb (to := 2199023255552)
  have no : ¬ ((∀ k ∈ a, (2199023255552 : Int) < k.1 ∨ (rangeP b k.1).2 ≤ k.2) ∧ ∀ k ∈ b, (2199023255552 : Int) < k.1 ∨ k.2 ≤ (rangeP a k.1).1) → false = aboveV a b 2199023255552 := fun h => by
    cases e : aboveV a b 2199023255552 with
    | false => rfl
    | true => exact absurd (hall.1 e) h
  refine ⟨bds_nil _, fun xs => match xs with | [_, .i i] => 0 ≤ i ∧ i ≤ a.length ∧ ∀ k ∈ a.take i.toNat, (rangeP b k.1).2 ≤ k.2 | _ => False, fun xs => match xs with | [_, .i i] => ((a.length : Int) - i).toNat | _ => 0, ⟨by omega, by omega, fun k hk => by simp at hk⟩, ?_⟩
  rintro x i _ _ ⟨i0, i1, hi⟩
  refine ⟨fun hlt => ⟨i0, hlt, hlt, hp.2, ?_⟩, fun hge => ?_⟩
  · have hm := getD_mem (l := a) (i := i.toNat) (by omega) (0, 0)
    have next : (rangeP b (a.getD i.toNat (0, 0)).1).2 ≤ (a.getD i.toNat (0, 0)).2 → ∀ k ∈ a.take (i + 1).toNat, (rangeP b k.1).2 ≤ k.2 := fun h k hk => by
      rw [show (i + 1).toNat = i.toNat + 1 by omega, take_snoc (by omega) (0, 0)] at hk
      rcases List.mem_append.1 hk with hk | hk
      · exact hi k hk
      · rw [List.mem_singleton] at hk; subst hk; exact h
    have hb := ga.bd hm
    generalize a.getD i.toNat (0, 0) = k at *
    rintro p _ _ q _ _ ⟨rfl, rfl⟩
    refine ⟨fun h => no fun hc => ?_, fun h => ⟨⟨by omega, by omega, next h⟩, (show ((a.length : Int) - (i + 1)).toNat < ((a.length : Int) - i).toNat by omega)⟩⟩
    have := hc.1 k hm
    omega
  · rw [List.take_of_length_le (by omega)] at hi
    refine ⟨fun xs => match xs with | [_, .i i] => 0 ≤ i ∧ i ≤ b.length ∧ ∀ k ∈ b.take i.toNat, k.2 ≤ (rangeP a k.1).1 | _ => False, fun xs => match xs with | [_, .i i] => ((b.length : Int) - i).toNat | _ => 0, ⟨by omega, by omega, fun k hk => by simp at hk⟩, ?_⟩
    rintro x2 j _ _ ⟨j0, j1, hj⟩
    refine ⟨fun hlt => ⟨j0, hlt, hp.1, ?_⟩, fun hge2 => ?_⟩
    · have hm := getD_mem (l := b) (i := j.toNat) (by omega) (0, 0)
      have next : (b.getD j.toNat (0, 0)).2 ≤ (rangeP a (b.getD j.toNat (0, 0)).1).1 → ∀ k ∈ b.take (j + 1).toNat, k.2 ≤ (rangeP a k.1).1 := fun h k hk => by
        rw [show (j + 1).toNat = j.toNat + 1 by omega, take_snoc (by omega) (0, 0)] at hk
        rcases List.mem_append.1 hk with hk | hk
        · exact hj k hk
        · rw [List.mem_singleton] at hk; subst hk; exact h
      have hb := gb.bd hm
      generalize b.getD j.toNat (0, 0) = k at *
      rintro p _ _ q _ _ ⟨rfl, rfl⟩
      refine ⟨hlt, fun h => no fun hc => ?_, fun h => ⟨⟨by omega, by omega, next h⟩, (show ((b.length : Int) - (j + 1)).toNat < ((b.length : Int) - j).toNat by omega)⟩⟩
      have := hc.2 k hm
      omega
    · rw [List.take_of_length_le (by omega)] at hj
      exact (hall.2 ⟨fun k hk => .inr (hi k hk), fun k hk => .inr (hj k hk)⟩).symm
theorem rabove2_ok : tab.ok 43 := by
  refine Tab.of_ct rfl rfl ⟨_, Try.func43, by decide, rfl⟩ ?_ ctF_det
  refine ct_ok (cx := crabove2) (Tab.cx_ok (all_cons rright_ok (all_cons rabove_ok all_nil))) Try.func43 (bds := []) (T := trabove2) (by kernel_rfl) ?_
  have h1 : crabove2.ct 71 = some ctRRight := rfl
  have h2 : crabove2.ct 77 = some ctRAboveI := rfl
  unfold trabove2
  simp only [VC, allC, List.map_cons, List.map_nil, List.length_cons, List.length_nil, List.getElem?_cons_zero, List.getElem?_cons_succ, List.cons.injEq, C.i.injEq, C.b.injEq, and_true, true_and, forall_const, kindsOf_nil, kindsOf_lf, kindsOf_agg, kindsOf_box, boxKinds_nil, boxKinds_lf, boxKinds_agg, boxKinds_box, List.append_nil, List.cons_append, List.nil_append, den_cmp_le, den_cmp_lt, den_cmp_eq, den_cmp_ne, den_cmp_le', den_cmp_lt', den_cmp_eq', den_cmp_ne', den_and, den_and', den_or, den_or', den_not, den_not', den_blit, den_of, ev_var, at_0, at_1, at_2, at_3, at_4, at_5, at_6, at_7, at_skip, c_int, c_bool, c_arr, c_cnt, c_vec, ev_nil, ev_join, ev_sub3, loc_s, int_i, bool_b, rows_s, cs_nil, cs_cons, E.den_lit, E.den_var, E.den_add, E.den_sub, E.den_mul, E.den_quo, E.den_rem, E.den_max, E.den_min, E.den_len, E.den_wr, E.den_cell, ev_cell, kn1, kn2, h1, h2, ctRRight, ctRAboveI, ctAbove, ctF, lineSh, rangeSh, n_, k_, ofKn]
  intro u r d ty hs u2 r2 d2 ty2 hs2
  refine ⟨bds_nil _, fun t ht => ?_⟩
  subst ht
  refine ⟨fun h => fun t2 ht2 => ?_, fun h => by rw [h, Bool.false_and, Bool.false_and]⟩
  subst ht2
  exact ⟨fun h2 => ⟨⟨h, h2⟩, fun t ht => by rw [h, h2, Bool.true_and, Bool.true_and]; exact ht⟩, fun h2 => by rw [h2, Bool.and_false, Bool.false_and]⟩
end Go.Proofs.Ytcglpbchejkolaa
/- Earth: contracts, more of them: earths. -/
namespace Go.Proofs.Ytcglpbchejkolaa
set_option linter.unusedVariables false

structure Rep where
  kind : Int
  z : Int
  p : Int
structure Ear where
  bottom : Int
  pl : List Kn
  ph : List Kn
  fl : List Kn
  fh : List Kn
  gl : Int
  gh : Int
  reps : List Rep
def repsOf (rows : List (List C)) : List Rep := rows.map fun r => ⟨(r.getD 0 (.i 0)).int, (r.getD 1 (.i 0)).int, (r.getD 2 (.i 0)).int⟩
def earOf (cs : List C) : Ear := ⟨n_ cs 0, k_ cs 1, k_ cs 2, k_ cs 3, k_ cs 4, n_ cs 5, n_ cs 6, repsOf (at_ cs 7).rows⟩
def badReps (bottom : Int) : List Rep → Int
  | [] => 0
  | r :: l => if inV r.kind 1 4 then (if inV r.z 0 bottom && inV r.p 0 68719476736 then badReps bottom l else 2) else 4
/-- The first number that is not 0. -/
def orE (a b : Int) : Int := if a = 0 then b else a
def lineE (ks : List Kn) : Int := lineV ks 1048576 68719476736
def ab (a b : List Kn) : Bool := aboveV a b 2199023255552
def checkV (e : Ear) : Int :=
  if inV e.bottom 1 1048576 && decide (0 ≤ e.gl) && decide (e.gl ≤ e.gh) && decide (e.gh ≤ 40000) then
    orE (lineE e.pl) (orE (lineE e.ph) (orE (lineE e.fl) (orE (lineE e.fh) (if ab e.ph e.pl && ab e.fh e.fl && ab e.fh e.pl then (if 24 < e.reps.length then 8 else badReps e.bottom e.reps) else 12))))
  else 2
def pointsV (bottom : Int) (reps : List Rep) (l : List Kn) (kind : Int) : List Kn := l.filter (fun k => decide (k.1 ≤ bottom)) ++ (reps.filter fun r => r.kind == kind).map fun r => (r.z, r.p)
/-- What one upper point allows, what one lower point asks for. -/
def upP (gl gh z : Int) (k : Kn) : Int := k.2 + (if z < k.1 then gl else gh) * (z - k.1)
def loP (gl gh z : Int) (k : Kn) : Int := k.2 + (if z < k.1 then gh else gl) * (z - k.1)
def upV (gl gh : Int) (l : List Kn) (z so : Int) : Int := l.foldl (fun so k => min so (upP gl gh z k)) so
def loV (gl gh : Int) (l : List Kn) (z so : Int) : Int := l.foldl (fun so k => max so (loP gl gh z k)) so
def fhV (e : Ear) (z : Int) : Int := upV e.gl e.gh (pointsV e.bottom e.reps e.fh 4) z (rangeP e.fh z).2
def phV (e : Ear) (z : Int) : Int := min (fhV e z) (upV e.gl e.gh (pointsV e.bottom e.reps e.ph 2) z (rangeP e.ph z).2)
def plV (e : Ear) (z : Int) : Int := max 0 (loV e.gl e.gh (pointsV e.bottom e.reps e.pl 1) z (rangeP e.pl z).1)
def flV (e : Ear) (z : Int) : Int := max (plV e z) (loV e.gl e.gh (pointsV e.bottom e.reps e.fl 3) z (rangeP e.fl z).1)
def okE (e : Ear) (z : Int) : Bool := checkV e == 0 && inV z 0 e.bottom
def poreV (e : Ear) (z : Int) : Kn := if okE e z = true then (plV e z, phV e z) else (0, 0)
def fracV (e : Ear) (z : Int) : Kn := if okE e z = true then (flV e z, fhV e z) else (0, 0)
def winV (e : Ear) (z : Int) : Kn := if okE e z = true then (phV e z, flV e z) else (0, 0)

def earthKs : List Lk := [.int, .arr 44, .arr 44, .arr 44, .arr 44, .int, .int, .arr 57]
def earthSh : Sh0 := .agg earthKs
def ctCheck : Ct := ctF [earthSh] [.lf .int] (fun _ => True) (fun cs => [.i (checkV (earOf cs))])
/-- What is asked of points and of a place. -/
def PointsOK (l : List Kn) : Prop := l.length ≤ 1000 ∧ ∀ k ∈ l, 0 ≤ k.1 ∧ k.1 ≤ 1048576 ∧ 0 ≤ k.2 ∧ k.2 ≤ 68719476736
def GOK (gl gh z : Int) : Prop := 0 ≤ gl ∧ gl ≤ 40000 ∧ 0 ≤ gh ∧ gh ≤ 40000 ∧ 0 ≤ z ∧ z ≤ 1048576
def ctClone (t : TypeId) : Ct := ⟨[.lf (.arr t)], [.lf (.vec t)], fun cs => (at_ cs 0).rows.length ≤ 1000, fun cs rs => ∃ v, rs = [.s v (at_ cs 0).rows], false⟩
def ctPoints : Ct := ⟨[earthSh, lineSh, .lf .int], [.lf (.vec 44)], fun cs => (k_ cs 8).length ≤ 100 ∧ (at_ cs 7).rows.length ≤ 100, fun cs rs => ∃ v rows, rs = [.s v rows] ∧ knots rows = pointsV (earOf cs).bottom (earOf cs).reps (k_ cs 8) (n_ cs 9), false⟩
def ctUp : Ct := ctF [earthSh, .lf (.arr 44), .lf .int, .lf .int] [.lf .int] (fun cs => PointsOK (k_ cs 8) ∧ GOK (earOf cs).gl (earOf cs).gh (n_ cs 9)) (fun cs => [.i (upV (earOf cs).gl (earOf cs).gh (k_ cs 8) (n_ cs 9) (n_ cs 10))])
def ctLo : Ct := ctF [earthSh, .lf (.arr 44), .lf .int, .lf .int] [.lf .int] (fun cs => PointsOK (k_ cs 8) ∧ GOK (earOf cs).gl (earOf cs).gh (n_ cs 9)) (fun cs => [.i (loV (earOf cs).gl (earOf cs).gh (k_ cs 8) (n_ cs 9) (n_ cs 10))])
def ctBoth : Ct := ctF [earthSh, .lf .int] [rangeSh, rangeSh] (fun cs => okE (earOf cs) (n_ cs 8) = true) (fun cs => [.i (plV (earOf cs) (n_ cs 8)), .i (phV (earOf cs) (n_ cs 8)), .i (flV (earOf cs) (n_ cs 8)), .i (fhV (earOf cs) (n_ cs 8))])
def ctAsked : Ct := ctF [earthSh, .lf .int] [rangeSh, rangeSh] (fun _ => True) (fun cs => ofKn (poreV (earOf cs) (n_ cs 8)) ++ ofKn (fracV (earOf cs) (n_ cs 8)))
def ctRange (f : Ear → Int → Kn) : Ct := ctF [earthSh, .lf .int] [rangeSh] (fun _ => True) (fun cs => ofKn (f (earOf cs) (n_ cs 8)))
def ctIn : Ct := ctF [earthSh, .lf .int] [.lf .bool] (fun _ => True) (fun cs => [.b (okE (earOf cs) (n_ cs 8))])
/-- A line made of numbers. -/
def pairs : List Int → List Kn
  | a :: b :: l => (a, b) :: pairs l
  | _ => []
def ints (rows : List (List C)) : List Int := rows.map fun r => (r.getD 0 (.i 0)).int
def ctMkLine : Ct := ⟨[.lf (.arr 2)], [.agg [.vec 44]], fun cs => (at_ cs 0).rows.length ≤ 100, fun cs rs => ∃ v rows, rs = [.s v rows] ∧ knots rows = pairs (ints (at_ cs 0).rows), false⟩
def shownE : Ear := ⟨100000, [(0, 0), (100000, 900000000)], [(0, 0), (100000, 1200000000)], [(0, 0), (100000, 1500000000)], [(0, 0), (100000, 2000000000)], 0, 30000, []⟩
def ctShown : Ct := ⟨[], [.agg [.int, .vec 44, .vec 44, .vec 44, .vec 44, .int, .int, .vec 57]], fun _ => True, fun _ rs => earOf rs = shownE, false⟩
def ctAwake : Ct := ctF [] [.lf .bool] (fun _ => True) (fun _ => [.b true])
def tab2 : Tab where
  ct := fun f => match f with
    | 35 | 47 => some ctCheck
    | 99 => some (ctClone 44)
    | 100 => some (ctClone 57)
    | 117 | 97 => some ctPoints
    | 116 | 96 => some ctUp
    | 118 | 98 => some ctLo
    | 95 | 68 => some ctBoth
    | 66 => some ctAsked
    | 27 | 28 => some (ctRange poreV)
    | 29 | 30 => some (ctRange fracV)
    | 31 | 32 => some (ctRange winV)
    | 67 => some ctIn
    | 55 => some ctMkLine
    | 56 => some ctShown
    | 17 => some ctAwake
    | f => tab.ct f
  inl := tab.inl
  sel := tab.sel
theorem up_ok {f : Nat} (h : tab.ok f) (he : tab2.ct f = tab.ct f := by rfl) : tab2.ok f :=
  ⟨h.1, fun ct hc => h.2.1 ct (he ▸ hc), h.2.2.1, h.2.2.2⟩
end Go.Proofs.Ytcglpbchejkolaa
