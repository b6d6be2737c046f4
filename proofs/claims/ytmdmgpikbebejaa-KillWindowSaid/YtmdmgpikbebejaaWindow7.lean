/- Texts laid into one: Mp Hd Hs Hr Rg Rk Rl XS XT XP XQ XR XS2 XT2. -/
import Derived.Test.YtmdmgpikbebejaaWindow6
import Derived.Maps.Keyed
import Derived.Maps.Range
import Derived.Carry
import Derived.RangeFuncRecord
import Derived.RangeFuncSeq
import Derived.RangeFuncLeaves
/- Maps with numbers as keys: what a block holds, looked up, written, ranged over. -/
namespace Go.Proofs.Ytmdmgpikbebejaa
open Go.RowKit
open Go.ChangeMaps (setBlock heap_setBlock_same heap_setBlock_other)
set_option linter.unusedSimpArgs false
set_option linter.unusedVariables false

abbrev Prs := List (Int × Value)
def valAt : Prs → Int → Value → Value
  | [], _, z => z
  | (j, v) :: l, k, z => if j = k then v else valAt l k z
def putG : Prs → Int → Value → Prs
  | [], k, v => [(k, v)]
  | (j, u) :: l, k, v => if j = k then (k, v) :: l else (j, u) :: putG l k v
theorem valAt_none {k : Int} {z : Value} : ∀ {G : Prs}, (∀ g ∈ G, g.1 ≠ k) → valAt G k z = z
  | [], _ => rfl
  | (j, v) :: l, h => by
    simp only [valAt, if_neg (h (j, v) (by simp))]
    exact valAt_none fun g hg => h g (by simp [hg])
theorem valAt_some {k : Int} {v z : Value} : ∀ {G : Prs}, (G.map (·.1)).Nodup → (k, v) ∈ G → valAt G k z = v
  | [], _, h => by cases h
  | (j, u) :: l, hn, h => by
    simp only [List.map_cons, List.nodup_cons] at hn
    rcases List.mem_cons.1 h with h | h
    · cases h; simp [valAt]
    · have : j ≠ k := fun e => hn.1 (e ▸ List.mem_map_of_mem (f := (·.1)) h)
      simp only [valAt, if_neg this]
      exact valAt_some hn.2 h
theorem putG_none {k : Int} {v : Value} : ∀ {G : Prs}, (∀ g ∈ G, g.1 ≠ k) → putG G k v = G ++ [(k, v)]
  | [], _ => rfl
  | (j, u) :: l, h => by
    simp only [putG, if_neg (h (j, u) (by simp)), List.cons_append]
    rw [putG_none fun g hg => h g (by simp [hg])]
theorem putG_set {k : Int} {v : Value} : ∀ {G : Prs}, (G.map (·.1)).Nodup → ∀ {i : Nat} {u : Value}, G[i]? = some (k, u) → putG G k v = G.set i (k, v)
  | [], _, i, u, h => by simp at h
  | (j, w) :: l, hn, 0, u, h => by simp at h; obtain ⟨rfl, rfl⟩ := h; simp [putG]
  | (j, w) :: l, hn, i + 1, u, h => by
    simp only [List.map_cons, List.nodup_cons] at hn
    have h : l[i]? = some (k, u) := by simpa using h
    have : j ≠ k := fun e => hn.1 (e ▸ List.mem_map_of_mem (f := (·.1)) (List.mem_of_getElem? h))
    simp only [putG, if_neg this, List.set_cons_succ]
    rw [putG_set hn.2 h]
def PairsOf (es : Array MapEntry) (G : Prs) : Prop := es.toList.map (fun x => (x.key, x.val)) = G.map fun g => (Value.int .i64 g.1, g.2)
/-- A map's block, by its entries. -/
def MapAt (w : World) (b : Nat) (G : Prs) : Prop := ∃ es clock, w.heap[b]? = some (.map es clock) ∧ es.size ≤ maxLen ∧ MapKept.Stamped es clock ∧ PairsOf es G
theorem PairsOf.nodup {es : Array MapEntry} {G : Prs} {clock : Nat} (h : PairsOf es G) (hs : MapKept.Stamped es clock) : (G.map (·.1)).Nodup := by
  have h1 : es.toList.map (·.key) = G.map fun g => Value.int .i64 g.1 := by
    have := congrArg (List.map Prod.fst) h
    simpa [List.map_map, Function.comp_def] using this
  have h2 := hs.2.2
  rw [h1] at h2
  have e : (G.map fun g => Value.int .i64 g.1) = (G.map (·.1)).map (Value.int .i64) := by simp [List.map_map, Function.comp_def]
  rw [e] at h2
  exact (List.pairwise_map.1 h2).imp fun h e => h (by rw [e])
theorem PairsOf.at {es : Array MapEntry} {G : Prs} (h : PairsOf es G) {j : Nat} {x : MapEntry} (hx : es.toList[j]? = some x) : ∃ g, G[j]? = some g ∧ x.key = .int .i64 g.1 ∧ x.val = g.2 := by
  have := congrArg (fun l => l[j]?) h
  simp only [List.getElem?_map, hx, Option.map_some] at this
  cases hg : G[j]? with
  | none => rw [hg] at this; cases this
  | some g => rw [hg] at this; simp only [Option.map_some, Option.some.injEq, Prod.mk.injEq] at this; exact ⟨g, rfl, this.1, this.2⟩
theorem PairsOf.of {es : Array MapEntry} {G : Prs} (h : PairsOf es G) {j : Nat} {g : Int × Value} (hg : G[j]? = some g) : ∃ x, es.toList[j]? = some x ∧ x.key = .int .i64 g.1 ∧ x.val = g.2 := by
  have := congrArg (fun l => l[j]?) h
  simp only [List.getElem?_map, hg, Option.map_some] at this
  cases hx : es.toList[j]? with
  | none => rw [hx] at this; cases this
  | some x => rw [hx] at this; simp only [Option.map_some, Option.some.injEq, Prod.mk.injEq] at this; exact ⟨x, rfl, this.1, this.2⟩
theorem PairsOf.key {es : Array MapEntry} {G : Prs} (h : PairsOf es G) {x : MapEntry} (hx : x ∈ es.toList) : ∃ g ∈ G, x.key = .int .i64 g.1 ∧ x.val = g.2 := by
  obtain ⟨j, hj, e⟩ := List.getElem_of_mem hx
  obtain ⟨g, hg, h1, h2⟩ := h.at (show es.toList[j]? = some x by rw [List.getElem?_eq_getElem hj, e])
  exact ⟨g, List.mem_of_getElem? hg, h1, h2⟩
section
variable {P : Program} {t k e : TypeId} (ht : P.underlying t = some (.map k e)) (hk : P.underlying k = some (.int .i64)) {w : World} {b : Nat} {G : Prs}
theorem lit_wf {n : Int} (h : -9223372036854775808 ≤ n ∧ n ≤ 9223372036854775807) : (Lit.int .i64 n).wf = true := by
  have e1 : IntKind.i64.min = -9223372036854775808 := rfl
  have e2 : IntKind.i64.max = 9223372036854775807 := rfl
  simp [Lit.wf, e1, e2]
  omega
theorem MapAt.lt (h : MapAt w b G) : b < w.heap.size := by obtain ⟨es, clock, hb, -⟩ := h; exact (Array.getElem?_eq_some_iff.1 hb).1
theorem MapAt.nodup (h : MapAt w b G) : (G.map (·.1)).Nodup := by obtain ⟨es, clock, -, -, hs, hp⟩ := h; exact hp.nodup hs
theorem MapAt.made (w : World) : MapAt (w.alloc (.map #[] 0)) w.heap.size [] := ⟨#[], 0, (MapKept.heap_alloc w _).1, by simp, MapKept.stamped_empty 0, rfl⟩
include ht hk
theorem MapAt.look (h : MapAt w b G) (hG : ∀ g ∈ G, -9223372036854775808 ≤ g.1 ∧ g.1 ≤ 9223372036854775807) {n : Int} (hn : -9223372036854775808 ≤ n ∧ n ≤ 9223372036854775807) {z : Value} (hz : (zeroValue e).run P w = .ok z w) : (Instr.lookup t (.map (some b)) (.int .i64 n) false).run P w = .ok (valAt G n z) w := by
  obtain ⟨es, clock, hb, hsz, hst, hp⟩ := h
  have K := Maps.int_keyed hk
  have hkey := Maps.keyOf_int_mk hk (lit_wf hn)
  rcases K.find w hkey es.toList (fun x hx => by
    obtain ⟨g, hg, h1, -⟩ := hp.key hx
    rw [h1]
    exact ⟨_, Maps.keyOf_int_mk hk (lit_wf (hG g hg))⟩) with ⟨h1, h2⟩ | ⟨j, e0, h1, h2, h3⟩
  · rw [valAt_none fun g hg hgn => ?_]
    · simp [Instr.lookup, run_underlying ht, MapKept.run_getObj_map hb, K.check w _ hkey, h1, hz, Result.andThen]
    · obtain ⟨j, hj, ej⟩ := List.getElem_of_mem hg
      obtain ⟨x, hx, hx1, -⟩ := hp.of (show G[j]? = some g by rw [List.getElem?_eq_getElem hj, ej])
      exact h2 x (List.mem_of_getElem? hx) (by rw [hx1, hgn])
  · obtain ⟨g, hg, hg1, hg2⟩ := hp.at h2
    rw [h3] at hg1
    cases hg1
    rw [valAt_some (hp.nodup hst) (show (g.1, e0.val) ∈ G by rw [hg2]; exact List.mem_of_getElem? hg)]
    simp [Instr.lookup, run_underlying ht, MapKept.run_getObj_map hb, K.check w _ hkey, h1, Result.andThen]
theorem MapAt.store (h : MapAt w b G) (hG : ∀ g ∈ G, -9223372036854775808 ≤ g.1 ∧ g.1 ≤ 9223372036854775807) (hroom : G.length < maxLen) {n : Int} (hn : -9223372036854775808 ≤ n ∧ n ≤ 9223372036854775807) (v : Value) :
    ∃ o, (Instr.mapUpdate t (.map (some b)) (.int .i64 n) v).run P w = .ok () (setBlock w b o) ∧ MapAt (setBlock w b o) b (putG G n v) ∧ ∀ i, i ≠ b → (setBlock w b o).heap[i]? = w.heap[i]? := by
  obtain ⟨es, clock, hb, hsz, hst, hp⟩ := h
  have K := Maps.int_keyed hk
  have hkey := Maps.keyOf_int_mk hk (lit_wf hn)
  have hlen : es.size = G.length := by have := congrArg List.length hp; simpa using this
  rcases K.find w hkey es.toList (fun x hx => by
    obtain ⟨g, hg, h1, -⟩ := hp.key hx
    rw [h1]
    exact ⟨_, Maps.keyOf_int_mk hk (lit_wf (hG g hg))⟩) with ⟨h1, h2⟩ | ⟨j, e0, h1, h2, h3⟩
  · refine ⟨.map (es.push ⟨.int .i64 n, v, clock⟩) (clock + 1), ?_, ⟨_, _, heap_setBlock_same hb _, by simp; omega, MapKept.stamped_push hst h2, ?_⟩, fun i hi => heap_setBlock_other hb _ hi⟩
    · simp [Instr.mapUpdate, run_underlying ht, MapKept.run_getObj_map hb, K.check w false hkey, h1, MapKept.run_setObj_map _ hb, Result.andThen, setBlock]
    · rw [putG_none fun g hg hgn => ?_]
      · unfold PairsOf at hp ⊢
        simp [hp]
      · obtain ⟨j, hj, ej⟩ := List.getElem_of_mem hg
        obtain ⟨x, hx, hx1, -⟩ := hp.of (show G[j]? = some g by rw [List.getElem?_eq_getElem hj, ej])
        exact h2 x (List.mem_of_getElem? hx) (by rw [hx1, hgn])
  · have hj : es[j]? = some e0 := by simpa using h2
    obtain ⟨g, hg, hg1, hg2⟩ := hp.at h2
    rw [h3] at hg1
    cases hg1
    refine ⟨.map (es.modify j (fun e' => { e' with key := .int .i64 g.1, val := v })) clock, ?_, ⟨_, _, heap_setBlock_same hb _, by simpa using hsz, MapKept.stamped_modify hst _ _ (fun _ _ => rfl) (fun e' _ he' => by rw [hj] at he'; cases he'; exact h3.symm), ?_⟩, fun i hi => heap_setBlock_other hb _ hi⟩
    · simp [Instr.mapUpdate, run_underlying ht, MapKept.run_getObj_map hb, K.check w false hkey, h1, hj, h3, K.stays w hkey, MapKept.run_setObj_map _ hb, Result.andThen, setBlock]
    · rw [putG_set (hp.nodup hst) (show G[j]? = some (g.1, g.2) from hg)]
      unfold PairsOf at hp ⊢
      have hlist : (es.modify j (fun e' => { e' with key := Value.int .i64 g.1, val := v })).toList = es.toList.set j { e0 with key := .int .i64 g.1, val := v } := by
        rw [Array.toList_modify]
        apply List.ext_getElem?
        intro i
        simp only [List.getElem?_modify, List.getElem?_set]
        by_cases hij : j = i
        · subst hij
          simp only [if_true, h2, Option.map_some]
          have : j < es.toList.length := (List.getElem?_eq_some_iff.1 h2).1
          rw [if_pos (by simpa using this)]
          rfl
        · simp [hij]
      rw [hlist, List.map_set, List.map_set, hp]
omit ht hk in
/-- An iterator over a map: which keys it has handed out. -/
def IterAt (w : World) (r b : Nat) (G : Prs) (seen : List Int) : Prop :=
  ∃ es clock since sn c0, w.heap[b]? = some (.map es clock) ∧ MapKept.Stamped es clock ∧ PairsOf es G ∧ w.heap[r]? = some (.mapIter (some b) since sn c0) ∧ (∀ x ∈ es.toList, x.born < since) ∧ since ≤ c0 ∧ since ≤ clock ∧ ∀ x ∈ es.toList, ∀ g ∈ G, x.key = .int .i64 g.1 → (sn.contains x.born = true ↔ g.1 ∈ seen)
end
section
variable {P : Program} {t k e : TypeId} {w : World} {b r : Nat} {G : Prs} {seen : List Int}
theorem IterAt.start (ht : P.underlying t = some (.map k e)) (h : MapAt w b G) : ∃ o, (Instr.range t (.map (some b))).run P w = .ok (.pointer (some ⟨w.heap.size, 0, none⟩)) (w.alloc o) ∧ IterAt (w.alloc o) w.heap.size b G [] := by
  obtain ⟨es, clock, hb, hsz, hst, hp⟩ := h
  have hlt : b < w.heap.size := (Array.getElem?_eq_some_iff.1 hb).1
  refine ⟨.mapIter (some b) clock #[] clock, run_range_map w t k e b es clock ht hb, es, clock, clock, #[], clock, (heap_alloc_old w _ hlt).trans hb, hst, hp, heap_alloc_new w _, hst.1, Nat.le_refl _, Nat.le_refl _, fun x hx g hg hxg => by simp⟩
/-- The next round: nothing is left, or some key comes that had not come. -/
theorem IterAt.next (ty : TypeId) (hbr : b ≠ r) (h : IterAt w r b G seen) :
    ((∀ g ∈ G, g.1 ∈ seen) ∧ (Instr.next (.pointer (some ⟨r, 0, none⟩)) false ty).run P w = .ok (.tuple #[.bool false]) w) ∨
    ∃ g ∈ G, g.1 ∉ seen ∧ ∃ w', (Instr.next (.pointer (some ⟨r, 0, none⟩)) false ty).run P w = .ok (.tuple #[.bool true, .int .i64 g.1, g.2]) w' ∧ IterAt w' r b G (g.1 :: seen) ∧
      w'.heap.size = w.heap.size ∧ (∀ i, i ≠ r → w'.heap[i]? = w.heap[i]?) ∧ w'.os = w.os ∧ w'.tape = w.tape ∧ w'.output = w.output ∧
      ∀ u, u.heap[b]? = w'.heap[b]? → u.heap[r]? = w'.heap[r]? → (Instr.entry (.pointer (some ⟨r, 0, none⟩))).run P u = .ok (.tuple #[.int .i64 g.1, g.2]) u := by
  obtain ⟨es, clock, since, sn, c0, hb, hst, hp, hr, hold, hsc, hcl, hseen⟩ := h
  rcases run_next_at (P := P) w ty r b since c0 sn es clock hr hb hold hsc with ⟨h0, hrun⟩ | ⟨x, hx, w1, hw1, hrun⟩
  · refine .inl ⟨fun g hg => ?_, hrun⟩
    obtain ⟨j, hj, ej⟩ := List.getElem_of_mem hg
    obtain ⟨x, hx, hx1, -⟩ := hp.of (show G[j]? = some g by rw [List.getElem?_eq_getElem hj, ej])
    have hxm := List.mem_of_getElem? hx
    exact (hseen x hxm g hg hx1).1 (all_seen es sn h0 x hxm)
  · obtain ⟨hxm, hxs⟩ := mem_left hx
    obtain ⟨g, hg, hg1, hg2⟩ := hp.key hxm
    have hns : g.1 ∉ seen := fun hin => by rw [(hseen x hxm g hg hg1).2 hin] at hxs; cases hxs
    have hr1 : w1.heap[r]? = some (.mapIter (some b) since sn c0) := by rcases hw1 with rfl | rfl <;> exact hr
    have hw1h : w1.heap = w.heap := by rcases hw1 with rfl | rfl <;> rfl
    have hset : ∀ i, i ≠ r → (setBlock w1 r (.mapIter (some b) since (sn.push x.born) clock)).heap[i]? = w.heap[i]? := fun i hi => by
      simp only [setBlock, Array.getElem?_setIfInBounds, if_neg (Ne.symm hi), hw1h]
    have hsame : (setBlock w1 r (.mapIter (some b) since (sn.push x.born) clock)).heap[r]? = some (.mapIter (some b) since (sn.push x.born) clock) := by
      have : r < w1.heap.size := (Array.getElem?_eq_some_iff.1 hr1).1
      simp [setBlock, this]
    refine .inr ⟨g, hg, hns, setBlock w1 r (.mapIter (some b) since (sn.push x.born) clock), by rw [hrun, hg1, hg2], ?_, by simp [setBlock, hw1h], hset, ?_, ?_, ?_, ?_⟩
    · refine ⟨es, clock, since, sn.push x.born, clock, (hset b hbr).trans hb, hst, hp, hsame, hold, hcl, hcl, fun y hy g' hg' hyg => ?_⟩
      · rw [contains_push]
        simp only [Bool.or_eq_true, beq_iff_eq, List.mem_cons]
        rw [hseen y hy g' hg' hyg]
        have hnod := hst.2.1
        constructor
        · rintro (h | h)
          · exact .inr h
          · have := born_inj hnod hy hxm h
            subst this
            rw [hyg] at hg1
            exact .inl (by simpa using hg1)
        · rintro (h | h)
          · have hkk : y.key = x.key := by rw [hyg, hg1, h]
            have hpk : es.toList.Pairwise (fun x y => x.key ≠ y.key) := ((MapKept.stamped_iff es clock).1 hst).2.2
            refine .inr ?_
            rw [entry_eq_of_key hpk hy hxm hkk]
          · exact .inl h
    · rcases hw1 with rfl | rfl <;> rfl
    · rcases hw1 with rfl | rfl <;> rfl
    · rcases hw1 with rfl | rfl <;> rfl
    · intro u hub hur
      rw [← hg1, ← hg2]
      exact run_entry_at u r b since sn es clock x (hur.trans hsame) (hub.trans ((hset b hbr).trans hb)) hxm hst.2.1
end
end Go.Proofs.Ytmdmgpikbebejaa
/- Pieces of a code by hand: what a state says where blocks of nobody's have turned. -/
namespace Go.Proofs.Ytmdmgpikbebejaa
open Go.RowKit
set_option linter.unusedSimpArgs false
set_option linter.unusedVariables false

/-- A piece of a code, by the executor, that ends in a known state. -/
theorem seg_sound_r {r : Option Nat} {cx : Cx} {R : List C → Prop} {F : Nat → Prop} {w0 : World} (hcx : CxOK cx) {c : Code} {st st1 : St} {ps : List Pl} {ks : List Lk} {k : Ex → St → Option Tree} {T : Tree} (hT : exec cx c { st with lvl := st.lvl + 1 } (joinK st st1 ps ks k) = some T) (hok : joinOk st st1 ps ks = true)
    {Γ : Env} {Ls : List (List C → Prop)} (hl : Ls.length = st.lvl) {I : List C → Prop} (hv : VC cx R T Γ.ρ (Ls ++ [I])) {a : Act} {w : World} (hs : Sat cx.P F w0 Γ st a w) {Q : Exit → Act → World → Prop}
    (hn : ∀ xs Γx a' w', CTy cx.P ks xs → I xs → Γx.ρ = Γ.ρ ++ xs → Ext Γ Γx → Sat cx.P F w0 Γx st1 a' w' → Q .normal a' w')
    (hk : ∀ x st' T' Γ' Ls', x ≠ .nrm → k x st' = some T' → Ext Γ Γ' → Ls'.length = st'.lvl → VC cx R T' Γ'.ρ Ls' → ∀ a w, Sat cx.P F w0 Γ' st' a w → Q x.out a w) : wpR r cx.P c Q a w := by
  obtain ⟨c2, c4, c5, c6, c7, c8⟩ := joinOk_spec hok
  have hlen : Γ.ρ.length = st.nx := hs.len
  have hnum1 : Num st1.bds Γ.ρ := by rw [c7]; exact hs.num
  refine exec_sound (R := R) hcx c _ _ T hT Γ (Ls ++ [I]) _ ?_ (by simp [hl]) hv a w (hs.relvl _)
  intro e st' T' Γ' Ls' hk' he' hl' hlen' hv' a' w' hs'
  cases e with
  | ext i => exact hk (.ext i) st' T' Γ' Ls' (by intro h; cases h) hk' he' hlen' hv' a' w' hs'
  | ret => exact hk .ret st' T' Γ' Ls' (by intro h; cases h) hk' he' hlen' hv' a' w' hs'
  | nrm =>
    simp only [joinK, joinEnd] at hk'
    split at hk'
    · rename_i hc
      simp only [Bool.and_eq_true] at hc
      obtain ⟨⟨d1, d2⟩, d3⟩ := hc
      split at hk'
      · rename_i vals hvals
        split at hk'
        · rename_i hks'
          cases hk'
          obtain ⟨hob', hback⟩ := VC.obT hv'
          obtain ⟨l, hl2⟩ := he'.ρ
          obtain ⟨hty', hsat'⟩ := hs'.rebase (st1 := st1) (ρ0 := Γ.ρ) ⟨l, hl2⟩ (by rw [hlen]; exact d1) (by rw [hlen]; exact hvals) hks' hob' (by rw [hlen]; exact c2) (Nat.eq_of_beq_eq_true d3) (Nat.le_of_ble_eq_true d2) (by rw [hlen]; exact c4) hnum1
          have hget : Ls'[st.lvl]? = some I := by
            obtain ⟨m, rfl⟩ := hl'
            rw [List.append_assoc, List.getElem?_append_right (by omega), hl]
            simp
          simp only [VC, hget] at hback
          exact hn _ { Γ' with ρ := Γ.ρ ++ cs_ Γ'.ρ vals, nb := st1.nb } a' w' hty' hback rfl ⟨⟨_, rfl⟩, fun b hb => he'.blk b hb, by rw [hs.nb]; exact c5, he'.base, he'.up⟩ hsat'
        · cases hk'; exact hv'.elim
      · cases hk'; exact hv'.elim
    · cases hk'; exact hv'.elim

/-! Operations by hand -/
section
variable {P : Program} {ops : Array Oper} {Q : Exit → Act → World → Prop} {o : Oper} {rest : List Oper} {a : Act} {w w' : World} {v : Value}
theorem op_val {K : Act → World → Prop} (h : (execOp a.eval o).run P w = .ok (.value v) w') (hk : K (a.put o.dst v) w') : o.wp P a w K Q := by
  unfold Oper.wp; rw [h]; exact hk
theorem list_val (hg : o.guard = none) (h : (execOp a.eval o).run P w = .ok (.value v) w') (hk : wpList P ops Q rest (a.put o.dst v) w') : wpList P ops Q (o :: rest) a w := by
  unfold wpList
  rw [if_pos (by simp [Region.wanted, hg])]
  exact .inl (op_val h hk)
theorem eval_same {d : Nat} (h : d < a.tmps.size) : (a.put (some d) v).eval (.tmp d) = v := by
  simp [Act.put, Act.eval, h]
theorem put_size {d : Option Tmp} : (a.put d v).tmps.size = a.tmps.size := by cases d <;> simp [Act.put]
end
/-- Known less, otherwise the same; the variables from ρ0 on are new. -/
theorem Sat.less {P : Program} {F : Nat → Prop} {w0 : World} {Γ : Env} {st1 st : St} {a : Act} {w : World} (h : Sat P F w0 Γ st a w) {ρ0 : List C} (hρ : ∃ l, Γ.ρ = ρ0 ++ l) {n : Nat} (hn : ρ0.length = n) {ps : List Pl} {ks : List Lk} {vals : List Lf}
    (h1 : sameRest st1 st n ps = true) (h2 : backPs st1 st n ps = some vals) (h3 : kindsL vals = some ks) (h4 : Obs Γ.ρ (rngL st.bds vals)) (h5 : headWf st1 n ps = true) (h6 : st1.nt = st.nt) (h7 : st1.nb ≤ st.nb) (h8 : st1.nx = n + ks.length) (h9 : st1.bds = []) :
    CTy P ks (cs_ Γ.ρ vals) ∧ Sat P F w0 { Γ with ρ := ρ0 ++ cs_ Γ.ρ vals, nb := st1.nb } st1 a w := by
  subst hn
  refine h.rebase (st1 := st1) hρ h1 h2 h3 h4 h5 h6 h7 h8 ?_
  rw [h9]
  refine ⟨bds_nil _, fun i m => ?_⟩
  obtain ⟨l, e⟩ := hρ
  have := h.num.len
  rw [e] at this
  rcases Nat.lt_or_ge i ρ0.length with hi | hi
  · have h10 := this i m
    rw [at_ext hi] at h10
    exact h10
  · simp [at_, List.getD_eq_getElem?_getD, List.getElem?_eq_none hi, C.small_zero]
end Go.Proofs.Ytmdmgpikbebejaa
/- Codes in parts, by the executor and by hand. -/
namespace Go.Proofs.Ytmdmgpikbebejaa
open Go.RowKit
set_option linter.unusedSimpArgs false
set_option linter.unusedVariables false

/-- The way to a part of a code. -/
def nav : List Nat → Code → Code
  | [], c => c
  | n :: l, .seq a b => if n = 0 then nav l a else nav l b
  | n :: l, .cond _ a b => if n = 0 then nav l a else nav l b
  | _ :: l, .block _ c => nav l c
  | _ :: l, .loop c => nav l c
  | _, c => c
def bodyOf (f : Func) : Code := f.body.getD .skip
/-- The first parts, one behind another, and what follows. -/
def heads : Nat → Code → List Code
  | n + 1, .seq a b => a :: heads n b
  | _, _ => []
def pre : List Code → Code → Code
  | [], c => c
  | a :: l, c => .seq a (pre l c)
def execL (cx : Cx) : List Code → St → (Ex → St → Option Tree) → Option Tree
  | [], st, k => k .nrm st
  | a :: l, st, k => exec cx a st fun x st' => match x with
    | .nrm => execL cx l st' k
    | x => k x st'
theorem pre_sound_r {r : Option Nat} {cx : Cx} {R : List C → Prop} {F : Nat → Prop} {w0 : World} (hcx : CxOK cx) : ∀ (l : List Code) (st : St) (k : Ex → St → Option Tree) (T : Tree), execL cx l st k = some T →
    ∀ (Γ : Env) (Ls : List (List C → Prop)) (c : Code) (Q : Exit → Act → World → Prop), KOK cx R F w0 k Γ Ls (Exit.then (wpR r cx.P c Q) Q) → Ls.length = st.lvl → VC cx R T Γ.ρ Ls → ∀ a w, Sat cx.P F w0 Γ st a w → wpR r cx.P (pre l c) Q a w
  | [], st, k, T, h, Γ, Ls, c, Q, hk, hl, hv, a, w, hs => hk .nrm st T Γ Ls h (Ext.refl _) (List.prefix_refl _) hl hv a w hs
  | b :: l, st, k, T, h, Γ, Ls, c, Q, hk, hl, hv, a, w, hs => by
    refine wpIn_seq (exec_sound (R := R) (F := F) (w0 := w0) hcx b st _ T h Γ Ls _ ?_ hl hv a w hs)
    intro x st' T' Γ' Ls' hk' he hl' hlen hv' a' w' hs'
    cases x with
    | nrm => exact pre_sound_r hcx l st' k T' hk' Γ' Ls' c Q (hk.mono he hl') hlen hv' a' w' hs'
    | ret => exact hk .ret st' T' Γ' Ls' hk' he hl' hlen hv' a' w' hs'
    | ext i => exact hk (.ext i) st' T' Γ' Ls' hk' he hl' hlen hv' a' w' hs'
theorem join_KOK {cx : Cx} {R : List C → Prop} {F : Nat → Prop} {w0 : World} {st st1 : St} {ps : List Pl} {ks : List Lk} {k : Ex → St → Option Tree} (hok : joinOk st st1 ps ks = true)
    {Γ : Env} {Ls : List (List C → Prop)} (hl : Ls.length = st.lvl) {I : List C → Prop} {a : Act} {w : World} (hs : Sat cx.P F w0 Γ st a w) {Q : Exit → Act → World → Prop}
    (hn : ∀ xs Γx a' w', CTy cx.P ks xs → I xs → Γx.ρ = Γ.ρ ++ xs → Ext Γ Γx → Sat cx.P F w0 Γx st1 a' w' → Q .normal a' w')
    (hk : ∀ x st' T' Γ' Ls', x ≠ .nrm → k x st' = some T' → Ext Γ Γ' → Ls'.length = st'.lvl → VC cx R T' Γ'.ρ Ls' → ∀ a w, Sat cx.P F w0 Γ' st' a w → Q x.out a w) : KOK cx R F w0 (joinK st st1 ps ks k) Γ (Ls ++ [I]) Q := by
  obtain ⟨c2, c4, c5, c6, c7, c8⟩ := joinOk_spec hok
  have hlen : Γ.ρ.length = st.nx := hs.len
  have hnum1 : Num st1.bds Γ.ρ := by rw [c7]; exact hs.num
  intro e st' T' Γ' Ls' hk' he' hl' hlen' hv' a' w' hs'
  cases e with
  | ext i => exact hk (.ext i) st' T' Γ' Ls' (by intro h; cases h) hk' he' hlen' hv' a' w' hs'
  | ret => exact hk .ret st' T' Γ' Ls' (by intro h; cases h) hk' he' hlen' hv' a' w' hs'
  | nrm =>
    simp only [joinK, joinEnd] at hk'
    split at hk'
    · rename_i hc
      simp only [Bool.and_eq_true] at hc
      obtain ⟨⟨d1, d2⟩, d3⟩ := hc
      split at hk'
      · rename_i vals hvals
        split at hk'
        · rename_i hks'
          cases hk'
          obtain ⟨hob', hback⟩ := VC.obT hv'
          obtain ⟨l, hl2⟩ := he'.ρ
          obtain ⟨hty', hsat'⟩ := hs'.rebase (st1 := st1) (ρ0 := Γ.ρ) ⟨l, hl2⟩ (by rw [hlen]; exact d1) (by rw [hlen]; exact hvals) hks' hob' (by rw [hlen]; exact c2) (Nat.eq_of_beq_eq_true d3) (Nat.le_of_ble_eq_true d2) (by rw [hlen]; exact c4) hnum1
          have hget : Ls'[st.lvl]? = some I := by
            obtain ⟨m, rfl⟩ := hl'
            rw [List.append_assoc, List.getElem?_append_right (by omega), hl]
            simp
          simp only [VC, hget] at hback
          exact hn _ { Γ' with ρ := Γ.ρ ++ cs_ Γ'.ρ vals, nb := st1.nb } a' w' hty' hback rfl ⟨⟨_, rfl⟩, fun b hb => he'.blk b hb, by rw [hs.nb]; exact c5, he'.base, he'.up⟩ hsat'
        · cases hk'; exact hv'.elim
      · cases hk'; exact hv'.elim
    · cases hk'; exact hv'.elim
/-- A code's first parts by the executor, that end in a known state. -/
theorem pre_seg_r {r : Option Nat} {cx : Cx} {R : List C → Prop} {F : Nat → Prop} {w0 : World} (hcx : CxOK cx) {l : List Code} {c : Code} {st st1 : St} {ps : List Pl} {ks : List Lk} {k : Ex → St → Option Tree} {T : Tree} (hT : execL cx l { st with lvl := st.lvl + 1 } (joinK st st1 ps ks k) = some T) (hok : joinOk st st1 ps ks = true)
    {Γ : Env} {Ls : List (List C → Prop)} (hl : Ls.length = st.lvl) {I : List C → Prop} (hv : VC cx R T Γ.ρ (Ls ++ [I])) {a : Act} {w : World} (hs : Sat cx.P F w0 Γ st a w) {Q : Exit → Act → World → Prop}
    (hn : ∀ xs Γx a' w', CTy cx.P ks xs → I xs → Γx.ρ = Γ.ρ ++ xs → Ext Γ Γx → Sat cx.P F w0 Γx st1 a' w' → wpR r cx.P c Q a' w')
    (hk : ∀ x st' T' Γ' Ls', x ≠ .nrm → k x st' = some T' → Ext Γ Γ' → Ls'.length = st'.lvl → VC cx R T' Γ'.ρ Ls' → ∀ a w, Sat cx.P F w0 Γ' st' a w → Q x.out a w) : wpR r cx.P (pre l c) Q a w := by
  refine pre_sound_r (R := R) (F := F) (w0 := w0) hcx l _ _ T hT Γ (Ls ++ [I]) c Q (join_KOK hok hl hs (fun xs Γx a' w' h1 h2 h3 h4 h5 => hn xs Γx a' w' h1 h2 h3 h4 h5) fun x st' T' Γ' Ls' hx hk' he hlen hv' a' w' hs' => ?_) (by simp [hl]) hv a w (hs.relvl _)
  have := hk x st' T' Γ' Ls' hx hk' he hlen hv' a' w' hs'
  cases x with
  | nrm => exact absurd rfl hx
  | ret => exact this
  | ext i => exact this
theorem pre_seg {cx : Cx} {R : List C → Prop} {F : Nat → Prop} {w0 : World} (hcx : CxOK cx) {l : List Code} {c : Code} {st st1 : St} {ps : List Pl} {ks : List Lk} {k : Ex → St → Option Tree} {T : Tree} (hT : execL cx l { st with lvl := st.lvl + 1 } (joinK st st1 ps ks k) = some T) (hok : joinOk st st1 ps ks = true)
    {Γ : Env} {Ls : List (List C → Prop)} (hl : Ls.length = st.lvl) {I : List C → Prop} (hv : VC cx R T Γ.ρ (Ls ++ [I])) {a : Act} {w : World} (hs : Sat cx.P F w0 Γ st a w) {Q : Exit → Act → World → Prop}
    (hn : ∀ xs Γx a' w', CTy cx.P ks xs → I xs → Γx.ρ = Γ.ρ ++ xs → Ext Γ Γx → Sat cx.P F w0 Γx st1 a' w' → c.wp cx.P Q a' w')
    (hk : ∀ x st' T' Γ' Ls', x ≠ .nrm → k x st' = some T' → Ext Γ Γ' → Ls'.length = st'.lvl → VC cx R T' Γ'.ρ Ls' → ∀ a w, Sat cx.P F w0 Γ' st' a w → Q x.out a w) : (pre l c).wp cx.P Q a w :=
  wpR_none.1 (pre_seg_r hcx hT hok hl hv hs (fun xs Γx a' w' h1 h2 h3 h4 h5 => wpR_none.2 (hn xs Γx a' w' h1 h2 h3 h4 h5)) hk)
/-- A call, by hand. -/
theorem op_call {P : Program} {o : Oper} {a : Act} {w : World} {f : FuncId} {args : Array Value} {K : Act → World → Prop} {Q : Exit → Act → World → Prop} (h : (execOp a.eval o).run P w = .ok (.enter f args) w) (hk : Calls P f args w fun e w' => ∃ v, e = .returned v ∧ K (a.put o.dst v) w') : o.wp P a w K Q := by
  unfold Oper.wp
  rw [h]
  refine Calls.mono hk fun e w' he => ?_
  obtain ⟨v, rfl, h⟩ := he
  exact h
theorem list_call {P : Program} {ops : Array Oper} {Q : Exit → Act → World → Prop} {o : Oper} {rest : List Oper} {a : Act} {w : World} {f : FuncId} {args : Array Value} (hg : o.guard = none) (h : (execOp a.eval o).run P w = .ok (.enter f args) w) (hk : Calls P f args w fun e w' => ∃ v, e = .returned v ∧ wpList P ops Q rest (a.put o.dst v) w') : wpList P ops Q (o :: rest) a w := by
  unfold wpList
  rw [if_pos (by simp [Region.wanted, hg])]
  exact .inl (op_call h hk)
/-- What an iterator has not handed out yet. -/
def left : Prs → List Int → Nat
  | [], _ => 0
  | g :: G, seen => (if g.1 ∈ seen then 0 else 1) + left G seen
end Go.Proofs.Ytmdmgpikbebejaa
/- A loop over a map, by hand. -/
namespace Go.Proofs.Ytmdmgpikbebejaa
open Go.RowKit
set_option linter.unusedSimpArgs false
set_option linter.unusedVariables false

end Go.Proofs.Ytmdmgpikbebejaa
/- A range over a function: what an iterator promises; the statement, by states of the engine. -/
namespace Go.Proofs.Ytmdmgpikbebejaa
open Go.RowKit
set_option linter.unusedSimpArgs false
set_option linter.unusedVariables false

def C.val : C → Value
  | .i n => .int .i64 n
  | .b t => .bool t
  | .s v _ => v
/-- An iterator: what it has caught; what it hands out, one after another. -/
structure It where
  args : List Sh0
  els : List C → List (List C)
  val : List C → Array Value
  pre : List C → Prop
def ItOK (P : Program) (f : FuncId) (it : It) : Prop :=
  ∀ (Base : Nat → Nat → Prop) (vs : List Value) (cs : List C) (l : Nat) (J : Nat → World → Prop) (Jx : World → Prop) (W : World), it.pre cs →
    (∀ k w, J k w → (∀ b o, Base b o → b < w.heap.size) ∧ Reps P w Base none it.args vs cs) →
    (∀ k w w', J k w → Below w.heap.size w w' → J k w') → (∀ w w', Jx w → Below w.heap.size w w' → Jx w') →
    (∀ k x w w', (it.els cs)[k]? = some x → J k w → Below w.heap.size w w' → YieldAt Fence.wide 0 P l (it.val x) w' fun e w'' => ((e = .returned (.bool true) ∧ J (k + 1) w'') ∧ Keeps (fun i => w.heap.size ≤ i ∧ i < w'.heap.size) w' w'') ∨ (e = .returned (.bool false) ∧ Jx w'')) →
    J 0 W → CallsIn Fence.wide 0 P f (#[.func (.yield l) #[] #[]] ++ vs.toArray) W fun e w' => (∃ v, e = .returned v) ∧ (J (it.els cs).length w' ∨ Jx w')

/-! Worlds -/
section
variable {P : Program} {F F' : Nat → Prop} {w0 w1 : World} {Γ : Env} {st : St} {a : Act} {w : World}
/-- The loop's record turns. -/
theorem Sat.record (h : Sat P F w0 Γ st a w) {l : Nat} {o : Obj} (hl : F l) (hb : ∀ x, Γ.base l x) : Sat P F (w.putObj l o) Γ st a (w.putObj l o) := by
  have hf : ∀ i, F i → i < w.heap.size := fun i hi => Nat.lt_of_lt_of_le (h.fold i hi) h.keeps.size
  exact h.hand (F' := F) (base' := Γ.base) (by simp) (fun i hi hn => World.putObj_heap_other fun e => hn (by subst e; exact ⟨hl, hb⟩)) (fun b o hb => .inl hb) (fun b o hb => by simp; exact h.base b o hb) fun i hi => ⟨by simp; exact hf i hi, .inl hi⟩
/-- Other things are watched over: a world that was like this one there. -/
theorem Sat.since (h : Sat P F w0 Γ st a w) (hk : Keeps F w1 w) (hf : ∀ i, F i → i < w1.heap.size) : Sat P F w1 Γ st a w := by
  have := h.back (F := F) (base' := Γ.base) (fun _ h => h) hk hf fun _ _ h => h
  exact this
/-- The state says of another frame what it says of this one. -/
theorem Sat.reAct {Γ1 Γx : Env} {F1 : Nat → Prop} {w2 w3 : World} {st1 : St} {a3 : Act} (h : Sat P F w0 Γ st a3 w) (hx : Sat P F1 w2 Γx st1 a w3) (hsl : st.sl = st1.sl) (hnt : st.nt = st1.nt) (e3 : Ext Γ1 Γ) (ex : Ext Γ1 Γx) (hwf : ∀ t sv, look st1.sl t = some sv → sv.wf Γ1.ρ.length Γ1.nb = true) : Sat P F w0 Γ st a w := by
  refine ⟨fun t sv ht => ⟨?_, (h.slots t sv ht).2⟩, hx.size.trans hnt.symm, h.mem, h.vec, h.clo, h.inj, h.keeps, h.fold, h.base, hx.defers.trans (by rw [ex.up, e3.up]), h.len, h.nb, h.num⟩
  rw [hsl] at ht
  have h1 := (hx.slots t sv ht).1
  rw [SV.den_ext e3 sv (hwf t sv ht), ← SV.den_ext ex sv (hwf t sv ht), ← h1]
  unfold slotV
  rw [e3.up, ex.up]
end
theorem Keeps.less {F : Nat → Prop} {l : Nat} {w w' : World} (h : Keeps F w w') : Keeps (fun i => F i ∧ i ≠ l) w w' := ⟨h.os, h.tape, h.output, h.size, fun i hi => h.block i hi.1⟩
/-- How a round's body is left. -/
def rangeQ (N : Act → World → Prop) (X : Act → World → Prop) : Exit → Act → World → Prop
  | .normal, a, w => N a w
  | .ret, a, w => X a w
  | _, _, _ => False
def mark (D : Nat) : Deferred := { target := .collected D, args := #[] }
/-- Since a frame was entered only a loop over a function has been done with: its mark. -/
structure MarkAt (F : Nat → Prop) (w0 : World) (Γ : Env) (F1 : Nat → Prop) (w1 : World) (Γ1 : Env) (D : Nat) : Prop where
  sub : ∀ i, F i → F1 i
  fd : F1 D
  bd : ∀ x, Γ1.base D x
  base : ∀ b o, Γ.base b o → Γ1.base b o
  heap : w1.heap[D]? = some (.deferred (some []))
  keeps : Keeps F w0 w1
  new : w0.heap.size ≤ D
  up : Γ1.up = ⟨Γ.up.sl, [mark D]⟩
  ρ : ∃ l, Γ1.ρ = Γ.ρ ++ l
  blk : ∀ b, b < Γ.nb → Γ1.blk b = Γ.blk b
  nb : Γ.nb ≤ Γ1.nb
theorem MarkAt.weaken {F F' : Nat → Prop} {w0 w0' : World} {Γ Γ' : Env} {F1 : Nat → Prop} {w1 : World} {Γ1 : Env} {D : Nat} (h : MarkAt F' w0' Γ' F1 w1 Γ1 D) (hF : ∀ i, F i → F' i) (hk : Keeps F w0 w0') (hb : ∀ b o, Γ.base b o → Γ'.base b o)
    (hu : Γ'.up.sl = Γ.up.sl) (hρ : ∃ l, Γ'.ρ = Γ.ρ ++ l) (hblk : ∀ b, b < Γ.nb → Γ'.blk b = Γ.blk b) (hnb : Γ.nb ≤ Γ'.nb) : MarkAt F w0 Γ F1 w1 Γ1 D := by
  obtain ⟨l, e⟩ := hρ
  obtain ⟨m, f⟩ := h.ρ
  exact ⟨fun i hi => h.sub i (hF i hi), h.fd, h.bd, fun b o hx => h.base b o (hb b o hx), h.heap, hk.trans ⟨h.keeps.os, h.keeps.tape, h.keeps.output, h.keeps.size, fun i hi => h.keeps.block i (hF i hi)⟩, Nat.le_trans hk.size h.new, by rw [h.up, hu], ⟨l ++ m, by rw [f, e, List.append_assoc]⟩, fun b hb => (h.blk b (by omega)).trans (hblk b hb), Nat.le_trans hnb h.nb⟩
theorem Sat.act {P : Program} {F : Nat → Prop} {w0 : World} {Γ : Env} {st : St} {a : Act} {w : World} (h : Sat P F w0 Γ st a w) {u : Up} (hu : u.sl = Γ.up.sl) {a' : Act} (ht : a'.tmps = a.tmps) (hd : a'.defers = u.ds) : Sat P F w0 { Γ with up := u } st a' w := by
  have := h.frame (u := u) (sl := st.sl) (nt := st.nt) (a' := a') (by rw [ht]; exact h.size) hd fun t sv hs => ⟨by
    rw [← (h.slots t sv hs).1]
    unfold slotV
    rw [ht, hu], (h.slots t sv hs).2⟩
  exact this
/-- The frame is left: the mark's block is shut. -/
theorem MarkAt.shut {P : Program} {F : Nat → Prop} {w0 : World} {Γ : Env} {F1 : Nat → Prop} {w1 : World} {Γ1 Γ' : Env} {D : Nat} (h : MarkAt F w0 Γ F1 w1 Γ1 D) (he : Ext Γ1 Γ') (hF : ∀ i, F i → i < w0.heap.size) (hds : Γ.up.ds = []) {st : St} {a : Act} {w : World} (hs : Sat P F1 w1 Γ' st a w) :
    a.defers = [mark D] ∧ w.heap[D]? = some (.deferred (some [])) ∧ Ext Γ { Γ' with base := Γ.base, up := Γ.up } ∧ Sat P F w0 { Γ' with base := Γ.base, up := Γ.up } st { a with defers := [] } (w.putObj D (.deferred none)) := by
  have hD : w.heap[D]? = some (.deferred (some [])) := (hs.keeps.block D h.fd).trans h.heap
  have s1 := hs.record (l := D) (o := .deferred none) h.fd fun x => by rw [he.base]; exact h.bd x
  have hk : Keeps F w0 (w.putObj D (.deferred none)) := by
    refine h.keeps.trans ⟨hs.keeps.os, hs.keeps.tape, hs.keeps.output, by have := hs.keeps.size; simp; exact this, fun i hi => ?_⟩
    have hne : i ≠ D := by
      have h1 := hF i hi
      have h2 := h.new
      omega
    exact (World.putObj_heap_other hne).trans (hs.keeps.block i (h.sub i hi))
  have s2 := s1.back (F := F) (w0 := w0) (base' := Γ.base) h.sub hk hF fun b o hb => by rw [he.base]; exact h.base b o hb
  have s3 := s2.act (u := Γ.up) (a' := { a with defers := [] }) (by show Γ.up.sl = Γ'.up.sl; rw [he.up, h.up]) rfl hds.symm
  obtain ⟨l, e⟩ := h.ρ
  obtain ⟨m, f⟩ := he.ρ
  refine ⟨by rw [hs.defers, he.up, h.up], hD, ⟨⟨l ++ m, by show Γ'.ρ = _; rw [f, e, List.append_assoc]⟩, fun b hb => (he.blk b (Nat.lt_of_lt_of_le hb h.nb)).trans (h.blk b hb), Nat.le_trans h.nb he.nb, rfl, rfl⟩, s3⟩
theorem range_law {P : Program} {F : Nat → Prop} {w0 : World} {Γ : Env} {st : St} {a : Act} {w : World} (hs : Sat P F w0 Γ st a w) {gf : FuncId} {it : It} (hit : ItOK P gf it) (hcl : Callable P gf) {g : Operand} {ps : Array Tmp} {assign body : Code} {vs : List Value} {cs : List C}
    (hg : a.eval g = .func (.func gf) #[] vs.toArray) (hpre : it.pre cs) (hps : ∀ x ∈ it.els cs, (it.val x).size = ps.size) {st1 : St} (E : (Nat → Nat → Prop) → Nat → Env → Prop) (E2 : (Nat → Nat → Prop) → Nat → Env → St → Prop) (EX : (Nat → Nat → Prop) → Env → St → Prop)
    (hE : ∀ B k Γx, E B k Γx → Ext { Γ with base := B } Γx) (hwf : ∀ t sv, look st1.sl t = some sv → sv.wf Γ.ρ.length Γ.nb = true)
    (hE2 : ∀ B k Γx st2, E2 B k Γx st2 → Ext { Γ with base := B } Γx) (hX : ∀ B Γx st3, EX B Γx st3 → Ext { Γ with base := B } Γx) (hXs : ∀ B Γx st3, EX B Γx st3 → st3.sl = st1.sl ∧ st3.nt = st1.nt) (hds : Γ.up.ds = [])
    (hrep : ∀ B k Γx F' w1 W, E B k Γx → Sat P F' w1 Γx st1 a W → (∀ i, F i → F' i) → (∀ b o, Γ.base b o → B b o) → Keeps F w W → Reps P W B none it.args vs cs)
    (h0 : ∀ B F' w1, Sat P F' w1 { Γ with base := B } st a w1 → ∃ Γx, E B 0 Γx ∧ Sat P F' w1 Γx st1 a w1)
    (hassign : ∀ l B k x Γx F' w1 W, (it.els cs)[k]? = some x → E B k Γx → Sat P F' w1 Γx st1 a W →
      wpR (some l) P assign (Exit.then (fun a2 w2 => ∃ Γ2 st2, E2 B k Γ2 st2 ∧ Sat P F' w1 Γ2 st2 a2 w2) (fun _ _ _ => False)) { tmps := (ps.zip (it.val x)).foldl (fun t (p, v) => t.setIfInBounds p v) a.tmps, defers := [] } W)
    (hbody : ∀ l B k x Γ2 st2 F' w1 a2 w2, (it.els cs)[k]? = some x → E2 B k Γ2 st2 → Sat P F' w1 Γ2 st2 a2 w2 →
      wpR (some l) P body (rangeQ (fun a3 w3 => ∃ Γ3, E B (k + 1) Γ3 ∧ Sat P F' w1 Γ3 st1 a3 w3) (fun a3 w3 => ∃ Γ3 st3, EX B Γ3 st3 ∧ Sat P F' w1 Γ3 st3 a3 w3)) a2 w2)
    {Q : Exit → Act → World → Prop}
    (hdone : ∀ B F1 w1 D Γx W, E B (it.els cs).length Γx → MarkAt F w0 Γ F1 w1 { Γx with up := ⟨Γ.up.sl, [mark D]⟩ } D → Sat P F1 w1 { Γx with up := ⟨Γ.up.sl, [mark D]⟩ } st1 { a with defers := [mark D] } W → Q .normal { a with defers := [mark D] } W)
    (hret : ∀ B F1 w1 D Γ3 st3 W, EX B Γ3 st3 → MarkAt F w0 Γ F1 w1 { Γ3 with up := ⟨Γ.up.sl, [mark D]⟩ } D → Sat P F1 w1 { Γ3 with up := ⟨Γ.up.sl, [mark D]⟩ } st3 { a with defers := [mark D] } W → Q .ret { a with defers := [mark D] } W) :
    wpR none P (.rangeFunc g ps assign body) Q a w := by
  refine wpIn_rangeFunc ?_
  intro fn _
  obtain ⟨rec, hrec⟩ : ∃ rec : LoopState → Option Code → Loop, rec = fun s pe => { state := s, pending := pe, fn, tmps := a.tmps, params := ps, assign, body, defers := w.heap.size } := ⟨_, rfl⟩
  obtain ⟨W1, hW1⟩ : ∃ W1, (w.alloc (.deferred (some []))).alloc (.loop (rec .ready none)) = W1 := ⟨_, rfl⟩
  have hL1 : W1.heap[w.heap.size + 1]? = some (.loop (rec .ready none)) := by
    rw [← hW1]; have := World.alloc_heap_new (w.alloc (.deferred (some []))) (.loop (rec .ready none)); rwa [World.size_alloc] at this
  have hK1 : W1.heap[w.heap.size]? = some (.deferred (some [])) := by
    rw [← hW1]; exact (Below.heap_alloc _ _ _ (by simp)).trans (World.alloc_heap_new w _)
  have hsz1 : W1.heap.size = w.heap.size + 2 := by rw [← hW1]; simp
  have hbel1 : Below w.heap.size w W1 := by rw [← hW1]; exact ((Below.refl _ w).alloc (Nat.le_refl _) _).alloc (by simp) _
  obtain ⟨l, hl⟩ : ∃ l, l = w.heap.size + 1 := ⟨_, rfl⟩
  obtain ⟨D, hD⟩ : ∃ D, D = w.heap.size := ⟨_, rfl⟩
  obtain ⟨F1, hF1⟩ : ∃ F1 : Nat → Prop, F1 = fun i => F i ∨ i = D ∨ i = l := ⟨_, rfl⟩
  obtain ⟨B, hB⟩ : ∃ B : Nat → Nat → Prop, B = fun b o => Γ.base b o ∨ b = D ∨ b = l := ⟨_, rfl⟩
  have hFl : F1 l := by rw [hF1]; exact .inr (.inr rfl)
  have hBl : ∀ x, B l x := fun x => by rw [hB]; exact .inr (.inr rfl)
  have hFs : ∀ i, F i → i < w.heap.size := fun i hi => Nat.lt_of_lt_of_le (hs.fold i hi) hs.keeps.size
  have hF1s : ∀ i, F1 i → i < W1.heap.size := fun i hi => by
    rw [hF1] at hi; rw [hsz1]
    rcases hi with hi | hi | hi
    · have := hFs i hi; omega
    · omega
    · omega
  have hs1 : Sat P F1 W1 { Γ with base := B } st a W1 := by
    refine hs.hand (F' := F1) (base' := B) hbel1.size (fun i hi _ => hbel1.block i hi) (fun b o hb => ?_) (fun b o hb => ?_) fun i hi => ⟨hF1s i hi, ?_⟩
    · rw [hB] at hb; rcases hb with hb | hb | hb
      · exact .inl hb
      · exact .inr (by omega)
      · exact .inr (by omega)
    · rw [hB] at hb; rw [hsz1]; rcases hb with hb | hb | hb
      · have := hs.base b o hb; omega
      · omega
      · omega
    · rw [hF1] at hi; rcases hi with hi | hi | hi
      · exact .inl hi
      · exact .inr (.inl (by omega))
      · exact .inr (.inl (by omega))
  have hEb : ∀ k Γx, E B k Γx → ∀ x, Γx.base l x := fun k Γx h x => by rw [(hE B k Γx h).base]; exact hBl x
  have hXb : ∀ Γx st3, EX B Γx st3 → ∀ x, Γx.base l x := fun Γx st3 h x => by rw [(hX B Γx st3 h).base]; exact hBl x
  -- what stands between two rounds
  obtain ⟨J, hJ⟩ : ∃ J : Nat → World → Prop, J = fun k W => ∃ Γx, E B k Γx ∧ Sat P F1 W1 Γx st1 a W := ⟨_, rfl⟩
  obtain ⟨Jx, hJx⟩ : ∃ Jx : World → Prop, Jx = fun W => (∃ Γ3 st3, EX B Γ3 st3 ∧ Sat P F1 W Γ3 st3 a W) ∧ Keeps (fun i => F1 i ∧ i ≠ l) W1 W ∧ W.heap[l]? = some (.loop (rec .done (some .ret))) := ⟨_, rfl⟩
  have hkl : ∀ {W : World}, Keeps F1 W1 W → W.heap[l]? = some (.loop (rec .ready none)) := fun h => by rw [h.block l hFl, hl]; exact hL1
  have hmid : ∀ {W2 W3 : World} {o : Obj}, Keeps F1 W1 W2 → Keeps F1 (W2.putObj l o) W3 → Keeps (fun i => F1 i ∧ i ≠ l) W1 W3 := fun {W2 W3 o} h2 h3 =>
    ⟨h3.os.trans h2.os, h3.tape.trans h2.tape, h3.output.trans h2.output, by have := h3.size; have := h2.size; simp at *; omega, fun i hi => (h3.block i hi.1).trans ((World.putObj_heap_other hi.2).trans (h2.block i hi.1))⟩
  have hput : ∀ {W3 : World} {o : Obj}, Keeps (fun i => F1 i ∧ i ≠ l) W1 W3 → Keeps (fun i => F1 i ∧ i ≠ l) W1 (W3.putObj l o) := fun h =>
    ⟨h.os, h.tape, h.output, by have := h.size; simp; exact this, fun i hi => (World.putObj_heap_other hi.2).trans (h.block i hi)⟩
  refine ⟨w.heap.size + 1, [mark w.heap.size], W1, { target := .fn (.func gf) vs.toArray, args := #[.func (.yield (w.heap.size + 1)) #[] #[]] }, W1, gf,
    #[.func (.yield (w.heap.size + 1)) #[] #[]] ++ vs.toArray, W1, ?_, ?_, (fun f' _ => trivial), ?_, (fun h => by cases h), ?_⟩
  · rw [← hW1, hrec]; exact run_enterLoop_outer _ _ _ _ _
  · simp only [resolve, hg]
    simp [go_sem]
  · simp [invoke, go_sem, run_callFunc' hcl]
  rw [← hl, ← hD]
  obtain ⟨Γ0, hE0, hS0⟩ := h0 B F1 W1 hs1
  refine CallsIn.mono (hit B vs cs l J Jx W1 hpre (fun k W hj => ?_) (fun k W W' hj hb => ?_) (fun W W' hj hb => ?_) (fun k x W W' hx hj hbw => ?_) ?_) ?_
  · rw [hJ] at hj
    obtain ⟨Γx, hEx, hSx⟩ := hj
    refine ⟨fun b o hb => hSx.base b o (by rw [(hE B k Γx hEx).base]; exact hb), hrep B k Γx F1 W1 W hEx hSx (fun i hi => by rw [hF1]; exact .inl hi) (fun b o hb => by rw [hB]; exact .inl hb) ?_⟩
    exact (Keeps.of_below hbel1 hFs).trans ⟨hSx.keeps.os, hSx.keeps.tape, hSx.keeps.output, hSx.keeps.size, fun i hi => hSx.keeps.block i (by rw [hF1]; exact .inl hi)⟩
  · rw [hJ] at hj ⊢
    obtain ⟨Γx, hEx, hSx⟩ := hj
    exact ⟨Γx, hEx, hSx.below hb⟩
  · rw [hJx] at hj ⊢
    obtain ⟨⟨Γ3, st3, h1, h2⟩, h3, h4⟩ := hj
    have hlt : l < W.heap.size := (Array.getElem?_eq_some_iff.1 h4).1
    refine ⟨⟨Γ3, st3, h1, (h2.below hb).since (Keeps.refl _ _) fun i hi => Nat.lt_of_lt_of_le (h2.fold i hi) hb.size⟩, ⟨hb.os.trans h3.os, hb.tape.trans h3.tape, hb.output.trans h3.output, Nat.le_trans h3.size hb.size, fun i hi => (hb.block i (h2.fold i hi.1)).trans (h3.block i hi)⟩, (hb.block l hlt).trans h4⟩
  · -- one round
    rw [hJ] at hj
    obtain ⟨Γx, hEx, hSx⟩ := hj
    have hlk0 := hkl hSx.keeps
    have hlt : l < W.heap.size := (Array.getElem?_eq_some_iff.1 hlk0).1
    have hlk : W'.heap[l]? = some (.loop (rec .ready none)) := (hbw.block l hlt).trans hlk0
    obtain ⟨F2, hF2⟩ : ∃ F2 : Nat → Prop, F2 = fun i => F1 i ∨ (W.heap.size ≤ i ∧ i < W'.heap.size) := ⟨_, rfl⟩
    have hF12 : ∀ i, F1 i → F2 i := fun i hi => by rw [hF2]; exact .inl hi
    have hFW : ∀ i, F1 i → i < W.heap.size := fun i hi => Nat.lt_of_lt_of_le (hF1s i hi) hSx.keeps.size
    have hKb : Keeps F1 W1 W' := hSx.keeps.trans (Keeps.of_below hbw hFW)
    have hSx2 : Sat P F2 W' { Γx with base := Γx.base } st1 a W' := hSx.hand (F' := F2) (base' := Γx.base) hbw.size (fun i hi _ => hbw.block i hi) (fun b o hb => .inl hb) (fun b o hb => by have := hSx.base b o hb; have := hbw.size; omega) fun i hi => by
      rw [hF2] at hi
      rcases hi with hi | ⟨h1, h2⟩
      · exact ⟨Nat.lt_of_lt_of_le (hFW i hi) hbw.size, .inl hi⟩
      · exact ⟨h2, .inr (.inl h1)⟩
    have hS00 : Sat P F2 W' Γx st1 a W' := hSx2
    have hy := run_yield (P := P) (args := it.val x) hlk (by rw [hrec]; exact hps x (List.mem_of_getElem? hx))
    rw [hrec] at hy
    refine ⟨fn, _, assign, body, hy, roundIn_of_wpIn trivial ?_⟩
    refine wpIn_mono (hassign l B k x Γx F2 W' W' hx hEx hS00) ?_
    intro e a2 W2 hq
    cases e with
    | normal =>
      obtain ⟨Γ2, st2, hE2', hS2⟩ := hq
      have hK2 : Keeps F1 W1 W2 := hKb.trans (hS2.keeps.part hF12)
      have hG2 : Keeps (fun i => W.heap.size ≤ i ∧ i < W'.heap.size) W' W2 := hS2.keeps.part fun i hi => by rw [hF2]; exact .inr hi
      have hl2 := hkl hK2
      refine ⟨_, run_beginRound hl2 (by rw [hrec]), ?_⟩
      have hS2' := hS2.record (o := .loop { rec .ready none with state := .busy }) (hF12 l hFl) fun x => by rw [(hE2 B k Γ2 st2 hE2').base]; exact hBl x
      refine wpIn_mono (hbody l B k x Γ2 st2 F2 _ a2 _ hx hE2' hS2') ?_
      have fin : ∀ {Γ3 : Env} {st3 : St} {a3 : Act} {W3 : World} (jump : Option Code), Sat P F2 (W2.putObj l (.loop { rec .ready none with state := .busy })) Γ3 st3 a3 W3 → (∀ x, Γ3.base l x) →
          (Instr.endRound l jump).run P W3 = .ok (.bool jump.isNone) (W3.putObj l (.loop (rec (if jump.isNone then .ready else .done) jump))) ∧
          (W3.putObj l (.loop (rec (if jump.isNone then .ready else .done) jump))).heap[l]? = some (.loop (rec (if jump.isNone then .ready else .done) jump)) ∧
          Keeps (fun i => F1 i ∧ i ≠ l) W1 (W3.putObj l (.loop (rec (if jump.isNone then .ready else .done) jump))) ∧
          Sat P F2 (W3.putObj l (.loop (rec (if jump.isNone then .ready else .done) jump))) Γ3 st3 a3 (W3.putObj l (.loop (rec (if jump.isNone then .ready else .done) jump))) ∧
          Keeps (fun i => W.heap.size ≤ i ∧ i < W'.heap.size) W' (W3.putObj l (.loop (rec (if jump.isNone then .ready else .done) jump))) := fun {Γ3 st3 a3 W3} jump h3 hb => by
        have hl3 : W3.heap[l]? = some (.loop { rec .ready none with state := .busy }) := (h3.keeps.block l (hF12 l hFl)).trans (World.putObj_heap_same (Array.getElem?_eq_some_iff.1 hl2).1)
        have := run_endRound (P := P) jump hl3
        have hk3 := h3.keeps
        refine ⟨?_, World.putObj_heap_same (Array.getElem?_eq_some_iff.1 hl3).1, hput (hmid hK2 (hk3.part hF12)), h3.record (hF12 l hFl) hb, ?_⟩
        · rw [hrec] at this ⊢; exact this
        · refine ⟨hk3.os.trans hG2.os, hk3.tape.trans hG2.tape, hk3.output.trans hG2.output, by have := hk3.size; have := hG2.size; simp at *; omega, fun i hi => ?_⟩
          have hil : i ≠ l := by have := hi.1; omega
          rw [World.putObj_heap_other hil]
          refine (hk3.block i (by rw [hF2]; exact .inr hi)).trans ?_
          rw [World.putObj_heap_other hil]
          exact hG2.block i hi
      rintro e a3 W3 hq
      cases e with
      | normal =>
        obtain ⟨Γ3, hE3, hS3⟩ := hq
        obtain ⟨r1, r2, r3, r4, r5⟩ := fin none hS3 (hEb _ _ hE3)
        refine ⟨_, _, r1, .inl ⟨⟨rfl, ?_⟩, r5⟩⟩
        rw [hJ]
        have hb4 := r4.back (F := F1) (w0 := W1) (base' := Γ3.base) hF12 ⟨r3.os, r3.tape, r3.output, r3.size, fun i hi => by
          by_cases e : i = l
          · subst e; rw [r2, hl]; exact hL1.symm
          · exact r3.block i ⟨hi, e⟩⟩ hF1s fun _ _ h => h
        exact ⟨Γ3, hE3, hb4.reAct hSx rfl rfl (hE _ _ _ hE3) (hE _ _ _ hEx) hwf⟩
      | ret =>
        obtain ⟨Γ3, st3, hX3, hS3⟩ := hq
        obtain ⟨r1, r2, r3, r4, r5⟩ := fin (some .ret) hS3 (hXb _ _ hX3)
        refine ⟨_, _, r1, .inr ⟨rfl, ?_⟩⟩
        rw [hJx]
        have hb4 := r4.back (F := F1) (w0 := W3.putObj l (.loop (rec (if (some Code.ret).isNone then .ready else .done) (some .ret)))) (base' := Γ3.base) hF12 (Keeps.refl _ _) (fun i hi => r4.fold i (hF12 i hi)) fun _ _ h => h
        exact ⟨⟨Γ3, st3, hX3, hb4.reAct hSx (hXs _ _ _ hX3).1 (hXs _ _ _ hX3).2 (hX _ _ _ hX3) (hE _ _ _ hEx) hwf⟩, r3, r2⟩
      | exit id => exact hq.elim
      | goto t => exact hq.elim
      | panic c => exact hq.elim
      | outgrown => exact hq.elim
    | exit id => exact hq.elim
    | goto t => exact hq.elim
    | ret => exact hq.elim
    | panic c => exact hq.elim
    | outgrown => exact hq.elim
  · rw [hJ]; exact ⟨Γ0, hE0, hS0⟩
  · have hFD : F1 D := by rw [hF1]; exact .inr (.inl rfl)
    have hDl : D ≠ l := by omega
    have last : ∀ {Γ3 : Env} {st3 : St} {W4 : World}, Ext { Γ with base := B } Γ3 → Keeps (fun i => F1 i ∧ i ≠ l) W1 W4 → Sat P F1 W4 Γ3 st3 a W4 → MarkAt F w0 Γ F1 W4 { Γ3 with up := ⟨Γ.up.sl, [mark D]⟩ } D ∧ Sat P F1 W4 { Γ3 with up := ⟨Γ.up.sl, [mark D]⟩ } st3 { a with defers := [mark D] } W4 := fun {Γ3 st3 W4} he hk hS => by
      have hkw : Keeps F w0 W4 := hs.keeps.trans ((Keeps.of_below hbel1 hFs).trans ⟨hk.os, hk.tape, hk.output, hk.size, fun i hi => hk.block i ⟨by rw [hF1]; exact .inl hi, by have := hFs i hi; omega⟩⟩)
      exact ⟨⟨fun i hi => by rw [hF1]; exact .inl hi, hFD, fun x => by show Γ3.base D x; rw [he.base, hB]; exact .inr (.inl rfl), fun b o hb => by show Γ3.base b o; rw [he.base, hB]; exact .inl hb, (hk.block D ⟨hFD, hDl⟩).trans (by rw [hD]; exact hK1), hkw, by have := hs.keeps.size; omega, rfl, he.ρ, he.blk, he.nb⟩, hS.act (by rw [he.up]) rfl rfl⟩
    rintro e W2 ⟨⟨v, rfl⟩, hj | hj⟩
    · rw [hJ] at hj
      obtain ⟨Γx, hEx, hSx⟩ := hj
      have hlk := hkl hSx.keeps
      refine ⟨none, _, by have := run_endLoop (P := P) hlk (by rw [hrec]; simp); rw [hrec] at this; exact this, ?_⟩
      have hS := hSx.record (o := .loop { rec .ready none with state := .exhausted }) hFl (hEb _ _ hEx)
      have hk := hput (o := .loop { rec .ready none with state := .exhausted }) (Keeps.less hSx.keeps)
      obtain ⟨m1, m2⟩ := last (hE _ _ _ hEx) hk hS
      have := hdone B F1 _ D Γx _ hEx m1 m2
      rw [hrec] at this
      show Q .normal { a with defers := [mark D] ++ a.defers } _
      rw [hs.defers, hds]; exact this
    · rw [hJx] at hj
      obtain ⟨⟨Γ3, st3, hX3, hS3⟩, hk3, hlk⟩ := hj
      refine ⟨some .ret, _, by have := run_endLoop (P := P) hlk (by rw [hrec]; simp); rw [hrec] at this; exact this, ?_⟩
      have hS := hS3.record (o := .loop { rec .done (some .ret) with state := .exhausted }) hFl (hXb _ _ hX3)
      have hk := hput (o := .loop { rec .done (some .ret) with state := .exhausted }) hk3
      obtain ⟨m1, m2⟩ := last (hX _ _ _ hX3) hk hS
      have := hret B F1 _ D Γ3 st3 _ hX3 m1 m2
      rw [hrec] at this
      refine wpIn_ret ?_
      show Q .ret { a with defers := [mark D] ++ a.defers } _
      rw [hs.defers, hds]; exact this
end Go.Proofs.Ytmdmgpikbebejaa
/- A range over a function: contracts of the functions that hold one; a round's body by the executor. -/
namespace Go.Proofs.Ytmdmgpikbebejaa
open Go.RowKit
set_option linter.unusedSimpArgs false
set_option linter.unusedVariables false

def endQ (cx : Cx) (fn : Func) (ct : Ct) : Ex → St → Option Tree := fun x st => match x with
  | .ext _ => none
  | _ => endOf cx fn ct st
theorem ct_ok_marks {cx : Cx} (hcx : CxOK cx) {f : FuncId} {fn : Func} (hf : cx.P.funcs[f]? = some fn) {ct : Ct} {bds : Bds} {c : Code} (hbody : fn.body = some c) (hle' : ct.args.length ≤ fn.ntmps ∧ ct.args.length ≤ 1000 ∧ boxOk ct = true)
    (hvc : ∀ cs, CTy cx.P (kindsOf ct.args) cs → ct.pre cs → bds.ok cs ∧ ∀ (F : Nat → Prop) (w0 : World) (Γ : Env) (a : Act) (w : World) (Q : Exit → Act → World → Prop), Γ.ρ = cs → Γ.up.ds = [] → Sat cx.P F w0 Γ (startOf fn ct bds cx.wr) a w →
      KOK cx (ct.post cs) F w0 (endQ cx fn ct) Γ [] Q → (∀ F1 w1 Γ1 D, MarkAt F w0 Γ F1 w1 Γ1 D → KOK cx (ct.post cs) F1 w1 (endQ cx fn ct) Γ1 [] Q) → c.wp cx.P Q a w) : CtOK cx.P f ct := by
  intro Base w vs cs hBase hreps hpre
  obtain ⟨hb, hmain⟩ := hvc cs hreps.ty hpre
  obtain ⟨Γ, hρ, hds, hs, fin⟩ := ct_start hcx hf (fn := fn) hle' hBase hreps hb
  refine callsIn_wide.1 (callsIn_of_wp_marks (F := Fence.wide) (n := 0) hf hbody trivial (wpIn_wide.2 (hmain _ _ Γ _ w _ hρ hds hs ?_ ?_)) rfl)
  · intro x st' T' Γ' Ls' hk he hl hlen hv' a' w' hs'
    have one : endOf cx fn ct st' = some T' → _ := fun hend => fin st' T' Γ' Ls' a' w' he hv' hs' hend
    cases x with
    | nrm => obtain ⟨h1, h2⟩ := one hk; show LeavesInM _ _ _ _ _ _ a'.defers .returning w'; rw [h1]; exact h2
    | ret => obtain ⟨h1, h2⟩ := one hk; show LeavesInM _ _ _ _ _ _ a'.defers .returning w'; rw [h1]; exact h2
    | ext i => cases hk
  · intro F1 w1 Γ1 D hm x st' T' Γ' Ls' hk he hl hlen hv' a' w' hs'
    obtain ⟨h1, h2, h3, h4⟩ := hm.shut he hs.fold hds hs'
    have one : endOf cx fn ct st' = some T' → _ := fun hend => (fin st' T' _ Ls' _ _ h3 hv' h4 hend).2
    cases x with
    | nrm => have h6 := one hk; show LeavesInM _ _ _ _ _ _ a'.defers .returning w'; rw [h1]; exact ⟨by simp, .inl ⟨D, _, rfl, run_takeDeferred h2, h6⟩⟩
    | ret => have h6 := one hk; show LeavesInM _ _ _ _ _ _ a'.defers .returning w'; rw [h1]; exact ⟨by simp, .inl ⟨D, _, rfl, run_takeDeferred h2, h6⟩⟩
    | ext i => cases hk

/-! A round's body -/
def rangeBody : Code → Code
  | .rangeFunc _ _ _ c => c
  | c => c

def backT (st1 : St) (n : Nat) (ps : List Pl) (ks : List Lk) (L : Nat) (st' : St) : Option Tree :=
  if sameRest st1 st' n ps && Nat.ble st1.nb st'.nb && Nat.beq st1.nt st'.nt then match backPs st1 st' n ps with
    | some vals => if kindsL vals = some ks then some (obT (rngL st'.bds vals) (.back L vals)) else some (.fail 62004 [])
    | none => some (.fail 62005 [])
  else some (.fail 62003 (diffs st1 st' n ps))
def headR (st1 : St) (n : Nat) (ps : List Pl) (ks : List Lk) : Bool := headWf st1 n ps && Nat.beq st1.nx (n + ks.length) && decide (st1.bds = [])
theorem back_sound {cx : Cx} {R : List C → Prop} {F : Nat → Prop} {w0 : World} {st1 : St} {n : Nat} {ps : List Pl} {ks : List Lk} (hok : headR st1 n ps ks = true) {L : Nat} {st' : St} {T' : Tree} (h : backT st1 n ps ks L st' = some T') {Γ0 Γ' : Env} {Ls' : List (List C → Prop)} (hn : Γ0.ρ.length = n) (hnb : Γ0.nb ≤ st1.nb) (he : Ext Γ0 Γ')
    (hv : VC cx R T' Γ'.ρ Ls') {I : List C → Prop} (hI : Ls'[L]? = some I) {a : Act} {w : World} (hs : Sat cx.P F w0 Γ' st' a w) :
    ∃ xs Γ3, CTy cx.P ks xs ∧ I xs ∧ Γ3.ρ = Γ0.ρ ++ xs ∧ Ext Γ0 Γ3 ∧ Sat cx.P F w0 Γ3 st1 a w := by
  simp only [headR, Bool.and_eq_true, decide_eq_true_eq] at hok
  obtain ⟨⟨c1, c2⟩, c3⟩ := hok
  have c2 := Nat.eq_of_beq_eq_true c2
  unfold backT at h
  split at h
  rotate_left
  · cases h; exact hv.elim
  rename_i hc
  simp only [Bool.and_eq_true] at hc
  obtain ⟨⟨d1, d2⟩, d3⟩ := hc
  split at h
  rotate_left
  · cases h; exact hv.elim
  rename_i vals hvals
  split at h
  rotate_left
  · cases h; exact hv.elim
  rename_i hks
  cases h
  obtain ⟨hob, hback⟩ := VC.obT hv
  subst hn
  obtain ⟨hty, hsat⟩ := hs.less (st1 := st1) he.ρ rfl d1 hvals hks hob c1 (Nat.eq_of_beq_eq_true d3) (Nat.le_of_ble_eq_true d2) c2 c3
  simp only [VC, hI] at hback
  exact ⟨_, { Γ' with ρ := Γ0.ρ ++ cs_ Γ'.ρ vals, nb := st1.nb }, hty, hback, rfl, ⟨⟨_, rfl⟩, fun b hb => he.blk b hb, hnb, he.base, he.up⟩, hsat⟩
theorem eval_fn (a : Act) (f : FuncId) : a.eval (.func f) = .func (.func f) #[] #[] := rfl
end Go.Proofs.Ytmdmgpikbebejaa
/- A range over an iterator that a function of the program has made, by the executor. -/
namespace Go.Proofs.Ytmdmgpikbebejaa
open Go.RowKit
set_option linter.unusedSimpArgs false
set_option linter.unusedVariables false

/-- What is known before an iterator is made, and how a round begins. -/
structure RgS where
  st0 : St
  d1 : Nat
  d2 : Nat
  lfs : List Lf
  ds : List Nat
  pl : List Pl
  p0 : Nat
  p1 : Nat
  el : List Lk
  sv0 : Nat → SV
  sv1 : Nat → SV
def RgS.sa (r : RgS) : St := { r.st0 with sl := (r.d2, none) :: (r.d1, some (.one (.agg r.lfs))) :: r.st0.sl }
def RgS.s1 (r : RgS) : St := { St.havoc (r.sa.forget r.ds) r.pl with lvl := 0 }
def RgS.ks (r : RgS) : List Lk := r.pl.flatMap fun p => match r.sa.cellsAt p with
  | some cs => cs.2.filterMap Lf.kind
  | none => []
def RgS.s2 (r : RgS) : St := { r.s1 with sl := (r.p1, some (r.sv1 r.s1.nx)) :: (r.p0, some (r.sv0 r.s1.nx)) :: r.s1.sl, nx := r.s1.nx + r.el.length, lvl := 1 }
def sameSl (st1 st' : St) : Bool := st1.sl.all fun p => match look st1.sl p.1 with
  | none => true
  | some sv => match look st'.sl p.1 with
    | some sv' => sameS sv sv'
    | none => false
theorem sameSl_look {st1 st' : St} (h : sameSl st1 st' = true) {t : Nat} {sv : SV} (ht : look st1.sl t = some sv) : look st'.sl t = some sv := by
  obtain ⟨p, hp, rfl⟩ := look_mem ht
  have := List.all_eq_true.1 h p hp
  simp only [ht] at this
  split at this
  · rename_i sv' he; rw [he, sameS_eq this]
  · cases this
def rangeAssign : Code → Code
  | .rangeFunc _ _ c _ => c
  | c => c
/-- How a round ends: at the head again, or with the function's end. -/
def rgEnd (k : Ex → St → Option Tree) (r : RgS) : Ex → St → Option Tree
  | .nrm, st' => backT r.s1 r.sa.nx r.pl r.ks 0 st'
  | .ret, st' => if sameSl r.s1 st' && Nat.beq r.s1.nt st'.nt then k .ret { st' with sl := r.s1.sl } else some (.fail 62009 [])
  | .ext _, _ => none
def rgAs (cx : Cx) (rb : Code) (kk : Ex → St → Option Tree) : Ex → St → Option Tree
  | .nrm, st => exec cx rb st kk
  | _, _ => none
def rgRound (cx : Cx) (k : Ex → St → Option Tree) (r : RgS) (assign rb : Code) : Option Tree := exec cx assign r.s2 (rgAs cx rb (rgEnd k r))
def rgTail (cx : Cx) (k : Ex → St → Option Tree) (r : RgS) (tail : Code) : Option Tree := exec cx tail r.s1 k
/-- All that can be looked up. -/
def rgOk (r : RgS) (bks : List Lk) (init : List Lf) : Bool :=
  headR r.s1 r.sa.nx r.pl r.ks && sameRest r.s1 (r.sa.forget r.ds) r.sa.nx r.pl && (match backPs r.s1 (r.sa.forget r.ds) r.sa.nx r.pl with | some l => sameLs l init | none => false) && decide (kindsL init = some r.ks) && (rngL r.st0.bds init).isEmpty && decide (r.st0.bds = []) &&
  Nat.beq r.s1.nt r.st0.nt && Nat.beq r.s1.nb r.st0.nb && r.s1.sl.all (fun p => wfS r.st0.nx r.st0.nb p.2) && r.s1.wf && r.lfs.all (Lf.wf r.st0.nx r.st0.nb) && decide (kindsL r.lfs = some bks) && bks.all Lk.noVec && (rngL r.st0.bds r.lfs).isEmpty &&
  (match look r.s1.sl r.d1 with | some (.one (.agg l)) => sameLs l r.lfs | _ => false) && Nat.blt r.d1 r.st0.nt && Nat.blt r.d1 1000 && Nat.blt r.d2 r.st0.nt && Nat.blt r.d2 1000 && Nat.blt r.p0 r.st0.nt && Nat.blt r.p0 1000 && Nat.blt r.p1 r.st0.nt && Nat.blt r.p1 1000 && !Nat.beq r.d1 r.d2
structure RgOk (r : RgS) (bks : List Lk) (init : List Lf) : Prop where
  head : headR r.s1 r.sa.nx r.pl r.ks = true
  same : sameRest r.s1 (r.sa.forget r.ds) r.sa.nx r.pl = true
  back : backPs r.s1 (r.sa.forget r.ds) r.sa.nx r.pl = some init
  kinds : kindsL init = some r.ks
  rng : rngL r.st0.bds init = []
  bds : r.st0.bds = []
  nt : r.s1.nt = r.st0.nt
  nb : r.s1.nb = r.st0.nb
  sl : r.s1.sl.all (fun p => wfS r.st0.nx r.st0.nb p.2) = true
  wf1 : r.s1.wf = true
  lwf : r.lfs.all (Lf.wf r.st0.nx r.st0.nb) = true
  lk : kindsL r.lfs = some bks
  nv : bks.all Lk.noVec = true
  lrng : rngL r.st0.bds r.lfs = []
  arg : look r.s1.sl r.d1 = some (.one (.agg r.lfs))
  d1 : r.d1 < r.st0.nt ∧ r.d1 < 1000
  d2 : r.d2 < r.st0.nt ∧ r.d2 < 1000
  p0 : r.p0 < r.st0.nt ∧ r.p0 < 1000
  p1 : r.p1 < r.st0.nt ∧ r.p1 < 1000
  ne : r.d1 ≠ r.d2
theorem rgOk_spec {r : RgS} {bks : List Lk} {init : List Lf} (h : rgOk r bks init = true) : RgOk r bks init := by
  simp only [rgOk, Bool.and_eq_true, decide_eq_true_eq, List.isEmpty_iff, Bool.not_eq_true'] at h
  obtain ⟨⟨⟨⟨⟨⟨⟨⟨⟨⟨⟨⟨⟨⟨⟨⟨⟨⟨⟨⟨⟨⟨⟨h1, h2⟩, h3⟩, h4⟩, h5⟩, h6⟩, h7⟩, h8⟩, h9⟩, h10⟩, h11⟩, h12⟩, h13⟩, h14⟩, h15⟩, h16⟩, h17⟩, h18⟩, h19⟩, h20⟩, h21⟩, h22⟩, h23⟩, h24⟩ := h
  have lt : ∀ {a b : Nat}, Nat.blt a b = true → a < b := fun h => Nat.le_of_ble_eq_true h
  refine ⟨h1, h2, ?_, h4, h5, h6, Nat.eq_of_beq_eq_true h7, Nat.eq_of_beq_eq_true h8, h9, h10, h11, h12, h13, h14, ?_, ⟨lt h16, lt h17⟩, ⟨lt h18, lt h19⟩, ⟨lt h20, lt h21⟩, ⟨lt h22, lt h23⟩, fun e => by rw [e] at h24; simp at h24⟩
  · split at h3
    · rename_i l he; rw [he, sameLs_eq h3]
    · cases h3
  · split at h15
    · rename_i l he; rw [he, sameLs_eq h15]
    · cases h15
theorem Lf.c_ext {ρ m : List C} {nb : Nat} {l : Lf} (h : l.wf ρ.length nb = true) (hk : l.kind.isSome = true) : l.c (ρ ++ m) = l.c ρ := by
  cases l with
  | int e => simp only [Lf.c]; rw [E.den_ext e h]
  | bool b => simp only [Lf.c]; rw [B.den_ext b h]
  | arr t a => simp only [Lf.c]; rw [E.ev_ext a h]
  | cnt t a => simp only [Lf.c]; rw [E.ev_ext a h]
  | vec t i => simp only [Lf.c]; exact at_ext (Nat.le_of_ble_eq_true h)
  | _ => cases hk
theorem kindsL_some : ∀ {ls : List Lf} {ks : List Lk}, kindsL ls = some ks → ∀ l ∈ ls, l.kind.isSome = true
  | [], _, _, l, hl => by cases hl
  | l :: ls, ks, h, x, hx => by
    simp only [kindsL] at h
    split at h
    · rename_i k ks' h1 h2
      rcases List.mem_cons.1 hx with rfl | hx
      · rw [h1]; rfl
      · exact kindsL_some h2 x hx
    · cases h
theorem cs_ext {ρ m : List C} {nb : Nat} {ls : List Lf} {ks : List Lk} (hk : kindsL ls = some ks) (h : ls.all (Lf.wf ρ.length nb) = true) : cs_ (ρ ++ m) ls = cs_ ρ ls := by
  unfold cs_
  exact List.map_congr_left fun l hl => Lf.c_ext (List.all_eq_true.1 h l hl) (kindsL_some hk l hl)
def opN : Code → Nat → Oper
  | .region _ ops _, i => ops.getD i default
  | _, _ => default
theorem call_op {P : Program} {o : Oper} {mk : FuncId} {d : Nat} {ts : Array TypeId} (h : o.op = .call { callee := .value (.func mk), args := #[.tmp d], argTypes := ts }) (hc : Callable P mk) (a : Act) (v : Value) (w : World) (hv : a.eval (.tmp d) = v) : (execOp a.eval o).run P w = .ok (.enter mk #[v]) w := by
  simp [execOp, h, resolve, invoke, eval_fn, hv]
  exact run_callFunc' hc _ _
set_option maxHeartbeats 1000000 in
theorem range_fn {cx : Cx} {R : List C → Prop} {F : Nat → Prop} {w0 : World} {Γ Γx : Env} {Q : Exit → Act → World → Prop} (hcx : CxOK cx) {k : Ex → St → Option Tree} (r : RgS) {rid bid : Nat} {o1 o2 : Oper} {assign rb tail : Code} {mk gf : FuncId} {it : It} {bt : TypeId} {bks : List Lk} {init : List Lf} {Tr Te : Tree}
    (h1 : opVal cx.P r.st0 o1 = some ([], .one (.agg r.lfs))) (h1g : o1.guard = none) (h1d : o1.dst = some r.d1)
    (h2 : ∀ (a : Act) v w, a.eval (.tmp r.d1) = v → (execOp a.eval o2).run cx.P w = .ok (.enter mk #[v]) w) (h2g : o2.guard = none) (h2d : o2.dst = some r.d2)
    (hok : rgOk r bks init = true) (hargs : it.args = [.box bt bks])
    (hmk : ∀ O us cs w, LReps cx.P w O bks us cs → Calls cx.P mk #[.agg us.toArray] w fun e w' => e = .returned (.func (.func gf) #[] #[.pointer (some ⟨w.heap.size, 0, none⟩)]) ∧ w' = w.alloc (.cells us.toArray bt))
    (hit : ItOK cx.P gf it) (hcl : Callable cx.P gf) {cs : List C} (hcs : cs = cs_ Γx.ρ r.lfs) (hpre : it.pre cs)
    (hel : ∀ x ∈ it.els cs, x.length = r.el.length ∧ (∀ c ∈ x, ∀ n, c.small n) ∧ ∀ (Γ' : Env) (n : Nat), (∀ j c, x[j]? = some c → at_ Γ'.ρ (n + j) = c) → it.val x = #[(r.sv0 n).den Γ', (r.sv1 n).den Γ'] ∧ ∀ P w O, (r.sv0 n).ok P w O Γ' ∧ (r.sv1 n).ok P w O Γ')
    (hTr : rgRound cx k r assign rb = some Tr) (hTe : rgTail cx k r tail = some Te)
    {a : Act} {w : World} (hs : Sat cx.P F w0 Γx r.st0 a w) (hx : Ext Γ Γx) (hds : Γ.up.ds = [])
    (hk : ∀ F1 w1 Γ1 D, MarkAt F w0 Γ F1 w1 Γ1 D → KOK cx R F1 w1 k Γ1 [] Q)
    (I : Nat → List C → Prop) (hI : I 0 (cs_ Γx.ρ init))
    (hround : ∀ n xs x, (it.els cs)[n]? = some x → CTy cx.P r.ks xs → I n xs → VC cx R Tr (Γx.ρ ++ xs ++ x) [I (n + 1)])
    (hend : ∀ xs, CTy cx.P r.ks xs → I (it.els cs).length xs → VC cx R Te (Γx.ρ ++ xs) []) :
    (Code.seq (.seq (.region rid #[o1, o2] false) (.block bid (.rangeFunc (.tmp r.d2) #[r.p0, r.p1] assign rb))) tail).wp cx.P Q a w := by
  have ok := rgOk_spec hok
  have hdx : Γx.up.ds = [] := by rw [hx.up]; exact hds
  obtain ⟨e1, e1k⟩ := opVal_ok h1 (hs.view _) fun b hb => by cases hb
  obtain ⟨us, hus⟩ : ∃ us, us = r.lfs.map (Lf.den Γx) := ⟨_, rfl⟩
  have hv : (SV.one (.agg r.lfs)).den Γx = .agg us.toArray := by rw [hus]; rfl
  rw [hv] at e1
  have hlok : ∀ l ∈ r.lfs, l.ok cx.P w (Own Γx r.st0) Γx := fun l hl => e1k l (by simpa [S0.cells] using hl)
  have hrep := Ls_rep hs.num ok.lk (kindsL_noVec ok.lk ok.nv hlok) (by rw [ok.lrng]; intro b hb; cases hb)
  rw [← hus] at hrep
  have hz : a.tmps.size = r.st0.nt := hs.size
  refine wp_seq (wp_seq (wp_region_list (list_val h1g e1 ?_)))
  rw [h1d]
  refine list_call h2g (h2 _ _ _ (eval_same (by rw [hz]; exact ok.d1.1))) ?_
  refine Calls.mono (hmk _ us _ w hrep) ?_
  rintro e w2 ⟨rfl, rfl⟩
  refine ⟨_, rfl, ?_⟩
  rw [h2d]
  show Code.wp _ _ _ _ _
  generalize hfv : Value.func (.func gf) #[] #[.pointer (some ⟨w.heap.size, 0, none⟩)] = fv
  have hp1 : r.st0.put (some r.d1) (some (.one (.agg r.lfs))) = some { r.st0 with sl := (r.d1, some (.one (.agg r.lfs))) :: r.st0.sl } := by unfold St.put; exact if_pos ok.d1
  have hs1 := hs.put hp1 e1k
  rw [hv] at hs1
  have hp2 : ({ r.st0 with sl := (r.d1, some (.one (.agg r.lfs))) :: r.st0.sl } : St).put (some r.d2) none = some r.sa := by unfold St.put; exact if_pos ok.d2
  have hs2 := hs1.drop hp2 fv
  have hev : ((a.put (some r.d1) (.agg us.toArray)).put (some r.d2) fv).eval (.tmp r.d2) = fv := eval_same (by rw [put_size, hz]; exact ok.d2.1)
  generalize (a.put (some r.d1) (.agg us.toArray)).put (some r.d2) fv = a2 at *
  obtain ⟨w2, hw2⟩ : ∃ w2, w.alloc (.cells us.toArray bt) = w2 := ⟨_, rfl⟩
  rw [hw2]
  have hb2 : Blk w2 w.heap.size bt us.toArray := by rw [← hw2]; exact Blk.new w _ _
  have hbel : Below w.heap.size w w2 := by rw [← hw2]; exact below_alloc w _
  have hsz2 : w2.heap.size = w.heap.size + 1 := by rw [← hw2]; simp
  have hFs : ∀ i, F i → i < w.heap.size := fun i hi => Nat.lt_of_lt_of_le (hs.fold i hi) hs.keeps.size
  have hs3 : Sat cx.P (fun i => F i ∨ i = w.heap.size) w2 { Γx with base := fun b o => Γx.base b o ∨ b = w.heap.size } r.sa a2 w2 := by
    refine hs2.hand hbel.size (fun i hi _ => hbel.block i hi) (fun b o hb => hb.imp id fun e => by omega) (fun b o hb => ?_) fun i hi => ⟨?_, ?_⟩
    · rcases hb with hb | hb
      · have := hs.base b o hb; omega
      · omega
    · rcases hi with hi | hi
      · have := hFs i hi; omega
      · omega
    · rcases hi with hi | hi
      · exact .inl hi
      · exact .inr (.inl (by omega))
  have hs4 := hs3.forget r.ds
  have hnx : Γx.ρ.length = r.st0.nx := hs.len
  have hnbx : Γx.nb = r.st0.nb := hs.nb
  have hlen : ∀ {Γk : Env} {xs : List C}, Γk.ρ = Γx.ρ ++ xs → cs_ Γk.ρ r.lfs = cs := fun {Γk xs} e => by rw [e, hcs]; exact cs_ext ok.lk (by rw [hnx]; exact ok.lwf)
  refine wp_block (wpR_none.1 (range_law (it := it) (st1 := r.s1) (cs := cs) (vs := [.pointer (some ⟨w.heap.size, 0, none⟩)]) hs4 hit hcl (by rw [hev, ← hfv]) hpre (fun x hxm => ?_)
    (fun B n Γk => ∃ xs, CTy cx.P r.ks xs ∧ I n xs ∧ Γk.ρ = Γx.ρ ++ xs ∧ Ext { Γx with base := B } Γk)
    (fun B n Γk st2 => Ext { Γx with base := B } Γk ∧ ∃ T Ls, exec cx rb st2 (rgEnd k r) = some T ∧ Ls.length = st2.lvl ∧ [I (n + 1)] <+: Ls ∧ VC cx R T Γk.ρ Ls)
    (fun B Γk st3 => Ext { Γx with base := B } Γk ∧ st3.sl = r.s1.sl ∧ st3.nt = r.s1.nt ∧ ∃ T Ls, k .ret st3 = some T ∧ Ls.length = st3.lvl ∧ VC cx R T Γk.ρ Ls)
    (fun B n Γk h => ?_) (fun t sv ht => ?_) (fun B n Γk st2 h => h.1) (fun B Γk st3 h => h.1) (fun B Γk st3 h => ⟨h.2.1, h.2.2.1⟩) hdx ?_ ?_ ?_ ?_ ?_ ?_))
  · rw [((hel x hxm).2.2 { Γx with ρ := x } 0 (fun j c hj => by simp [at_, List.getD_eq_getElem?_getD, hj])).1]; rfl
  · obtain ⟨xs, -, -, -, h⟩ := h; exact h
  · show sv.wf Γx.ρ.length Γx.nb = true
    rw [hnx, hnbx]
    exact look_wf (f := fun _ v => wfS r.st0.nx r.st0.nb v) ok.sl ht
  · rintro B n Γk F' w1 W ⟨xs, hty, -, hρk, hek⟩ hS hFF hBB hK
    have hq := (hS.slots r.d1 _ ok.arg).2
    have hlok2 : ∀ l ∈ r.lfs, l.ok cx.P W (Own Γk r.s1) Γk := fun l hl => hq l (by simpa [S0.cells] using hl)
    have hbd1 : rngL r.s1.bds r.lfs = [] := by
      have h3 := ok.head
      simp only [headR, Bool.and_eq_true, decide_eq_true_eq] at h3
      rw [h3.2]
      have h4 := ok.lrng
      rw [ok.bds] at h4
      exact h4
    have hrep2 := Ls_rep hS.num ok.lk (kindsL_noVec ok.lk ok.nv hlok2) (by rw [hbd1]; intro b hb; cases hb)
    have hden : r.lfs.map (Lf.den Γk) = us := by
      rw [hus]
      exact List.map_congr_left fun l hl => Lf.den_ext hek l (by show l.wf Γx.ρ.length Γx.nb = true; rw [hnx, hnbx]; exact List.all_eq_true.1 ok.lwf l hl)
    rw [hden, hlen hρk] at hrep2
    rw [hargs]
    refine ⟨cs, [], (List.append_nil _).symm, ⟨w.heap.size, us, rfl, (hK.block _ (.inr rfl)).trans hb2, fun o => hBB _ _ (.inr rfl), hrep2.weaken fun x o hxo => ?_⟩, rfl⟩
    rcases hxo with hxo | hxo
    · exact .inl (by rw [hek.base]; exact hxo)
    · cases hxo; exact .inl (by rw [hek.base]; exact hBB _ _ (.inr rfl))
  · intro B F' w1 h
    have h3 := ok.head
    simp only [headR, Bool.and_eq_true, decide_eq_true_eq] at h3
    obtain ⟨hty, hS⟩ := h.rebase (st1 := r.s1) (ρ0 := Γx.ρ) ⟨[], by simp⟩ (by rw [hnx]; exact ok.same) (by rw [hnx]; exact ok.back) ok.kinds (by
      show Obs _ (rngL r.st0.bds init)
      rw [ok.rng]; intro b hb; cases hb) (by rw [hnx]; exact h3.1.1) ok.nt (Nat.le_of_eq ok.nb) (by rw [hnx]; exact Nat.eq_of_beq_eq_true h3.1.2) (by rw [h3.2]; exact ⟨bds_nil _, hs.num.len⟩)
    exact ⟨{ Γx with base := B, ρ := Γx.ρ ++ cs_ Γx.ρ init, nb := r.s1.nb }, ⟨cs_ Γx.ρ init, hty, hI, rfl, ⟨⟨_, rfl⟩, fun b hb => rfl, by show Γx.nb ≤ r.s1.nb; rw [hnbx, ok.nb]; exact Nat.le_refl _, rfl, rfl⟩⟩, hS⟩
  · rintro l B n x Γk F' w1 W hxn ⟨xs, hty, hIn, hρk, hek⟩ hS
    obtain ⟨g1, g2, g3⟩ := hel x (List.mem_of_getElem? hxn)
    have hgrow := hS.grow ok.wf1 (rs := x) (hS.num.len.app g2)
    obtain ⟨q1, q2⟩ := g3 { Γk with ρ := Γk.ρ ++ x } r.s1.nx fun j c hj => by rw [← hS.len]; exact at_app hj
    have hp3 : ({ r.s1 with nx := r.s1.nx + x.length } : St).put (some r.p0) (some (r.sv0 r.s1.nx)) = some { r.s1 with nx := r.s1.nx + x.length, sl := (r.p0, some (r.sv0 r.s1.nx)) :: r.s1.sl } := by unfold St.put; exact if_pos ⟨by rw [show ({ r.s1 with nx := r.s1.nx + x.length } : St).nt = r.st0.nt from ok.nt]; exact ok.p0.1, ok.p0.2⟩
    have hg1 := hgrow.put hp3 (q2 _ _ _).1
    have hp4 : ({ r.s1 with nx := r.s1.nx + x.length, sl := (r.p0, some (r.sv0 r.s1.nx)) :: r.s1.sl } : St).put (some r.p1) (some (r.sv1 r.s1.nx)) = some { r.s1 with nx := r.s1.nx + x.length, sl := (r.p1, some (r.sv1 r.s1.nx)) :: (r.p0, some (r.sv0 r.s1.nx)) :: r.s1.sl } := by unfold St.put; exact if_pos ⟨by rw [show ({ r.s1 with nx := r.s1.nx + x.length, sl := (r.p0, some (r.sv0 r.s1.nx)) :: r.s1.sl } : St).nt = r.st0.nt from ok.nt]; exact ok.p1.1, ok.p1.2⟩
    have hg2 := hg1.put hp4 (q2 _ _ _).2
    have hd : a2.defers = [] := by rw [hs2.defers]; exact hdx
    have hact : ({ tmps := (#[r.p0, r.p1].zip (it.val x)).foldl (fun t (p, v) => t.setIfInBounds p v) a2.tmps, defers := [] } : Act) = (a2.put (some r.p0) ((r.sv0 r.s1.nx).den { Γk with ρ := Γk.ρ ++ x })).put (some r.p1) ((r.sv1 r.s1.nx).den { Γk with ρ := Γk.ρ ++ x }) := by
      rw [q1]; simp [Act.put, hd]
    rw [hact]
    have hg3 : Sat cx.P F' w1 { Γk with ρ := Γk.ρ ++ x } r.s2 ((a2.put (some r.p0) ((r.sv0 r.s1.nx).den { Γk with ρ := Γk.ρ ++ x })).put (some r.p1) ((r.sv1 r.s1.nx).den { Γk with ρ := Γk.ρ ++ x })) W := by
      have := hg2.relvl 1
      rw [g1] at this
      exact this
    have hvc := hround n xs x hxn hty hIn
    rw [← hρk] at hvc
    refine exec_sound (R := R) hcx assign _ _ Tr hTr { Γk with ρ := Γk.ρ ++ x } [I (n + 1)] _ ?_ rfl hvc _ W hg3
    intro ex st' T' Γ' Ls' hk' he' hl' hlen' hv' a' w' hs'
    cases ex with
    | nrm =>
      have eA : Ext Γk { Γk with ρ := Γk.ρ ++ x } := ⟨⟨x, rfl⟩, fun _ _ => rfl, Nat.le_refl _, rfl, rfl⟩
      exact ⟨Γ', st', ⟨(hek.trans eA).trans he', T', Ls', hk', hlen', hl', hv'⟩, hs'⟩
    | ret => cases hk'
    | ext i => cases hk'
  · rintro l B n x Γ2 st2 F' w1 a3 W hxn ⟨he2, T, Ls, hT, hl, hpf, hv2⟩ hS
    refine exec_sound (R := R) hcx rb _ _ T hT Γ2 Ls _ ?_ hl hv2 a3 W hS
    intro ex st' T' Γ' Ls' hk' he' hl' hlen' hv' a' w' hs'
    have hpf' := hpf.trans hl'
    cases ex with
    | nrm =>
      obtain ⟨m, hm⟩ := hpf'
      obtain ⟨xs, Γ3, hty, hI3, hρ3, he3, hS3⟩ := back_sound ok.head hk' (Γ0 := { Γx with base := B }) hnx (by show Γx.nb ≤ r.s1.nb; rw [hnbx, ok.nb]; exact Nat.le_refl _) (he2.trans he') hv' (I := I (n + 1)) (by rw [← hm]; rfl) hs'
      exact ⟨Γ3, ⟨xs, hty, hI3, hρ3, he3⟩, hS3⟩
    | ret =>
      simp only [rgEnd] at hk'
      split at hk'
      · rename_i hc
        rw [Bool.and_eq_true] at hc
        exact ⟨Γ', { st' with sl := r.s1.sl }, ⟨he2.trans he', rfl, (Nat.eq_of_beq_eq_true hc.2).symm, T', Ls', hk', hlen', hv'⟩, hs'.slots' (fun t sv ht => hs'.slots t sv (sameSl_look hc.1 ht)) hs'.size hs'.defers hs'.num⟩
      · cases hk'; exact hv'.elim
    | ext i => cases hk'
  · rintro B F1 w1 D Γk W ⟨xs, hty, hIn, hρk, hek⟩ hmk2 hS
    have hmk3 := hmk2.weaken (F := F) (w0 := w0) (Γ := Γ) (fun i hi => .inl hi) (hs.keeps.trans (Keeps.of_below hbel hFs)) (fun b o hb => .inl (by rw [hx.base]; exact hb)) (by show Γx.up.sl = Γ.up.sl; rw [hx.up]) hx.ρ hx.blk hx.nb
    show Code.wp _ _ _ _ _
    have hvc := hend xs hty hIn
    rw [← hρk] at hvc
    exact wpR_none.1 (exec_sound (R := R) hcx tail _ _ Te hTe _ [] _ (hk F1 w1 _ D hmk3) rfl hvc _ W hS)
  · rintro B F1 w1 D Γ3 st3 W ⟨he3, h3s, h3n, T, Ls, hT, hl, hv3⟩ hmk2 hS
    have hmk3 := hmk2.weaken (F := F) (w0 := w0) (Γ := Γ) (fun i hi => .inl hi) (hs.keeps.trans (Keeps.of_below hbel hFs)) (fun b o hb => .inl (by rw [hx.base]; exact hb)) (by show Γx.up.sl = Γ.up.sl; rw [hx.up]) hx.ρ hx.blk hx.nb
    show Q .ret _ W
    exact hk F1 w1 _ D hmk3 .ret st3 T _ Ls hT (Ext.refl _) List.nil_prefix hl hv3 _ W hS
end Go.Proofs.Ytmdmgpikbebejaa
/- Earth: what each function of the program computes: lines, earths. -/
namespace Go.Proofs.Ytmdmgpikbebejaa
set_option linter.unusedVariables false

abbrev Kn := Int × Int
def knots (rows : List (List C)) : List Kn := rows.map fun r => ((r.getD 0 (.i 0)).int, (r.getD 1 (.i 0)).int)
def n_ (cs : List C) (i : Nat) : Int := (at_ cs i).int
def k_ (cs : List C) (i : Nat) : List Kn := knots (at_ cs i).rows
def inV (n a b : Int) : Bool := decide (a ≤ n) && decide (n ≤ b)
/-! Lines -/
def badKs (a v : Int) : Int → List Kn → Int
  | _, [] => 0
  | last, k :: l => if inV k.1 0 a && inV k.2 0 v then (if k.1 ≤ last then 11 else badKs a v k.1 l) else 2
def lineV (ks : List Kn) (a v : Int) : Int := if inV a 0 1099511627776 && inV v 0 68719476736 then (if ks.length = 0 then 6 else if 24 < ks.length then 8 else badKs a v (-1) ks) else 2
def rightB (ks : List Kn) : Bool := lineV ks 1048576 68719476736 == 0 || lineV ks 1099511627776 1048576 == 0
def segP (a b : Kn) (x : Int) : Int × Int × Int := (a.2 + (b.2 - a.2) * (x - a.1) / (b.1 - a.1), (b.2 - a.2) * (x - a.1) % (b.1 - a.1), b.1 - a.1)
def partAt (p : Kn × Kn) (x : Int) : Int × Int × Int := if p.1 = p.2 then (p.1.2, 0, 1) else segP p.1 p.2 x
def findG : Kn → List Kn → Int → Kn × Kn
  | p, [], _ => (p, p)
  | p, k :: l, x => if k.1 < x then findG k l x else if k.1 = x then (k, k) else (p, k)
def findV : List Kn → Int → Kn × Kn
  | [], _ => ((0, 0), (0, 0))
  | k :: l, x => if k.1 < x then findG k l x else (k, k)
def valP (ks : List Kn) (x : Int) : Int × Int × Int := partAt (findV ks x) x
def rangeP (ks : List Kn) (x : Int) : Kn := ((valP ks x).1, (valP ks x).1 + min (valP ks x).2.1 1)
inductive Asc : List Kn → Prop
  | nil : Asc []
  | one (k : Kn) : Asc [k]
  | cons {a b : Kn} {l : List Kn} (h : a.1 < b.1) (ht : Asc (b :: l)) : Asc (a :: b :: l)
def atV (ks : List Kn) (x : Int) : Kn := if rightB ks = true then rangeP ks x else (0, 0)
def lineSh : Sh0 := .agg [.arr 70]
def rangeSh : Sh0 := .agg [.int, .int]
def ofKn (k : Kn) : List C := [.i k.1, .i k.2]
def withinI : Inl := fun bd l => match l with
  | [.lf (.int n), .lf (.int a), .lf (.int b)] => some (rngL bd (cellsOf [] l), .lf (.bool (.and (B.mkCmp bd .le a n) (B.mkCmp bd .le n b))))
  | _ => none
def ctWithin : Ct := ctF [.lf .int, .lf .int, .lf .int] [.lf .bool] (fun _ => True) (fun cs => [.b (inV (n_ cs 0) (n_ cs 1) (n_ cs 2))])
def nanI : Inl := fun bd l => match l with
  | [.lf (.int n)] => some (rngL bd (cellsOf [] l), .lf (.bool (.lit false)))
  | _ => none
def ctNan : Ct := ctF [.lf .int] [.lf .bool] (fun _ => True) (fun cs => [.b false])
def ctLine : Ct := ctF [lineSh, .lf .int, .lf .int] [.lf .int] (fun _ => True) (fun cs => [.i (lineV (k_ cs 0) (n_ cs 1) (n_ cs 2))])
def ctRight : Ct := ctF [.lf (.arr 91)] [.lf .bool] (fun _ => True) (fun cs => [.b ((at_ cs 0).rows.all fun r => rightB (knots (r.getD 0 (.i 0)).rows))])
def ctFloor : Ct := ctF [.lf .int, .lf .int] [.lf .int] (fun cs => 0 < n_ cs 1 ∧ -9223372036854775807 ≤ n_ cs 0) (fun cs => [.i (n_ cs 0 / n_ cs 1)])
def ctFind : Ct := ctF [lineSh, .lf .int] [.agg [.int, .int, .int, .int]] (fun cs => Asc (k_ cs 0) ∧ k_ cs 0 ≠ [] ∧ (k_ cs 0).length ≤ 1000) (fun cs => ofKn (findV (k_ cs 0) (n_ cs 1)).1 ++ ofKn (findV (k_ cs 0) (n_ cs 1)).2)
/-- A part that can be reckoned with. -/
def PartOK (p : Kn × Kn) (x : Int) : Prop := 0 ≤ p.1.2 ∧ p.1.2 ≤ 68719476736 ∧ (p.1 = p.2 ∨ (0 ≤ p.1.1 ∧ p.1.1 < p.2.1 ∧ p.2.1 ≤ 1099511627776 ∧ p.1.1 ≤ x ∧ x ≤ p.2.1 ∧ 0 ≤ p.2.2 ∧ p.2.2 ≤ 68719476736 ∧ -1152921504606846976 ≤ (p.2.2 - p.1.2) * (x - p.1.1) ∧ (p.2.2 - p.1.2) * (x - p.1.1) ≤ 1152921504606846976))
def ctAt4 : Ct := ctF [.agg [.int, .int, .int, .int], .lf .int] [.lf .int, .lf .int, .lf .int] (fun cs => PartOK ((n_ cs 0, n_ cs 1), (n_ cs 2, n_ cs 3)) (n_ cs 4)) (fun cs => [.i (partAt ((n_ cs 0, n_ cs 1), (n_ cs 2, n_ cs 3)) (n_ cs 4)).1, .i (partAt ((n_ cs 0, n_ cs 1), (n_ cs 2, n_ cs 3)) (n_ cs 4)).2.1, .i (partAt ((n_ cs 0, n_ cs 1), (n_ cs 2, n_ cs 3)) (n_ cs 4)).2.2])
def ctValue : Ct := ctF [lineSh, .lf .int] [rangeSh] (fun cs => rightB (k_ cs 0) = true) (fun cs => ofKn (rangeP (k_ cs 0) (n_ cs 1)))
def ctAt : Ct := ctF [lineSh, .lf .int] [rangeSh] (fun _ => True) (fun cs => ofKn (atV (k_ cs 0) (n_ cs 1)))
def tab : Tab where
  ct := fun f => match f with
    | 91 => some ctLine
    | 87 => some ctRight
    | 99 => some ctFloor
    | 92 => some ctFind
    | 93 => some ctAt4
    | 88 => some ctValue
    | 86 => some ctAt
    | _ => none
  inl := fun f => match f with
    | 95 | 71 | 41 => some withinI
    | 100 => some nanI
    | _ => none
end Go.Proofs.Ytmdmgpikbebejaa
/- What is to be shown of each function, as the executor has it. Printed by trees.py. -/
namespace Go.Proofs.Ytmdmgpikbebejaa
noncomputable def cwithin : Cx := tab.only [] (fun _ => []) [] 0 [] (fun _ => none)
def twithin : Tree :=
  (.split (.cmp .le (.var 1) (.var 0)) (.ret [(.bool (.cmp .le (.var 0) (.var 2)))]) (.ret [(.bool (.lit false))]))
noncomputable def cfwithin : Cx := tab.only [] (fun _ => []) [] 0 [] (fun _ => none)
def tfwithin : Tree :=
  (.split (.cmp .le (.var 1) (.var 0)) (.ret [(.bool (.cmp .le (.var 0) (.var 2)))]) (.ret [(.bool (.lit false))]))
noncomputable def ckwithin : Cx := tab.only [] (fun _ => []) [] 0 [] (fun _ => none)
def tkwithin : Tree :=
  (.split (.cmp .le (.var 1) (.var 0)) (.ret [(.bool (.cmp .le (.var 0) (.var 2)))]) (.ret [(.bool (.lit false))]))
noncomputable def cnan : Cx := tab.only [] (fun _ => []) [] 0 [] (fun _ => none)
def tnan : Tree :=
  (.ret [(.bool (.cmp .ne (.var 0) (.var 0)))])
noncomputable def cline : Cx := tab.only [95] (fun _ => []) [] 0 [] (fun _ => none)
def tline : Tree :=
  (.split (.not (.and (.cmp .le (.lit 0) (.var 1)) (.cmp .le (.var 1) (.lit 1099511627776)))) (.ret [(.int (.lit 2))]) (.split (.not (.and (.cmp .le (.lit 0) (.var 2)) (.cmp .le (.var 2) (.lit 68719476736)))) (.ret [(.int (.lit 2))]) (.split (.cmp .eq (.len (.var 0)) (.lit 0)) (.ret [(.int (.lit 6))]) (.split (.cmp .lt (.lit 24) (.len (.var 0))) (.ret [(.int (.lit 8))]) (.loop [.int, .int, .int] [(.int (.lit 0)), (.int (.lit (-1))), (.int (.lit 0))] (.split (.cmp .lt (.var 5) (.len (.var 0))) (.ob (.cmp .le (.lit 0) (.var 5)) (.ob (.cmp .lt (.var 5) (.len (.var 0))) (.split (.not (.and (.cmp .le (.lit 0) (.cell (.var 0) (.var 5) 0)) (.cmp .le (.cell (.var 0) (.var 5) 0) (.var 1)))) (.ret [(.int (.lit 2))]) (.split (.not (.and (.cmp .le (.lit 0) (.cell (.var 0) (.var 5) 1)) (.cmp .le (.cell (.var 0) (.var 5) 1) (.var 2)))) (.ret [(.int (.lit 2))]) (.split (.cmp .le (.cell (.var 0) (.var 5) 0) (.var 4)) (.ret [(.int (.lit 11))]) (.back 0 [(.int (.var 3)), (.int (.cell (.var 0) (.var 5) 0)), (.int (.add (.var 5) (.lit 1)))])))))) (.ret [(.int (.lit 0))])))))))
noncomputable def flright : List (Nat × Func) := [(89, Try.f89), (94, Try.f94), (90, Try.f90)]
theorem fxright : ∀ p ∈ flright, FnOK p := fns_cons ⟨Try.func89, ⟨_, Try.func89, by decide, rfl⟩⟩ (fns_cons ⟨Try.func94, ⟨_, Try.func94, by decide, rfl⟩⟩ (fns_cons ⟨Try.func90, ⟨_, Try.func90, by decide, rfl⟩⟩ (fns_nil)))
noncomputable def cright : Cx := tab.only [91] (fun _ => []) flright 3 [] (fun _ => none)
def tright : Tree :=
  (.loop [.int, .int] [(.int (.lit 0)), (.int (.lit 0))] (.split (.cmp .lt (.var 2) (.len (.var 0))) (.ob (.cmp .le (.lit 0) (.var 2)) (.ob (.cmp .lt (.var 2) (.len (.var 0))) (.call 91 [(.arr 70 (.cell (.var 0) (.var 2) 0)), (.int (.lit 1048576)), (.int (.lit 68719476736))] (.split (.cmp .ne (.var 3) (.lit 0)) (.call 91 [(.arr 70 (.cell (.var 0) (.var 2) 0)), (.int (.lit 1099511627776)), (.int (.lit 1048576))] (.split (.cmp .ne (.var 4) (.lit 0)) (.ret [(.bool (.lit false))]) (.back 0 [(.int (.var 1)), (.int (.add (.var 2) (.lit 1)))]))) (.back 0 [(.int (.var 1)), (.int (.add (.var 2) (.lit 1)))]))))) (.ret [(.bool (.lit true))])))
noncomputable def cfloor : Cx := tab.only [] (fun _ => []) [] 0 [] (fun _ => none)
def tfloor : Tree :=
  (.ob (.cmp .ne (.var 1) (.lit 0)) (.ob (.and (.cmp .le (.lit (-9223372036854775808)) (.quo (.var 0) (.var 1))) (.cmp .le (.quo (.var 0) (.var 1)) (.lit 9223372036854775807))) (.ob (.cmp .ne (.var 1) (.lit 0)) (.split (.cmp .lt (.rem (.var 0) (.var 1)) (.lit 0)) (.ob (.and (.cmp .le (.lit (-9223372036854775808)) (.sub (.quo (.var 0) (.var 1)) (.lit 1))) (.cmp .le (.sub (.quo (.var 0) (.var 1)) (.lit 1)) (.lit 9223372036854775807))) (.ob (.and (.cmp .le (.lit (-9223372036854775808)) (.sub (.quo (.var 0) (.var 1)) (.lit 1))) (.cmp .le (.sub (.quo (.var 0) (.var 1)) (.lit 1)) (.lit 9223372036854775807))) (.ret [(.int (.sub (.quo (.var 0) (.var 1)) (.lit 1)))]))) (.ob (.and (.cmp .le (.lit (-9223372036854775808)) (.quo (.var 0) (.var 1))) (.cmp .le (.quo (.var 0) (.var 1)) (.lit 9223372036854775807))) (.ret [(.int (.quo (.var 0) (.var 1)))]))))))
noncomputable def flfind : List (Nat × Func) := [(96, Try.f96), (97, Try.f97), (98, Try.f98)]
theorem fxfind : ∀ p ∈ flfind, FnOK p := fns_cons ⟨Try.func96, ⟨_, Try.func96, by decide, rfl⟩⟩ (fns_cons ⟨Try.func97, ⟨_, Try.func97, by decide, rfl⟩⟩ (fns_cons ⟨Try.func98, ⟨_, Try.func98, by decide, rfl⟩⟩ (fns_nil)))
noncomputable def cfind : Cx := tab.only [100] (fun _ => []) flfind 3 [] (fun _ => none)
def tfind : Tree :=
  (.loop [.int, .int] [(.int (.lit 0)), (.int (.len (.var 0)))] (.split (.cmp .lt (.var 2) (.var 3)) (.ob (.and (.cmp .le (.lit (-9223372036854775808)) (.add (.var 2) (.var 3))) (.cmp .le (.add (.var 2) (.var 3)) (.lit 9223372036854775807))) (.ob (.cmp .le (.lit 0) (.add (.var 2) (.var 3))) (.ob (.cmp .le (.add (.var 2) (.var 3)) (.lit 9223372036854775807)) (.ob (.cmp .le (.lit 0) (.add (.var 2) (.var 3))) (.ob (.cmp .le (.lit 0) (.quo (.add (.var 2) (.var 3)) (.lit 2))) (.ob (.cmp .le (.quo (.add (.var 2) (.var 3)) (.lit 2)) (.lit 9223372036854775807)) (.ob (.cmp .le (.lit 0) (.quo (.add (.var 2) (.var 3)) (.lit 2))) (.ob (.cmp .lt (.quo (.add (.var 2) (.var 3)) (.lit 2)) (.len (.var 0))) (.split (.cmp .lt (.cell (.var 0) (.quo (.add (.var 2) (.var 3)) (.lit 2)) 0) (.var 1)) (.ob (.and (.cmp .le (.lit (-9223372036854775808)) (.add (.quo (.add (.var 2) (.var 3)) (.lit 2)) (.lit 1))) (.cmp .le (.add (.quo (.add (.var 2) (.var 3)) (.lit 2)) (.lit 1)) (.lit 9223372036854775807))) (.ob (.and (.cmp .le (.lit (-9223372036854775808)) (.add (.quo (.add (.var 2) (.var 3)) (.lit 2)) (.lit 1))) (.cmp .le (.add (.quo (.add (.var 2) (.var 3)) (.lit 2)) (.lit 1)) (.lit 9223372036854775807))) (.back 0 [(.int (.add (.quo (.add (.var 2) (.var 3)) (.lit 2)) (.lit 1))), (.int (.var 3))]))) (.split (.cmp .lt (.var 1) (.cell (.var 0) (.quo (.add (.var 2) (.var 3)) (.lit 2)) 0)) (.ob (.and (.cmp .le (.lit (-9223372036854775808)) (.quo (.add (.var 2) (.var 3)) (.lit 2))) (.cmp .le (.quo (.add (.var 2) (.var 3)) (.lit 2)) (.lit 9223372036854775807))) (.back 0 [(.int (.var 2)), (.int (.quo (.add (.var 2) (.var 3)) (.lit 2)))])) (.ob (.and (.cmp .le (.lit (-9223372036854775808)) (.quo (.add (.var 2) (.var 3)) (.lit 2))) (.cmp .le (.quo (.add (.var 2) (.var 3)) (.lit 2)) (.lit 9223372036854775807))) (.back 0 [(.int (.var 2)), (.int (.quo (.add (.var 2) (.var 3)) (.lit 2)))])))))))))))) (.split (.cmp .lt (.var 2) (.len (.var 0))) (.ob (.cmp .le (.lit 0) (.var 2)) (.ob (.cmp .lt (.var 2) (.len (.var 0))) (.split (.cmp .lt (.cell (.var 0) (.var 2) 0) (.var 1)) (.ob (.cmp .lt (.max (.sub (.var 2) (.lit 1)) (.lit 0)) (.len (.var 0))) (.ob (.cmp .le (.lit 0) (.min (.var 2) (.sub (.len (.var 0)) (.lit 1)))) (.ob (.cmp .lt (.min (.var 2) (.sub (.len (.var 0)) (.lit 1))) (.len (.var 0))) (.ret [(.int (.cell (.var 0) (.max (.sub (.var 2) (.lit 1)) (.lit 0)) 0)), (.int (.cell (.var 0) (.max (.sub (.var 2) (.lit 1)) (.lit 0)) 1)), (.int (.cell (.var 0) (.min (.var 2) (.sub (.len (.var 0)) (.lit 1))) 0)), (.int (.cell (.var 0) (.min (.var 2) (.sub (.len (.var 0)) (.lit 1))) 1))])))) (.split (.cmp .lt (.var 1) (.cell (.var 0) (.var 2) 0)) (.ob (.cmp .lt (.max (.sub (.var 2) (.lit 1)) (.lit 0)) (.len (.var 0))) (.ob (.cmp .le (.lit 0) (.min (.var 2) (.sub (.len (.var 0)) (.lit 1)))) (.ob (.cmp .lt (.min (.var 2) (.sub (.len (.var 0)) (.lit 1))) (.len (.var 0))) (.ret [(.int (.cell (.var 0) (.max (.sub (.var 2) (.lit 1)) (.lit 0)) 0)), (.int (.cell (.var 0) (.max (.sub (.var 2) (.lit 1)) (.lit 0)) 1)), (.int (.cell (.var 0) (.min (.var 2) (.sub (.len (.var 0)) (.lit 1))) 0)), (.int (.cell (.var 0) (.min (.var 2) (.sub (.len (.var 0)) (.lit 1))) 1))])))) (.ob (.cmp .le (.lit 0) (.min (.var 2) (.sub (.len (.var 0)) (.lit 1)))) (.ob (.cmp .lt (.min (.var 2) (.sub (.len (.var 0)) (.lit 1))) (.len (.var 0))) (.ob (.cmp .le (.lit 0) (.min (.var 2) (.sub (.len (.var 0)) (.lit 1)))) (.ob (.cmp .lt (.min (.var 2) (.sub (.len (.var 0)) (.lit 1))) (.len (.var 0))) (.ret [(.int (.cell (.var 0) (.min (.var 2) (.sub (.len (.var 0)) (.lit 1))) 0)), (.int (.cell (.var 0) (.min (.var 2) (.sub (.len (.var 0)) (.lit 1))) 1)), (.int (.cell (.var 0) (.min (.var 2) (.sub (.len (.var 0)) (.lit 1))) 0)), (.int (.cell (.var 0) (.min (.var 2) (.sub (.len (.var 0)) (.lit 1))) 1))]))))))))) (.ob (.cmp .lt (.max (.sub (.var 2) (.lit 1)) (.lit 0)) (.len (.var 0))) (.ob (.cmp .le (.lit 0) (.min (.var 2) (.sub (.len (.var 0)) (.lit 1)))) (.ob (.cmp .lt (.min (.var 2) (.sub (.len (.var 0)) (.lit 1))) (.len (.var 0))) (.ret [(.int (.cell (.var 0) (.max (.sub (.var 2) (.lit 1)) (.lit 0)) 0)), (.int (.cell (.var 0) (.max (.sub (.var 2) (.lit 1)) (.lit 0)) 1)), (.int (.cell (.var 0) (.min (.var 2) (.sub (.len (.var 0)) (.lit 1))) 0)), (.int (.cell (.var 0) (.min (.var 2) (.sub (.len (.var 0)) (.lit 1))) 1))])))))))
noncomputable def cat4 : Cx := tab.only [99] (fun _ => []) [] 0 [] (fun _ => none)
def tat4 : Tree :=
  (.split (.and (.cmp .eq (.var 0) (.var 2)) (.cmp .eq (.var 1) (.var 3))) (.ret [(.int (.var 1)), (.int (.lit 0)), (.int (.lit 1))]) (.ob (.and (.cmp .le (.lit (-9223372036854775808)) (.sub (.var 2) (.var 0))) (.cmp .le (.sub (.var 2) (.var 0)) (.lit 9223372036854775807))) (.ob (.and (.cmp .le (.lit (-9223372036854775808)) (.sub (.var 3) (.var 1))) (.cmp .le (.sub (.var 3) (.var 1)) (.lit 9223372036854775807))) (.ob (.and (.cmp .le (.lit (-9223372036854775808)) (.sub (.var 4) (.var 0))) (.cmp .le (.sub (.var 4) (.var 0)) (.lit 9223372036854775807))) (.ob (.and (.cmp .le (.lit (-9223372036854775808)) (.mul (.sub (.var 3) (.var 1)) (.sub (.var 4) (.var 0)))) (.cmp .le (.mul (.sub (.var 3) (.var 1)) (.sub (.var 4) (.var 0))) (.lit 9223372036854775807))) (.ob (.and (.cmp .le (.lit (-9223372036854775808)) (.mul (.sub (.var 3) (.var 1)) (.sub (.var 4) (.var 0)))) (.cmp .le (.mul (.sub (.var 3) (.var 1)) (.sub (.var 4) (.var 0))) (.lit 9223372036854775807))) (.ob (.and (.cmp .le (.lit (-9223372036854775808)) (.sub (.var 2) (.var 0))) (.cmp .le (.sub (.var 2) (.var 0)) (.lit 9223372036854775807))) (.call 99 [(.int (.mul (.sub (.var 3) (.var 1)) (.sub (.var 4) (.var 0)))), (.int (.sub (.var 2) (.var 0)))] (.ob (.and (.cmp .le (.lit (-9223372036854775808)) (.add (.var 1) (.var 5))) (.cmp .le (.add (.var 1) (.var 5)) (.lit 9223372036854775807))) (.ob (.and (.cmp .le (.lit (-9223372036854775808)) (.mul (.var 5) (.sub (.var 2) (.var 0)))) (.cmp .le (.mul (.var 5) (.sub (.var 2) (.var 0))) (.lit 9223372036854775807))) (.ob (.and (.cmp .le (.lit (-9223372036854775808)) (.sub (.mul (.sub (.var 3) (.var 1)) (.sub (.var 4) (.var 0))) (.mul (.var 5) (.sub (.var 2) (.var 0))))) (.cmp .le (.sub (.mul (.sub (.var 3) (.var 1)) (.sub (.var 4) (.var 0))) (.mul (.var 5) (.sub (.var 2) (.var 0)))) (.lit 9223372036854775807))) (.ob (.and (.cmp .le (.lit (-9223372036854775808)) (.add (.var 1) (.var 5))) (.cmp .le (.add (.var 1) (.var 5)) (.lit 9223372036854775807))) (.ob (.and (.cmp .le (.lit (-9223372036854775808)) (.sub (.mul (.sub (.var 3) (.var 1)) (.sub (.var 4) (.var 0))) (.mul (.var 5) (.sub (.var 2) (.var 0))))) (.cmp .le (.sub (.mul (.sub (.var 3) (.var 1)) (.sub (.var 4) (.var 0))) (.mul (.var 5) (.sub (.var 2) (.var 0)))) (.lit 9223372036854775807))) (.ob (.and (.cmp .le (.lit (-9223372036854775808)) (.sub (.var 2) (.var 0))) (.cmp .le (.sub (.var 2) (.var 0)) (.lit 9223372036854775807))) (.ret [(.int (.add (.var 1) (.var 5))), (.int (.sub (.mul (.sub (.var 3) (.var 1)) (.sub (.var 4) (.var 0))) (.mul (.var 5) (.sub (.var 2) (.var 0))))), (.int (.sub (.var 2) (.var 0)))])))))))))))))))
noncomputable def cvalue : Cx := tab.only [92, 93] (fun _ => []) [] 0 [] (fun _ => none)
def tvalue : Tree :=
  (.call 92 [(.arr 70 (.var 0)), (.int (.var 1))] (.call 93 [(.int (.var 2)), (.int (.var 3)), (.int (.var 4)), (.int (.var 5)), (.int (.var 1))] (.ob (.and (.cmp .le (.lit (-9223372036854775808)) (.add (.var 6) (.min (.var 7) (.lit 1)))) (.cmp .le (.add (.var 6) (.min (.var 7) (.lit 1))) (.lit 9223372036854775807))) (.ob (.and (.cmp .le (.lit (-9223372036854775808)) (.add (.var 6) (.min (.var 7) (.lit 1)))) (.cmp .le (.add (.var 6) (.min (.var 7) (.lit 1))) (.lit 9223372036854775807))) (.ret [(.int (.var 6)), (.int (.add (.var 6) (.min (.var 7) (.lit 1))))])))))
noncomputable def cat : Cx := tab.only [87, 88] (fun _ => []) [] 0 [] (fun _ => none)
def tat : Tree :=
  (.arr [[(.arr 70 (.var 0))]] (.call 87 [(.arr 91 (.var 2))] (.split (.not (.of (.var 3))) (.ret [(.int (.lit 0)), (.int (.lit 0))]) (.call 88 [(.arr 70 (.var 0)), (.int (.var 1))] (.ret [(.int (.var 4)), (.int (.var 5))])))))
end Go.Proofs.Ytmdmgpikbebejaa
/- Earth: which lines are valid. -/
namespace Go.Proofs.Ytmdmgpikbebejaa
open Go.RowKit
set_option linter.unusedSimpArgs false
set_option linter.unusedVariables false

theorem knots_len (rows : List (List C)) : (knots rows).length = rows.length := by simp [knots]
theorem kn1 (v : Value) (rows : List (List C)) (i : Nat) : ((C.s v rows).at i 0).int = ((knots rows).getD i (0, 0)).1 := by
  simp only [cell_at, knots, List.getD_eq_getElem?_getD, List.getElem?_map]
  cases rows[i]? <;> rfl
theorem kn2 (v : Value) (rows : List (List C)) (i : Nat) : ((C.s v rows).at i 1).int = ((knots rows).getD i (0, 0)).2 := by
  simp only [cell_at, knots, List.getD_eq_getElem?_getD, List.getElem?_map]
  cases rows[i]? <;> rfl
theorem take_snoc {α : Type} {l : List α} {i : Nat} (h : i < l.length) (d : α) : l.take (i + 1) = l.take i ++ [l.getD i d] := by
  rw [List.take_succ_eq_append_getElem h, List.getD_eq_getElem?_getD, List.getElem?_eq_getElem h]; rfl
theorem drop_cons {α : Type} {l : List α} {i : Nat} (h : i < l.length) (d : α) : l.drop i = l.getD i d :: l.drop (i + 1) := by
  rw [List.drop_eq_getElem_cons h, List.getD_eq_getElem?_getD, List.getElem?_eq_getElem h]; rfl
theorem getD_mem {α : Type} {l : List α} {i : Nat} (h : i < l.length) (d : α) : l.getD i d ∈ l := by
  rw [List.getD_eq_getElem?_getD, List.getElem?_eq_getElem h]; exact List.getElem_mem _
theorem within_ok : tab.ok 95 := by
  refine Tab.of_inl rfl rfl ⟨_, Try.func95, by decide, rfl⟩ ?_
  refine Inl.of_ct (args := [.lf .int, .lf .int, .lf .int]) (r := .lf .bool) (pre := fun _ => True) (fn := fun cs => [.b (inV (n_ cs 0) (n_ cs 1) (n_ cs 2))]) (ct_ok (cx := cwithin) (Tab.cx_ok all_nil) Try.func95 (bds := []) (T := twithin) (by kernel_rfl) ?_) ?_
  · unfold twithin
    simp only [VC, allC, List.map_cons, List.map_nil, List.length_cons, List.length_nil, List.getElem?_cons_zero, List.getElem?_cons_succ, List.cons.injEq, C.i.injEq, C.b.injEq, and_true, true_and, forall_const, kindsOf_nil, kindsOf_lf, kindsOf_agg, kindsOf_box, boxKinds_nil, boxKinds_lf, boxKinds_agg, boxKinds_box, List.append_nil, List.cons_append, List.nil_append, den_cmp_le, den_cmp_lt, den_cmp_eq, den_cmp_ne, den_cmp_le', den_cmp_lt', den_cmp_eq', den_cmp_ne', den_and, den_and', den_or, den_or', den_not, den_not', den_blit, den_of, ev_var, at_0, at_1, at_2, at_3, at_4, at_5, at_6, at_7, at_skip, c_int, c_bool, c_arr, c_cnt, c_vec, ev_nil, ev_join, ev_sub3, loc_s, int_i, bool_b, rows_s, cs_nil, cs_cons, E.den_lit, E.den_var, E.den_add, E.den_sub, E.den_mul, E.den_quo, E.den_rem, E.den_max, E.den_min, E.den_len, E.den_wr, E.den_cell, ctWithin, ctF, n_, inV]
    intro n _ _ a _ _ b _ _
    refine ⟨bds_nil _, ?_⟩
    simp only [B.den, Cmp.den, E.den_var, at_0, at_1, at_2, int_i]
    show (a ≤ n → decide (n ≤ b) = (decide (a ≤ n) && decide (n ≤ b))) ∧ (n < a → false = (decide (a ≤ n) && decide (n ≤ b)))
    exact ⟨fun h => by rw [decide_eq_true h, Bool.true_and], fun h => by rw [decide_eq_false (p := a ≤ n) (by omega), Bool.false_and]⟩
  · intro bd ρ l obs s hg hn ho
    unfold withinI at hg
    split at hg
    · rename_i n a b
      cases hg
      refine ⟨rfl, rfl, ho, trivial, rfl, rfl, ?_⟩
      simp [cs_, cellsOf, S0.cells, S0.cellsM, Lf.c, B.den, B.den_mkCmp hn, Cmp.den, inV, n_, at_0, at_1, at_2, int_i]
    · cases hg
theorem kwithin_ok : tab.ok 41 := by
  refine Tab.of_inl rfl rfl ⟨_, Try.func41, by decide, rfl⟩ ?_
  refine Inl.of_ct (args := [.lf .int, .lf .int, .lf .int]) (r := .lf .bool) (pre := fun _ => True) (fn := fun cs => [.b (inV (n_ cs 0) (n_ cs 1) (n_ cs 2))]) (ct_ok (cx := ckwithin) (Tab.cx_ok all_nil) Try.func41 (bds := []) (T := tkwithin) (by kernel_rfl) ?_) ?_
  · unfold tkwithin
    simp only [VC, allC, List.map_cons, List.map_nil, List.length_cons, List.length_nil, List.getElem?_cons_zero, List.getElem?_cons_succ, List.cons.injEq, C.i.injEq, C.b.injEq, and_true, true_and, forall_const, kindsOf_nil, kindsOf_lf, kindsOf_agg, kindsOf_box, boxKinds_nil, boxKinds_lf, boxKinds_agg, boxKinds_box, List.append_nil, List.cons_append, List.nil_append, den_cmp_le, den_cmp_lt, den_cmp_eq, den_cmp_ne, den_cmp_le', den_cmp_lt', den_cmp_eq', den_cmp_ne', den_and, den_and', den_or, den_or', den_not, den_not', den_blit, den_of, ev_var, at_0, at_1, at_2, at_3, at_4, at_5, at_6, at_7, at_skip, c_int, c_bool, c_arr, c_cnt, c_vec, ev_nil, ev_join, ev_sub3, loc_s, int_i, bool_b, rows_s, cs_nil, cs_cons, E.den_lit, E.den_var, E.den_add, E.den_sub, E.den_mul, E.den_quo, E.den_rem, E.den_max, E.den_min, E.den_len, E.den_wr, E.den_cell, ctWithin, ctF, n_, inV]
    intro n _ _ a _ _ b _ _
    refine ⟨bds_nil _, ?_⟩
    simp only [B.den, Cmp.den, E.den_var, at_0, at_1, at_2, int_i]
    show (a ≤ n → decide (n ≤ b) = (decide (a ≤ n) && decide (n ≤ b))) ∧ (n < a → false = (decide (a ≤ n) && decide (n ≤ b)))
    exact ⟨fun h => by rw [decide_eq_true h, Bool.true_and], fun h => by rw [decide_eq_false (p := a ≤ n) (by omega), Bool.false_and]⟩
  · intro bd ρ l obs s hg hn ho
    unfold withinI at hg
    split at hg
    · rename_i n a b
      cases hg
      refine ⟨rfl, rfl, ho, trivial, rfl, rfl, ?_⟩
      simp [cs_, cellsOf, S0.cells, S0.cellsM, Lf.c, B.den, B.den_mkCmp hn, Cmp.den, inV, n_, at_0, at_1, at_2, int_i]
    · cases hg
theorem fwithin_ok : tab.ok 71 := by
  refine Tab.of_inl rfl rfl ⟨_, Try.func71, by decide, rfl⟩ ?_
  refine Inl.of_ct (args := [.lf .int, .lf .int, .lf .int]) (r := .lf .bool) (pre := fun _ => True) (fn := fun cs => [.b (inV (n_ cs 0) (n_ cs 1) (n_ cs 2))]) (ct_ok (cx := cfwithin) (Tab.cx_ok all_nil) Try.func71 (bds := []) (T := tfwithin) (by kernel_rfl) ?_) ?_
  · unfold tfwithin
    simp only [VC, allC, List.map_cons, List.map_nil, List.length_cons, List.length_nil, List.getElem?_cons_zero, List.getElem?_cons_succ, List.cons.injEq, C.i.injEq, C.b.injEq, and_true, true_and, forall_const, kindsOf_nil, kindsOf_lf, kindsOf_agg, kindsOf_box, boxKinds_nil, boxKinds_lf, boxKinds_agg, boxKinds_box, List.append_nil, List.cons_append, List.nil_append, den_cmp_le, den_cmp_lt, den_cmp_eq, den_cmp_ne, den_cmp_le', den_cmp_lt', den_cmp_eq', den_cmp_ne', den_and, den_and', den_or, den_or', den_not, den_not', den_blit, den_of, ev_var, at_0, at_1, at_2, at_3, at_4, at_5, at_6, at_7, at_skip, c_int, c_bool, c_arr, c_cnt, c_vec, ev_nil, ev_join, ev_sub3, loc_s, int_i, bool_b, rows_s, cs_nil, cs_cons, E.den_lit, E.den_var, E.den_add, E.den_sub, E.den_mul, E.den_quo, E.den_rem, E.den_max, E.den_min, E.den_len, E.den_wr, E.den_cell, ctWithin, ctF, n_, inV]
    intro n _ _ a _ _ b _ _
    refine ⟨bds_nil _, ?_⟩
    simp only [B.den, Cmp.den, E.den_var, at_0, at_1, at_2, int_i]
    show (a ≤ n → decide (n ≤ b) = (decide (a ≤ n) && decide (n ≤ b))) ∧ (n < a → false = (decide (a ≤ n) && decide (n ≤ b)))
    exact ⟨fun h => by rw [decide_eq_true h, Bool.true_and], fun h => by rw [decide_eq_false (p := a ≤ n) (by omega), Bool.false_and]⟩
  · intro bd ρ l obs s hg hn ho
    unfold withinI at hg
    split at hg
    · rename_i n a b
      cases hg
      refine ⟨rfl, rfl, ho, trivial, rfl, rfl, ?_⟩
      simp [cs_, cellsOf, S0.cells, S0.cellsM, Lf.c, B.den, B.den_mkCmp hn, Cmp.den, inV, n_, at_0, at_1, at_2, int_i]
    · cases hg
theorem nan_ok : tab.ok 100 := by
  refine Tab.of_inl rfl rfl ⟨_, Try.func100, by decide, rfl⟩ ?_
  refine Inl.of_ct (args := [.lf .int]) (r := .lf .bool) (pre := fun _ => True) (fn := fun cs => [.b false]) (ct_ok (cx := cnan) (Tab.cx_ok all_nil) Try.func100 (bds := []) (T := tnan) (by kernel_rfl) ?_) ?_
  · unfold tnan
    simp only [VC, allC, List.map_cons, List.map_nil, List.length_cons, List.length_nil, List.getElem?_cons_zero, List.getElem?_cons_succ, List.cons.injEq, C.i.injEq, C.b.injEq, and_true, true_and, forall_const, kindsOf_nil, kindsOf_lf, kindsOf_agg, kindsOf_box, boxKinds_nil, boxKinds_lf, boxKinds_agg, boxKinds_box, List.append_nil, List.cons_append, List.nil_append, den_cmp_le, den_cmp_lt, den_cmp_eq, den_cmp_ne, den_cmp_le', den_cmp_lt', den_cmp_eq', den_cmp_ne', den_and, den_and', den_or, den_or', den_not, den_not', den_blit, den_of, ev_var, at_0, at_1, at_2, at_3, at_4, at_5, at_6, at_7, at_skip, c_int, c_bool, c_arr, c_cnt, c_vec, ev_nil, ev_join, ev_sub3, loc_s, int_i, bool_b, rows_s, cs_nil, cs_cons, E.den_lit, E.den_var, E.den_add, E.den_sub, E.den_mul, E.den_quo, E.den_rem, E.den_max, E.den_min, E.den_len, E.den_wr, E.den_cell, ctNan, ctF, n_]
    intro n _ _
    exact bds_nil _
  · intro bd ρ l obs s hg hn ho
    unfold nanI at hg
    split at hg
    · cases hg
      exact ⟨rfl, rfl, ho, trivial, rfl, rfl, rfl⟩
    · cases hg
/-! Lines -/
theorem inV_iff {n a b : Int} : inV n a b = true ↔ a ≤ n ∧ n ≤ b := by simp [inV]
theorem badKs_range {a v last : Int} {k : Kn} {l : List Kn} (h : k.1 < 0 ∨ a < k.1 ∨ k.2 < 0 ∨ v < k.2) : badKs a v last (k :: l) = 2 := by
  rw [badKs, if_neg]
  rw [Bool.and_eq_true, inV_iff, inV_iff]; omega
theorem badKs_order {a v last : Int} {k : Kn} {l : List Kn} (h : 0 ≤ k.1 ∧ k.1 ≤ a ∧ 0 ≤ k.2 ∧ k.2 ≤ v) (h2 : k.1 ≤ last) : badKs a v last (k :: l) = 11 := by
  rw [badKs, if_pos, if_pos h2]
  rw [Bool.and_eq_true, inV_iff, inV_iff]; omega
theorem badKs_next {a v last : Int} {k : Kn} {l : List Kn} (h : 0 ≤ k.1 ∧ k.1 ≤ a ∧ 0 ≤ k.2 ∧ k.2 ≤ v) (h2 : last < k.1) : badKs a v last (k :: l) = badKs a v k.1 l := by
  rw [badKs, if_pos, if_neg (by omega)]
  rw [Bool.and_eq_true, inV_iff, inV_iff]; omega
section
variable {ks : List Kn} {a v : Int}
theorem lineV_range (h : a < 0 ∨ 1099511627776 < a ∨ v < 0 ∨ 68719476736 < v) : lineV ks a v = 2 := by
  unfold lineV
  rw [if_neg]
  rw [Bool.and_eq_true, inV_iff, inV_iff]; omega
theorem lineV_in (h : 0 ≤ a ∧ a ≤ 1099511627776 ∧ 0 ≤ v ∧ v ≤ 68719476736) : lineV ks a v = if ks.length = 0 then 6 else if 24 < ks.length then 8 else badKs a v (-1) ks := by
  unfold lineV
  rw [if_pos]
  rw [Bool.and_eq_true, inV_iff, inV_iff]; omega
end
theorem line_ok : tab.ok 91 := by
  refine Tab.of_ct rfl rfl ⟨_, Try.func91, by decide, rfl⟩ ?_ ctF_det
  refine ct_ok (cx := cline) (Tab.cx_ok (all_cons within_ok all_nil)) Try.func91 (bds := []) (T := tline) (by kernel_rfl) ?_
  unfold tline
  simp only [VC, allC, List.map_cons, List.map_nil, List.length_cons, List.length_nil, List.getElem?_cons_zero, List.getElem?_cons_succ, List.cons.injEq, C.i.injEq, C.b.injEq, and_true, true_and, forall_const, kindsOf_nil, kindsOf_lf, kindsOf_agg, kindsOf_box, boxKinds_nil, boxKinds_lf, boxKinds_agg, boxKinds_box, List.append_nil, List.cons_append, List.nil_append, den_cmp_le, den_cmp_lt, den_cmp_eq, den_cmp_ne, den_cmp_le', den_cmp_lt', den_cmp_eq', den_cmp_ne', den_and, den_and', den_or, den_or', den_not, den_not', den_blit, den_of, ev_var, at_0, at_1, at_2, at_3, at_4, at_5, at_6, at_7, at_skip, c_int, c_bool, c_arr, c_cnt, c_vec, ev_nil, ev_join, ev_sub3, loc_s, int_i, bool_b, rows_s, cs_nil, cs_cons, E.den_lit, E.den_var, E.den_add, E.den_sub, E.den_mul, E.den_quo, E.den_rem, E.den_max, E.den_min, E.den_len, E.den_wr, E.den_cell, ev_cell, kn1, kn2, ctLine, ctF, lineSh, n_, k_]
  intro u r d ty hs a _ _ v _ _
  have hk := knots_len r
  generalize hks : knots r = ks at *
  rw [← hk]
  refine ⟨bds_nil _, fun h => (lineV_range (by omega)).symm, fun h1 => ⟨fun h => (lineV_range (by omega)).symm, fun h2 => ?_⟩⟩
  rw [lineV_in (by omega)]
  refine ⟨fun h => by rw [if_pos (by omega)], fun h3 => ?_⟩
  rw [if_neg (by omega)]
  refine ⟨fun h => by rw [if_pos (by omega)], fun h4 => ?_⟩
  rw [if_neg (by omega)]
  refine ⟨fun xs => match xs with | [_, .i last, .i i] => 0 ≤ i ∧ i ≤ ks.length ∧ badKs a v (-1) ks = badKs a v last (ks.drop i.toNat) | _ => False, fun xs => match xs with | [_, _, .i i] => ((ks.length : Int) - i).toNat | _ => 0, ⟨by omega, by omega, rfl⟩, ?_⟩
  rintro x _ _ last _ _ i _ _ ⟨i0, i1, hi⟩
  refine ⟨fun hlt => ⟨i0, hlt, ?_⟩, fun hge => ?_⟩
  · rw [drop_cons (by omega) (0, 0), ← show (i + 1).toNat = i.toNat + 1 by omega] at hi
    generalize ks.getD i.toNat (0, 0) = k at *
    refine ⟨fun h => by rw [hi, badKs_range (by omega)], fun h5 => ⟨fun h => by rw [hi, badKs_range (by omega)], fun h6 => ⟨fun h => by rw [hi, badKs_order (by omega) h], fun h7 => ?_⟩⟩⟩
    exact ⟨⟨by omega, by omega, by rw [hi, badKs_next (by omega) h7]⟩, (show ((ks.length : Int) - (i + 1)).toNat < ((ks.length : Int) - i).toNat by omega)⟩
  · rw [hi, List.drop_of_length_le (by omega)]; rfl
theorem right_ok : tab.ok 87 := by
  refine Tab.of_ct rfl rfl ⟨_, Try.func87, by decide, rfl⟩ ?_ ctF_det
  refine ct_ok (cx := cright) (Tab.cx_ok (all_cons line_ok all_nil) fxright) Try.func87 (bds := []) (T := tright) (by kernel_rfl) ?_
  have h1 : cright.ct 91 = some ctLine := rfl
  unfold tright
  simp only [VC, allC, List.map_cons, List.map_nil, List.length_cons, List.length_nil, List.getElem?_cons_zero, List.getElem?_cons_succ, List.cons.injEq, C.i.injEq, C.b.injEq, and_true, true_and, forall_const, kindsOf_nil, kindsOf_lf, kindsOf_agg, kindsOf_box, boxKinds_nil, boxKinds_lf, boxKinds_agg, boxKinds_box, List.append_nil, List.cons_append, List.nil_append, den_cmp_le, den_cmp_lt, den_cmp_eq, den_cmp_ne, den_cmp_le', den_cmp_lt', den_cmp_eq', den_cmp_ne', den_and, den_and', den_or, den_or', den_not, den_not', den_blit, den_of, ev_var, at_0, at_1, at_2, at_3, at_4, at_5, at_6, at_7, at_skip, c_int, c_bool, c_arr, c_cnt, c_vec, ev_nil, ev_join, ev_sub3, loc_s, int_i, bool_b, rows_s, cs_nil, cs_cons, E.den_lit, E.den_var, E.den_add, E.den_sub, E.den_mul, E.den_quo, E.den_rem, E.den_max, E.den_min, E.den_len, E.den_wr, E.den_cell, ev_cell, h1, ctLine, ctRight, ctF, lineSh, n_, k_]
  intro u r d ty hs
  refine ⟨bds_nil _, fun xs => match xs with | [_, .i i] => 0 ≤ i ∧ i ≤ r.length ∧ ∀ x ∈ r.take i.toNat, rightB (knots (x.getD 0 (.i 0)).rows) = true | _ => False, fun xs => match xs with | [_, .i i] => ((r.length : Int) - i).toNat | _ => 0, ⟨by omega, by omega, fun x hx => by simp at hx⟩, ?_⟩
  rintro x _ _ i _ _ ⟨i0, i1, hi⟩
  refine ⟨fun hlt => ⟨i0, hlt, ?_⟩, fun hge => ?_⟩
  · have hcell : ((C.s u r).at i.toNat 0).rows = ((r.getD i.toNat []).getD 0 (.i 0)).rows := rfl
    rw [hcell]
    generalize hx : r.getD i.toNat [] = x at *
    have hmem : x ∈ r := by rw [← hx]; exact getD_mem (by omega) []
    have next : rightB (knots (x.getD 0 (.i 0)).rows) = true → ∀ y ∈ r.take (i + 1).toNat, rightB (knots (y.getD 0 (.i 0)).rows) = true := fun h y hy => by
      rw [show (i + 1).toNat = i.toNat + 1 by omega, take_snoc (by omega) [], hx] at hy
      rcases List.mem_append.1 hy with hy | hy
      · exact hi y hy
      · rw [List.mem_singleton] at hy; subst hy; exact h
    rintro e1 _ _ he1
    refine ⟨fun hne => ?_, fun he => ?_⟩
    · rintro e2 _ _ he2
      refine ⟨fun hne2 => ?_, fun he' => ?_⟩
      · symm
        rw [List.all_eq_false]
        refine ⟨x, hmem, ?_⟩
        unfold rightB
        rw [← he1, ← he2]
        simp [hne, hne2]
      · exact ⟨⟨by omega, by omega, next (by unfold rightB; rw [← he1, ← he2, he']; simp)⟩, (show ((r.length : Int) - (i + 1)).toNat < ((r.length : Int) - i).toNat by omega)⟩
    · exact ⟨⟨by omega, by omega, next (by unfold rightB; rw [← he1, he]; simp)⟩, (show ((r.length : Int) - (i + 1)).toNat < ((r.length : Int) - i).toNat by omega)⟩
  · rw [List.take_of_length_le (by omega)] at hi
    exact (List.all_eq_true.2 hi).symm
theorem floor_law {x y : Int} (hy : 0 < y) : (x.tmod y < 0 → x / y = x.tdiv y - 1) ∧ (0 ≤ x.tmod y → x / y = x.tdiv y) := by
  have h1 := Int.emod_nonneg x (b := y) (by omega)
  have h2 := Int.emod_lt_of_pos x hy
  have h3 := Int.mul_ediv_add_emod x y
  have h4 := Int.mul_tdiv_add_tmod x y
  have h5 : (x.tmod y).natAbs < y.natAbs := by rw [Int.natAbs_tmod]; exact Nat.mod_lt _ (by omega)
  have h6 : -y < x.tmod y ∧ x.tmod y < y := by omega
  generalize x / y = p at *
  generalize x.tdiv y = q at *
  generalize x % y = r at *
  generalize x.tmod y = s at *
  have h7 : y * (p - q) = s - r := by rw [Int.mul_sub]; omega
  refine ⟨fun h => ?_, fun h => ?_⟩
  · have : p - q = -1 := by
      have a1 : y * (p - q) < y * 0 := by omega
      have a2 : y * (-2) < y * (p - q) := by omega
      have b1 := Int.lt_of_mul_lt_mul_left a1 (by omega)
      have b2 := Int.lt_of_mul_lt_mul_left a2 (by omega)
      omega
    omega
  · have : p - q = 0 := by
      have a1 : y * (p - q) < y * 1 := by omega
      have a2 : y * (-1) < y * (p - q) := by omega
      have b1 := Int.lt_of_mul_lt_mul_left a1 (by omega)
      have b2 := Int.lt_of_mul_lt_mul_left a2 (by omega)
      omega
    omega
theorem floor_ok : tab.ok 99 := by
  refine Tab.of_ct rfl rfl ⟨_, Try.func99, by decide, rfl⟩ ?_ ctF_det
  refine ct_ok (cx := cfloor) (Tab.cx_ok all_nil) Try.func99 (bds := []) (T := tfloor) (by kernel_rfl) ?_
  unfold tfloor
  simp only [VC, allC, List.map_cons, List.map_nil, List.length_cons, List.length_nil, List.getElem?_cons_zero, List.getElem?_cons_succ, List.cons.injEq, C.i.injEq, C.b.injEq, and_true, true_and, forall_const, kindsOf_nil, kindsOf_lf, kindsOf_agg, kindsOf_box, boxKinds_nil, boxKinds_lf, boxKinds_agg, boxKinds_box, List.append_nil, List.cons_append, List.nil_append, den_cmp_le, den_cmp_lt, den_cmp_eq, den_cmp_ne, den_cmp_le', den_cmp_lt', den_cmp_eq', den_cmp_ne', den_and, den_and', den_or, den_or', den_not, den_not', den_blit, den_of, ev_var, at_0, at_1, at_2, at_3, at_4, at_5, at_6, at_7, at_skip, c_int, c_bool, c_arr, c_cnt, c_vec, ev_nil, ev_join, ev_sub3, loc_s, int_i, bool_b, rows_s, cs_nil, cs_cons, E.den_lit, E.den_var, E.den_add, E.den_sub, E.den_mul, E.den_quo, E.den_rem, E.den_max, E.den_min, E.den_len, E.den_wr, E.den_cell, ctFloor, ctF, n_]
  intro x x0 x1 y y0 y1 hp; refine ⟨bds_nil _, ?_⟩; obtain ⟨f1, f2⟩ := floor_law (x := x) hp.1; have f3 := tdiv_abs x y hp.2 x1; refine ⟨by omega, ⟨by omega, by omega⟩, by omega, fun h => ?_, fun h => ?_⟩
  · exact ⟨⟨by omega, by omega⟩, ⟨by omega, by omega⟩, (f1 h).symm⟩
  · exact ⟨⟨by omega, by omega⟩, (f2 h).symm⟩
end Go.Proofs.Ytmdmgpikbebejaa
/- Earth: the values of lines: plain laws. -/
namespace Go.Proofs.Ytmdmgpikbebejaa
open Go.RowKit
set_option linter.unusedSimpArgs false
set_option linter.unusedVariables false

theorem badKs_ok {a v : Int} : ∀ {ks : List Kn} {last : Int}, badKs a v last ks = 0 → Asc ks ∧ (∀ k ∈ ks, 0 ≤ k.1 ∧ k.1 ≤ a ∧ 0 ≤ k.2 ∧ k.2 ≤ v) ∧ ∀ k l, ks = k :: l → last < k.1
  | [], last, _ => ⟨.nil, fun k hk => by simp at hk, fun k l h => by simp at h⟩
  | k :: ks, last, h => by
    rw [badKs] at h
    split at h
    rotate_left
    · omega
    rename_i hr
    rw [Bool.and_eq_true, inV_iff, inV_iff] at hr
    split at h
    · omega
    rename_i hl
    obtain ⟨h1, h2, h3⟩ := badKs_ok h
    refine ⟨?_, fun k' hk' => ?_, fun k' l e => by cases e; omega⟩
    · cases ks with
      | nil => exact .one k
      | cons b l => exact .cons (h3 b l rfl) h1
    · rcases List.mem_cons.1 hk' with rfl | hk'
      · omega
      · exact h2 k' hk'
/-- A line that is right. -/
structure Good (ks : List Kn) : Prop where
  ne : ks ≠ []
  len : ks.length ≤ 24
  asc : Asc ks
  box : (∀ k ∈ ks, 0 ≤ k.1 ∧ k.1 ≤ 1048576 ∧ 0 ≤ k.2 ∧ k.2 ≤ 68719476736) ∨ (∀ k ∈ ks, 0 ≤ k.1 ∧ k.1 ≤ 1099511627776 ∧ 0 ≤ k.2 ∧ k.2 ≤ 1048576)
theorem lineV_ok {ks : List Kn} {a v : Int} (h : lineV ks a v = 0) : ks ≠ [] ∧ ks.length ≤ 24 ∧ Asc ks ∧ (∀ k ∈ ks, 0 ≤ k.1 ∧ k.1 ≤ a ∧ 0 ≤ k.2 ∧ k.2 ≤ v) := by
  unfold lineV at h
  split at h
  rotate_left
  · omega
  split at h
  · omega
  rename_i h0
  split at h
  · omega
  rename_i h1
  obtain ⟨h2, h3, -⟩ := badKs_ok h
  exact ⟨fun e => h0 (by rw [e]; rfl), by omega, h2, h3⟩
theorem good {ks : List Kn} (h : rightB ks = true) : Good ks := by
  unfold rightB at h
  rw [Bool.or_eq_true, beq_iff_eq, beq_iff_eq] at h
  rcases h with h | h
  · obtain ⟨h1, h2, h3, h4⟩ := lineV_ok h; exact ⟨h1, h2, h3, .inl h4⟩
  · obtain ⟨h1, h2, h3, h4⟩ := lineV_ok h; exact ⟨h1, h2, h3, .inr h4⟩
theorem Good.bd {ks : List Kn} (h : Good ks) {k : Kn} (hk : k ∈ ks) : 0 ≤ k.1 ∧ k.1 ≤ 1099511627776 ∧ 0 ≤ k.2 ∧ k.2 ≤ 68719476736 := by
  rcases h.box with hb | hb
  · have := hb k hk; omega
  · have := hb k hk; omega
theorem Asc.tail {k : Kn} {l : List Kn} (h : Asc (k :: l)) : Asc l := by
  cases h with
  | one => exact .nil
  | cons h ht => exact ht
theorem Asc.head_lt : ∀ {l : List Kn} {k : Kn}, Asc (k :: l) → ∀ x ∈ l, k.1 < x.1
  | [], k, _, x, hx => by simp at hx
  | b :: l, k, h, x, hx => by
    cases h with
    | cons hkb ht =>
      rcases List.mem_cons.1 hx with rfl | hx
      · exact hkb
      · have := ht.head_lt x hx; omega
theorem Asc.lt : ∀ {ks : List Kn}, Asc ks → ∀ {i j : Nat}, i < j → j < ks.length → (ks.getD i (0, 0)).1 < (ks.getD j (0, 0)).1
  | [], _, i, j, _, hj => by simp at hj
  | k :: l, h, 0, j + 1, _, hj => by
    show k.1 < (l.getD j (0, 0)).1
    exact h.head_lt _ (getD_mem (by simpa using hj) _)
  | k :: l, h, i + 1, j + 1, hij, hj => by
    show (l.getD i (0, 0)).1 < (l.getD j (0, 0)).1
    exact h.tail.lt (by omega) (by simpa using hj)
/-! Where a place lies -/
theorem findG_spec : ∀ {l : List Kn} {p : Kn} {x : Int}, p.1 < x → (findG p l x).1 ∈ p :: l ∧ (findG p l x).2 ∈ p :: l ∧ ((findG p l x).1 = (findG p l x).2 ∨ ((findG p l x).1.1 < x ∧ x < (findG p l x).2.1))
  | [], p, x, _ => ⟨by simp [findG], by simp [findG], .inl rfl⟩
  | k :: l, p, x, hp => by
    rw [findG]
    split
    · rename_i h
      obtain ⟨h1, h2, h3⟩ := findG_spec (l := l) h
      exact ⟨List.mem_cons_of_mem _ h1, List.mem_cons_of_mem _ h2, h3⟩
    · split
      · exact ⟨by simp, by simp, .inl rfl⟩
      · exact ⟨by simp, by simp, .inr ⟨hp, by show x < k.1; omega⟩⟩
theorem findV_spec {ks : List Kn} (hne : ks ≠ []) (x : Int) : (findV ks x).1 ∈ ks ∧ (findV ks x).2 ∈ ks ∧ ((findV ks x).1 = (findV ks x).2 ∨ ((findV ks x).1.1 < x ∧ x < (findV ks x).2.1)) := by
  cases ks with
  | nil => exact absurd rfl hne
  | cons k l =>
    rw [findV]
    split
    · rename_i h; exact findG_spec h
    · exact ⟨by simp, by simp, .inl rfl⟩
theorem findG_at : ∀ {l : List Kn} {p : Kn} {x : Int} {i : Nat}, i ≤ l.length → (∀ k < i, (l.getD k (0, 0)).1 < x) → (∀ k, i ≤ k → k < l.length → x ≤ (l.getD k (0, 0)).1) →
    findG p l x = if i < l.length ∧ (l.getD i (0, 0)).1 = x then (l.getD i (0, 0), l.getD i (0, 0)) else ((p :: l).getD i (0, 0), (p :: l).getD (min (i + 1) l.length) (0, 0))
  | [], p, x, i, hi, _, _ => by
    have : i = 0 := by simpa using hi
    subst this
    rfl
  | k :: l, p, x, 0, hi, h1, h2 => by
    have hk : x ≤ k.1 := h2 0 (Nat.le_refl _) (by simp)
    rw [findG, if_neg (by omega)]
    by_cases e : k.1 = x
    · rw [if_pos e, if_pos ⟨by simp, e⟩]; rfl
    · rw [if_neg e, if_neg (fun h => e h.2)]
      have : min (0 + 1) (k :: l).length = 1 := by simp only [List.length_cons]; omega
      rw [this]; rfl
  | k :: l, p, x, i + 1, hi, h1, h2 => by
    have hk : k.1 < x := h1 0 (by omega)
    rw [findG, if_pos hk, findG_at (l := l) (i := i) (by simpa using hi) (fun j hj => h1 (j + 1) (by omega)) (fun j hj hj2 => h2 (j + 1) (by omega) (by simpa using hj2))]
    have e1 : min (i + 1 + 1) (k :: l).length = min (i + 1) l.length + 1 := by simp only [List.length_cons]; omega
    rw [e1]
    simp only [List.length_cons, Nat.add_lt_add_iff_right]
    rfl
theorem findV_at {ks : List Kn} (hne : ks ≠ []) {x : Int} {i : Nat} (hi : i ≤ ks.length) (h1 : ∀ k < i, (ks.getD k (0, 0)).1 < x) (h2 : ∀ k, i ≤ k → k < ks.length → x ≤ (ks.getD k (0, 0)).1) :
    findV ks x = if i < ks.length ∧ (ks.getD i (0, 0)).1 = x then (ks.getD i (0, 0), ks.getD i (0, 0)) else (ks.getD (i - 1) (0, 0), ks.getD (min i (ks.length - 1)) (0, 0)) := by
  cases ks with
  | nil => exact absurd rfl hne
  | cons k l =>
    rw [findV]
    match i, hi, h1, h2 with
    | 0, hi, h1, h2 =>
      have hk : x ≤ k.1 := h2 0 (Nat.le_refl _) (by simp)
      rw [if_neg (by omega), Nat.zero_sub, Nat.zero_min]
      split <;> rfl
    | i + 1, hi, h1, h2 =>
      have hk : k.1 < x := h1 0 (by omega)
      rw [if_pos hk, findG_at (l := l) (i := i) (by simpa using hi) (fun j hj => h1 (j + 1) (by omega)) (fun j hj hj2 => h2 (j + 1) (by omega) (by simpa using hj2))]
      have e1 : min (i + 1) ((k :: l).length - 1) = min (i + 1) l.length := by simp
      rw [e1]
      simp only [List.length_cons, Nat.add_lt_add_iff_right, Nat.add_sub_cancel]
      rfl
/-! Bounds -/
theorem mul_abs {y z V A : Int} (h1 : -V ≤ y) (h2 : y ≤ V) (h3 : 0 ≤ z) (h4 : z ≤ A) : -(V * A) ≤ y * z ∧ y * z ≤ V * A := by
  have hV : 0 ≤ V := by omega
  have a1 : V * z ≤ V * A := Int.mul_le_mul_of_nonneg_left h4 hV
  have a2 : y * z ≤ V * z := Int.mul_le_mul_of_nonneg_right h2 h3
  have a3 : -V * z ≤ y * z := Int.mul_le_mul_of_nonneg_right h1 h3
  rw [Int.neg_mul] at a3
  omega
theorem Good.part {ks : List Kn} (h : Good ks) (x : Int) : PartOK (findV ks x) x := by
  obtain ⟨m1, m2, hc⟩ := findV_spec h.ne x
  have b1 := h.bd m1
  have b2 := h.bd m2
  refine ⟨b1.2.2.1, b1.2.2.2, hc.imp id fun hc => ⟨b1.1, by omega, b2.2.1, by omega, by omega, b2.2.2.1, b2.2.2.2, ?_⟩⟩
  rcases h.box with hb | hb
  · have c1 := hb _ m1
    have c2 := hb _ m2
    have := mul_abs (y := (findV ks x).2.2 - (findV ks x).1.2) (z := x - (findV ks x).1.1) (V := 68719476736) (A := 1048576) (by omega) (by omega) (by omega) (by omega)
    omega
  · have c1 := hb _ m1
    have c2 := hb _ m2
    have := mul_abs (y := (findV ks x).2.2 - (findV ks x).1.2) (z := x - (findV ks x).1.1) (V := 1048576) (A := 1099511627776) (by omega) (by omega) (by omega) (by omega)
    omega
theorem seg_bd {y t d : Int} (hd : 0 < d) (h0 : 0 ≤ t) (h1 : t ≤ d) : min 0 y ≤ y * t / d ∧ y * t / d ≤ max 0 y := by
  rcases Int.le_total 0 y with hy | hy
  · have a1 : 0 ≤ y * t := Int.mul_nonneg hy h0
    have a2 : y * t ≤ y * d := Int.mul_le_mul_of_nonneg_left h1 hy
    have a3 := Int.ediv_nonneg a1 (Int.le_of_lt hd)
    have a4 : y * t / d ≤ y * d / d := Int.ediv_le_ediv hd a2
    rw [Int.mul_ediv_cancel _ (by omega)] at a4
    omega
  · have a1 : y * t ≤ 0 := Int.mul_nonpos_of_nonpos_of_nonneg hy h0
    have a2 : y * d ≤ y * t := Int.mul_le_mul_of_nonpos_left hy h1
    have a3 : y * t / d ≤ 0 / d := Int.ediv_le_ediv hd a1
    have a4 : y * d / d ≤ y * t / d := Int.ediv_le_ediv hd a2
    rw [Int.mul_ediv_cancel _ (by omega)] at a4
    simp at a3
    omega
/-- What the value of a part is. -/
theorem part_bd {p : Kn × Kn} {x : Int} (h : PartOK p x) : 0 ≤ (partAt p x).2.1 ∧ (partAt p x).2.1 < (partAt p x).2.2 ∧ (partAt p x).2.2 ≤ 1099511627776 ∧ 0 ≤ (partAt p x).1 ∧ (partAt p x).1 ≤ 68719476736 := by
  obtain ⟨h1, h2, h3⟩ := h
  unfold partAt
  split
  · exact ⟨Int.le_refl _, (by show (0 : Int) < 1; omega), (by show (1 : Int) ≤ _; omega), h1, h2⟩
  · rename_i hne
    obtain ⟨h4, h5, h6, h7, h8, h9, h10, -⟩ := h3.resolve_left hne
    have a1 := Int.emod_nonneg ((p.2.2 - p.1.2) * (x - p.1.1)) (b := p.2.1 - p.1.1) (by omega)
    have a2 := Int.emod_lt_of_pos ((p.2.2 - p.1.2) * (x - p.1.1)) (b := p.2.1 - p.1.1) (by omega)
    have a3 := seg_bd (y := p.2.2 - p.1.2) (t := x - p.1.1) (d := p.2.1 - p.1.1) (by omega) (by omega) (by omega)
    exact ⟨a1, a2, by show p.2.1 - p.1.1 ≤ _; omega, by show 0 ≤ p.1.2 + _; omega, by show p.1.2 + _ ≤ _; omega⟩
theorem Good.val {ks : List Kn} (h : Good ks) (x : Int) : 0 ≤ (valP ks x).2.1 ∧ (valP ks x).2.1 < (valP ks x).2.2 ∧ (valP ks x).2.2 ≤ 1099511627776 ∧ 0 ≤ (valP ks x).1 ∧ (valP ks x).1 ≤ 68719476736 := part_bd (h.part x)
/-- The value at a knot. -/
theorem findG_knot : ∀ {l : List Kn} {p k : Kn}, Asc (p :: l) → k ∈ l → findG p l k.1 = (k, k)
  | [], p, k, _, hk => by simp at hk
  | b :: l, p, k, h, hk => by
    rw [findG]
    rcases List.mem_cons.1 hk with rfl | hk
    · rw [if_neg (by omega), if_pos rfl]
    · rw [if_pos (h.tail.head_lt k hk)]
      exact findG_knot h.tail hk
theorem findV_knot {ks : List Kn} (h : Asc ks) {k : Kn} (hk : k ∈ ks) : findV ks k.1 = (k, k) := by
  cases ks with
  | nil => simp at hk
  | cons b l =>
    rw [findV]
    rcases List.mem_cons.1 hk with rfl | hk
    · rw [if_neg (by omega)]
    · rw [if_pos (h.head_lt k hk)]; exact findG_knot h hk
theorem valP_knot {ks : List Kn} (h : Asc ks) {k : Kn} (hk : k ∈ ks) : valP ks k.1 = (k.2, 0, 1) := by
  unfold valP partAt
  rw [findV_knot h hk, if_pos rfl]
theorem ceil_law {n d : Int} (hd : 0 < d) : -(-n / d) = n / d + min (n % d) 1 := by
  have h1 := Int.emod_nonneg n (b := d) (by omega)
  have h2 := Int.emod_lt_of_pos n hd
  have h3 := Int.mul_ediv_add_emod n d
  generalize hq : n / d = q at *
  generalize hr : n % d = r at *
  by_cases h0 : r = 0
  · have := ((Int.ediv_emod_unique (a := -n) (b := d) (r := 0) (q := -q) hd).2 ⟨by rw [Int.mul_neg]; omega, by omega, by omega⟩).1
    rw [this]; omega
  · have := ((Int.ediv_emod_unique (a := -n) (b := d) (r := d - r) (q := -q - 1) hd).2 ⟨by rw [Int.mul_sub, Int.mul_neg]; omega, by omega, by omega⟩).1
    rw [this]; omega
/-! Lines compared -/
end Go.Proofs.Ytmdmgpikbebejaa
/- Earth: the values of lines: what the functions compute. -/
namespace Go.Proofs.Ytmdmgpikbebejaa
open Go.RowKit
set_option linter.unusedSimpArgs false
set_option linter.unusedVariables false

theorem find_ok : tab.ok 92 := by
  refine Tab.of_ct rfl rfl ⟨_, Try.func92, by decide, rfl⟩ ?_ ctF_det
  refine ct_ok (cx := cfind) (Tab.cx_ok (all_cons nan_ok all_nil) fxfind) Try.func92 (bds := []) (T := tfind) (by kernel_rfl) ?_
  unfold tfind
  simp only [VC, allC, List.map_cons, List.map_nil, List.length_cons, List.length_nil, List.getElem?_cons_zero, List.getElem?_cons_succ, List.cons.injEq, C.i.injEq, C.b.injEq, and_true, true_and, forall_const, kindsOf_nil, kindsOf_lf, kindsOf_agg, kindsOf_box, boxKinds_nil, boxKinds_lf, boxKinds_agg, boxKinds_box, List.append_nil, List.cons_append, List.nil_append, den_cmp_le, den_cmp_lt, den_cmp_eq, den_cmp_ne, den_cmp_le', den_cmp_lt', den_cmp_eq', den_cmp_ne', den_and, den_and', den_or, den_or', den_not, den_not', den_blit, den_of, ev_var, at_0, at_1, at_2, at_3, at_4, at_5, at_6, at_7, at_skip, c_int, c_bool, c_arr, c_cnt, c_vec, ev_nil, ev_join, ev_sub3, loc_s, int_i, bool_b, rows_s, cs_nil, cs_cons, E.den_lit, E.den_var, E.den_add, E.den_sub, E.den_mul, E.den_quo, E.den_rem, E.den_max, E.den_min, E.den_len, E.den_wr, E.den_cell, ev_cell, kn1, kn2, ctFind, ctF, lineSh, n_, k_, ofKn]
  intro u r d ty hs x _ _ hp
  have hk := knots_len r
  generalize hks : knots r = ks at *
  rw [← hk]
  obtain ⟨hasc, hne, hlen⟩ := hp
  have hpos : 0 < ks.length := List.length_pos_iff.2 hne
  refine ⟨bds_nil _, fun xs => match xs with | [.i i, .i j] => 0 ≤ i ∧ i ≤ j ∧ j ≤ ks.length ∧ (∀ k : Nat, (k : Int) < i → (ks.getD k (0, 0)).1 < x) ∧ ∀ k : Nat, j ≤ k → k < ks.length → x ≤ (ks.getD k (0, 0)).1 | _ => False, fun xs => match xs with | [.i i, .i j] => (j - i).toNat | _ => 0, ⟨by omega, by omega, by omega, fun k hk => by omega, fun k h1 h2 => by omega⟩, ?_⟩
  rintro i _ _ j _ _ ⟨i0, ij, jn, hlo, hhi⟩
  refine ⟨fun hlt => ?_, fun hge => ?_⟩
  · rw [Int.tdiv_eq_ediv_of_nonneg (by omega)]
    have hm1 : i ≤ (i + j) / 2 := by omega
    have hm2 : (i + j) / 2 < j := by omega
    generalize (i + j) / 2 = m at *
    refine ⟨⟨by omega, by omega⟩, by omega, by omega, by omega, by omega, by omega, by omega, by omega, fun h => ?_, fun h => ?_⟩
    · refine ⟨⟨by omega, by omega⟩, ⟨by omega, by omega⟩, ⟨by omega, by omega, by omega, fun k hk => ?_, hhi⟩, (show (j - (m + 1)).toNat < (j - i).toNat by omega)⟩
      by_cases e : (k : Int) = m
      · have : k = m.toNat := by omega
        rw [this]; exact h
      · have := hasc.lt (i := k) (j := m.toNat) (by omega) (by omega)
        omega
    · have key : ∀ k : Nat, m ≤ k → k < ks.length → x ≤ (ks.getD k (0, 0)).1 := fun k h1 h2 => by
        by_cases e : (k : Int) = m
        · have : k = m.toNat := by omega
          rw [this]; exact h
        · have := hasc.lt (i := m.toNat) (j := k) (by omega) h2
          omega
      exact ⟨fun _ => ⟨⟨by omega, by omega⟩, ⟨by omega, by omega, by omega, hlo, key⟩, (show (m - i).toNat < (j - i).toNat by omega)⟩, fun _ => ⟨⟨by omega, by omega⟩, ⟨by omega, by omega, by omega, hlo, key⟩, (show (m - i).toNat < (j - i).toNat by omega)⟩⟩
  · have e : j = i := by omega
    subst e
    have hf := findV_at hne (x := x) (i := j.toNat) (by omega) (fun k hk => hlo k (by omega)) (fun k h1 h2 => hhi k (by omega) h2)
    have e1 : (max (j - 1) 0).toNat = j.toNat - 1 := by omega
    have e2 : (min j ((ks.length : Int) - 1)).toNat = min j.toNat (ks.length - 1) := by omega
    rw [e1, e2]
    refine ⟨fun h => ⟨by omega, by omega, fun h2 => absurd h2 (by have := hhi j.toNat (by omega) (by omega); omega), fun h2 => ⟨fun h3 => ?_, fun h3 => ?_⟩⟩, fun h => ?_⟩
    · rw [if_neg (fun hc => by omega)] at hf
      rw [hf]
      exact ⟨by omega, by omega, by omega, rfl, rfl, rfl, rfl⟩
    · rw [if_pos ⟨by omega, by omega⟩] at hf
      rw [hf, show min j.toNat (ks.length - 1) = j.toNat by omega]
      exact ⟨by omega, by omega, by omega, by omega, rfl, rfl, rfl, rfl⟩
    · rw [if_neg (fun hc => by omega)] at hf
      rw [hf]
      exact ⟨by omega, by omega, by omega, rfl, rfl, rfl, rfl⟩
theorem at4_ok : tab.ok 93 := by
  refine Tab.of_ct rfl rfl ⟨_, Try.func93, by decide, rfl⟩ ?_ ctF_det
  refine ct_ok (cx := cat4) (Tab.cx_ok (all_cons floor_ok all_nil)) Try.func93 (bds := []) (T := tat4) (by kernel_rfl) ?_
  have h1 : cat4.ct 99 = some ctFloor := rfl
  unfold tat4
  simp only [VC, allC, List.map_cons, List.map_nil, List.length_cons, List.length_nil, List.getElem?_cons_zero, List.getElem?_cons_succ, List.cons.injEq, C.i.injEq, C.b.injEq, and_true, true_and, forall_const, kindsOf_nil, kindsOf_lf, kindsOf_agg, kindsOf_box, boxKinds_nil, boxKinds_lf, boxKinds_agg, boxKinds_box, List.append_nil, List.cons_append, List.nil_append, den_cmp_le, den_cmp_lt, den_cmp_eq, den_cmp_ne, den_cmp_le', den_cmp_lt', den_cmp_eq', den_cmp_ne', den_and, den_and', den_or, den_or', den_not, den_not', den_blit, den_of, ev_var, at_0, at_1, at_2, at_3, at_4, at_5, at_6, at_7, at_skip, c_int, c_bool, c_arr, c_cnt, c_vec, ev_nil, ev_join, ev_sub3, loc_s, int_i, bool_b, rows_s, cs_nil, cs_cons, E.den_lit, E.den_var, E.den_add, E.den_sub, E.den_mul, E.den_quo, E.den_rem, E.den_max, E.den_min, E.den_len, E.den_wr, E.den_cell, h1, ctFloor, ctAt4, ctF, n_]
  intro a0 _ _ a1 _ _ b0 _ _ b1 _ _ x _ _ hp
  have hbd := part_bd hp
  obtain ⟨p1, p2, p3⟩ := hp
  simp only [] at p1 p2 p3
  refine ⟨bds_nil _, fun h => ?_, fun h => ?_⟩
  · unfold partAt
    rw [if_pos (by rw [Prod.mk.injEq]; exact h)]
    exact ⟨rfl, rfl, rfl⟩
  · have hne : ¬ ((a0, a1) : Kn) = (b0, b1) := fun e => by
      rw [Prod.mk.injEq] at e
      exact h e.1 e.2
    obtain ⟨g1, g2, g3, g4, g5, g6, g7, g8, g9⟩ := p3.resolve_left hne
    unfold partAt at hbd ⊢
    rw [if_neg hne] at hbd ⊢
    unfold segP at hbd ⊢
    simp only [] at hbd ⊢
    have hde := Int.mul_ediv_add_emod ((b1 - a1) * (x - a0)) (b0 - a0)
    rw [Int.mul_comm (b0 - a0)] at hde
    generalize (b1 - a1) * (x - a0) = N at *
    refine ⟨⟨by omega, by omega⟩, ⟨by omega, by omega⟩, ⟨by omega, by omega⟩, ⟨by omega, by omega⟩, ⟨by omega, by omega⟩, ⟨by omega, by omega⟩, ⟨by omega, by omega⟩, ?_⟩
    rintro q _ _ rfl
    generalize N % (b0 - a0) = rr at *
    generalize hQ : N / (b0 - a0) = Q at *
    generalize hM : Q * (b0 - a0) = M at *
    exact ⟨⟨by omega, by omega⟩, ⟨by omega, by omega⟩, ⟨by omega, by omega⟩, ⟨by omega, by omega⟩, ⟨by omega, by omega⟩, ⟨by omega, by omega⟩, rfl, by omega, trivial⟩
theorem value_ok : tab.ok 88 := by
  refine Tab.of_ct rfl rfl ⟨_, Try.func88, by decide, rfl⟩ ?_ ctF_det
  refine ct_ok (cx := cvalue) (Tab.cx_ok (all_cons find_ok (all_cons at4_ok all_nil))) Try.func88 (bds := []) (T := tvalue) (by kernel_rfl) ?_
  have h1 : cvalue.ct 92 = some ctFind := rfl
  have h2 : cvalue.ct 93 = some ctAt4 := rfl
  unfold tvalue
  simp only [VC, allC, List.map_cons, List.map_nil, List.length_cons, List.length_nil, List.getElem?_cons_zero, List.getElem?_cons_succ, List.cons.injEq, C.i.injEq, C.b.injEq, and_true, true_and, forall_const, kindsOf_nil, kindsOf_lf, kindsOf_agg, kindsOf_box, boxKinds_nil, boxKinds_lf, boxKinds_agg, boxKinds_box, List.append_nil, List.cons_append, List.nil_append, den_cmp_le, den_cmp_lt, den_cmp_eq, den_cmp_ne, den_cmp_le', den_cmp_lt', den_cmp_eq', den_cmp_ne', den_and, den_and', den_or, den_or', den_not, den_not', den_blit, den_of, ev_var, at_0, at_1, at_2, at_3, at_4, at_5, at_6, at_7, at_skip, c_int, c_bool, c_arr, c_cnt, c_vec, ev_nil, ev_join, ev_sub3, loc_s, int_i, bool_b, rows_s, cs_nil, cs_cons, E.den_lit, E.den_var, E.den_add, E.den_sub, E.den_mul, E.den_quo, E.den_rem, E.den_max, E.den_min, E.den_len, E.den_wr, E.den_cell, h1, h2, ctFind, ctAt4, ctValue, ctF, lineSh, rangeSh, n_, k_, ofKn]
  intro u r d ty hs x _ _ hp
  generalize knots r = ks at *
  have hg := good hp
  refine ⟨bds_nil _, ⟨hg.asc, hg.ne, by have := hg.len; omega⟩, ?_⟩
  rintro a0 _ _ a1 _ _ b0 _ _ b1 _ _ ⟨rfl, rfl, rfl, rfl⟩
  refine ⟨hg.part x, ?_⟩
  have hv := hg.val x
  rintro p _ _ n _ _ dd _ _ ⟨rfl, rfl, rfl⟩
  change (0 ≤ (valP ks x).2.1 ∧ (valP ks x).2.1 < (valP ks x).2.2 ∧ (valP ks x).2.2 ≤ 1099511627776 ∧ 0 ≤ (valP ks x).1 ∧ (valP ks x).1 ≤ 68719476736) at hv
  show (-9223372036854775808 ≤ (valP ks x).1 + min (valP ks x).2.1 1 ∧ (valP ks x).1 + min (valP ks x).2.1 1 ≤ 9223372036854775807) ∧ (-9223372036854775808 ≤ (valP ks x).1 + min (valP ks x).2.1 1 ∧ (valP ks x).1 + min (valP ks x).2.1 1 ≤ 9223372036854775807) ∧ _
  exact ⟨⟨by omega, by omega⟩, ⟨by omega, by omega⟩, rfl, rfl⟩
theorem at_ok : tab.ok 86 := by
  refine Tab.of_ct rfl rfl ⟨_, Try.func86, by decide, rfl⟩ ?_ ctF_det
  refine ct_ok (cx := cat) (Tab.cx_ok (all_cons right_ok (all_cons value_ok all_nil))) Try.func86 (bds := []) (T := tat) (by kernel_rfl) ?_
  have h1 : cat.ct 87 = some ctRight := rfl
  have h2 : cat.ct 88 = some ctValue := rfl
  unfold tat
  simp only [VC, allC, List.map_cons, List.map_nil, List.length_cons, List.length_nil, List.getElem?_cons_zero, List.getElem?_cons_succ, List.cons.injEq, C.i.injEq, C.b.injEq, and_true, true_and, forall_const, kindsOf_nil, kindsOf_lf, kindsOf_agg, kindsOf_box, boxKinds_nil, boxKinds_lf, boxKinds_agg, boxKinds_box, List.append_nil, List.cons_append, List.nil_append, den_cmp_le, den_cmp_lt, den_cmp_eq, den_cmp_ne, den_cmp_le', den_cmp_lt', den_cmp_eq', den_cmp_ne', den_and, den_and', den_or, den_or', den_not, den_not', den_blit, den_of, ev_var, at_0, at_1, at_2, at_3, at_4, at_5, at_6, at_7, at_skip, c_int, c_bool, c_arr, c_cnt, c_vec, ev_nil, ev_join, ev_sub3, loc_s, int_i, bool_b, rows_s, cs_nil, cs_cons, E.den_lit, E.den_var, E.den_add, E.den_sub, E.den_mul, E.den_quo, E.den_rem, E.den_max, E.den_min, E.den_len, E.den_wr, E.den_cell, h1, h2, ctRight, ctValue, ctAt, ctF, lineSh, rangeSh, n_, k_, ofKn]
  intro u r d ty hs x _ _
  refine ⟨bds_nil _, fun t ht => ?_⟩
  have ht : t = rightB (knots r) := by rw [ht]; show (rightB (knots r) && true) = _; rw [Bool.and_true]
  subst ht
  unfold atV
  refine ⟨fun h => by rw [if_neg (by rw [h]; simp)]; exact ⟨rfl, rfl⟩, fun h => ⟨h, ?_⟩⟩
  rw [if_pos h]
  rintro a _ _ b _ _ hh
  exact hh
end Go.Proofs.Ytmdmgpikbebejaa
/- Kill: what each function computes: holes. -/
namespace Go.Proofs.Ytmdmgpikbebejaa
set_option linter.unusedVariables false

/-- A segment: its length, rise, area and gap. -/
structure Sg where
  l : Int
  r : Int
  a : Int
  g : Int
def segOf (r : List C) : Sg := ⟨(r.getD 0 (.i 0)).int, (r.getD 1 (.i 0)).int, (r.getD 2 (.i 0)).int, (r.getD 3 (.i 0)).int⟩
def segsOf (rows : List (List C)) : List Sg := rows.map segOf
def s_ (cs : List C) (i : Nat) : List Sg := segsOf (at_ cs i).rows
def fairV (s : Sg) : Bool := decide (1 ≤ s.l) && inV s.r 0 s.l && inV s.a 1 5000 && inV s.g 1 200
def longV : List Sg → Int
  | [] => 0
  | s :: l => s.l + longV l
def holeV (l : List Sg) : Int := if l.length = 0 then 6 else if 16 < l.length then 8 else if l.all fairV = true then (if 1048576 < longV l then 5 else 0) else 2
def volV : List Sg → Int
  | [] => 0
  | s :: l => s.l * s.a + volV l
def upGo (at_ up : Int) : List Sg → List Kn
  | [] => []
  | s :: l => (at_ + s.l * s.a, up + s.r) :: upGo (at_ + s.l * s.a) (up + s.r) l
def heightL (l : List Sg) : List Kn := (0, 0) :: upGo 0 0 l
def roomS (l : List Sg) : Int := if holeV l = 0 then volV l else 0
def heightV (l : List Sg) : List Kn := if holeV l = 0 then heightL l else []

def segSh : Sh0 := .agg [.int, .int, .int, .int]
def holeSh : Sh0 := .agg [.arr 97]
def sg_ (cs : List C) (i : Nat) : Sg := ⟨n_ cs i, n_ cs (i + 1), n_ cs (i + 2), n_ cs (i + 3)⟩
def ctFair : Ct := ctF [segSh] [.lf .bool] (fun _ => True) (fun cs => [.b (fairV (sg_ cs 0))])
def ctSize : Ct := ctF [segSh] [.lf .int] (fun cs => fairV (sg_ cs 0) = true ∧ n_ cs 0 ≤ 1048576) (fun cs => [.i (n_ cs 0 * n_ cs 2)])
def ctHole : Ct := ctF [holeSh] [.lf .int] (fun _ => True) (fun cs => [.i (holeV (s_ cs 0))])
def ctVolI : Ct := ctF [holeSh] [.lf .int] (fun cs => holeV (s_ cs 0) = 0) (fun cs => [.i (volV (s_ cs 0))])
def ctVol : Ct := ctF [holeSh] [.lf .int] (fun _ => True) (fun cs => [.i (roomS (s_ cs 0))])
def ctHeight : Ct := ⟨[holeSh], [lineSh], fun _ => True, fun cs rs => ∃ v rows, rs = [.s v rows] ∧ knots rows = heightV (s_ cs 0), false⟩
/-- A well, a program, a kick. -/
structure Wl where
  segs : List Sg
  weight : Int
  points : List Kn
  limit : Int
  pipe : Int
  step : Int
structure Pg where
  kind : Int
  weight : Int
  margin : Int
  err : Int
structure Bb where
  vol : Int
  pore : Int
def wellKs : List Lk := [.arr 97, .int, .arr 70, .int, .int, .int]
def wellSh : Sh0 := .agg wellKs
def progSh : Sh0 := .agg [.int, .int, .int, .int]
def bubSh : Sh0 := .agg [.int, .int]
def jobSh : Sh0 := .agg [.arr 97, .int, .arr 70, .int, .int, .int, .int, .int, .int, .int, .int, .int, .arr 70, .int]
def wellOf (cs : List C) (i : Nat) : Wl := ⟨s_ cs i, n_ cs (i + 1), k_ cs (i + 2), n_ cs (i + 3), n_ cs (i + 4), n_ cs (i + 5)⟩
def progOf (cs : List C) (i : Nat) : Pg := ⟨n_ cs i, n_ cs (i + 1), n_ cs (i + 2), n_ cs (i + 3)⟩
def bubOf (cs : List C) (i : Nat) : Bb := ⟨n_ cs i, n_ cs (i + 1)⟩
def orE (a b : Int) : Int := if a = 0 then b else a
def roomV (w : Wl) : Int := roomS w.segs
def wellV (w : Wl) : Int := orE (holeV w.segs) (if inV w.weight 0 40000 = true then (if 8 < w.points.length then 8 else orE (badKs (roomV w) 68719476736 (-1) w.points) (if inV w.limit 0 68719476736 = true ∧ inV w.pipe 0 1099511627776 = true ∧ inV w.step 1 (roomV w) = true then 0 else 2)) else 2)
def progV (p : Pg) : Int := if inV p.kind 1 3 = true then (if inV p.weight 0 40000 = true ∧ inV p.margin 0 17179869184 = true ∧ inV p.err 0 17179869184 = true then 0 else 2) else 4
def kickV (k : Bb) : Int := if inV k.vol 1 16777216 = true ∧ inV k.pore 1 17179869184 = true then 0 else 2
def botV (p : Pg) (k : Bb) (err : Int) : Int := max 1 (k.pore + p.margin + err * p.err)
def bottomV (p : Pg) (k : Bb) (err : Int) : Int := if progV p = 0 ∧ kickV k = 0 ∧ -1 ≤ err ∧ err ≤ 1 then botV p k err else 0
def ctProg : Ct := ctF [progSh] [.lf .int] (fun _ => True) (fun cs => [.i (progV (progOf cs 0))])
def ctKick : Ct := ctF [bubSh] [.lf .int] (fun _ => True) (fun cs => [.i (kickV (bubOf cs 0))])
def ctWell : Ct := ctF [wellSh] [.lf .int] (fun _ => True) (fun cs => [.i (wellV (wellOf cs 0))])
def OkE (p : Pg) (k : Bb) (err : Int) : Prop := progV p = 0 ∧ kickV k = 0 ∧ -1 ≤ err ∧ err ≤ 1
def ctBotJ : Ct := ctF [jobSh, .lf .int] [.lf .int] (fun cs => OkE (progOf cs 6) (bubOf cs 10) (n_ cs 14)) (fun cs => [.i (botV (progOf cs 6) (bubOf cs 10) (n_ cs 14))])
def ctBotR : Ct := ctF [progSh, bubSh, .lf .int] [.lf .int] (fun cs => OkE (progOf cs 0) (bubOf cs 4) (n_ cs 6)) (fun cs => [.i (botV (progOf cs 0) (bubOf cs 4) (n_ cs 6))])
def ctBottom : Ct := ctF [progSh, bubSh, .lf .int] [.lf .int] (fun _ => True) (fun cs => [.i (bottomV (progOf cs 0) (bubOf cs 4) (n_ cs 6))])
def tab2 : Tab where
  ct := fun f => match f with
    | 57 => some ctFair
    | 62 => some ctSize
    | 40 | 42 => some ctHole
    | 51 => some ctVolI
    | 30 | 43 => some ctVol
    | 58 => some ctHeight
    | 17 | 18 => some ctProg
    | 19 | 20 => some ctKick
    | 15 | 16 => some ctWell
    | 45 => some ctBotJ
    | 46 => some ctBotR
    | 21 | 22 => some ctBottom
    | f => tab.ct f
  inl := tab.inl
  sel := tab.sel
theorem up_ok {f : Nat} (h : tab.ok f) (he : tab2.ct f = tab.ct f := by rfl) : tab2.ok f :=
  ⟨h.1, fun ct hc => h.2.1 ct (he ▸ hc), h.2.2.1, h.2.2.2⟩
end Go.Proofs.Ytmdmgpikbebejaa
/- What is to be shown of each function, as the executor has it. Printed by trees.py. -/
namespace Go.Proofs.Ytmdmgpikbebejaa
noncomputable def cfair : Cx := tab2.only [71] (fun _ => []) [] 0 [] (fun _ => none)
def tfair : Tree :=
  (.split (.cmp .le (.lit 1) (.var 0)) (.split (.and (.cmp .le (.lit 0) (.var 1)) (.cmp .le (.var 1) (.var 0))) (.split (.and (.cmp .le (.lit 1) (.var 2)) (.cmp .le (.var 2) (.lit 5000))) (.ret [(.bool (.and (.cmp .le (.lit 1) (.var 3)) (.cmp .le (.var 3) (.lit 200))))]) (.ret [(.bool (.lit false))])) (.ret [(.bool (.lit false))])) (.ret [(.bool (.lit false))]))
noncomputable def csize : Cx := tab2.only [] (fun _ => []) [] 0 [] (fun _ => none)
def tsize : Tree :=
  (.ob (.and (.cmp .le (.lit (-9223372036854775808)) (.mul (.var 0) (.var 2))) (.cmp .le (.mul (.var 0) (.var 2)) (.lit 9223372036854775807))) (.ob (.and (.cmp .le (.lit (-9223372036854775808)) (.mul (.var 0) (.var 2))) (.cmp .le (.mul (.var 0) (.var 2)) (.lit 9223372036854775807))) (.ret [(.int (.mul (.var 0) (.var 2)))])))
noncomputable def chole : Cx := tab2.only [57] (fun _ => []) [] 0 [] (fun _ => none)
def thole : Tree :=
  (.split (.cmp .eq (.len (.var 0)) (.lit 0)) (.ret [(.int (.lit 6))]) (.split (.cmp .lt (.lit 16) (.len (.var 0))) (.ret [(.int (.lit 8))]) (.loop [.int, .int, .bool, .int] [(.int (.lit 0)), (.int (.lit 1048576)), (.bool (.lit false)), (.int (.lit 0))] (.split (.cmp .lt (.var 4) (.len (.var 0))) (.ob (.cmp .le (.lit 0) (.var 4)) (.ob (.cmp .lt (.var 4) (.len (.var 0))) (.call 57 [(.int (.cell (.var 0) (.var 4) 0)), (.int (.cell (.var 0) (.var 4) 1)), (.int (.cell (.var 0) (.var 4) 2)), (.int (.cell (.var 0) (.var 4) 3))] (.split (.not (.of (.var 5))) (.ret [(.int (.lit 2))]) (.split (.of (.var 3)) (.back 0 [(.int (.var 1)), (.int (.var 2)), (.bool (.lit true)), (.int (.add (.var 4) (.lit 1)))]) (.split (.not (.cmp .lt (.var 2) (.cell (.var 0) (.var 4) 0))) (.ob (.and (.cmp .le (.lit (-9223372036854775808)) (.sub (.var 2) (.cell (.var 0) (.var 4) 0))) (.cmp .le (.sub (.var 2) (.cell (.var 0) (.var 4) 0)) (.lit 9223372036854775807))) (.ob (.and (.cmp .le (.lit (-9223372036854775808)) (.sub (.var 2) (.cell (.var 0) (.var 4) 0))) (.cmp .le (.sub (.var 2) (.cell (.var 0) (.var 4) 0)) (.lit 9223372036854775807))) (.back 0 [(.int (.var 1)), (.int (.sub (.var 2) (.cell (.var 0) (.var 4) 0))), (.bool (.cmp .lt (.var 2) (.cell (.var 0) (.var 4) 0))), (.int (.add (.var 4) (.lit 1)))]))) (.back 0 [(.int (.var 1)), (.int (.var 2)), (.bool (.cmp .lt (.var 2) (.cell (.var 0) (.var 4) 0))), (.int (.add (.var 4) (.lit 1)))]))))))) (.split (.of (.var 3)) (.ret [(.int (.lit 5))]) (.ret [(.int (.lit 0))]))))))
noncomputable def crhole : Cx := tab2.only [] (fun _ => []) [] 0 [] (fun _ => none)
def trhole : Tree :=
  (.split (.cmp .eq (.len (.var 0)) (.lit 0)) (.ret [(.int (.lit 6))]) (.split (.cmp .lt (.lit 16) (.len (.var 0))) (.ret [(.int (.lit 8))]) (.loop [.int, .int, .int] [(.int (.lit 0)), (.int (.lit 0)), (.int (.lit 0))] (.split (.cmp .lt (.var 3) (.len (.var 0))) (.ob (.cmp .le (.lit 0) (.var 3)) (.ob (.cmp .lt (.var 3) (.len (.var 0))) (.split (.cmp .lt (.cell (.var 0) (.var 3) 0) (.lit 1)) (.ret [(.int (.lit 2))]) (.split (.cmp .lt (.cell (.var 0) (.var 3) 1) (.lit 0)) (.ret [(.int (.lit 2))]) (.split (.cmp .lt (.cell (.var 0) (.var 3) 0) (.cell (.var 0) (.var 3) 1)) (.ret [(.int (.lit 2))]) (.split (.cmp .lt (.cell (.var 0) (.var 3) 2) (.lit 1)) (.ret [(.int (.lit 2))]) (.split (.cmp .lt (.lit 5000) (.cell (.var 0) (.var 3) 2)) (.ret [(.int (.lit 2))]) (.split (.cmp .lt (.cell (.var 0) (.var 3) 3) (.lit 1)) (.ret [(.int (.lit 2))]) (.split (.cmp .lt (.lit 200) (.cell (.var 0) (.var 3) 3)) (.ret [(.int (.lit 2))]) (.ob (.and (.cmp .le (.lit (-9223372036854775808)) (.add (.var 2) (.min (.cell (.var 0) (.var 3) 0) (.lit 1048577)))) (.cmp .le (.add (.var 2) (.min (.cell (.var 0) (.var 3) 0) (.lit 1048577))) (.lit 9223372036854775807))) (.ob (.and (.cmp .le (.lit (-9223372036854775808)) (.add (.var 2) (.min (.cell (.var 0) (.var 3) 0) (.lit 1048577)))) (.cmp .le (.add (.var 2) (.min (.cell (.var 0) (.var 3) 0) (.lit 1048577))) (.lit 9223372036854775807))) (.back 0 [(.int (.var 1)), (.int (.add (.var 2) (.min (.cell (.var 0) (.var 3) 0) (.lit 1048577)))), (.int (.add (.var 3) (.lit 1)))])))))))))))) (.split (.cmp .lt (.lit 1048576) (.var 2)) (.ret [(.int (.lit 5))]) (.ret [(.int (.lit 0))]))))))
noncomputable def crvol : Cx := tab2.only [42] (fun _ => []) [] 0 [] (fun _ => none)
def trvol : Tree :=
  (.call 42 [(.arr 97 (.var 0))] (.split (.cmp .ne (.var 1) (.lit 0)) (.ret [(.int (.lit 0))]) (.loop [.int, .int] [(.int (.lit 0)), (.int (.lit 0))] (.split (.cmp .lt (.var 3) (.len (.var 0))) (.ob (.cmp .le (.lit 0) (.var 3)) (.ob (.cmp .lt (.var 3) (.len (.var 0))) (.ob (.cmp .lt (.var 3) (.len (.var 0))) (.ob (.and (.cmp .le (.lit (-9223372036854775808)) (.mul (.cell (.var 0) (.var 3) 0) (.cell (.var 0) (.var 3) 2))) (.cmp .le (.mul (.cell (.var 0) (.var 3) 0) (.cell (.var 0) (.var 3) 2)) (.lit 9223372036854775807))) (.ob (.and (.cmp .le (.lit (-9223372036854775808)) (.add (.var 2) (.mul (.cell (.var 0) (.var 3) 0) (.cell (.var 0) (.var 3) 2)))) (.cmp .le (.add (.var 2) (.mul (.cell (.var 0) (.var 3) 0) (.cell (.var 0) (.var 3) 2))) (.lit 9223372036854775807))) (.ob (.and (.cmp .le (.lit (-9223372036854775808)) (.add (.var 2) (.mul (.cell (.var 0) (.var 3) 0) (.cell (.var 0) (.var 3) 2)))) (.cmp .le (.add (.var 2) (.mul (.cell (.var 0) (.var 3) 0) (.cell (.var 0) (.var 3) 2))) (.lit 9223372036854775807))) (.back 0 [(.int (.add (.var 2) (.mul (.cell (.var 0) (.var 3) 0) (.cell (.var 0) (.var 3) 2)))), (.int (.add (.var 3) (.lit 1)))]))))))) (.ret [(.int (.var 2))])))))
noncomputable def flcprog : List (Nat × Func) := [(44, Try.f44)]
theorem fxcprog : ∀ p ∈ flcprog, FnOK p := fns_cons ⟨Try.func44, ⟨_, Try.func44, by decide, rfl⟩⟩ (fns_nil)
noncomputable def ccprog : Cx := tab2.only [41] (fun _ => []) flcprog 1 [] (fun _ => none)
def tcprog : Tree :=
  (.split (.cmp .eq (.var 0) (.lit 1)) (.split (.not (.and (.cmp .le (.lit 0) (.var 1)) (.cmp .le (.var 1) (.lit 40000)))) (.ret [(.int (.lit 2))]) (.split (.not (.and (.cmp .le (.lit 0) (.var 2)) (.cmp .le (.var 2) (.lit 17179869184)))) (.ret [(.int (.lit 2))]) (.split (.not (.and (.cmp .le (.lit 0) (.var 3)) (.cmp .le (.var 3) (.lit 17179869184)))) (.ret [(.int (.lit 2))]) (.ret [(.int (.lit 0))])))) (.split (.cmp .eq (.var 0) (.lit 2)) (.split (.not (.and (.cmp .le (.lit 0) (.var 1)) (.cmp .le (.var 1) (.lit 40000)))) (.ret [(.int (.lit 2))]) (.split (.not (.and (.cmp .le (.lit 0) (.var 2)) (.cmp .le (.var 2) (.lit 17179869184)))) (.ret [(.int (.lit 2))]) (.split (.not (.and (.cmp .le (.lit 0) (.var 3)) (.cmp .le (.var 3) (.lit 17179869184)))) (.ret [(.int (.lit 2))]) (.ret [(.int (.lit 0))])))) (.split (.cmp .eq (.var 0) (.lit 3)) (.split (.not (.and (.cmp .le (.lit 0) (.var 1)) (.cmp .le (.var 1) (.lit 40000)))) (.ret [(.int (.lit 2))]) (.split (.not (.and (.cmp .le (.lit 0) (.var 2)) (.cmp .le (.var 2) (.lit 17179869184)))) (.ret [(.int (.lit 2))]) (.split (.not (.and (.cmp .le (.lit 0) (.var 3)) (.cmp .le (.var 3) (.lit 17179869184)))) (.ret [(.int (.lit 2))]) (.ret [(.int (.lit 0))])))) (.ret [(.int (.lit 4))]))))
noncomputable def cckick : Cx := tab2.only [41] (fun _ => []) [] 0 [] (fun _ => none)
def tckick : Tree :=
  (.split (.not (.and (.cmp .le (.lit 1) (.var 0)) (.cmp .le (.var 0) (.lit 16777216)))) (.ret [(.int (.lit 2))]) (.split (.not (.and (.cmp .le (.lit 1) (.var 1)) (.cmp .le (.var 1) (.lit 17179869184)))) (.ret [(.int (.lit 2))]) (.ret [(.int (.lit 0))])))
noncomputable def ccwell : Cx := tab2.only [40, 30, 41] (fun _ => []) [] 0 [] (fun _ => none)
def tcwell : Tree :=
  (.call 40 [(.arr 97 (.var 0))] (.split (.cmp .ne (.var 6) (.lit 0)) (.ret [(.int (.var 6))]) (.split (.not (.and (.cmp .le (.lit 0) (.var 1)) (.cmp .le (.var 1) (.lit 40000)))) (.ret [(.int (.lit 2))]) (.split (.cmp .lt (.lit 8) (.len (.var 2))) (.ret [(.int (.lit 8))]) (.call 30 [(.arr 97 (.var 0))] (.loop [.int, .int, .int] [(.int (.lit 0)), (.int (.lit (-1))), (.int (.lit 0))] (.split (.cmp .lt (.var 10) (.len (.var 2))) (.ob (.cmp .le (.lit 0) (.var 10)) (.ob (.cmp .lt (.var 10) (.len (.var 2))) (.split (.not (.and (.cmp .le (.lit 0) (.cell (.var 2) (.var 10) 0)) (.cmp .le (.cell (.var 2) (.var 10) 0) (.var 7)))) (.ret [(.int (.lit 2))]) (.split (.not (.and (.cmp .le (.lit 0) (.cell (.var 2) (.var 10) 1)) (.cmp .le (.cell (.var 2) (.var 10) 1) (.lit 68719476736)))) (.ret [(.int (.lit 2))]) (.split (.cmp .le (.cell (.var 2) (.var 10) 0) (.var 9)) (.ret [(.int (.lit 11))]) (.back 0 [(.int (.var 8)), (.int (.cell (.var 2) (.var 10) 0)), (.int (.add (.var 10) (.lit 1)))])))))) (.split (.not (.and (.cmp .le (.lit 0) (.var 3)) (.cmp .le (.var 3) (.lit 68719476736)))) (.ret [(.int (.lit 2))]) (.split (.not (.and (.cmp .le (.lit 0) (.var 4)) (.cmp .le (.var 4) (.lit 1099511627776)))) (.ret [(.int (.lit 2))]) (.split (.not (.and (.cmp .le (.lit 1) (.var 5)) (.cmp .le (.var 5) (.var 7)))) (.ret [(.int (.lit 2))]) (.ret [(.int (.lit 0))])))))))))))
noncomputable def cbotj : Cx := tab2.only [] (fun _ => []) [] 0 [] (fun _ => none)
def tbotj : Tree :=
  (.ob (.and (.cmp .le (.lit (-9223372036854775808)) (.add (.var 11) (.var 8))) (.cmp .le (.add (.var 11) (.var 8)) (.lit 9223372036854775807))) (.ob (.and (.cmp .le (.lit (-9223372036854775808)) (.mul (.var 14) (.var 9))) (.cmp .le (.mul (.var 14) (.var 9)) (.lit 9223372036854775807))) (.ob (.and (.cmp .le (.lit (-9223372036854775808)) (.add (.add (.var 11) (.var 8)) (.mul (.var 14) (.var 9)))) (.cmp .le (.add (.add (.var 11) (.var 8)) (.mul (.var 14) (.var 9))) (.lit 9223372036854775807))) (.ob (.and (.cmp .le (.lit (-9223372036854775808)) (.max (.lit 1) (.add (.add (.var 11) (.var 8)) (.mul (.var 14) (.var 9))))) (.cmp .le (.max (.lit 1) (.add (.add (.var 11) (.var 8)) (.mul (.var 14) (.var 9)))) (.lit 9223372036854775807))) (.ret [(.int (.max (.lit 1) (.add (.add (.var 11) (.var 8)) (.mul (.var 14) (.var 9)))))])))))
noncomputable def cbottom : Cx := tab2.only [17, 19, 45] (fun _ => []) [] 0 [] (fun _ => none)
def tbottom : Tree :=
  (.call 17 [(.int (.var 0)), (.int (.var 1)), (.int (.var 2)), (.int (.var 3))] (.split (.cmp .ne (.var 7) (.lit 0)) (.ret [(.int (.lit 0))]) (.call 19 [(.int (.var 4)), (.int (.var 5))] (.split (.cmp .ne (.var 8) (.lit 0)) (.ret [(.int (.lit 0))]) (.split (.cmp .lt (.var 6) (.lit (-1))) (.ret [(.int (.lit 0))]) (.split (.cmp .lt (.lit 1) (.var 6)) (.ret [(.int (.lit 0))]) (.dfn .nil (.dfn .nil (.dfn .nil (.call 45 [(.arr 97 (.var 9)), (.int (.lit 0)), (.arr 70 (.var 10)), (.int (.lit 0)), (.int (.lit 0)), (.int (.lit 0)), (.int (.var 0)), (.int (.var 1)), (.int (.var 2)), (.int (.var 3)), (.int (.var 4)), (.int (.var 5)), (.arr 70 (.var 11)), (.int (.lit 0)), (.int (.var 6))] (.ret [(.int (.var 12))])))))))))))
end Go.Proofs.Ytmdmgpikbebejaa
