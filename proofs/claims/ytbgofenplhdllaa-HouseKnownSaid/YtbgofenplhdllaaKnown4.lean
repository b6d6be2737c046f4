/- Texts laid into one: Eq Et. -/
import Derived.Test.YtbgofenplhdllaaKnown3
import Derived.Lib.SliceRun
import Derived.StillTail
/- The engine, part 11c: one operation is right; a row of operations. -/
namespace Go.Proofs.Ytbgofenplhdllaa
open Go.RowKit
set_option linter.unusedSimpArgs false
set_option linter.unusedVariables false

theorem adaptL_len (P : Program) (vec : Vecs) : ∀ (ks : List Lk) (ls : List Lf), (adaptL P vec ks ls).length = ls.length
  | [], ls => by cases ls <;> rfl
  | _ :: _, [] => rfl
  | k :: ks, l :: ls => by simp [adaptL, adaptL_len P vec ks ls]
theorem adapt_den0 (P : Program) (Γ : Env) (k : Lk) (l : Lf) : (l.adapt P [] k).den Γ = l.den Γ := by
  unfold Lf.adapt
  split
  · rename_i t te i; simp only [look]
  · split <;> rfl
  · rfl
theorem adaptL_den0 {P : Program} {Γ : Env} : ∀ {ks : List Lk} {ls : List Lf}, (adaptL P [] ks ls).map (Lf.den Γ) = ls.map (Lf.den Γ)
  | [], ls => by cases ls <;> rfl
  | _ :: _, [] => rfl
  | k :: ks, l :: ls => by simp [adaptL, adapt_den0, adaptL_den0]
theorem zero_cst {P : Program} {t : TypeId} {cs : List Lf} (h : zeroLf P t = some cs) : ∀ l ∈ cs, ∃ v, l = Lf.ofValue v := fun l hl => by
  unfold zeroLf at h
  split at h
  · rename_i it hi
    cases hzz : it.zero with
    | none => simp [hzz] at h
    | some zv =>
      simp [hzz] at h
      subst h
      obtain ⟨v, -, rfl⟩ := List.mem_map.1 hl
      exact ⟨v, rfl⟩
  · cases h
theorem adapt_cst {P : Program} {w : World} {O : Nat → Nat → Prop} {Γ : Env} {k : Lk} {v : Value} : ((Lf.ofValue v).adapt P [] k).ok P w O Γ ∧ ((Lf.ofValue v).adapt P [] k).isVec = false := by
  have base : (Lf.ofValue v).ok P w O Γ ∧ (Lf.ofValue v).isVec = false := by unfold Lf.ofValue; split <;> exact ⟨trivial, rfl⟩
  unfold Lf.adapt
  split
  · rename_i te i e; rw [e] at base; cases base.2
  · split
    · rename_i hk
      refine ⟨?_, rfl⟩
      obtain ⟨ks, hks⟩ := Option.isSome_iff_exists.1 hk
      exact ⟨_, [], rfl, 1, fun _ _ => False, fun _ _ h => h.elim, ks, hks, none, 0, rfl, fun h => absurd rfl h⟩
    · exact ⟨trivial, rfl⟩
  · exact base
theorem adaptL_cst {P : Program} {w : World} {O : Nat → Nat → Prop} {Γ : Env} : ∀ {ks : List Lk} {ls : List Lf}, (∀ l ∈ ls, ∃ v, l = Lf.ofValue v) → ∀ l ∈ adaptL P [] ks ls, l.ok P w O Γ ∧ l.isVec = false
  | [], ls, h, l, hl => by
    have : l ∈ ls := by cases ls <;> exact hl
    obtain ⟨v, rfl⟩ := h l this
    have := adapt_cst (P := P) (w := w) (O := O) (Γ := Γ) (k := .int) (v := v)
    unfold Lf.adapt at this
    exact this
  | _ :: _, [], _, l, hl => by cases hl
  | k :: ks, x :: ls, h, l, hl => by
    rcases List.mem_cons.1 hl with rfl | hl
    · obtain ⟨v, rfl⟩ := h x (by simp); exact adapt_cst
    · exact adaptL_cst (fun y hy => h y (by simp [hy])) l hl
theorem S0.adaptOk {P : Program} {w : World} {O : Nat → Nat → Prop} {Γ : Env} {l : Lf} {k : Lk} (h : l.ok P w O Γ) : (l.adapt P [] k).ok P w O Γ := by
  unfold Lf.adapt
  split
  · simp only [look]; exact h
  · split
    · rename_i hk
      obtain ⟨ks, hks⟩ := Option.isSome_iff_exists.1 hk
      exact ⟨_, [], rfl, 1, fun _ _ => False, fun _ _ h => h.elim, ks, hks, none, 0, rfl, fun h => absurd rfl h⟩
    · trivial
  · exact h
theorem adaptL_ok {P : Program} {w : World} {O : Nat → Nat → Prop} {Γ : Env} : ∀ {ks : List Lk} {ls : List Lf}, (∀ l ∈ ls, l.ok P w O Γ) → ∀ l ∈ adaptL P [] ks ls, l.ok P w O Γ
  | [], ls, h, l, hl => h l (by cases ls <;> exact hl)
  | _ :: _, [], _, l, hl => by cases hl
  | k :: ks, x :: ls, h, l, hl => by
    rcases List.mem_cons.1 hl with rfl | hl
    · exact S0.adaptOk (h x (by simp))
    · exact adaptL_ok (fun y hy => h y (by simp [hy])) l hl
theorem Sat.vstore {P : Program} {F : Nat → Prop} {w0 : World} {Γ : Env} {st : St} {a : Act} {w : World} (h : Sat P F w0 Γ st a w) {i : Nat} {ve : TypeId × E} (hve : look st.vec i = some ve) {te t : TypeId} {ks : List Lk} (hks : kinds P te = some ks) {n sz off : Nat} (hn : sizeIs P t = some n) (c1 : ve.1 = te) (c2 : ks.length = sz) {s : S0} (c3 : s.cells.length = n) (c4 : off + n ≤ ks.length)
    (c5 : kindsL (adaptL P [] ((ks.drop off).take n) s.cells) = some ((ks.drop off).take n)) (c6 : st.wf = true) (c7 : ks.all Lk.row = true) {x : E} (hp : (Lf.velp te sz i x off).ok P w (Own Γ st) Γ) (hx : s.ok P w (Own Γ st) Γ) {bd : Bds} (hb : bd = st.bds) (hob : Obs Γ.ρ (rngL bd (adaptL P [] ((ks.drop off).take n) s.cells))) :
    ∃ w', (Instr.storeAt t ((Lf.velp te sz i x off).den Γ) (s.den Γ)).run P w = .ok () w' ∧
      Sat P F w0 { Γ with ρ := Γ.ρ ++ [.s (at_ Γ.ρ i).loc (updRow (ve.2.ev Γ.ρ).rows (x.den Γ.ρ).toNat off (cs_ Γ.ρ (adaptL P [] ((ks.drop off).take n) s.cells)))] } { st with nx := st.nx + 1, vec := (i, some (te, .var st.nx)) :: st.vec } a w' := by
  subst c1 c2 hb
  obtain ⟨b, m, cap, hloc, -, h0, h1⟩ := hp
  have hv := (h.vec i ve hve).1
  obtain ⟨ks', us, hk', -, hl, hr, ho⟩ := hv
  obtain rfl : ks = ks' := Option.some.inj (hks.symm.trans hk')
  have hsub : ((ks.drop off).take n).all Lk.row = true := List.all_eq_true.2 fun k hk => List.all_eq_true.1 c7 k (List.mem_of_mem_drop (List.mem_of_mem_take hk))
  have hcr := CReps.of_LReps (Ls_rep (P := P) (w := w) (O := Own Γ st) h.num c5 (kindsL_noVec c5 (row_noVec hsub) (adaptL_ok hx)) hob) hsub
  rw [adaptL_den0] at hcr
  have hone := hcr.one
  generalize hds : cs_ Γ.ρ (adaptL P [] ((ks.drop off).take n) s.cells) = ds at *
  have hdl : ds.length = n := by rw [← hds]; simp [cs_, adaptL_len, c3]
  rcases ho.2 with ⟨e, -⟩ | ⟨g, cap', cur, hloc', -, hg, hnc, hcm, hcs, htake⟩
  · rw [hloc] at e; cases e
  · rw [hloc] at hloc'
    cases hloc'
    generalize hrows : (ve.2.ev Γ.ρ).rows = rows at *
    have hxl : (x.den Γ.ρ).toNat < rows.length := by omega
    generalize hX : (x.den Γ.ρ).toNat = X at *
    have hpos : X * ks.length + off + n ≤ rows.length * ks.length := by
      have : (X + 1) * ks.length ≤ rows.length * ks.length := Nat.mul_le_mul_right _ hxl
      rw [Nat.add_mul] at this; omega
    have hcap : rows.length * ks.length ≤ cur.size := by rw [hcs]; exact Nat.mul_le_mul_right _ hnc
    have hvl : (s.cells.map (Lf.den Γ)).length = n := by simp [c3]
    have hst := run_storeCells_at (P := P) b (X * ks.length + off) ve.1 (s.cells.map (Lf.den Γ)) 0 cur w hg (by rw [hvl]; omega) hone
    rw [Nat.add_zero, hvl] at hst
    have hcell : (s.den Γ).cells = dens Γ s.cells := S0.den_cells Γ s fun l hl' => one_cells (hone _ (List.mem_map.2 ⟨l, hl', rfl⟩))
    have hadr : (Lf.velp ve.1 ks.length i x off).den Γ = .pointer (some ⟨b, X * ks.length + off, none⟩) := by
      simp only [Lf.den, hloc, elemAt, hX]
      unfold Addr.add; split <;> simp_all
    refine ⟨_, ?_, h.vupd c6 hve (w' := w.setRow b (cur.toList.take (X * ks.length + off) ++ s.cells.map (Lf.den Γ) ++ cur.toList.drop (X * ks.length + off + n)).toArray) ?_ ?_⟩
    · rw [hadr]
      have hlen : (dens Γ s.cells).toList = s.cells.map (Lf.den Γ) := by simp [dens]
      simp only [Instr.storeAt, Instr.sureAddr, storeVar, hcell, Sem.run_bind, Sem.run_pure, Result.andThen_ok, pure_bind, run_sizeOf' hn, dens_size, c3, ne_eq, not_true_eq_false, if_false, hlen, hst]
    · rw [hloc]
      exact ⟨rfl, rfl, rfl, by simp [World.setRow], fun k _ hk => setRow_other w b k _ fun e => hk (by simp [Value.ownBlock, e])⟩
    · have hgb : w.grownBy (w.setRow b (cur.toList.take (X * ks.length + off) ++ s.cells.map (Lf.den Γ) ++ cur.toList.drop (X * ks.length + off + n)).toArray) (some b) := ⟨rfl, rfl, rfl, by simp [World.setRow], fun k _ hk => setRow_other w b k _ fun e => hk (by simp [e])⟩
      have hrow : ∀ b', some b = some b' → ∀ o, Own Γ st b' o := fun b' e o => by cases e; exact (Hold.vec (Γ := Γ) hve (by rw [hloc]; rfl)).own o
      obtain ⟨f1, f2, f3⟩ := flatten_upd hl (i := X) (o := off) (l := ds) hxl (by omega)
      refine ⟨ks, us.take (X * ks.length + off) ++ s.cells.map (Lf.den Γ) ++ us.drop (X * ks.length + off + n), hks, ⟨_, rfl⟩, f2, ?_, ?_⟩
      · simp only [C.rows]
        rw [f3, f1, hdl]
        have hseg : ((rowsK rows.length ks).drop (X * ks.length + off)).take n = (ks.drop off).take n := by
          apply List.ext_getElem?
          intro j
          rw [List.getElem?_take, List.getElem?_take, List.getElem?_drop, List.getElem?_drop]
          split
          · rw [Nat.add_assoc, rowsK_get hxl (by omega)]
          · rfl
        exact CReps.seg (hr.up hgb hrow) (by rw [hseg]; exact hcr.up hgb hrow)
      · simp only [C.rows]
        rw [f3, hloc]
        have hul : us.length = rows.length * ks.length := ho.1
        refine ⟨by simp [c3, hul]; omega, .inr ⟨b, cap, _, rfl, Nat.zero_le _, setRow_heap w b cur _ ve.1 _ hg, hnc, hcm, by simp [c3]; omega, ?_⟩⟩
        rw [← htake]
        simp only [List.toList_toArray]
        rw [List.take_append, List.take_append, List.take_take, List.take_take]
        simp only [List.length_append, List.length_take, List.length_map, Array.length_toList, c3]
        have e1 : min (X * ks.length + off) cur.size = X * ks.length + off := by omega
        rw [e1, Nat.min_eq_right (show X * ks.length + off ≤ rows.length * ks.length by omega), Nat.min_eq_left (show X * ks.length + off ≤ rows.length * ks.length by omega)]
        rw [List.drop_take]
        congr 1
        rw [List.take_of_length_le (i := rows.length * ks.length - (X * ks.length + off)) (l := s.cells.map (Lf.den Γ)) (by rw [List.length_map, c3]; omega)]
/-- The rest of a slice of one's own is cleared. -/
theorem Sat.vclear {P : Program} {F : Nat → Prop} {w0 : World} {Γ : Env} {st : St} {a : Act} {w : World} (h : Sat P F w0 Γ st a w) {i : Nat} {ve : TypeId × E} (hve : look st.vec i = some ve) {te t ty : TypeId} {ks : List Lk} (hks : kinds P te = some ks) (hu : P.underlying t = some (.slice te)) (c1 : ve.1 = te) (c6 : st.wf = true) (c7 : ks.all Lk.row = true)
    {z : List Lf} (hz : zeroLf P te = some z) (c5 : kindsL (adaptL P [] ks z) = some ks) (c8 : rngL st.bds (adaptL P [] ks z) = []) {n : Int} (h0 : 0 ≤ n) (h1 : n ≤ ((ve.2.ev Γ.ρ).rows.length : Int)) :
    ∃ v' w', (Instr.sliceAt t (at_ Γ.ρ i).loc (some (.int .i64 n)) none none).run P w = .ok v' w ∧ (Builtin.clear_ #[t] ty #[v']).run P w = .ok (.tuple #[]) w' ∧
      Sat P F w0 { Γ with ρ := Γ.ρ ++ [.s (.slice none 0 0) (List.replicate (((ve.2.ev Γ.ρ).rows.length : Int) - n).toNat (cs_ Γ.ρ (adaptL P [] ks z)))] ++ [.s (at_ Γ.ρ i).loc ((ve.2.ev Γ.ρ).rows.take n.toNat ++ List.replicate (((ve.2.ev Γ.ρ).rows.length : Int) - n).toNat (cs_ Γ.ρ (adaptL P [] ks z)))] } { st with nx := st.nx + 1 + 1, vec := (i, some (te, .var (st.nx + 1))) :: st.vec } a w' := by
  subst c1
  have hv := (h.vec i ve hve).1
  have hvsm := hv.small 1
  obtain ⟨ks', us, hk', ⟨v0, hv0⟩, hl, hr, ho⟩ := hv
  obtain rfl : ks = ks' := Option.some.inj (hks.symm.trans hk')
  have hrl : ((ve.2.ev Γ.ρ).rows.length : Int) ≤ 9223372036854775807 := by rw [hv0] at hvsm; exact hvsm.1
  obtain ⟨it, zv, hit, hzz, hzc⟩ := zeroLf_spec hz Γ
  have hsz := (kinds_size hks).1
  have hisz : it.size = ks.length := by simp only [sizeIs, hit, Option.map_some, Option.some.injEq] at hsz; exact hsz
  have hzlen : z.length = ks.length := by have := kindsL_len c5; rw [← this]; exact (adaptL_len P [] ks z).symm
  have hzsize : zv.cells.size = ks.length := by rw [hzc, dens_size]; exact hzlen
  have hzok : ∀ l ∈ adaptL P [] ks z, l.ok P w (Own Γ st) Γ ∧ l.isVec = false := fun l hl => adaptL_cst (zero_cst hz) l hl
  have hob0 : Obs Γ.ρ (rngL st.bds (adaptL P [] ks z)) := by rw [c8]; exact fun b hb => by cases hb
  have hrep := Ls_rep (P := P) (w := w) (O := Own Γ st) h.num c5 (kindsL_noVec c5 (row_noVec c7) fun l hl => (hzok l hl).1) hob0
  have hcr := CReps.of_LReps hrep c7
  have hden : (adaptL P [] ks z).map (Lf.den Γ) = zv.cells.toList := by
    rw [adaptL_den0]
    have : zv.cells = dens Γ z := hzc
    rw [this]; simp [dens]
  rw [hden] at hcr
  have hzl : zv.cells.toList.length = ks.length := by simpa using hzsize
  have hone := hcr.one
  generalize hzr : cs_ Γ.ρ (adaptL P [] ks z) = zr at *
  have hzrl : zr.length = ks.length := hcr.len.2
  generalize hrows : (ve.2.ev Γ.ρ).rows = rows at *
  obtain ⟨X, hX⟩ : ∃ X : Nat, n.toNat = X := ⟨_, rfl⟩
  obtain ⟨N, hN⟩ : ∃ N : Nat, ((rows.length : Int) - n).toNat = N := ⟨_, rfl⟩
  rw [hX, hN]
  have hXN : X + N = rows.length := by omega
  have hzs : CReps P w (Own Γ st) (rowsK N ks) (List.replicate N zv.cells.toList).flatten (List.replicate N zr).flatten := by
    have := CReps.rows (P := P) (w := w) (O := Own Γ st) (ks := ks) (rs := List.replicate N (zv.cells.toList, zr)) (fun r hr => by rw [List.eq_of_mem_replicate hr]; exact hcr)
    rw [List.length_replicate] at this
    rw [List.flatMap_def, List.flatMap_def, List.map_replicate, List.map_replicate] at this
    exact this
  have hzsl : (List.replicate N zv.cells.toList).flatten.length = N * ks.length := by
    rw [flatten_len (sz := ks.length) (fun r hr => by rw [List.eq_of_mem_replicate hr]; exact hzl), List.length_replicate]
  have hzrsl : (List.replicate N zr).flatten.length = N * ks.length := by
    rw [flatten_len (sz := ks.length) (fun r hr => by rw [List.eq_of_mem_replicate hr]; exact hzrl), List.length_replicate]
  have hzone := hzs.one
  have hsmall : ∀ m, (C.s (.slice none 0 0) (List.replicate N zr)).small m := fun m => by
    cases m with
    | zero => trivial
    | succ m =>
      refine ⟨by rw [List.length_replicate]; omega, fun r hr c hc => ?_⟩
      rw [List.eq_of_mem_replicate hr] at hc
      obtain ⟨j, hj⟩ := List.getElem?_of_mem hc
      have hjl : j < ks.length := by have := (List.getElem?_eq_some_iff.1 hj).1; omega
      obtain ⟨u, c', -, hc', hrep'⟩ := hcr.get (List.getElem?_eq_getElem hjl)
      rw [hj] at hc'; cases hc'
      exact hrep'.1 m
  -- the memory behind it
  have hus : us.length = rows.length * ks.length := ho.1
  have hXle : X * ks.length ≤ rows.length * ks.length := Nat.mul_le_mul_right _ (by omega)
  have hXNk : X * ks.length + N * ks.length = rows.length * ks.length := by rw [← Nat.add_mul, hXN]
  obtain ⟨v', w', hrun, hclr, hgrown, hown⟩ : ∃ v' w', (Instr.sliceAt t (at_ Γ.ρ i).loc (some (.int .i64 n)) none none).run P w = .ok v' w ∧ (Builtin.clear_ #[t] ty #[v']).run P w = .ok (.tuple #[]) w' ∧
      w.grownBy w' (at_ Γ.ρ i).loc.ownBlock ∧ w'.ownsRow 0 ve.1 ks.length (at_ Γ.ρ i).loc rows.length (us.take (X * ks.length) ++ (List.replicate N zv.cells.toList).flatten ++ us.drop (X * ks.length + N * ks.length)) := by
    have hlist : us.take (X * ks.length) ++ (List.replicate N zv.cells.toList).flatten ++ us.drop (X * ks.length + N * ks.length) = us.take (X * ks.length) ++ (List.replicate N zv.cells.toList).flatten := by
      rw [hXNk, List.drop_of_length_le (by omega), List.append_nil]
    rcases ho.2 with ⟨e1, e2⟩ | ⟨g, cap, cur, e1, hB, hg, hnc, hcm, hcs, hct⟩
    · have hp := run_part (w := w) (a := none) (n := 0) (cap := 0) (lo := some (.int .i64 n)) (hi := none) (l := n) (r := 0) hu hsz (.inr rfl) (.inl ⟨rfl, rfl⟩) h0 (by omega) (by omega) (by omega)
      have hn0 : n = 0 := by omega
      subst hn0
      have hX0 : X = 0 := by omega
      have hN0 : N = 0 := by omega
      subst hX0 hN0
      refine ⟨.slice none 0 0, w, by rw [e1, hp]; rfl, by simp [Builtin.clear_, run_underlying hu], World.grownBy.rfl' w _, ?_⟩
      rw [hlist]
      refine ⟨by simp; omega, .inl ⟨e1, e2⟩⟩
    · have hp := run_part (w := w) (a := some ⟨g, 0, none⟩) (n := rows.length) (cap := cap) (lo := some (.int .i64 n)) (hi := none) (l := n) (r := (rows.length : Int)) hu hsz (.inr rfl) (.inl ⟨rfl, rfl⟩) h0 h1 (by omega) hnc
      simp only [partLoc, hX, Int.toNat_natCast] at hp
      by_cases hNz : N = 0
      · subst hNz
        refine ⟨_, w, by rw [e1]; exact hp, ?_, World.grownBy.rfl' w _, ?_⟩
        · rw [show rows.length - X = 0 by omega]
          split <;> simp [Builtin.clear_, run_underlying hu]
        · rw [hlist]
          have : us.take (X * ks.length) ++ (List.replicate 0 zv.cells.toList).flatten = us := by simp; exact List.take_of_length_le (by rw [show X = rows.length by omega]; omega)
          rw [this]
          exact ho
      · rw [if_neg (by omega), show rows.length - X = N by omega] at hp
        have hst := run_storeCells_at (P := P) g (X * ks.length) ve.1 (List.replicate N zv.cells.toList).flatten 0 cur w hg (by rw [hzsl, hcs]; have := Nat.mul_le_mul_right ks.length hnc; omega) hzone
        rw [Nat.add_zero, hzsl] at hst
        have hzcell : (Builtin.zeroCells zv.cells N).toList = (List.replicate N zv.cells.toList).flatten := madeCells_list zv.cells N
        refine ⟨_, w.setRow g (cur.toList.take (X * ks.length) ++ (List.replicate N zv.cells.toList).flatten ++ cur.toList.drop (X * ks.length + N * ks.length)).toArray, by rw [e1]; exact hp, ?_, ?_, ?_⟩
        rotate_left
        · rw [e1]
          exact ⟨rfl, rfl, rfl, by simp [World.setRow], fun k _ hk => setRow_other w g k _ fun e => hk (by simp [Value.ownBlock, e])⟩
        · rw [hlist]
          have hcap : rows.length * ks.length ≤ cur.size := by rw [hcs]; exact Nat.mul_le_mul_right _ hnc
          refine ⟨by rw [List.length_append, List.length_take, hzsl]; omega, .inr ⟨g, cap, _, e1, hB, setRow_heap w g cur _ ve.1 _ hg, hnc, hcm, by simp only [List.size_toArray, List.length_append, List.length_take, List.length_drop, hzsl, Array.length_toList]; omega, ?_⟩⟩
          rw [← hct]
          simp only [List.toList_toArray]
          have hcl : cur.toList.length = cur.size := by simp
          rw [List.append_assoc, List.take_append, List.take_append, List.take_take, List.take_take, List.length_take, hcl, Nat.min_eq_left (show X * ks.length ≤ cur.size by omega), Nat.min_eq_right (show X * ks.length ≤ rows.length * ks.length by omega), Nat.min_eq_left (show X * ks.length ≤ rows.length * ks.length by omega), hzsl, List.take_of_length_le (i := rows.length * ks.length - X * ks.length) (l := (List.replicate N zv.cells.toList).flatten) (by rw [hzsl]; omega), show rows.length * ks.length - X * ks.length - N * ks.length = 0 by omega, List.take_zero, List.append_nil]
        · have hN' : ∃ m, N = m + 1 := ⟨N - 1, by omega⟩
          have hcl : (Builtin.clear_ #[t] ty #[.slice ((some (⟨g, 0, none⟩ : Addr)).map (·.add (X * ks.length))) N (cap - X)]).run P w = (do storeCells ((⟨g, 0, none⟩ : Addr).add (X * ks.length)) (Builtin.zeroCells zv.cells N).toList; pure (.tuple #[]) : Sem Value).run P w := by
            obtain ⟨m, rfl⟩ := hN'
            simp [Builtin.clear_, run_underlying hu, zeroValue, typeInfo, hit, hzz]
          rw [hcl, hzcell]
          have had : (⟨g, 0, none⟩ : Addr).add (X * ks.length) = ⟨g, X * ks.length, none⟩ := by unfold Addr.add; split <;> simp_all
          rw [had]
          simp only [Sem.run_bind, hst, Result.andThen_ok, Sem.run_pure]
  refine ⟨v', w', hrun, hclr, ?_⟩
  have hg := h.grow c6 (rs := [.s (.slice none 0 0) (List.replicate N zr)]) (h.num.len.app fun x hx m => by simp at hx; subst hx; exact hsmall m)
  have he : Ext Γ { Γ with ρ := Γ.ρ ++ [.s (.slice none 0 0) (List.replicate N zr)] } := ⟨⟨_, rfl⟩, fun _ _ => rfl, Nat.le_refl _, rfl, rfl⟩
  have hat := h.vec_at he hve
  have hrowb : ∀ b', (at_ Γ.ρ i).loc.ownBlock = some b' → ∀ o, Own Γ st b' o := fun b' e o => (Hold.vec (Γ := Γ) hve e).own o
  have := hg.vupd (St.wf_grow c6 _) (i := i) (e := ve) hve (c := .s (at_ Γ.ρ i).loc (rows.take X ++ List.replicate N zr)) (w' := w') (by rw [hat]; exact hgrown) ?_
  · exact this
  · rw [hat]
    have hownEq : ∀ b o, Own { Γ with ρ := Γ.ρ ++ [.s (.slice none 0 0) (List.replicate N zr)] } { st with nx := st.nx + [C.s (.slice none 0 0) (List.replicate N zr)].length } b o ↔ Own Γ st b o := fun b o => by
      rw [Own.iff, Own.iff]
      constructor
      · rintro (hb | ⟨s, j, hh⟩)
        · exact .inl hb
        · exact .inr ⟨s, j, Hold.congr (Γ := Γ) (st := st) (Γ' := { Γ with ρ := Γ.ρ ++ [.s (.slice none 0 0) (List.replicate N zr)] }) (st' := { st with nx := st.nx + [C.s (.slice none 0 0) (List.replicate N zr)].length }) (fun j mb hj => ⟨⟨mb, hj⟩, rfl⟩) (fun i e hi => ⟨⟨e, hi⟩, h.vec_at he hi⟩) hh⟩
      · rintro (hb | ⟨s, j, hh⟩)
        · exact .inl hb
        · exact .inr ⟨s, j, Hold.congr (Γ' := Γ) (st' := st) (Γ := { Γ with ρ := Γ.ρ ++ [.s (.slice none 0 0) (List.replicate N zr)] }) (st := { st with nx := st.nx + [C.s (.slice none 0 0) (List.replicate N zr)].length }) (fun j mb hj => ⟨⟨mb, hj⟩, rfl⟩) (fun i e hi => ⟨⟨e, hi⟩, (h.vec_at he hi).symm⟩) hh⟩
    have hO : (fun b o => Own { Γ with ρ := Γ.ρ ++ [.s (.slice none 0 0) (List.replicate N zr)] } { st with nx := st.nx + [C.s (.slice none 0 0) (List.replicate N zr)].length } b o ∨ w.heap.size ≤ b) = (fun b o => Own Γ st b o ∨ w.heap.size ≤ b) := by
      funext b o; exact propext (or_congr (hownEq b o) Iff.rfl)
    rw [hO]
    have hlen : (rows.take X ++ List.replicate N zr).length = rows.length := by rw [List.length_append, List.length_take, List.length_replicate]; omega
    refine ⟨ks, _, hks, ⟨_, rfl⟩, fun r hr' => ?_, ?_, by simp only [C.rows]; rw [hlen]; exact hown⟩
    · rcases List.mem_append.1 hr' with h2 | h2
      · exact hl r (List.mem_of_mem_take h2)
      · rw [List.eq_of_mem_replicate h2]; exact hzrl
    · simp only [C.rows]
      rw [hlen, List.flatten_append, ← flatten_take hl]
      have hseg : ((rowsK rows.length ks).drop (X * ks.length)).take (N * ks.length) = rowsK N ks := by
        have e1 : rowsK rows.length ks = rowsK X ks ++ rowsK N ks := by rw [← hXN]; unfold rowsK; rw [← List.replicate_append_replicate, List.flatten_append]
        have e2 : (rowsK X ks).length = X * ks.length := by simp [rowsK]
        have e3 : (rowsK N ks).length = N * ks.length := by simp [rowsK]
        rw [e1, ← e2, List.drop_left, ← e3, List.take_length]
      have := CReps.seg (hr.up hgrown hrowb) (n := X * ks.length) (m := N * ks.length) (by rw [hseg]; exact hzs.up hgrown hrowb)
      rw [List.drop_of_length_le (l := rows.flatten) (by rw [flatten_len hl]; omega), List.append_nil] at this
      exact this
section
variable {cx : Cx} {R : List C → Prop} {F : Nat → Prop} {w0 : World}
theorem run_method {P : Program} {w : World} {t : TypeId} {name : String} {f : FuncId} (h : methFn P t name = some f) (v : Value) (n : Nat) : (method (n + 1) t v name).run P w = .ok (f, v) w := by
  unfold methFn at h
  split at h
  rotate_left
  · cases h
  rename_i i hi
  split at h
  rotate_left
  · cases h
  rename_i m hm
  split at h
  rotate_left
  · cases h
  rename_i g fs hg hu
  split at h
  rotate_left
  · cases h
  rename_i hp
  cases h
  rw [Array.isEmpty_iff] at hp
  simp [method, run_typeInfo' hi, hm, hp, hg, follow, receiverAt, Place.get, run_underlying hu]
theorem doOp_sound (hcx : CxOK cx) {st : St} {o : Oper} {k : St → Option Tree} {T : Tree} (h : doOp cx st o k = some T) {Γ : Env} {Ls : List (List C → Prop)} (hl : Ls.length = st.lvl) (hvc : VC cx R T Γ.ρ Ls)
    {a : Act} {w : World} (hs : Sat cx.P F w0 Γ st a w) {K : Act → World → Prop} {Q : Exit → Act → World → Prop} (hk : Next cx R F w0 k Γ Ls K) : o.wp cx.P a w K Q := by
  have hv := hs.view o.op.operands
  unfold doOp at h
  split at h
  · rename_i obs sv hop
    have plain : ((st.learnAll obs).put o.dst (some sv)).bind (fun st => (k st).map (obT obs)) = some T → o.wp cx.P a w K Q := fun h => by
      cases hp : (st.learnAll obs).put o.dst (some sv) with
      | none => simp [hp] at h
      | some st' =>
        cases hk' : k st' with
        | none => simp [hp, hk'] at h
        | some T' =>
          simp [hp, hk'] at h
          subst h
          obtain ⟨hob, hvc'⟩ := VC.obT hvc
          obtain ⟨h1, h2⟩ := opVal_ok hop hv hob
          unfold Oper.wp
          rw [h1]
          exact hk st' T' Γ Ls hk' (Ext.refl Γ) (List.prefix_refl _) (by rw [St.put_lvl hp]; exact hl) hvc' _ _ ((hs.learn hob).put hp h2)
    split at h
    · rename_i s
      split at h
      · rename_i s' st1 n hn
        cases hp : st1.put o.dst (some (.one s')) with
        | none => simp [hp] at h
        | some st' =>
          cases hk' : k st' with
          | none => simp [hp, hk'] at h
          | some T' =>
            simp [hp, hk'] at h
            subst h
            obtain ⟨hob, hvc'⟩ := VC.obT hvc
            have hvc2 := VC.dfnN hvc'
            obtain ⟨h1, h2⟩ := opVal_ok hop hv hob
            obtain ⟨e1, e2, e3, e4, e5, -⟩ := (hs.learn hob).nils hn h2
            unfold Oper.wp
            rw [h1]
            have hput := e2.put hp (sv := .one s') e4
            rw [show (SV.one s').den { Γ with ρ := Γ.ρ ++ List.replicate n nilC } = (SV.one s).den Γ from e3] at hput
            exact hk st' T' _ Ls hk' e1 (List.prefix_refl _) (by rw [St.put_lvl hp, e5]; exact hl) hvc2 _ _ hput
      · exact plain h
    · exact plain h
  · split at h
    · rename_i op t x y yt hopeq
      split at h
      · rename_i te ta e l neg hte hx hy hneg
        split at h
        · rename_i hcond
          obtain ⟨rfl, hnil⟩ := hcond
          cases hp1 : st.put o.dst (some (.one (.lf (.bool (.lit (!neg)))))) with
          | none => simp [hp1] at h
          | some st1 =>
            cases hp0 : st.put o.dst (some (.one (.lf (.bool (.lit neg))))) with
            | none => simp [hp1, hp0] at h
            | some st0 =>
              cases hk1 : k st1 with
              | none => simp [hp1, hp0, hk1] at h
              | some t1 =>
                cases hk0 : k st0 with
                | none => simp [hp1, hp0, hk1, hk0] at h
                | some t0 =>
                  simp [hp1, hp0, hk1, hk0] at h
                  subst h
                  obtain ⟨hx1, hx2⟩ := hv.lf (by rw [hopeq]; simp [Op.operands]) hx
                  obtain ⟨hy1, -⟩ := hv.lf (by rw [hopeq]; simp [Op.operands]) hy
                  have hl0 : l.den Γ = .slice none 0 0 := by
                    unfold Lf.isNil at hnil
                    split at hnil
                    · rfl
                    · cases hnil
                  have hx2 : ArrOK cx.P w (Own Γ st) ta (e.ev Γ.ρ) := hx2
                  obtain ⟨v0, rows, hc, d, S, hS, hA⟩ := hx2
                  cases d with
                  | zero => exact hA.elim
                  | succ d =>
                    obtain ⟨ks, hkk, ad, cap, hv0, hh⟩ := hA
                    have hloc : (e.ev Γ.ρ).loc = .slice ad rows.length cap := by rw [hc]; exact hv0
                    have hrun : (execOp a.eval o).run cx.P w = .ok (.value (.bool (if neg then !ad.isNone else ad.isNone))) w := by
                      unfold execOp
                      rw [hopeq]
                      have hx1' : a.eval x = .slice ad rows.length cap := by rw [hx1]; exact hloc
                      rw [hl0] at hy1
                      simp only [hx1', hy1]
                      have hu := sliceOf_eq hte
                      unfold eqNeg at hneg
                      split at hneg
                      · cases hneg
                        have := Lib.run_equalIn_slice_nil w 9999 t ta ad rows.length cap 0 0 hu
                        simp only [eqGuard, binOp]
                        simp [Op.equal, Op.maxDepth, this]
                      · cases hneg
                        have := Lib.run_equalIn_slice_nil w 9999 t ta ad rows.length cap 0 0 hu
                        simp only [eqGuard, binOp]
                        simp [Op.equal, Op.maxDepth, this]
                      · cases hneg
                    unfold Oper.wp
                    rw [hrun]
                    obtain ⟨hb1, hb0⟩ := hvc
                    cases ad with
                    | none =>
                      have hr : rows = [] := by
                        by_cases hr : rows = []
                        · exact hr
                        · obtain ⟨b, o', he, -⟩ := hh hr; cases he
                      have hlen : (B.cmp .eq (.len e) (.lit 0)).den Γ.ρ = true := by
                        simp only [B.den, Cmp.den, E.den_len, E.den_lit, hc, C.rows, hr]; rfl
                      have := hs.put hp1 (sv := .one (.lf (.bool (.lit (!neg))))) (one_ok trivial)
                      have hval : (if neg = true then !(none : Option Addr).isNone else (none : Option Addr).isNone) = !neg := by cases neg <;> rfl
                      rw [hval]
                      exact hk st1 t1 Γ Ls hk1 (Ext.refl Γ) (List.prefix_refl _) (by rw [St.put_lvl hp1]; exact hl) (hb1.1 hlen) _ _ this
                    | some ad =>
                      have := hs.put hp0 (sv := .one (.lf (.bool (.lit neg)))) (one_ok trivial)
                      have hval : (if neg = true then !(some ad).isNone else (some ad).isNone) = neg := by cases neg <;> rfl
                      rw [hval]
                      exact hk st0 t0 Γ Ls hk0 (Ext.refl Γ) (List.prefix_refl _) (by rw [St.put_lvl hp0]; exact hl) hb0 _ _ this
        · cases h
      · cases h
    · rename_i t hopeq
      split at h
      · rename_i cs hz
        obtain ⟨it, z, hi, hzz, hc⟩ := zeroLf_spec hz Γ
        have zok : ∀ l ∈ cs, l.ok cx.P w (Own Γ st) Γ := fun l hl => by
          unfold zeroLf at hz
          split at hz
          · rename_i it hi
            cases hzz : it.zero with
            | none => simp [hzz] at hz
            | some zv =>
              simp [hzz] at hz
              subst hz
              obtain ⟨v, -, rfl⟩ := List.mem_map.1 hl
              unfold Lf.ofValue
              split <;> trivial
          · cases hz
        have hrun : (execOp a.eval o).run cx.P w = .ok (.value (.pointer (some ⟨w.heap.size, 0, none⟩))) (w.alloc (.cells (dens Γ cs) t)) := by
          unfold execOp
          rw [hopeq]
          simp [Instr.alloc, zeroValue, run_typeInfo' hi, hzz, newVar, newRow, hc]
        split at h
        · rename_i s' st0 n hn
          have hn := nilsA_some hn
          obtain ⟨e1, e2, -, e4, e5, e6, e7, e8, e9⟩ := hs.nils hn (s := .agg cs) zok
          cases hf : st0.fresh t s'.cells with
          | none => simp [hf] at h
          | some st1 =>
            cases hp : st1.put o.dst (some (.one (.lf (.ptr st.nb 0)))) with
            | none => simp [hf, hp] at h
            | some st' =>
              cases hk' : k st' with
              | none => simp [hf, hp, hk'] at h
              | some T' =>
                simp [hf, hp, hk'] at h
                subst h
                have hvc2 := VC.dfnN hvc
                obtain ⟨Γ', he, hρ, hb, hs', hlvl⟩ := e2.fresh hf e4
                have hd : dens { Γ with ρ := Γ.ρ ++ List.replicate n nilC } s'.cells = dens Γ cs := by unfold dens; rw [e9]; rfl
                rw [hd] at hs'
                unfold Oper.wp
                rw [hrun]
                have hput := hs'.put (sv := .one (.lf (.ptr st.nb 0))) hp (one_ok trivial)
                rw [e6] at hb
                simp only [SV.den, S0.den, Lf.den, hb] at hput
                exact hk st' T' Γ' Ls hk' (e1.trans he) (List.prefix_refl _) (by rw [St.put_lvl hp, hlvl, e5]; exact hl) (by rw [hρ]; exact hvc2) _ _ hput
        · cases hf : st.fresh t cs with
          | none => simp [hf] at h
          | some st1 =>
            cases hp : st1.put o.dst (some (.one (.lf (.ptr st.nb 0)))) with
            | none => simp [hf, hp] at h
            | some st' =>
              simp [hf, hp] at h
              obtain ⟨Γ', he, hρ, hb, hs', hlvl⟩ := hs.fresh hf zok
              unfold Oper.wp
              rw [hrun]
              have hput := hs'.put (sv := .one (.lf (.ptr st.nb 0))) hp (one_ok trivial)
              simp only [SV.den, S0.den, Lf.den, hb] at hput
              exact hk st' T Γ' Ls h he (List.prefix_refl _) (by rw [St.put_lvl hp, hlvl]; exact hl) (by rw [hρ]; exact hvc) _ _ hput
      · cases h
    · rename_i t x hopeq
      split at h
      · rename_i s hx
        obtain ⟨hx1, hx2⟩ := hv.s0 (by rw [hopeq]; simp [Op.operands]) hx
        cases hf : st.fresh t s.cells with
        | none => simp [hf] at h
        | some st1 =>
          cases hp : st1.put o.dst (some (.one (.lf (.ptr st.nb 0)))) with
          | none => simp [hf, hp] at h
          | some st' =>
            simp [hf, hp] at h
            obtain ⟨Γ', he, hρ, hb, hs', hlvl⟩ := hs.fresh hf hx2
            have hfl : s.cells.all Lf.flat = true := by
              unfold St.fresh at hf
              split at hf
              · rename_i hc; simp only [Bool.and_eq_true] at hc; exact hc.2
              · cases hf
            have hcell : (s.den Γ).cells = dens Γ s.cells := S0.den_cells Γ s fun l hl => one_cells (Lf.one_cell (List.all_eq_true.1 hfl l hl) (hx2 l hl))
            have hrun : (execOp a.eval o).run cx.P w = .ok (.value (.pointer (some ⟨w.heap.size, 0, none⟩))) (w.alloc (.cells (dens Γ s.cells) t)) := by
              unfold execOp
              rw [hopeq]
              simp [Instr.box, newVar, newRow, hx1, hcell]
            unfold Oper.wp
            rw [hrun]
            have hput := hs'.put (sv := .one (.lf (.ptr st.nb 0))) hp (one_ok trivial)
            simp only [SV.den, S0.den, Lf.den, hb] at hput
            exact hk st' T Γ' Ls h he (List.prefix_refl _) (by rw [St.put_lvl hp, hlvl]; exact hl) (by rw [hρ]; exact hvc) _ _ hput
      · cases h
    · rename_i t p x hopeq
      split at h
      · rename_i b off s hp hx
        obtain ⟨hx1, hx2⟩ := hv.s0 (by rw [hopeq]; simp [Op.operands]) hx
        obtain ⟨hp1, -⟩ := hv.lf (by rw [hopeq]; simp [Op.operands]) hp
        split at h
        · rename_i mb n hm hn
          split at h
          · rename_i hc
            obtain ⟨hc1, hc2, hc3⟩ := hc
            have hcell : (s.den Γ).cells = dens Γ s.cells := S0.den_cells Γ s fun l hl => one_cells (Lf.one_cell (List.all_eq_true.1 hc3 l hl) (hx2 l hl))
            have hm1 : w.heap[Γ.blk b]? = some (.cells (dens Γ mb.2) mb.1 (0, 0)) := (hs.mem b mb hm).1
            have hlen : (dens Γ s.cells).toList = s.cells.map (Lf.den Γ) := by simp [dens]
            have hrun : (execOp a.eval o).run cx.P w = .ok .skip (w.setRow (Γ.blk b) ((dens Γ mb.2).toList.take off ++ (s.cells.map (Lf.den Γ)) ++ (dens Γ mb.2).toList.drop (off + s.cells.length)).toArray) := by
              have hsc := run_storeCells_at (P := cx.P) (Γ.blk b) off mb.1 (s.cells.map (Lf.den Γ)) 0 (dens Γ mb.2) w hm1 (by simp [dens_size]; omega) (fun v hv => by
                obtain ⟨l, hl, rfl⟩ := List.mem_map.1 hv
                exact Lf.one_cell (List.all_eq_true.1 hc3 l hl) (hx2 l hl))
              simp only [Nat.add_zero, List.length_map] at hsc
              unfold execOp
              rw [hopeq]
              simp only [Instr.storeAt, hp1, Lf.den, Instr.sureAddr, storeVar, hx1, hcell, Sem.run_bind, Sem.run_pure, Result.andThen_ok, pure_bind, run_sizeOf' hn, dens_size, hc1, ne_eq, not_true_eq_false, if_false, hlen, hsc]
            split at h
            · rename_i s' stn m hnil
              obtain ⟨e1, e2, -, e4, e5, -, e7, -, e9⟩ := hs.nils hnil hx2
              have hl' : s'.cells.length = s.cells.length := by have := congrArg List.length e9; simpa using this
              generalize hst1 : ({ stn with mem := (b, some (mb.1, mb.2.take off ++ s'.cells ++ mb.2.drop (off + n))) :: stn.mem } : St) = st1 at h
              cases hput : st1.put o.dst none with
              | none => simp [hput] at h
              | some st' =>
                cases hk' : k st' with
                | none => simp [hput, hk'] at h
                | some T' =>
                  simp [hput, hk'] at h
                  subst h
                  have hvc2 := VC.dfnN hvc
                  have hm' : look stn.mem b = some mb := by rw [e7]; exact hm
                  have hd : dens { Γ with ρ := Γ.ρ ++ List.replicate m nilC } mb.2 = dens Γ mb.2 := by
                    have h2 : w.heap[Γ.blk b]? = some (.cells (dens { Γ with ρ := Γ.ρ ++ List.replicate m nilC } mb.2) mb.1 (0, 0)) := (e2.mem b mb hm').1
                    rw [hm1] at h2
                    injection h2 with h2
                    injection h2 with h2
                    exact h2.symm
                  unfold Oper.wp
                  rw [hrun]
                  have hst := e2.store (off := off) hm' (cs := s'.cells) (by rw [hl', hc1]; exact hc2) e4
                  rw [hd, e9, hl', hc1] at hst
                  rw [hst1] at hst
                  rw [hc1]
                  have hlvl : st1.lvl = st.lvl := by rw [← hst1]; exact e5
                  exact hk st' T' _ Ls hk' e1 (List.prefix_refl _) (by rw [St.put_lvl hput, hlvl]; exact hl) hvc2 _ _ (hst.drop hput undef)
            generalize hst1 : ({ st with mem := (b, some (mb.1, mb.2.take off ++ s.cells ++ mb.2.drop (off + n))) :: st.mem } : St) = st1 at h
            cases hput : st1.put o.dst none with
            | none => simp [hput] at h
            | some st' =>
              simp [hput] at h
              unfold Oper.wp
              rw [hrun]
              have hst := hs.store (off := off) hm (cs := s.cells) (by rw [hc1]; exact hc2) hx2
              rw [hc1] at hst
              rw [hst1] at hst
              rw [hc1]
              have hlvl : st1.lvl = st.lvl := by rw [← hst1]
              exact hk st' T Γ Ls h (Ext.refl Γ) (List.prefix_refl _) (by rw [St.put_lvl hput, hlvl]; exact hl) hvc _ _ (hst.drop hput undef)
          · cases h
        · cases h
      · rename_i te sz i e off s hp hx
        split at h
        · rename_i ve ks n hve hks hn
          split at h
          · rename_i hc
            obtain ⟨c1, c2, c3, c4, c5, c6, c7⟩ := hc
            generalize hst1 : ({ st with nx := st.nx + 1, vec := (i, some (te, .var st.nx)) :: st.vec } : St) = st1 at h
            cases hput : st1.put o.dst none with
            | none => simp [hput] at h
            | some st' =>
              cases hk' : k st' with
              | none => simp [hput, hk'] at h
              | some T' =>
                simp [hput, hk'] at h
                subst h
                obtain ⟨hob, hvc'⟩ := VC.obT hvc
                obtain ⟨hx1, hx2⟩ := hv.s0 (by rw [hopeq]; simp [Op.operands]) hx
                obtain ⟨hp1, hp2⟩ := hv.lf (by rw [hopeq]; simp [Op.operands]) hp
                obtain ⟨w', g1, g2⟩ := hs.vstore hve hks hn c1 c2 c3 c4 c5 c6 c7 hp2 hx2 rfl hob
                have hrun : (execOp a.eval o).run cx.P w = .ok .skip w' := by
                  unfold execOp
                  rw [hopeq]
                  simp only [hx1, hp1, Sem.run_bind, g1, Result.andThen_ok, Sem.run_pure]
                unfold Oper.wp
                rw [hrun]
                rw [hst1] at g2
                have hlvl : st1.lvl = st.lvl := by rw [← hst1]
                exact hk st' T' { Γ with ρ := Γ.ρ ++ [.s (at_ Γ.ρ i).loc (updRow (ve.2.ev Γ.ρ).rows (e.den Γ.ρ).toNat off (cs_ Γ.ρ (adaptL cx.P [] ((ks.drop off).take n) s.cells)))] } Ls hk' ⟨⟨_, rfl⟩, fun _ _ => rfl, Nat.le_refl _, rfl, rfl⟩ (List.prefix_refl _) (by rw [St.put_lvl hput, hlvl]; exact hl) (hvc' _) _ _ (g2.drop hput undef)
          · cases h
        · cases h
      · cases h
    · rename_i t len ps hopeq
      split at h
      · rename_i te hte
        have hu := sliceOf_eq hte
        split at h
        · rename_i ks z r hkd hz hr
          split at h
          · rename_i rows hrows
            split at h
            · rename_i hcond
              simp only [Bool.and_eq_true] at hcond
              obtain ⟨⟨⟨⟨hwf, hno⟩, hlen⟩, hbig⟩, hzl⟩ := hcond
              have hlen := Nat.eq_of_beq_eq_true hlen
              have hbig := Nat.le_of_ble_eq_true hbig
              have hzl := Nat.eq_of_beq_eq_true hzl
              generalize hst1 : ({ st with nx := st.nx + 1, vec := (st.nx, some (te, .var st.nx)) :: st.vec } : St) = st1 at h
              cases hp : st1.put o.dst (some (.one (.lf (.vec te st.nx)))) with
              | none => simp [hp] at h
              | some st' =>
                cases hk' : k st' with
                | none => simp [hp, hk'] at h
                | some T' =>
                  simp [hp, hk'] at h
                  subst h
                  obtain ⟨hob, hvc'⟩ := VC.obT hvc
                  obtain ⟨hp1, hp2⟩ := parts_ok hv ps.toList r hr (fun p hp => by rw [hopeq]; simp [Op.operands]; exact ⟨p.1, by simpa using hp⟩)
                  obtain ⟨hr1, hr2⟩ := rowsOf_len ks r 0 rows hrows
                  have hcell : ∀ p ∈ r, ∀ l ∈ p.2.cells, (l.den Γ).cells = #[l.den Γ] := fun p hp l hl => one_cells (Lf.one_cell (List.all_eq_true.1 (hp2 p hp).2 l hl) ((hp2 p hp).1 l hl))
                  obtain ⟨it, zv, hit, hzz, hzc⟩ := zeroLf_spec hz Γ
                  have hsz := (kinds_size hkd).1
                  have hflat : rows.flatten.length = len * ks.length := by rw [flatten_len (fun r hr => kindsL_len (hr1 r hr)), hlen]
                  have hrun : (execOp a.eval o).run cx.P w = .ok (.value (.slice (some ⟨w.heap.size, 0, none⟩) len len)) (w.alloc (.cells (dens Γ rows.flatten) te)) := by
                    have hf : ∀ init : Array Value, init.size = len * ks.length → Instr.fill (fun i => some (i * ks.length, ks.length)) init (ps.toList.map fun p => (p.1, a.eval p.2)) = some (dens Γ rows.flatten) := fun init hi => by
                      rw [hp1, fill_rows r 0 rows ks init rfl hrows hcell (by rw [Nat.zero_add, hlen, hi]; exact Nat.le_refl _)]
                      congr 1
                      rw [Nat.zero_mul, List.take_zero, List.nil_append, Nat.zero_add, hlen, List.drop_eq_nil_of_le (by simp [hi]), List.append_nil]
                      rfl
                    unfold execOp
                    rw [hopeq]
                    simp only [Instr.buildSlice, Sem.run_bind, run_underlying hu, Result.andThen_ok, run_sizeOf' hsz]
                    rw [if_neg (by omega)]
                    have hzsize : zv.cells.size = ks.length := by rw [hzc, dens_size]; exact hzl
                    by_cases h0 : len * ks.length = 0
                    · simp only [h0, if_true, Sem.run_bind, Sem.run_pure, Result.andThen_ok]
                      have := hf (Array.map (fun x => (#[] : Array Value)[x % (#[] : Array Value).size]!) (Array.range 0)) (by simp [h0])
                      rw [show (ps.map fun x => match x with | (i, x) => (i, a.eval x)).toList = ps.toList.map fun p => (p.1, a.eval p.2) from by simp, this]
                      simp [newRow]
                    · simp only [if_neg h0, Sem.run_bind, zeroValue, run_typeInfo' hit, hzz, Sem.run_pure, Result.andThen_ok]
                      have := hf (Array.map (fun x => zv.cells[x % zv.cells.size]!) (Array.range (len * ks.length))) (by simp)
                      rw [show (ps.map fun x => match x with | (i, x) => (i, a.eval x)).toList = ps.toList.map fun p => (p.1, a.eval p.2) from by simp, this]
                      simp [newRow]
                  unfold Oper.wp
                  rw [hrun]
                  have hrok : ∀ r ∈ rows, ∀ l ∈ r, l.ok cx.P w (Own Γ st) Γ := fun r hr l hl => by
                    obtain ⟨p, hp, e⟩ := hr2 r hr
                    exact (hp2 p hp).1 l (by rw [← e]; exact hl)
                  have hks0 : ks.length ≠ 0 := (kinds_size hkd).2
                  have hlb : len ≤ len * ks.length := Nat.le_mul_of_pos_right _ (by omega)
                  have hlaid := VecOK.laid (st := st) hkd (rows := rows.map (cs_ Γ.ρ)) (cs := dens Γ rows.flatten) (by
                    rw [List.length_map]
                    exact rows_CReps hs.num hno hr1 hrok hob) (fun r hr => by
                    obtain ⟨r', hr', rfl⟩ := List.mem_map.1 hr
                    simp [cs_, kindsL_len (hr1 r' hr')]) (by rw [List.length_map, hlen]; simp only [maxLen]; omega)
                  rw [List.length_map, hlen] at hlaid
                  have hnew := hs.vnew hwf (c := .s (.slice (some ⟨w.heap.size, 0, none⟩) len len) (rows.map (cs_ Γ.ρ))) (te := te) (w' := w.alloc (.cells (dens Γ rows.flatten) te)) (row := none) (ci := none) rfl (World.grownBy_alloc w _ none) hlaid (fun b hb => by cases hb; exact .inr (Nat.le_refl _))
                  simp only [dropV] at hnew
                  rw [hst1] at hnew
                  have hat : at_ (Γ.ρ ++ [C.s (.slice (some ⟨w.heap.size, 0, none⟩) len len) (rows.map (cs_ Γ.ρ))]) st.nx = C.s (.slice (some ⟨w.heap.size, 0, none⟩) len len) (rows.map (cs_ Γ.ρ)) := by rw [← hs.len]; exact at_app (j := 0) (by simp)
                  have hput := hnew.put hp (one_ok (by simp only [Lf.ok, hat]; exact ⟨_, _, _, rfl⟩))
                  simp only [SV.den, S0.den, Lf.den, hat, C.loc] at hput
                  have hlvl : st1.lvl = st.lvl := by rw [← hst1]
                  exact hk st' T' { Γ with ρ := Γ.ρ ++ [C.s (.slice (some ⟨w.heap.size, 0, none⟩) len len) (rows.map (cs_ Γ.ρ))] } Ls hk' ⟨⟨_, rfl⟩, fun _ _ => rfl, Nat.le_refl _, rfl, rfl⟩ (List.prefix_refl _) (by rw [St.put_lvl hp, hlvl]; exact hl) (hvc' _) _ _ hput
            · cases h
          · cases h
        · cases h
      · cases h
    · rename_i t n m hopeq
      split at h
      · rename_i te e e' hte hn hm
        have hu := sliceOf_eq hte
        split at h
        · rename_i ks z it hkd hz hit
          split at h
          · rename_i hcond
            obtain ⟨rfl, c2, hwf, hno, c8⟩ := hcond
            generalize hst1 : ({ st with nx := st.nx + 1, vec := (st.nx, some (te, .var st.nx)) :: st.vec } : St) = st1 at h
            cases hp : st1.put o.dst (some (.one (.lf (.vec te st.nx)))) with
            | none => simp [hp] at h
            | some st' =>
              cases hk' : k st' with
              | none => simp [hp, hk'] at h
              | some T' =>
                simp [hp, hk'] at h
                subst h
                obtain ⟨hob, hvc'⟩ := VC.obT hvc
                obtain ⟨ob1, ob23⟩ := Obs.app hob
                obtain ⟨ob2, ob3⟩ := Obs.app ob23
                have g1 := need_ok ob1
                have g2 := need_ok ob2
                have g3 := need_ok ob3
                rw [B.den_mkCmp hs.num] at g1 g2 g3
                have g1 : 0 ≤ e.den Γ.ρ := of_decide_eq_true g1
                have g2 : (it.bytes : Int) * e.den Γ.ρ ≤ 281474976710656 := of_decide_eq_true g2
                have g3 : e.den Γ.ρ ≤ 9223372036854775807 := of_decide_eq_true g3
                obtain ⟨hn1, -⟩ := hv.lf (by rw [hopeq]; simp [Op.operands]) hn
                obtain ⟨hm1, -⟩ := hv.lf (by rw [hopeq]; simp [Op.operands]) hm
                obtain ⟨it', zv, hit', hzz, hzc⟩ := zeroLf_spec hz Γ
                obtain rfl : it = it' := Option.some.inj (hit.symm.trans hit')
                have hsz := (kinds_size hkd).1
                have hisz : it.size = ks.length := by simp only [sizeIs, hit, Option.map_some, Option.some.injEq] at hsz; exact hsz
                have hzlen : z.length = ks.length := by have := kindsL_len c2; rw [← this]; exact (adaptL_len cx.P [] ks z).symm
                have hzsize : zv.cells.size = ks.length := by rw [hzc, dens_size]; exact hzlen
                have hrun : (execOp a.eval o).run cx.P w = .ok (.value (.slice (some ⟨w.heap.size, 0, none⟩) (e.den Γ.ρ).toNat (e.den Γ.ρ).toNat)) (w.alloc (.cells (madeCells zv.cells ((e.den Γ.ρ).toNat * it.size)) te)) := by
                  unfold execOp
                  rw [hopeq]
                  simp only [hn1, hm1, Lf.den, Sem.run_bind]
                  rw [run_make w t te it zv hu hit hzz .i64 .i64 _ _ g1 (Int.le_refl _) g2 g3]
                  simp only [Result.andThen_ok, Sem.run_pure]
                unfold Oper.wp
                rw [hrun]
                have hzok : ∀ l ∈ adaptL cx.P [] ks z, l.ok cx.P w (Own Γ st) Γ ∧ l.isVec = false := fun l hl => by
                  have h1 := zero_cst hz
                  exact adaptL_cst h1 l hl
                have hob0 : Obs Γ.ρ (rngL st.bds (adaptL cx.P [] ks z)) := by rw [c8]; exact fun b hb => by cases hb
                have hrep := Ls_rep (P := cx.P) (w := w) (O := Own Γ st) hs.num c2 (kindsL_noVec c2 (row_noVec hno) fun l hl => (hzok l hl).1) hob0
                have hcr := CReps.of_LReps hrep hno
                have hden : (adaptL cx.P [] ks z).map (Lf.den Γ) = zv.cells.toList := by
                  rw [adaptL_den0]
                  have : zv.cells = dens Γ z := hzc
                  rw [this]; simp [dens]
                rw [hden] at hcr
                generalize hN : (e.den Γ.ρ).toNat = N at *
                have hNm : N ≤ maxLen := by simp only [maxLen]; omega
                have hlaid := VecOK.laid (st := st) hkd (rows := List.replicate N (cs_ Γ.ρ (adaptL cx.P [] ks z))) (cs := madeCells zv.cells (N * it.size)) (by
                  rw [List.length_replicate, hisz, ← hzsize, madeCells_list]
                  have := CReps.rows (P := cx.P) (w := w) (O := Own Γ st) (ks := ks) (rs := List.replicate N (zv.cells.toList, cs_ Γ.ρ (adaptL cx.P [] ks z))) (fun r hr => by rw [List.eq_of_mem_replicate hr]; exact hcr)
                  rw [List.length_replicate] at this
                  rw [List.flatMap_def, List.flatMap_def, List.map_replicate, List.map_replicate] at this
                  exact this) (fun r hr => by rw [List.eq_of_mem_replicate hr]; simp [cs_, kindsL_len c2]) (by rw [List.length_replicate]; exact hNm)
                rw [List.length_replicate] at hlaid
                have hnew := hs.vnew hwf (c := .s (.slice (some ⟨w.heap.size, 0, none⟩) N N) (List.replicate N (cs_ Γ.ρ (adaptL cx.P [] ks z)))) (te := te) (w' := w.alloc (.cells (madeCells zv.cells (N * it.size)) te)) (row := none) (ci := none) rfl (World.grownBy_alloc w _ none) hlaid (fun b hb => by cases hb; exact .inr (Nat.le_refl _))
                simp only [dropV] at hnew
                rw [hst1] at hnew
                have hat : at_ (Γ.ρ ++ [C.s (.slice (some ⟨w.heap.size, 0, none⟩) N N) (List.replicate N (cs_ Γ.ρ (adaptL cx.P [] ks z)))]) st.nx = C.s (.slice (some ⟨w.heap.size, 0, none⟩) N N) (List.replicate N (cs_ Γ.ρ (adaptL cx.P [] ks z))) := by rw [← hs.len]; exact at_app (j := 0) (by simp)
                have hput := hnew.put hp (one_ok (by simp only [Lf.ok, hat]; exact ⟨_, _, _, rfl⟩))
                simp only [SV.den, S0.den, Lf.den, hat, C.loc] at hput
                have hlvl : st1.lvl = st.lvl := by rw [← hst1]
                have hvc2 := hvc' (.slice (some ⟨w.heap.size, 0, none⟩) N N)
                rw [hN] at hvc2
                exact hk st' T' { Γ with ρ := Γ.ρ ++ [C.s (.slice (some ⟨w.heap.size, 0, none⟩) N N) (List.replicate N (cs_ Γ.ρ (adaptL cx.P [] ks z)))] } Ls hk' ⟨⟨_, rfl⟩, fun _ _ => rfl, Nat.le_refl _, rfl, rfl⟩ (List.prefix_refl _) (by rw [St.put_lvl hp, hlvl]; exact hl) hvc2 _ _ hput
          · cases h
        · cases h
      · cases h
    · rename_i f first captured hopeq
      split at h
      · rename_i fs cs hfs hcs
        split at h
        · rename_i hcond
          simp only [Bool.and_eq_true] at hcond
          obtain ⟨⟨⟨hwf, hw1⟩, hw2⟩, hone⟩ := hcond
          generalize hst1 : ({ st with nx := st.nx + 1, clo := (st.nx, some (f, fs, cs.flatMap S0.cells)) :: st.clo } : St) = st1 at h
          cases hp : st1.put o.dst (some (.one (.lf (.clo st.nx)))) with
          | none => simp [hp] at h
          | some st' =>
            cases hk' : k st' with
            | none => simp [hp, hk'] at h
            | some T' =>
              simp [hp, hk'] at h
              subst h
              obtain ⟨hf1, hf2⟩ := s0s_ok hv first.toList fs hfs (fun x hx => by rw [hopeq]; simp [Op.operands]; exact .inl (by simpa using hx))
              obtain ⟨hc1, hc2⟩ := s0s_ok hv captured.toList cs hcs (fun x hx => by rw [hopeq]; simp [Op.operands]; exact .inr (by simpa using hx))
              have hflat : cs.map (S0.den Γ) = (cs.flatMap S0.cells).map (Lf.den Γ) := by
                clear hcs hc1 hc2 hw2 hst1
                induction cs with
                | nil => rfl
                | cons s cs ih =>
                  simp only [List.all_cons, Bool.and_eq_true] at hone
                  rw [List.flatMap_cons, List.map_append, List.map_cons, ih hone.2]
                  cases s with
                  | lf l => rfl
                  | agg l => exact absurd hone.1.2 (by simp)
              generalize hcv : C.s (.func (.func f) (fs.map (S0.den Γ)).toArray ((cs.flatMap S0.cells).map (Lf.den Γ)).toArray) [] = c
              have hrun : (execOp a.eval o).run cx.P w = .ok (.value (.func (.func f) (fs.map (S0.den Γ)).toArray ((cs.flatMap S0.cells).map (Lf.den Γ)).toArray)) w := by
                unfold execOp
                rw [hopeq]
                have e1 : first.map a.eval = (fs.map (S0.den Γ)).toArray := by apply Array.ext'; simp [hf1]
                have e2 : captured.map a.eval = ((cs.flatMap S0.cells).map (Lf.den Γ)).toArray := by apply Array.ext'; rw [← hflat]; simp [hc1]
                simp only [Instr.makeFunc, e1, e2, Sem.run_bind, Sem.run_pure, Result.andThen_ok]
              unfold Oper.wp
              rw [hrun]
              have hsm : Smalls (Γ.ρ ++ [c]) := hs.num.len.app fun x hx n => by simp at hx; subst hx; rw [← hcv]; cases n <;> simp [C.small]
              have he : Ext Γ { Γ with ρ := Γ.ρ ++ [c] } := ⟨⟨_, rfl⟩, fun _ _ => rfl, Nat.le_refl _, rfl, rfl⟩
              have hgrow := hs.grow hwf hsm
              simp only [List.length_cons, List.length_nil, Nat.zero_add] at hgrow
              have hat : at_ (Γ.ρ ++ [c]) st.nx = c := by rw [← hs.len]; exact at_app (j := 0) (by simp)
              have hfw : ∀ s ∈ fs, s.wf Γ.ρ.length Γ.nb = true := fun s hs' => by rw [hs.len, hs.nb]; exact List.all_eq_true.1 hw1 s hs'
              have hcw : ∀ s ∈ cs, s.wf Γ.ρ.length Γ.nb = true := fun s hs' => by rw [hs.len, hs.nb]; exact List.all_eq_true.1 hw2 s hs'
              have hcl : ∀ l ∈ cs.flatMap S0.cells, l.wf Γ.ρ.length Γ.nb = true ∧ l.ok cx.P w (Own Γ st) Γ := fun l hl => by
                obtain ⟨s, hs', hl⟩ := List.mem_flatMap.1 hl
                refine ⟨?_, hc2 s hs' l hl⟩
                have := hcw s hs'
                cases s with
                | lf x => simp [S0.cells] at hl; subst hl; exact this
                | agg ls => exact List.all_eq_true.1 this l hl
              have hownx : ∀ b o, Own { Γ with ρ := Γ.ρ ++ [c] } { st with nx := st.nx + 1 } b o → Own Γ st b o := fun b o hb => by
                rcases Own.iff.1 hb with hb | ⟨s, j, hh⟩
                · exact .inl hb
                · exact Hold.own (Hold.congr (Γ := Γ) (st := st) (Γ' := { Γ with ρ := Γ.ρ ++ [c] }) (st' := { st with nx := st.nx + 1 }) (fun j mb hj => ⟨⟨mb, hj⟩, rfl⟩) (fun i e hi => ⟨⟨e, hi⟩, hs.vec_at he hi⟩) hh) o
              have hclo := hgrow.addClo (i := st.nx) (e := (f, fs, cs.flatMap S0.cells)) (by
                show (at_ (Γ.ρ ++ [c]) st.nx).loc = .func (.func f) (fs.map (S0.den { Γ with ρ := Γ.ρ ++ [c] })).toArray ((cs.flatMap S0.cells).map (Lf.den { Γ with ρ := Γ.ρ ++ [c] })).toArray
                rw [hat, List.map_congr_left fun s hs' => S0.den_ext he s (hfw s hs'), List.map_congr_left fun l hl => Lf.den_ext he l (hcl l hl).1, ← hcv]
                rfl) (fun s hs' l hl => Lf.ok_anti (S0.ok_ext he (hfw s hs') (hf2 s hs') l hl) hownx) (fun l hl => Lf.ok_anti (Lf.ok_ext he (hcl l hl).1 (hcl l hl).2) hownx)
              rw [hst1] at hclo
              have hput := hclo.put hp (one_ok (by simp only [Lf.ok, hat]; rw [← hcv]; exact ⟨_, rfl, rfl⟩))
              simp only [SV.den, S0.den, Lf.den, hat] at hput
              rw [show c.loc = .func (.func f) (fs.map (S0.den Γ)).toArray ((cs.flatMap S0.cells).map (Lf.den Γ)).toArray by rw [← hcv]; rfl] at hput
              have hlvl : st1.lvl = st.lvl := by rw [← hst1]
              have hvc2 := hvc (.func (.func f) (fs.map (S0.den Γ)).toArray ((cs.flatMap S0.cells).map (Lf.den Γ)).toArray)
              rw [List.map_nil, hcv] at hvc2
              exact hk st' T' { Γ with ρ := Γ.ρ ++ [c] } Ls hk' he (List.prefix_refl _) (by rw [St.put_lvl hp, hlvl]; exact hl) hvc2 _ _ hput
        · cases h
      · cases h
    · rename_i t x y hopeq
      split at h
      · rename_i te tv i e hte hx hy
        have hu := sliceOf_eq hte
        split at h
        · rename_i ve ks hve hkd
          split at h
          · rename_i hcond
            obtain ⟨rfl, hvt, hwf⟩ := hcond
            generalize hst1 : ({ st with nx := st.nx + 1, vec := (st.nx, some (tv, .var st.nx)) :: dropV (some i) st.vec } : St) = st1 at h
            cases hp : st1.put o.dst (some (.one (.lf (.vec tv st.nx)))) with
            | none => simp [hp] at h
            | some st' =>
              cases hk' : k st' with
              | none => simp [hp, hk'] at h
              | some T' =>
                simp [hp, hk'] at h
                subst h
                obtain ⟨hob, hvc'⟩ := VC.obT hvc
                obtain ⟨ob1, ob2⟩ := Obs.app hob
                have g1 := need_ok ob1
                have g2 := need_ok ob2
                rw [B.den_mkCmp hs.num] at g1 g2
                have g1 : (0 : Int) ≤ e.den Γ.ρ := of_decide_eq_true g1
                have g2 : e.den Γ.ρ ≤ ((ve.2.ev Γ.ρ).rows.length : Int) := of_decide_eq_true g2
                obtain ⟨hx1, hx2⟩ := hv.lf (by rw [hopeq]; simp [Op.operands]) hx
                obtain ⟨hy1, hy2⟩ := hv.lf (by rw [hopeq]; simp [Op.operands]) hy
                obtain ⟨v', r1, r2⟩ := hs.cut hwf hkd hu hve hvt g1 g2
                have hrun : (execOp a.eval o).run cx.P w = .ok (.value v') w := by
                  unfold execOp
                  rw [hopeq]
                  simp [hx1, hy1, Lf.den, r1]
                have hrows : ((E.sub3 ve.2 (.lit 0) e 0).ev Γ.ρ).rows ++ (E.nil.ev Γ.ρ).rows = (ve.2.ev Γ.ρ).rows.take (e.den Γ.ρ).toNat := by
                  simp [E.ev, C.rows, E.den, C.int]
                unfold Oper.wp
                rw [hrun]
                rw [hst1] at r2
                have hat : at_ (Γ.ρ ++ [C.s v' ((ve.2.ev Γ.ρ).rows.take (e.den Γ.ρ).toNat)]) st.nx = C.s v' ((ve.2.ev Γ.ρ).rows.take (e.den Γ.ρ).toNat) := by rw [← hs.len]; exact at_app (j := 0) (by simp)
                have hve2 := r2.vec st.nx (tv, .var st.nx) (by rw [← hst1]; simp [look])
                obtain ⟨sa, scap, hsl⟩ := hve2.1.slice
                have hput := r2.put hp (one_ok (by simp only [Lf.ok]; exact ⟨_, _, _, hsl⟩))
                simp only [SV.den, S0.den, Lf.den, hat, C.loc] at hput
                have hlvl : st1.lvl = st.lvl := by rw [← hst1]
                have hvc2 := hvc' v'
                rw [hrows] at hvc2
                exact hk st' T' { Γ with ρ := Γ.ρ ++ [C.s v' ((ve.2.ev Γ.ρ).rows.take (e.den Γ.ρ).toNat)] } Ls hk' ⟨⟨_, rfl⟩, fun _ _ => rfl, Nat.le_refl _, rfl, rfl⟩ (List.prefix_refl _) (by rw [St.put_lvl hp, hlvl]; exact hl) hvc2 _ _ hput
          · cases h
        · cases h
      · cases h
    · rename_i c hopeq
      obtain ⟨callee, cargs, ctypes⟩ := c
      simp only [] at h
      split at h
      · rename_i la lb hargs
        split at h
        · rename_i t t' hct
          split at h
          · rename_i te hte
            have hu := sliceOf_eq hte
            split at h
            · rename_i ks z it hkd hz hit
              split at h
              · rename_i hc
                obtain ⟨rfl, hwf, hby, hzl⟩ := hc
                have hby := Nat.le_of_ble_eq_true hby
                obtain ⟨ha1, ha2⟩ := s0s_ok hv cargs.toList _ hargs (fun x hx => by rw [hopeq]; simp [Op.operands, Call.operands]; simpa using hx)
                obtain ⟨xa, xb, hca⟩ : ∃ xa xb, cargs = #[xa, xb] := by
                  have hlen : cargs.toList.length = 2 := by have := congrArg List.length ha1; simpa using this
                  match hcl : cargs.toList, hlen with
                  | [xa, xb], _ => exact ⟨xa, xb, by rw [← Array.toList_inj, hcl]⟩
                subst hca
                simp [S0.den] at ha1
                obtain ⟨hxa, hxb⟩ := ha1
                have hla : la.ok cx.P w (Own Γ st) Γ := ha2 (.lf la) (by simp) la (by simp [S0.cells])
                have hlb : lb.ok cx.P w (Own Γ st) Γ := ha2 (.lf lb) (by simp) lb (by simp [S0.cells])
                have hcte : ctypes = #[t, t] := by rw [← Array.toList_inj, hct]
                subst hcte
                obtain ⟨it', zv, hit', hzz, hzc⟩ := zeroLf_spec hz Γ
                obtain rfl : it = it' := Option.some.inj (hit.symm.trans hit')
                have hzsize : zv.cells.size = ks.length := by rw [hzc, dens_size]; exact hzl
                have hrun0 : ∀ v' w', (Builtin.append_ #[t, t] o.type #[la.den Γ, lb.den Γ]).run cx.P w = .ok v' w' → (execOp a.eval o).run cx.P w = .ok (.value v') w' := fun v' w' hr => by
                  unfold execOp
                  rw [hopeq]
                  simp only [resolve, invoke, builtin, List.map_toArray, List.map_cons, List.map_nil, hxa, hxb, Sem.run_bind, Sem.run_pure, Result.andThen_ok, hr]
                split at h
                · rename_i i ea tb eb hma hb
                  split at h
                  · rename_i hcc
                    obtain ⟨rfl, hij⟩ := hcc
                    generalize hst1 : ({ st with nx := st.nx + 1, vec := (st.nx, some (tb, .var st.nx)) :: dropV i st.vec } : St) = st1 at h
                    cases hp : st1.put o.dst (some (.one (.lf (.vec tb st.nx)))) with
                    | none => simp [hp] at h
                    | some st' =>
                      cases hk' : k st' with
                      | none => simp [hp, hk'] at h
                      | some T' =>
                        simp [hp, hk'] at h
                        subst h
                        obtain ⟨hob, hvc'⟩ := VC.obT hvc
                        have g := need_ok hob
                        rw [B.den_mkCmp hs.num] at g
                        have g : (((ea.ev Γ.ρ).rows.length : Int) + ((eb.ev Γ.ρ).rows.length : Int)) * (it.bytes : Int) ≤ 140737488355328 := of_decide_eq_true g
                        obtain ⟨hci, hva⟩ := appA_spec hs hkd hma
                        obtain ⟨us, hrb⟩ := appB_spec hs hkd hlb hb
                        obtain ⟨v', w', r1, r2⟩ := hs.append hwf hkd hu hit hzz hzsize hby (ty := o.type) (ci := i) hci hva hrb g
                        unfold Oper.wp
                        rw [hrun0 v' w' r1]
                        rw [hst1] at r2
                        have hat : at_ (Γ.ρ ++ [C.s v' ((ea.ev Γ.ρ).rows ++ (eb.ev Γ.ρ).rows)]) st.nx = C.s v' ((ea.ev Γ.ρ).rows ++ (eb.ev Γ.ρ).rows) := by rw [← hs.len]; exact at_app (j := 0) (by simp)
                        have hve := r2.vec st.nx (tb, .var st.nx) (by rw [← hst1]; simp [look])
                        obtain ⟨sa, scap, hsl⟩ := hve.1.slice
                        have hput := r2.put hp (one_ok (by simp only [Lf.ok]; exact ⟨_, _, _, hsl⟩))
                        simp only [SV.den, S0.den, Lf.den, hat, C.loc] at hput
                        have hlvl : st1.lvl = st.lvl := by rw [← hst1]
                        exact hk st' T' { Γ with ρ := Γ.ρ ++ [C.s v' ((ea.ev Γ.ρ).rows ++ (eb.ev Γ.ρ).rows)] } Ls hk' ⟨⟨_, rfl⟩, fun _ _ => rfl, Nat.le_refl _, rfl, rfl⟩ (List.prefix_refl _) (by rw [St.put_lvl hp, hlvl]; exact hl) (hvc' v') _ _ hput
                  · cases h
                · cases h
              · cases h
            · cases h
          · cases h
        · cases h
      · rename_i f args hargs
        obtain ⟨ha1, ha2⟩ := s0s_ok hv cargs.toList args hargs (fun x hx => by rw [hopeq]; simp [Op.operands, Call.operands]; right; simpa using hx)
        have hmap : cargs.map a.eval = (args.map (S0.den Γ)).toArray := by
          apply Array.ext'
          simp [ha1]
        have hrun : ∀ hc : Callable cx.P f, (execOp a.eval o).run cx.P w = .ok (.enter f (args.map (S0.den Γ)).toArray) w := fun hc => by
          unfold execOp
          rw [hopeq]
          simp only [resolve, Deferred.ofValue, Act.eval, hmap, pure_bind, invoke, Array.empty_append, Array.append_empty, Sem.run_bind, Sem.run_pure, Result.andThen_ok]
          exact run_callFunc' hc _ _
        split at h
        · rename_i g hg
          obtain ⟨hc, hi⟩ := hcx.sel f g hg
          split at h
          · rename_i obs b s1 s2 hgs
            split at h
            · rename_i t e ht he
              cases h
              obtain ⟨hob, hvc'⟩ := VC.obT hvc
              obtain ⟨hp1, hp2, hcall⟩ := hi Γ st.bds args obs b s1 s2 hs.num hgs hob
              have plain : ∀ (s : SV) (w' : World), s.plain = true → s.ok cx.P w' (Own Γ st) Γ := fun s w' hp => SV.plain_ok hp
              unfold Oper.wp
              rw [hrun hc]
              refine (hcall w).mono fun e' w' ⟨he', hb⟩ => ?_
              subst he'
              have h0 := (hs.below hb).learn hob
              by_cases hbd : b.den Γ.ρ = true
              · rw [if_pos hbd]
                cases hp : ((st.learnAll obs).know none b true).put o.dst (some s1) with
                | none => simp [hp] at ht
                | some st' =>
                  simp [hp] at ht
                  exact hk st' t Γ Ls ht (Ext.refl Γ) (List.prefix_refl _) (by rw [St.put_lvl hp]; exact hl) (hvc'.1 hbd) _ _ ((h0.knowB hbd).put hp (plain s1 w' hp1))
              · have hbd' : b.den Γ.ρ = false := by simpa using hbd
                rw [if_neg hbd]
                cases hp : ((st.learnAll obs).know none b false).put o.dst (some s2) with
                | none => simp [hp] at he
                | some st' =>
                  simp [hp] at he
                  exact hk st' e Γ Ls he (Ext.refl Γ) (List.prefix_refl _) (by rw [St.put_lvl hp]; exact hl) (hvc'.2 hbd') _ _ ((h0.knowB hbd').put hp (plain s2 w' hp2))
            · cases h
          · cases h
        · split at h
          · rename_i g hg
            obtain ⟨hc, hi⟩ := hcx.inl f g hg
            split at h
            · rename_i obs s hgs
              cases hp : (st.learnAll obs).put o.dst (some (.one s)) with
              | none => simp [hp] at h
              | some st' =>
                cases hk' : k st' with
                | none => simp [hp, hk'] at h
                | some T' =>
                  simp [hp, hk'] at h
                  subst h
                  obtain ⟨hob, hvc'⟩ := VC.obT hvc
                  obtain ⟨hpl, hcall⟩ := hi Γ st.bds args obs s hs.num hgs hob
                  unfold Oper.wp
                  rw [hrun hc]
                  refine (hcall w).mono fun e w' ⟨he, hb⟩ => ?_
                  subst he
                  have hsok : (SV.one s).ok cx.P w' (Own Γ st) Γ := SV.plain_ok (s := .one s) hpl
                  exact hk st' T' Γ Ls hk' (Ext.refl Γ) (List.prefix_refl _) (by rw [St.put_lvl hp]; exact hl) hvc' _ _ (((hs.below hb).learn hob).put hp hsok)
            · cases h
          · exact callF_sound hcx h hl hvc hs hk ha2 hrun
      · rename_i x args hargs
        obtain ⟨ha1, ha2⟩ := s0s_ok hv cargs.toList args hargs (fun x hx => by rw [hopeq]; simp [Op.operands, Call.operands]; right; simpa using hx)
        have hmap : cargs.map a.eval = (args.map (S0.den Γ)).toArray := by
          apply Array.ext'
          simp [ha1]
        have hxv := hv.slots (.tmp x) (by rw [hopeq]; simp [Op.operands, Call.operands])
        split at h
        · rename_i f ls hl'
          obtain ⟨hf1, hf2⟩ := hxv _ hl'
          refine callF_sound hcx h hl hvc hs hk (fun s hs' => (List.mem_cons.1 hs').elim (fun e => by subst e; exact hf2) (ha2 s)) fun hc => ?_
          unfold execOp
          rw [hopeq]
          simp only [resolve, hf1, SV.den, Deferred.ofValue, hmap, pure_bind, invoke, Array.append_empty, Sem.run_bind, Sem.run_pure, Result.andThen_ok]
          have e : #[Value.agg (dens Γ ls)] ++ (args.map (S0.den Γ)).toArray = (((S0.agg ls) :: args).map (S0.den Γ)).toArray := by simp [S0.den]
          rw [e]
          exact run_callFunc' hc _ _
        · rename_i i hl'
          obtain ⟨hf1, hf2⟩ := hxv _ hl'
          split at h
          · rename_i f fs cs hclo
            obtain ⟨k1, k2, k3⟩ := hs.clo i _ hclo
            refine callF_sound hcx h hl hvc hs hk (fun s hs' => ?_) fun hc => ?_
            · rcases List.mem_append.1 hs' with hs' | hs'
              · rcases List.mem_append.1 hs' with hs' | hs'
                · exact k2 s hs'
                · exact ha2 s hs'
              · obtain ⟨l, hl2, rfl⟩ := List.mem_map.1 hs'
                exact fun y hy => by simp [S0.cells] at hy; subst hy; exact k3 _ hl2
            · unfold execOp
              rw [hopeq]
              simp only [resolve, hf1, SV.den, S0.den, Lf.den, k1, Deferred.ofValue, hmap, pure_bind, invoke, Sem.run_bind, Sem.run_pure, Result.andThen_ok]
              have e : (fs.map (S0.den Γ)).toArray ++ (args.map (S0.den Γ)).toArray ++ (cs.map (Lf.den Γ)).toArray = ((fs ++ args ++ cs.map S0.lf).map (S0.den Γ)).toArray := by simp [S0.den, Function.comp_def]
              rw [e]
              exact run_callFunc' hc _ _
          · cases h
        · rename_i v hl'
          obtain ⟨hf1, hf2⟩ := hxv _ hl'
          split at h
          rotate_left
          · cases h
          rename_i f x1 y1
          split at h
          rotate_left
          · cases h
          rename_i hxy
          simp only [Bool.and_eq_true, Array.isEmpty_iff] at hxy
          obtain ⟨rfl, rfl⟩ := hxy
          refine callF_sound hcx h hl hvc hs hk ha2 fun hc => ?_
          unfold execOp
          rw [hopeq]
          simp only [resolve, hf1, SV.den, S0.den, Lf.den, Deferred.ofValue, hmap, pure_bind, invoke, Array.append_empty, Array.empty_append, Sem.run_bind, Sem.run_pure, Result.andThen_ok]
          exact run_callFunc' hc _ _
        · cases h
      · rename_i recv name hargs
        have hnone : cargs = #[] := by
          have e1 : cargs.toList = [] := by
            cases e2 : cargs.toList with
            | nil => rfl
            | cons x l =>
              rw [e2] at hargs
              simp only [St.s0s] at hargs
              split at hargs <;> cases hargs
          exact Array.toList_inj.1 (by rw [e1])
        split at h
        · rename_i t cs hrl
          split at h
          · rename_i f hm
            split at h
            · rename_i hcs
              rw [Array.isEmpty_iff] at hcs
              subst hcs
              have hr1 : a.eval recv = .iface t (.agg #[]) := (hv.lf (by rw [hopeq]; simp [Op.operands, Call.operands]) hrl).1
              refine callF_sound hcx h hl hvc hs hk (fun s hs' l hl' => ?_) fun hc => ?_
              · rw [List.mem_singleton] at hs'
                subst hs'
                simp [S0.cells] at hl'
              · unfold execOp
                rw [hopeq]
                subst hnone
                have hmt := run_method (w := w) hm (.agg #[]) (cx.P.types.size + 99)
                simp only [resolve, hr1, pure_bind, invoke, Sem.run_bind, Sem.run_pure, Result.andThen_ok]
                simp only [callMethod, Array.map_empty, Array.append_empty, Array.getElem?_eq_getElem, List.size_toArray, List.length_singleton, Nat.lt_add_one, List.getElem_toArray, List.getElem_cons_zero, Sem.run_bind, run_program, Result.andThen_ok, show cx.P.types.size + Made.depth = (cx.P.types.size + 99) + 1 from rfl, hmt]
                exact run_callFunc' hc _ _
            · cases h
          · cases h
        · cases h
      · cases h
    · cases h
theorem Sat.know {P : Program} {Γ : Env} {st : St} {a : Act} {w : World} (hs : Sat P F w0 Γ st a w) {d : Nat} {b : B} {t : Bool} (hd : st.lf (.tmp d) = some (.bool b)) (hb : b.den Γ.ρ = t) : Sat P F w0 Γ (st.know (some d) b t) a w := by
  have hnum : Num (Go.Proofs.Ytbgofenplhdllaa.learn st.nx st.bds b t) Γ.ρ := ⟨learn_ok hs.num.len (by rw [hs.len]; exact Nat.le_refl _) b st.bds t hs.num.bds hb, hs.num.len⟩
  refine hs.slots' (fun x sv hx => ?_) hs.size hs.defers hnum
  replace hx : look (if d < st.nt ∧ d < 1000 then (d, some (SV.one (S0.lf (.bool (.lit t))))) :: st.sl else st.sl) x = some sv := hx
  split at hx
  · simp only [look] at hx
    split at hx
    · rename_i e
      subst e
      cases hx
      have h1 : look st.sl d = some (.one (.lf (.bool b))) := by
        have := St.lf_ev hd
        simp only [St.ev] at this
        split at this
        · exact this
        · cases this
      have h2 := (hs.slots d _ h1).1
      refine ⟨?_, one_ok trivial⟩
      rw [h2]
      simp only [SV.den, S0.den, Lf.den, hb, B.den]
    · exact hs.slots x sv hx
  · exact hs.slots x sv hx
theorem Sat.tmp {P : Program} {Γ : Env} {st : St} {a : Act} {w : World} (hs : Sat P F w0 Γ st a w) {d : Nat} {sv : SV} (h : st.ev (.tmp d) = some sv) : a.tmps.getD d undef = sv.den Γ ∧ sv.ok P w (Own Γ st) Γ := by
  have := (hs.view #[.tmp d]).slots (.tmp d) (by simp) sv h
  exact this
theorem yielded_of {ops : Array Oper} {j d : Nat} {tmps : Array Value} {v : Bool} (hd : (ops[j]?).bind (·.dst) = some d) (hv : tmps.getD d undef = .bool v) : yielded ops tmps j = some v := by
  unfold yielded
  rw [hd]
  simp only [Option.bind_some]
  rw [Array.getD_eq_getD_getElem?] at hv
  cases h : tmps[d]? with
  | none => rw [h] at hv; simp [undef] at hv
  | some x => rw [h] at hv; simp at hv; subst hv; rfl

theorem doOpF_sound (hcx : CxOK cx) {st : St} {o : Oper} {k : St → Option Tree} {T : Tree} (h : doOpF cx st o k = some T) {Γ : Env} {Ls : List (List C → Prop)} (hl : Ls.length = st.lvl) (hvc : VC cx R T Γ.ρ Ls)
    {a : Act} {w : World} (hs : Sat cx.P F w0 Γ st a w) {K : Act → World → Prop} {Q : Exit → Act → World → Prop} (hk : Next cx R F w0 k Γ Ls K) : o.wp cx.P a w K Q := by
  obtain ⟨st', T', Γ', g1, g2, g3, g4, g5⟩ := freezeAll_sound _ st T h Γ Ls hvc hs
  exact doOp_sound hcx g1 (by rw [g3]; exact hl) g4 g5 (hk.mono g2 (List.prefix_refl _))
theorem orF_some {x : Option Tree} {n : Nat} {l : List Nat} {T : Tree} (h : orF x n l = some T) {ρ : List C} {Ls : List (List C → Prop)} (hvc : VC cx R T ρ Ls) : x = some T := by
  unfold orF at h
  split at h
  · exact h
  · cases h; exact hvc.elim
theorem yielded_cst {ops : Array Oper} {j d : Nat} {tmps : Array Value} {v : Value} (hd : (ops[j]?).bind (·.dst) = some d) (hv : tmps.getD d undef = v) (hb : isB v = false) : yielded ops tmps j = none := by
  unfold yielded
  rw [hd]
  simp only [Option.bind_some]
  rw [Array.getD_eq_getD_getElem?] at hv
  cases h : tmps[d]? with
  | none => rfl
  | some x =>
    rw [h] at hv
    simp only [Option.getD_some] at hv
    subst hv
    cases x <;> first | rfl | cases hb
theorem St.skip_put {st st' : St} {ops : Array Oper} {o : Oper} (h : st.skip ops o = some st') : ∃ sv, st.put o.dst sv = some st' ∧ (sv = none ∨ sv = some skV) := by
  unfold St.skip at h
  split at h
  · exact ⟨none, h, .inl rfl⟩
  · split at h
    · exact ⟨some skV, h, .inr rfl⟩
    · exact ⟨none, h, .inl rfl⟩
theorem Sat.skip {P : Program} {F : Nat → Prop} {w0 : World} {Γ : Env} {st st' : St} {a : Act} {w : World} {ops : Array Oper} {o : Oper} (h : Sat P F w0 Γ st a w) (hp : st.skip ops o = some st') : Sat P F w0 Γ st' (a.put o.dst undef) w := by
  obtain ⟨sv, hp, rfl | rfl⟩ := St.skip_put hp
  · exact h.drop hp undef
  · exact h.put hp (fun l hl => by simp only [S0.cells, List.mem_cons, List.not_mem_nil, or_false] at hl; subst hl; trivial)
theorem St.skip_lvl {st st' : St} {ops : Array Oper} {o : Oper} (hp : st.skip ops o = some st') : st'.lvl = st.lvl := by
  obtain ⟨sv, hp, -⟩ := St.skip_put hp
  exact St.put_lvl hp
theorem St.skip_mem {st st' : St} {ops : Array Oper} {o : Oper} (hp : st.skip ops o = some st') : st'.mem = st.mem := by
  obtain ⟨sv, hp, -⟩ := St.skip_put hp
  exact St.put_mem hp
theorem St.skip_nb {st st' : St} {ops : Array Oper} {o : Oper} (hp : st.skip ops o = some st') : st'.nb = st.nb := by
  obtain ⟨sv, hp, -⟩ := St.skip_put hp
  exact St.put_nb hp
theorem clearT_sound {ops : Array Oper} {k : St → Option Tree} {Q : Exit → Act → World → Prop} {o : Oper} {rest : List Oper} {st : St} {T : Tree} (h : clearT cx st o rest k = some T) {Γ : Env} {Ls : List (List C → Prop)} (hl : Ls.length = st.lvl) (hvc : VC cx R T Γ.ρ Ls)
    {a : Act} {w : World} (hs : Sat cx.P F w0 Γ st a w) (hk : Next cx R F w0 k Γ Ls (fun a w => Q .normal a w)) : wpList cx.P ops Q (o :: rest) a w := by
  have hv := hs.view o.op.operands
  unfold clearT at h
  split at h
  rotate_left
  · cases h
  rename_i t x y d o2 hop hg hdst
  split at h
  rotate_left
  · cases h
  rename_i c hop2 hg2 hd2
  split at h
  rotate_left
  · cases h
  rename_i d' t' hcal hargs htys
  split at h
  rotate_left
  · cases h
  rename_i te tv i e hte hx hy
  split at h
  rotate_left
  · cases h
  rename_i ve ks z hve hks hz
  split at h
  rotate_left
  · cases h
  rename_i hcond
  obtain ⟨rfl, rfl, rfl, c1, hwf, hno, c5, c8, hew⟩ := hcond
  generalize hst1 : ({ st with nx := st.nx + 1 + 1, vec := (i, some (tv, .var (st.nx + 1))) :: st.vec } : St) = st1 at h
  cases hp : st1.put (some d') none with
  | none => simp [hp] at h
  | some st' =>
    cases hk' : k st' with
    | none => simp [hp, hk'] at h
    | some T' =>
      simp [hp, hk'] at h
      subst h
      obtain ⟨hob, hvc'⟩ := VC.obT hvc
      obtain ⟨ob1, ob2⟩ := Obs.app hob
      have g1 := need_ok ob1
      have g2 := need_ok ob2
      rw [B.den_mkCmp hs.num] at g1 g2
      have g1 : 0 ≤ e.den Γ.ρ := of_decide_eq_true g1
      have g2 : e.den Γ.ρ ≤ ((ve.2.ev Γ.ρ).rows.length : Int) := of_decide_eq_true g2
      obtain ⟨hx1, -⟩ := hv.lf (by rw [hop]; simp [Op.operands]) hx
      obtain ⟨hy1, -⟩ := hv.lf (by rw [hop]; simp [Op.operands]) hy
      obtain ⟨v', w', hrun, hclr, hsat⟩ := hs.vclear (ty := o2.type) hve hks (sliceOf_eq hte) c1 hwf hno hz c5 c8 g1 g2
      have h1 : (execOp a.eval o).run cx.P w = .ok (.value v') w := by
        unfold execOp
        rw [hop]
        simp only [Lf.den] at hx1 hy1
        simp only [hx1, hy1, Option.map_some, Option.map_none, Sem.run_bind, hrun, Result.andThen_ok, Sem.run_pure]
      unfold wpList
      rw [if_pos (by simp [Region.wanted, hg])]
      refine .inl ?_
      unfold Oper.wp
      rw [h1]
      show wpList cx.P ops Q [o2] (a.put o.dst v') w
      unfold wpList
      rw [if_pos (by simp [Region.wanted, hg2])]
      refine .inl ?_
      have hd : d' < a.tmps.size ∧ d' < 1000 := by
        have hp' : (if d' < st1.nt ∧ d' < 1000 then some ({ st1 with sl := (d', none) :: st1.sl } : St) else none) = some st' := hp
        split at hp'
        · rename_i hlt
          rw [← hst1] at hlt
          exact ⟨by rw [hs.size]; exact hlt.1, hlt.2⟩
        · cases hp'
      have hev : (a.put o.dst v').eval (.tmp d') = v' := by
        rw [hdst]
        show (a.put (some d') v').tmps.getD d' undef = v'
        rw [Act.put_tmps, getD_set hd.1, if_pos rfl]
      have h2 : (execOp (a.put o.dst v').eval o2).run cx.P w = .ok (.value (.tuple #[])) w' := by
        obtain ⟨dst2, op2, type2, pos2, after2, guard2⟩ := o2
        obtain ⟨callee, args, argTypes⟩ := c
        simp only [] at hop2 hcal hargs htys hclr
        have ea : args = #[.tmp d'] := by rw [← Array.toList_inj, hargs]
        have et : argTypes = #[t'] := by rw [← Array.toList_inj, htys]
        subst hop2 hcal ea et
        simp only [execOp, resolve, invoke, List.map_toArray, List.map_cons, List.map_nil, hev, pure_bind, Sem.run_bind, show ∀ ats ty cs args, builtin .clear ats ty cs args = (do pure (.value (← Builtin.clear_ ats ty args))) from fun _ _ _ _ => rfl, hclr, Result.andThen_ok, Sem.run_pure]
      unfold Oper.wp
      rw [h2]
      show wpList cx.P ops Q [] ((a.put o.dst v').put o2.dst (.tuple #[])) w'
      rw [hd2]
      unfold wpList
      rw [hdst]
      rw [hst1] at hsat
      have hdrop := hsat.drop hp v'
      have hext : ∀ ρ1 : List C, ve.2.ev (Γ.ρ ++ ρ1) = ve.2.ev Γ.ρ := fun ρ1 => E.ev_ext _ (hs.wf_vec hwf hve)
      have hextd : ∀ ρ1 : List C, e.den (Γ.ρ ++ ρ1) = e.den Γ.ρ := fun ρ1 => E.den_ext _ (by rw [hs.len]; exact hew)
      have hvc2 := hvc' (.slice none 0 0) (at_ Γ.ρ i).loc
      have hat : ((E.var st.nx).ev (Γ.ρ ++ [C.s (.slice none 0 0) (List.replicate ((E.sub (.len ve.2) e).den Γ.ρ).toNat (cs_ Γ.ρ (adaptL cx.P [] ks z)))])).rows = List.replicate ((E.sub (.len ve.2) e).den Γ.ρ).toNat (cs_ Γ.ρ (adaptL cx.P [] ks z)) := by
        have hat0 : at_ (Γ.ρ ++ [C.s (.slice none 0 0) (List.replicate ((E.sub (.len ve.2) e).den Γ.ρ).toNat (cs_ Γ.ρ (adaptL cx.P [] ks z)))]) st.nx = C.s (.slice none 0 0) (List.replicate ((E.sub (.len ve.2) e).den Γ.ρ).toNat (cs_ Γ.ρ (adaptL cx.P [] ks z))) := by rw [← hs.len]; exact at_app (j := 0) (by simp)
        show (at_ _ st.nx).rows = _
        rw [hat0]
        rfl
      have hsub : ((E.sub3 ve.2 (.lit 0) e 0).ev (Γ.ρ ++ [C.s (.slice none 0 0) (List.replicate ((E.sub (.len ve.2) e).den Γ.ρ).toNat (cs_ Γ.ρ (adaptL cx.P [] ks z)))])).rows = (ve.2.ev Γ.ρ).rows.take (e.den Γ.ρ).toNat := by
        have : ((E.sub3 ve.2 (.lit 0) e 0).ev (Γ.ρ ++ [C.s (.slice none 0 0) (List.replicate ((E.sub (.len ve.2) e).den Γ.ρ).toNat (cs_ Γ.ρ (adaptL cx.P [] ks z)))])).rows = ((ve.2.ev (Γ.ρ ++ [C.s (.slice none 0 0) (List.replicate ((E.sub (.len ve.2) e).den Γ.ρ).toNat (cs_ Γ.ρ (adaptL cx.P [] ks z)))])).rows.take (e.den (Γ.ρ ++ [C.s (.slice none 0 0) (List.replicate ((E.sub (.len ve.2) e).den Γ.ρ).toNat (cs_ Γ.ρ (adaptL cx.P [] ks z)))])).toNat).drop (0 : Int).toNat := rfl
        rw [this, hext, hextd]; rfl
      rw [hat, hsub] at hvc2
      rw [E.den_sub, E.den_len] at hvc2
      refine hk st' T' _ Ls hk' ?_ (List.prefix_refl _) ?_ ?_ _ _ hdrop
      · exact ⟨⟨_, List.append_assoc ..⟩, fun _ _ => rfl, Nat.le_refl _, rfl, rfl⟩
      · rw [St.put_lvl hp, ← hst1]; exact hl
      · exact hvc2
theorem execOps_sound (hcx : CxOK cx) {ops : Array Oper} {k : St → Option Tree} {Q : Exit → Act → World → Prop} : ∀ (l : List Oper) (st : St) (T : Tree), execOps cx ops l st k = some T →
    ∀ (Γ : Env) (Ls : List (List C → Prop)), Ls.length = st.lvl → VC cx R T Γ.ρ Ls → ∀ (a : Act) (w : World), Sat cx.P F w0 Γ st a w → Next cx R F w0 k Γ Ls (fun a w => Q .normal a w) → wpList cx.P ops Q l a w
  | [], st, T, h, Γ, Ls, hl, hvc, a, w, hs, hk => hk st T Γ Ls h (Ext.refl Γ) (List.prefix_refl _) hl hvc a w hs
  | o :: rest, st, T, h, Γ, Ls, hl, hvc, a, w, hs, hk => by
    have step : ∀ (st1 : St) (T1 : Tree), doOpF cx st1 o (fun st => execOps cx ops rest st k) = some T1 → st1.lvl = st.lvl → VC cx R T1 Γ.ρ Ls → Sat cx.P F w0 Γ st1 a w → o.wp cx.P a w (wpList cx.P ops Q rest) Q := fun st1 T1 h1 hl1 hv1 hs1 =>
      doOpF_sound hcx h1 (by rw [hl1]; exact hl) hv1 hs1 fun st' T' Γ' Ls' h' he hp' hl' hv' a' w' hs' => execOps_sound hcx rest st' T' h' Γ' Ls' hl' hv' a' w' hs' (hk.mono he hp')
    have skip : ∀ (st1 st2 : St) (T1 : Tree), st1.skip ops o = some st2 → execOps cx ops rest st2 k = some T1 → st1.lvl = st.lvl → VC cx R T1 Γ.ρ Ls → Sat cx.P F w0 Γ st1 a w → wpList cx.P ops Q rest (a.put o.dst undef) w := fun st1 st2 T1 hp h1 hl1 hv1 hs1 =>
      execOps_sound hcx rest st2 T1 h1 Γ Ls (by rw [St.skip_lvl hp, hl1]; exact hl) hv1 _ w (hs1.skip hp) hk
    unfold execOps at h
    split at h
    · rename_i tc hct
      cases h
      exact clearT_sound hct hl hvc hs hk
    unfold wpList
    split at h
    · rename_i hg
      rw [if_pos (by simp [Region.wanted, hg])]
      exact .inl (step st T (orF_some h hvc) rfl hvc hs)
    · rename_i j want hg
      split at h
      · cases h
      · rename_i d hd
        split at h
        · rename_i v hl'
          have hy := yielded_of hd (hs.tmp (St.lf_ev hl')).1
          have hy' : yielded ops a.tmps j = some v := hy
          split at h
          · rename_i hvw
            rw [if_pos (by simp [Region.wanted, hg, hy', hvw])]
            exact .inl (step st T (orF_some h hvc) rfl hvc hs)
          · rename_i hvw
            rw [if_neg (by simp [Region.wanted, hg, hy', hvw])]
            cases hp : st.skip ops o with
            | none => simp [hp] at h
            | some st2 => simp [hp] at h; exact skip st st2 T hp h rfl hvc hs
        · rename_i b hlit hl'
          have hy := yielded_of hd (hs.tmp (St.lf_ev hl')).1
          split at h
          · rename_i t e ht he
            cases hp : (st.know (some d) b !want).skip ops o with
            | none => simp [hp] at he
            | some st2 =>
              simp [hp] at he
              have hvc' : (b.den Γ.ρ = want → VC cx R t Γ.ρ Ls) ∧ (b.den Γ.ρ = (!want) → VC cx R e Γ.ρ Ls) := by
                cases want <;> simp at h <;> subst h <;> exact ⟨by simpa using (by first | exact hvc.1 | exact hvc.2), by simpa using (by first | exact hvc.2 | exact hvc.1)⟩
              by_cases hb : b.den Γ.ρ = want
              · rw [if_pos (by simp [Region.wanted, hg]; rw [hy]; simp [Lf.den, hb])]
                exact .inl (step (st.know (some d) b want) t ht rfl (hvc'.1 hb) (hs.know hl' hb))
              · have hb' : b.den Γ.ρ = !want := by cases hx : b.den Γ.ρ <;> cases want <;> simp_all
                rw [if_neg (by simp [Region.wanted, hg]; rw [hy]; simp [Lf.den, hb'])]
                exact skip (st.know (some d) b !want) st2 e hp he rfl (hvc'.2 hb') (hs.know hl' hb')
          · cases h
        · rename_i v hl'
          split at h
          · cases h
          · rename_i hb
            have hy := yielded_cst (v := v) hd (hs.tmp (St.lf_ev hl')).1 (by simpa using hb)
            rw [if_neg (by simp [Region.wanted, hg, hy])]
            cases hp : st.skip ops o with
            | none => simp [hp] at h
            | some st2 => simp [hp] at h; exact skip st st2 T hp h rfl hvc hs
        · cases h
end
end Go.Proofs.Ytbgofenplhdllaa
/- The engine, part 11b: regions that draw their order: operations that come in any order, then some one by one. -/
namespace Go.Proofs.Ytbgofenplhdllaa
open Go.RowKit
set_option linter.unusedSimpArgs false
set_option linter.unusedVariables false

def Lk.flatNum : Lk → Bool
  | .int | .bool => true
  | _ => false
/-- An operation that may come in any order. -/
def freeOp (cx : Cx) (o : Oper) : Bool :=
  match o.op with
  | .binOp op t _ _ _ => !((eqNeg op).isSome && (sliceOf cx.P t).isSome)
  | .move _ | .assign _ | .pick .. | .load .. | .convert .. | .index .. | .unOp .. | .fieldAddr .. | .field .. | .indexAddr .. | .build .. | .extract .. | .nilCheck _ => true
  | .call c => match c.callee with
    | .value (.func f) => (cx.sel f).isNone && (((cx.inl f).isSome && (cx.ct f).isNone) || (match cx.ct f with
      | some ct => (cx.inl f).isNone && ct.det && (kindsOf ct.res).all Lk.flatNum && ct.args.all (fun s => !s.isBox) && ct.res.all (fun s => !s.isBox)
      | none => false))
    | .builtin .len | .builtin .max | .builtin .min => true
    | _ => false
  | _ => false
def waits (ops : Array Oper) (i j : Nat) : Bool :=
  match ops[i]? with
  | some o => o.after.any fun e => Region.binds .any e && Nat.beq e.on j
  | none => false
def dstOf (ops : Array Oper) (j : Nat) : Option Tmp := (ops[j]?).bind (·.dst)
/-- The first n operations: each slot is written once, and read only behind its writer. -/
def headOk (ops : Array Oper) (n : Nat) : Bool :=
  (List.range n).all fun i => match ops[i]? with
    | some o => (List.range n).all fun j => match dstOf ops j with
      | some t => (Nat.beq i j || decide (o.dst ≠ some t)) && (!(o.looksAt ops).contains t || (Nat.blt j i && waits ops i j))
      | none => true
    | none => false
/-- Those behind them wait for all of them, and come one by one. -/
def tailOk (ops : Array Oper) (n : Nat) : Bool :=
  decide (n ≤ ops.size) &&
  (Nat.beq n ops.size || (Region.sinkB .any ops n && Region.chainB .any ops n)) &&
  Region.seqB .any ops (ops.size - n) n ((List.replicate n true ++ List.replicate (ops.size - n) false).toArray) &&
  (List.range n).all fun i => match ops[i]? with
    | some o => o.after.all fun e => !Region.binds .any e || Nat.blt e.on i
    | none => false
def headLen (cx : Cx) (ops : Array Oper) : Nat := (ops.toList.takeWhile (freeOp cx)).length
/-- An allocation that may come before or among the free ones. -/
def allocOp (P : Program) (o : Oper) : Bool := (match o.op with | .alloc t => (zeroLf P t).isSome | _ => false) && o.guard.isNone && o.dst.isSome && o.after.isEmpty
def drawLen (cx : Cx) (ops : Array Oper) : Nat := headLen cx ops + ((ops.toList.drop (headLen cx ops)).takeWhile (allocOp cx.P)).length
def drawOk (cx : Cx) (ops : Array Oper) : Bool := headOk ops (drawLen cx ops) && tailOk ops (drawLen cx ops)

section
variable {cx : Cx} {R : List C → Prop} {F : Nat → Prop} {w0 : World}

/-- The blocks that have been made, of those that the allocations make. -/
def madeOf (ob : Nat → Option Nat) (b : Nat) : Prop := ∃ j, ob j = some b
theorem madeOf_none (b : Nat) : ¬ madeOf (fun _ => none) b := fun ⟨_, h⟩ => by cases h
/-- An operation's value, whatever the world of the class and wherever the frame is alike at what it reads. -/
def Quiet (P : Program) (ops : Array Oper) (Cl : (Nat → Option Nat) → World → Prop) (o : Oper) (v : Value) (a : Act) : Prop :=
  (Region.wanted o (yielded ops a.tmps) = true ∧ ∀ a', (∀ x ∈ o.op.operands, a'.eval x = a.eval x) → ∀ ob w, Cl ob w → ∀ K Q, (∀ w', Cl ob w' → K (a'.put o.dst v) w') → o.wp P a' w K Q) ∨
  (Region.wanted o (yielded ops a.tmps) = false ∧ v = undef)

/-- All that is known holds in each world of a class that a call does not leave. -/
structure Cls (P : Program) (F : Nat → Prop) (w0 : World) (Cl : (Nat → Option Nat) → World → Prop) (Γ : Env) (st : St) (a : Act) : Prop where
  sat : ∀ ob w, Cl ob w → Sat P F w0 (Γ.addO (madeOf ob)) st a w
  below : ∀ ob w w', Cl ob w → Below w.heap.size w w' → Cl ob w'
theorem View.congr {P : Program} {Γ : Env} {st : St} {xs : Array Operand} {ρ ρ' : Operand → Value} {w : World} (h : View P Γ st xs ρ w) (he : ∀ x ∈ xs, ρ' x = ρ x) : View P Γ st xs ρ' w :=
  ⟨fun x hx sv hs => by rw [he x hx]; exact h.slots x hx sv hs, h.mem, h.vec, h.clo, h.num⟩

theorem boxKinds_none {ss : List Sh0} (h : ss.all (fun s => !s.isBox) = true) : boxKinds ss = [] := by
  induction ss with
  | nil => rfl
  | cons s ss ih =>
    simp only [List.all_cons, Bool.and_eq_true] at h
    have e : boxKinds (s :: ss) = boxKinds ss := by cases s <;> first | rfl | cases h.1
    rw [e]; exact ih h.2
theorem flatNum_flatK {P : Program} {ks : List Lk} (h : ks.all Lk.flatNum = true) : ks.all (flatK P) = true ∧ ks.all Lk.noArr = true ∧ ks.all Lk.noVec = true := by
  induction ks with
  | nil => exact ⟨rfl, rfl, rfl⟩
  | cons k ks ih =>
    simp only [List.all_cons, Bool.and_eq_true] at h ⊢
    obtain ⟨h1, h2, h3⟩ := ih h.2
    cases k <;> first | exact ⟨⟨rfl, h1⟩, ⟨rfl, h2⟩, ⟨rfl, h3⟩⟩ | cases h.1
theorem clearT_slice {o : Oper} {rest : List Oper} {st : St} {k : St → Option Tree} (h : ∀ t x y u v, o.op ≠ .slice t x y u v) : clearT cx st o rest k = none := by
  unfold clearT
  split
  · rename_i hop _ _; exact absurd hop (h _ _ _ _ _)
  · rfl
theorem clearT_free {o : Oper} {rest : List Oper} {st : St} {k : St → Option Tree} (h : freeOp cx o = true) : clearT cx st o rest k = none :=
  clearT_slice fun t x y u v e => by rw [freeOp, e] at h; cases h
theorem freeOp_freeze {o : Oper} (h : freeOp cx o = true) (st : St) : toFreeze cx st o = [] := by
  unfold freeOp at h
  unfold toFreeze
  cases hop : o.op <;> rw [hop] at h <;> simp only [] at h ⊢ <;> try (first | rfl | cases h)
  · rename_i c
    split at h
    · rename_i f hf
      simp only [hf]
      simp only [Bool.and_eq_true, Bool.or_eq_true] at h
      rcases h.2 with h1 | h1
      · cases hct : cx.ct f with
        | none => rfl
        | some ct => rw [hct] at h1; cases h1.2
      · cases hct : cx.ct f with
        | none => rfl
        | some ct =>
          rw [hct] at h1
          simp only [Bool.and_eq_true] at h1
          simp only []
          rw [if_pos]
          rw [List.all_append, Bool.and_eq_true, boxKinds_none h1.1.2]
          exact ⟨(flatNum_flatK h1.1.1.2).1, rfl⟩
    · rename_i hf; simp only [hf]
    · rename_i hf; simp only [hf]
    · rename_i hf; simp only [hf]
    · cases h
theorem doOp_quiet (hcx : CxOK cx) {ops : Array Oper} {Cl : (Nat → Option Nat) → World → Prop} {w1 : World} (hw1 : Cl (fun _ => none) w1) {st : St} {o : Oper} (hfree : freeOp cx o = true) {k : St → Option Tree} {T : Tree} (h : doOp cx st o k = some T)
    {Γ : Env} {Ls : List (List C → Prop)} (hvc : VC cx R T Γ.ρ Ls) {a : Act} (hcl : Cls cx.P F w0 Cl Γ st a) (hwant : Region.wanted o (yielded ops a.tmps) = true) :
    ∃ v st' T' Γ', k st' = some T' ∧ Ext Γ Γ' ∧ st'.lvl = st.lvl ∧ VC cx R T' Γ'.ρ Ls ∧ Cls cx.P F w0 Cl Γ' st' (a.put o.dst v) ∧ Quiet cx.P ops Cl o v a ∧ st'.mem = st.mem ∧ st'.nb = st.nb := by
  have hs : Sat cx.P F w0 Γ st a w1 := by have := hcl.sat (fun _ => none) w1 hw1; rwa [Env.addO_no madeOf_none] at this
  have hv := hs.view o.op.operands
  unfold doOp at h
  split at h
  · rename_i obs sv hop
    have hval : ∀ a', (∀ x ∈ o.op.operands, a'.eval x = a.eval x) → Obs Γ.ρ obs → ∀ ob w, Cl ob w → ∀ K Q, (∀ w', Cl ob w' → K (a'.put o.dst (sv.den Γ)) w') → o.wp cx.P a' w K Q := fun a' ha' hob ob w hw K Q hK => by
      have hsw := hcl.sat ob w hw
      unfold Oper.wp
      rw [(opVal_ok hop ((hsw.view _).congr ha') hob).1, SV.den_addO]
      exact hK w hw
    have plain : ((st.learnAll obs).put o.dst (some sv)).bind (fun st => (k st).map (obT obs)) = some T → ∃ v st' T' Γ', k st' = some T' ∧ Ext Γ Γ' ∧ st'.lvl = st.lvl ∧ VC cx R T' Γ'.ρ Ls ∧ Cls cx.P F w0 Cl Γ' st' (a.put o.dst v) ∧ Quiet cx.P ops Cl o v a ∧ st'.mem = st.mem ∧ st'.nb = st.nb := fun h => by
      cases hp : (st.learnAll obs).put o.dst (some sv) with
      | none => simp [hp] at h
      | some st' =>
        cases hk' : k st' with
        | none => simp [hp, hk'] at h
        | some T' =>
          simp [hp, hk'] at h
          subst h
          obtain ⟨hob, hvc'⟩ := VC.obT hvc
          refine ⟨sv.den Γ, st', T', Γ, hk', Ext.refl _, by rw [St.put_lvl hp]; rfl, hvc', ⟨fun ob w hw => ?_, hcl.below⟩, .inl ⟨hwant, fun a' ha' => hval a' ha' hob⟩, by rw [St.put_mem hp]; rfl, by rw [St.put_nb hp]; rfl⟩
          have hsw := hcl.sat ob w hw
          have := (hsw.learn hob).put hp (opVal_ok hop (hsw.view _) hob).2
          rwa [SV.den_addO] at this
    split at h
    · rename_i s
      split at h
      · rename_i s' st1 n hn
        cases hp : st1.put o.dst (some (.one s')) with
        | none => simp [hp] at h
        | some st' =>
          cases hk' : k st' with
          | none => simp [hp, hk'] at h
          | some T' =>
            simp [hp, hk'] at h
            subst h
            obtain ⟨hob, hvc'⟩ := VC.obT hvc
            have hvc2 := VC.dfnN hvc'
            obtain ⟨e1, -, e3, -, e5, e6, e7, -⟩ := (hs.learn hob).nils hn (opVal_ok hop hv hob).2
            refine ⟨(SV.one s).den Γ, st', T', { Γ with ρ := Γ.ρ ++ List.replicate n nilC }, hk', e1, by rw [St.put_lvl hp, e5]; rfl, hvc2, ⟨fun ob w hw => ?_, hcl.below⟩, .inl ⟨hwant, fun a' ha' => hval a' ha' hob⟩, by rw [St.put_mem hp, e7]; rfl, by rw [St.put_nb hp, e6]; rfl⟩
            have hsw := hcl.sat ob w hw
            obtain ⟨-, f2, f3, f4, -⟩ := (hsw.learn hob).nils hn (opVal_ok hop (hsw.view _) hob).2
            have := f2.put hp (sv := .one s') f4
            rw [show (SV.one s').den _ = (SV.one s).den (Γ.addO (madeOf ob)) from f3, SV.den_addO] at this
            exact this
      · exact plain h
    · exact plain h
  · split at h
    · rename_i op t x y yt hopeq
      split at h
      · rename_i te ta e l neg hte hx hy hneg
        simp [freeOp, hopeq, hte, hneg] at hfree
      · cases h
    · rename_i t hopeq; simp [freeOp, hopeq] at hfree
    · rename_i t x hopeq; simp [freeOp, hopeq] at hfree
    · rename_i t p x hopeq; simp [freeOp, hopeq] at hfree
    · rename_i t len ps hopeq; simp [freeOp, hopeq] at hfree
    · rename_i t n m hopeq; simp [freeOp, hopeq] at hfree
    · rename_i f first cap hopeq; simp [freeOp, hopeq] at hfree
    · rename_i t x y hopeq; simp [freeOp, hopeq] at hfree
    · rename_i c hopeq
      obtain ⟨callee, cargs, ctypes⟩ := c
      simp only [] at h
      split at h
      · rename_i la lb hargs; simp [freeOp, hopeq] at hfree
      · rename_i f args hargs
        have hmap : ∀ (a' : Act) (ob : Nat → Option Nat) (w : World), (∀ x ∈ o.op.operands, a'.eval x = a.eval x) → Cl ob w → (cargs.map a'.eval = (args.map (S0.den Γ)).toArray) ∧ ∀ s ∈ args, s.ok cx.P w (Own (Γ.addO (madeOf ob)) st) (Γ.addO (madeOf ob)) := fun a' ob w ha' hw => by
          obtain ⟨ha1, ha2⟩ := s0s_ok (((hcl.sat ob w hw).view o.op.operands).congr ha') cargs.toList args hargs (fun x hx => by rw [hopeq]; simp [Op.operands, Call.operands]; right; simpa using hx)
          rw [List.map_congr_left fun x _ => S0.den_addO Γ (madeOf ob) x] at ha1
          exact ⟨by apply Array.ext'; simp [ha1], ha2⟩
        have hrun : ∀ (a' : Act) (ob : Nat → Option Nat) (w : World), (∀ x ∈ o.op.operands, a'.eval x = a.eval x) → Cl ob w → ∀ hc : Callable cx.P f, (execOp a'.eval o).run cx.P w = .ok (.enter f (args.map (S0.den Γ)).toArray) w := fun a' ob w ha' hw hc => by
          unfold execOp
          rw [hopeq]
          simp only [resolve, Deferred.ofValue, Act.eval, (hmap a' ob w ha' hw).1, pure_bind, invoke, Array.empty_append, Array.append_empty, Sem.run_bind, Sem.run_pure, Result.andThen_ok]
          exact run_callFunc' hc _ _
        have hsn : cx.sel f = none := by
          simp only [freeOp, hopeq, Bool.and_eq_true, Option.isNone_iff_eq_none] at hfree
          exact hfree.1
        rw [hsn] at h
        simp only [] at h
        split at h
        · rename_i g hg
          obtain ⟨hc, hi⟩ := hcx.inl f g hg
          split at h
          · rename_i obs s hgs
            cases hp : (st.learnAll obs).put o.dst (some (.one s)) with
            | none => simp [hp] at h
            | some st' =>
              cases hk' : k st' with
              | none => simp [hp, hk'] at h
              | some T' =>
                simp [hp, hk'] at h
                subst h
                obtain ⟨hob, hvc'⟩ := VC.obT hvc
                obtain ⟨hpl, hcall⟩ := hi Γ st.bds args obs s hs.num hgs hob
                have hsok : ∀ ob w, (SV.one s).ok cx.P w (Own (Γ.addO (madeOf ob)) st) (Γ.addO (madeOf ob)) := fun ob w l hl => by
                  have := List.all_eq_true.1 hpl l hl
                  cases l <;> first | trivial | cases this
                refine ⟨(SV.one s).den Γ, st', T', Γ, hk', Ext.refl _, by rw [St.put_lvl hp]; rfl, hvc', ⟨fun ob w hw => ?_, hcl.below⟩, .inl ⟨hwant, fun a' ha' ob w hw K Q hK => ?_⟩, by rw [St.put_mem hp]; rfl, by rw [St.put_nb hp]; rfl⟩
                · have := ((hcl.sat ob w hw).learn hob).put hp (hsok ob w)
                  rwa [SV.den_addO] at this
                unfold Oper.wp
                rw [hrun a' ob w ha' hw hc]
                refine (hcall w).mono fun e w' ⟨he, hb⟩ => ?_
                subst he
                exact hK w' (hcl.below ob w w' hw hb)
          · cases h
        · rename_i hinl
          unfold callF at h
          split at h
          rotate_left
          · rename_i hct
            exfalso
            simp only [freeOp, hopeq, hct, hinl] at hfree
            simp at hfree
          unfold callCt at h
          split at h
          · rename_i ct hct
            obtain ⟨hc, hcok, hdet⟩ := hcx.ct f ct hct
            have hfr : ((ct.det = true ∧ (kindsOf ct.res).all Lk.flatNum = true) ∧ ct.args.all (fun s => !s.isBox) = true) ∧ ct.res.all (fun s => !s.isBox) = true := by
              simp only [freeOp, hopeq, hct, Bool.or_eq_true, Bool.and_eq_true] at hfree
              rcases hfree.2 with h1 | h1
              · rw [hinl] at h1; cases h1.1
              · exact ⟨⟨⟨h1.1.1.1.2, h1.1.1.2⟩, h1.1.2⟩, h1.2⟩
            obtain ⟨⟨hfr0, hab⟩, hrb⟩ := hfr
            obtain ⟨hfK, hfA, hfV⟩ := flatNum_flatK (P := cx.P) hfr0.2
            have hfr : ct.det = true ∧ (kindsOf ct.res).all Lk.noArr = true := ⟨hfr0.1, hfA⟩
            have hvb : ∀ rs, vecB (kindsOf ct.res) rs = [] := fun rs => vecB_noVec hfV
            split at h
            · rename_i hcond
              obtain ⟨hsh, hwf, hbx, -⟩ := hcond
              generalize hargs' : adapts cx.P st.vec ct.args args = args' at *
              obtain ⟨n1, n2, n3, n4⟩ := shapes_noBox hsh hab
              have hcall : st.called ct args' = { st with nx := st.nx + (kindsOf ct.res ++ boxKinds ct.args).length } := by unfold St.called boxMem; rw [freshMem_noBox _ _ _ hrb, n1, freshV_noVec hfV]; rfl
              rw [hcall] at h
              generalize hst1 : ({ st with nx := st.nx + (kindsOf ct.res ++ boxKinds ct.args).length } : St) = st1 at h
              cases hp : st1.put o.dst (some (svOf (freshS st.nb ct.res st.nx))) with
              | none => simp [hp] at h
              | some st' =>
                cases hk' : k st' with
                | none => simp [hp, hk'] at h
                | some T' =>
                  simp [hp, hk'] at h
                  subst h
                  obtain ⟨hob, hvc'⟩ := VC.obT hvc
                  simp only [VC, hct] at hvc'
                  obtain ⟨hpre, hall⟩ := hvc'
                  have hcalls : ∀ ob w, Cl ob w → Calls cx.P f (args.map (S0.den Γ)).toArray w fun e w' => ∃ v rs, e = .returned v ∧ Res cx.P w' (Own (Γ.addO (madeOf ob)) st) w.heap.size ct.res v rs ∧ ct.post (cs_ Γ.ρ (cellsOf st.mem args')) rs ∧ Below w.heap.size w w' := fun ob w hw => by
                    have hsw := hcl.sat ob w hw
                    obtain ⟨hden, hok'⟩ := adapts_spec hsw (O' := OwnM (Γ.addO (madeOf ob)) st) (fun _ _ h => h.own) (shs := ct.args) (fun s hs' l hl' hv i e hi b hb o ho => by
                      rcases ho with ho | ⟨j, ho⟩
                      · exact ((hsw.vec i e hi).2.2 b hb).2 o ho
                      · have := (hsw.inj _ _ _ _ _ ho (Hold.vec (Γ := Γ.addO (madeOf ob)) hi hb)).1; cases this) (hmap a ob w (fun _ _ => rfl) hw).2
                    rw [hargs'] at hden hok'
                    have hnv : (kindsOf ct.args).all Lk.noVec = true := by
                      simp only [boxOk, Bool.and_eq_true] at hbx; exact hbx.2
                    have hr := cells_rep (P := cx.P) (w := w) (Γ := Γ.addO (madeOf ob)) (old := none) hs.num hsh (shapes_okR (Γ := Γ.addO (madeOf ob)) hsh hnv hok').1 (fun b mb hb => absurd hb (n4 b)) hob
                    rw [hden, List.map_congr_left fun x _ => S0.den_addO Γ (madeOf ob) x] at hr
                    refine (hcok (OwnM (Γ.addO (madeOf ob)) st) w _ _ (fun b o hb => hsw.own_lt b o hb.own) hr hpre).mono ?_
                    rintro e w' ⟨v, rs, outs, rfl, hres, houts, hpost, hkeep⟩
                    have ho := outs_noBox hab houts
                    subst ho
                    rw [List.append_nil] at hpost
                    exact ⟨v, rs, rfl, hres.flat hfK, hpost, ⟨hkeep.os, hkeep.tape, hkeep.output, hkeep.size, fun i hi => hkeep.block i ⟨hi, n3 _ i⟩⟩⟩
                  obtain ⟨e, w', fr, ⟨v, rs, -, hres, hpost, -⟩, -⟩ := hcalls (fun _ => none) w1 hw1 []
                  have hty0 : CTy cx.P (kindsOf ct.res) rs := by obtain ⟨vs, -, hr, -⟩ := hres; exact hr.ty
                  have hty : CTy cx.P (kindsOf ct.res ++ boxKinds ct.args) rs := by rw [n2, List.append_nil]; exact hty0
                  have hvc2 := allC_elim hall rs hty hpost
                  have hsm : Smalls (Γ.ρ ++ rs) := hs.num.len.app fun c hc' => hty.small c hc'
                  have hlvl : st1.lvl = st.lvl := by rw [← hst1]
                  have hden : ∀ ob w v, Res cx.P w (Own (Γ.addO (madeOf ob)) st) w.heap.size ct.res v rs → (svOf (freshS st.nb ct.res st.nx)).den { Γ with ρ := Γ.ρ ++ rs } = v := fun ob w v hr =>
                    (svOf_rep (Γ := { Γ with ρ := Γ.ρ ++ rs }) (nb := st.nb) hr (fun vs _ _ b hb => absurd hb (isBox_noBox hrb)) (i := st.nx) (fun j c hj => by rw [← hs.len]; exact at_app hj)).1
                  have hden' : ∀ ob w n v, Res cx.P w (Own (Γ.addO (madeOf ob)) st) n ct.res v rs → (svOf (freshS st.nb ct.res st.nx)).den { Γ with ρ := Γ.ρ ++ rs } = v := fun ob w n v hr =>
                    (svOf_rep (Γ := { Γ with ρ := Γ.ρ ++ rs }) (nb := st.nb) hr (fun vs _ _ b hb => absurd hb (isBox_noBox hrb)) (i := st.nx) (fun j c hj => by rw [← hs.len]; exact at_app hj)).1
                  have hnoarr : ∀ (O : Nat → Nat → Prop) (w : World) (Γ' : Env), (svOf (freshS st.nb ct.res st.nx)).ok cx.P w O Γ' := fun O w Γ' => by
                    have hL : ∀ (ks : List Lk) (i : Nat), ks.all Lk.flatNum = true → ∀ l ∈ freshL ks i, l.ok cx.P w O Γ' := by
                      intro ks
                      induction ks with
                      | nil => intro i _ l hl; cases hl
                      | cons k ks ih =>
                        intro i hk l hl
                        simp only [List.all_cons, Bool.and_eq_true] at hk
                        rcases List.mem_cons.1 hl with rfl | hl
                        · cases k with
                          | int => trivial
                          | bool => trivial
                          | _ => cases hk.1
                        · exact ih _ hk.2 l hl
                    have hS : ∀ (ss : List Sh0) (i : Nat), (kindsOf ss).all Lk.flatNum = true → ∀ s ∈ freshS st.nb ss i, s.ok cx.P w O Γ' := by
                      intro ss
                      induction ss with
                      | nil => intro i _ l hl; cases hl
                      | cons s ss ih =>
                        intro i hk x hx
                        have hk' : s.kinds.all Lk.flatNum = true ∧ (kindsOf ss).all Lk.flatNum = true := by
                          simp only [kindsOf, List.flatMap_cons, List.all_append, Bool.and_eq_true] at hk
                          exact hk
                        rcases List.mem_cons.1 hx with rfl | hx
                        · cases s with
                          | lf k =>
                            intro l hl
                            exact hL [k] i hk'.1 l (by simpa [Sh0.fresh, S0.cells, freshL] using hl)
                          | agg ks => exact hL ks i hk'.1
                          | box t ks => intro l hl; simp [Sh0.fresh, S0.cells] at hl; subst hl; trivial
                        · exact ih _ hk'.2 x hx
                    have := hS ct.res st.nx hfr0.2
                    unfold svOf
                    split
                    · rename_i s hs'
                      exact this s (by rw [hs']; simp)
                    · exact this
                  refine ⟨(svOf (freshS st.nb ct.res st.nx)).den { Γ with ρ := Γ.ρ ++ rs }, st', T', { Γ with ρ := Γ.ρ ++ rs }, hk', ⟨⟨rs, rfl⟩, fun _ _ => rfl, Nat.le_refl _, rfl, rfl⟩, (St.put_lvl hp).trans hlvl, hvc2, ⟨fun ob w hw => ?_, hcl.below⟩, .inl ⟨hwant, fun a' ha' ob w hw K Q hK => ?_⟩, by rw [St.put_mem hp, ← hst1], by rw [St.put_nb hp, ← hst1]⟩
                  · have hgrow := (hcl.sat ob w hw).grow hwf hsm
                    rw [hty.len, hst1] at hgrow
                    have := hgrow.put hp (hnoarr _ w _)
                    rwa [show ({ Γ.addO (madeOf ob) with ρ := (Γ.addO (madeOf ob)).ρ ++ rs } : Env) = ({ Γ with ρ := Γ.ρ ++ rs } : Env).addO (madeOf ob) from rfl, SV.den_addO] at this
                  · unfold Oper.wp
                    rw [hrun a' ob w ha' hw hc]
                    refine (hcalls ob w hw).mono ?_
                    rintro e w' ⟨v', rs', rfl, hres', hpost', hb⟩
                    have e := hdet hfr.1 _ _ _ hpost hpost'
                    subst e
                    rw [← hden' ob w' _ v' hres']
                    exact hK w' (hcl.below ob w w' hw hb)
            · cases h
          · cases h
      · simp [freeOp, hopeq] at hfree
      · simp [freeOp, hopeq] at hfree
      · cases h
    · cases h
theorem Quiet.skip {P : Program} {ops : Array Oper} {Cl : (Nat → Option Nat) → World → Prop} {o : Oper} {a : Act} (h : Region.wanted o (yielded ops a.tmps) = false) : Quiet P ops Cl o undef a := .inr ⟨h, rfl⟩
/-- The frame behind the first operations of a row. -/
def putAll : List Oper → List Value → Act → Act
  | o :: l, v :: vs, a => putAll l vs (a.put o.dst v)
  | _, _, a => a
/-- What each operation of a row yields, one behind the other. -/
def Yield (P : Program) (ops : Array Oper) (Cl : (Nat → Option Nat) → World → Prop) : List Oper → List Value → Act → Prop
  | [], [], _ => True
  | o :: l, v :: vs, a => Quiet P ops Cl o v a ∧ Yield P ops Cl l vs (a.put o.dst v)
  | _, _, _ => False
/-- The free operations, in the text's order: what they yield, and what is known behind them. -/
theorem head_lex (hcx : CxOK cx) {ops : Array Oper} {Cl : (Nat → Option Nat) → World → Prop} {w1 : World} (hw1 : Cl (fun _ => none) w1) {rest : List Oper} {k : St → Option Tree} : ∀ (l : List Oper), (∀ o ∈ l, freeOp cx o = true) → ∀ (st : St) (T : Tree), execOps cx ops (l ++ rest) st k = some T →
    ∀ (Γ : Env) (Ls : List (List C → Prop)), VC cx R T Γ.ρ Ls → ∀ (a : Act), Cls cx.P F w0 Cl Γ st a →
    ∃ vs st' T' Γ', Yield cx.P ops Cl l vs a ∧ execOps cx ops rest st' k = some T' ∧ Ext Γ Γ' ∧ st'.lvl = st.lvl ∧ VC cx R T' Γ'.ρ Ls ∧ Cls cx.P F w0 Cl Γ' st' (putAll l vs a) ∧ st'.mem = st.mem ∧ st'.nb = st.nb
  | [], _, st, T, h, Γ, Ls, hvc, a, hcl => ⟨[], st, T, Γ, trivial, h, Ext.refl _, rfl, hvc, hcl, rfl, rfl⟩
  | o :: l, hf, st, T, h, Γ, Ls, hvc, a, hcl => by
    have hs : Sat cx.P F w0 Γ st a w1 := by have := hcl.sat (fun _ => none) w1 hw1; rwa [Env.addO_no madeOf_none] at this
    have step : ∀ (st1 : St) (T1 : Tree), doOp cx st1 o (fun st => execOps cx ops (l ++ rest) st k) = some T1 → st1.lvl = st.lvl ∧ st1.mem = st.mem ∧ st1.nb = st.nb → VC cx R T1 Γ.ρ Ls → Cls cx.P F w0 Cl Γ st1 a → Region.wanted o (yielded ops a.tmps) = true →
        ∃ vs st' T' Γ', Yield cx.P ops Cl (o :: l) vs a ∧ execOps cx ops rest st' k = some T' ∧ Ext Γ Γ' ∧ st'.lvl = st.lvl ∧ VC cx R T' Γ'.ρ Ls ∧ Cls cx.P F w0 Cl Γ' st' (putAll (o :: l) vs a) ∧ st'.mem = st.mem ∧ st'.nb = st.nb := by
      intro st1 T1 h1 hl hv1 hcl1 hw
      obtain ⟨v, st2, T2, Γ2, g1, g2, g3, g4, g5, g6, g7, g8⟩ := doOp_quiet hcx hw1 (hf o (by simp)) h1 hv1 hcl1 hw
      obtain ⟨vs, st', T', Γ', i1, i2, i3, i4, i5, i6, i7, i8⟩ := head_lex hcx hw1 l (fun x hx => hf x (by simp [hx])) st2 T2 g1 Γ2 Ls g4 _ g5
      exact ⟨v :: vs, st', T', Γ', ⟨g6, i1⟩, i2, g2.trans i3, by rw [i4, g3, hl.1], i5, i6, by rw [i7, g7, hl.2.1], by rw [i8, g8, hl.2.2]⟩
    have skip : ∀ (st1 st2 : St) (T1 : Tree), st1.skip ops o = some st2 → execOps cx ops (l ++ rest) st2 k = some T1 → st1.lvl = st.lvl ∧ st1.mem = st.mem ∧ st1.nb = st.nb → VC cx R T1 Γ.ρ Ls → Cls cx.P F w0 Cl Γ st1 a → Region.wanted o (yielded ops a.tmps) = false →
        ∃ vs st' T' Γ', Yield cx.P ops Cl (o :: l) vs a ∧ execOps cx ops rest st' k = some T' ∧ Ext Γ Γ' ∧ st'.lvl = st.lvl ∧ VC cx R T' Γ'.ρ Ls ∧ Cls cx.P F w0 Cl Γ' st' (putAll (o :: l) vs a) ∧ st'.mem = st.mem ∧ st'.nb = st.nb := by
      intro st1 st2 T1 hp h1 hl hv1 hcl1 hw
      obtain ⟨vs, st', T', Γ', i1, i2, i3, i4, i5, i6, i7, i8⟩ := head_lex hcx hw1 l (fun x hx => hf x (by simp [hx])) st2 T1 h1 Γ Ls hv1 (a.put o.dst undef) ⟨fun ob w hw => (hcl1.sat ob w hw).skip hp, hcl1.below⟩
      exact ⟨undef :: vs, st', T', Γ', ⟨Quiet.skip hw, i1⟩, i2, i3, by rw [i4, St.skip_lvl hp, hl.1], i5, i6, by rw [i7, St.skip_mem hp, hl.2.1], by rw [i8, St.skip_nb hp, hl.2.2]⟩
    have hfz : ∀ st1 k1, doOpF cx st1 o k1 = doOp cx st1 o k1 := fun st1 k1 => by unfold doOpF; rw [freeOp_freeze (hf o (by simp)) st1]; rfl
    rw [List.cons_append] at h
    unfold execOps at h
    rw [clearT_free (hf o (by simp))] at h
    simp only [hfz] at h
    split at h
    · rename_i hg
      exact step st T (orF_some h hvc) ⟨rfl, rfl, rfl⟩ hvc hcl (by simp [Region.wanted, hg])
    · rename_i j want hg
      split at h
      · cases h
      · rename_i d hd
        split at h
        · rename_i v hl
          have hy : yielded ops a.tmps j = some v := yielded_of hd (hs.tmp (St.lf_ev hl)).1
          split at h
          · rename_i hvw
            exact step st T (orF_some h hvc) ⟨rfl, rfl, rfl⟩ hvc hcl (by simp [Region.wanted, hg, hy, hvw])
          · rename_i hvw
            cases hp : st.skip ops o with
            | none => simp [hp] at h
            | some st2 => simp [hp] at h; exact skip st st2 T hp h ⟨rfl, rfl, rfl⟩ hvc hcl (by simp [Region.wanted, hg, hy, hvw])
        · rename_i b hlit hl
          have hy := yielded_of hd (hs.tmp (St.lf_ev hl)).1
          split at h
          · rename_i t e ht he
            cases hp : (st.know (some d) b !want).skip ops o with
            | none => simp [hp] at he
            | some st2 =>
              simp [hp] at he
              have hvc' : (b.den Γ.ρ = want → VC cx R t Γ.ρ Ls) ∧ (b.den Γ.ρ = (!want) → VC cx R e Γ.ρ Ls) := by
                cases want <;> simp at h <;> subst h <;> exact ⟨by simpa using (by first | exact hvc.1 | exact hvc.2), by simpa using (by first | exact hvc.2 | exact hvc.1)⟩
              by_cases hb : b.den Γ.ρ = want
              · exact step (st.know (some d) b want) t ht ⟨rfl, rfl, rfl⟩ (hvc'.1 hb) ⟨fun ob w hw => (hcl.sat ob w hw).know hl hb, hcl.below⟩ (by simp [Region.wanted, hg]; rw [hy]; simp [Lf.den, hb])
              · have hb' : b.den Γ.ρ = !want := by cases hx : b.den Γ.ρ <;> cases want <;> simp_all
                exact skip (st.know (some d) b !want) st2 e hp he ⟨rfl, rfl, rfl⟩ (hvc'.2 hb') ⟨fun ob w hw => (hcl.sat ob w hw).know hl hb', hcl.below⟩ (by simp [Region.wanted, hg]; rw [hy]; simp [Lf.den, hb'])
          · cases h
        · rename_i v hl
          split at h
          · cases h
          · rename_i hb
            have hy := yielded_cst (v := v) hd (hs.tmp (St.lf_ev hl)).1 (by simpa using hb)
            cases hp : st.skip ops o with
            | none => simp [hp] at h
            | some st2 => simp [hp] at h; exact skip st st2 T hp h ⟨rfl, rfl, rfl⟩ hvc hcl (by simp [Region.wanted, hg, hy])
        · cases h
end

/-! In any order -/
section
variable {P : Program} {ops : Array Oper} {Cl : (Nat → Option Nat) → World → Prop}
theorem putAll_defers : ∀ (l : List Oper) (vs : List Value) (a : Act), (putAll l vs a).defers = a.defers
  | [], _, a => by simp [putAll]
  | _ :: _, [], a => by simp [putAll]
  | o :: l, v :: vs, a => by rw [putAll, putAll_defers l vs]; cases o.dst <;> rfl
theorem putAll_size : ∀ (l : List Oper) (vs : List Value) (a : Act), (putAll l vs a).tmps.size = a.tmps.size
  | [], _, a => by simp [putAll]
  | _ :: _, [], a => by simp [putAll]
  | o :: l, v :: vs, a => by rw [putAll, putAll_size l vs]; cases o.dst <;> simp [Act.put]
/-- A slot that no operation of the row writes. -/
theorem putAll_other : ∀ (l : List Oper) (vs : List Value) (a : Act) (t : Nat), (∀ o ∈ l, o.dst ≠ some t) → (putAll l vs a).tmps[t]? = a.tmps[t]?
  | [], _, a, t, _ => by simp [putAll]
  | _ :: _, [], a, t, _ => by simp [putAll]
  | o :: l, v :: vs, a, t, h => by
    rw [putAll, putAll_other l vs _ t (fun x hx => h x (by simp [hx]))]
    have := h o (by simp)
    cases hd : o.dst with
    | none => rfl
    | some d =>
      have hne : d ≠ t := fun e => this (by rw [hd, e])
      simp [Act.put, Array.getElem?_setIfInBounds_ne hne]
/-- What the row's i-th operation wrote. -/
theorem yield_get : ∀ (l : List Oper) (vs : List Value) (a : Act), Yield P ops Cl l vs a → ∀ (i : Nat) (o : Oper), l[i]? = some o → ∃ v, vs[i]? = some v ∧ Quiet P ops Cl o v (putAll (l.take i) (vs.take i) a)
  | o :: l, v :: vs, a, h, 0, o', ho => by cases ho; exact ⟨v, rfl, by simpa [putAll] using h.1⟩
  | o :: l, v :: vs, a, h, i + 1, o', ho => by
    obtain ⟨v', h1, h2⟩ := yield_get l vs _ h.2 i o' (by simpa using ho)
    exact ⟨v', by simpa using h1, by simpa [putAll] using h2⟩
  | [], [], _, _, i, o, ho => by simp at ho
  | [], _ :: _, _, h, _, _, _ => h.elim
  | _ :: _, [], _, h, _, _, _ => h.elim
theorem yield_len : ∀ (l : List Oper) (vs : List Value) (a : Act), Yield P ops Cl l vs a → vs.length = l.length
  | [], [], _, _ => rfl
  | _ :: l, _ :: vs, a, h => by simp [yield_len l vs _ h.2]
  | [], _ :: _, _, h => h.elim
  | _ :: _, [], _, h => h.elim
theorem putAll_split : ∀ (l : List Oper) (vs : List Value) (a : Act) (i : Nat), vs.length = l.length → putAll l vs a = putAll (l.drop i) (vs.drop i) (putAll (l.take i) (vs.take i) a)
  | [], [], a, i, _ => by simp [putAll]
  | o :: l, v :: vs, a, 0, _ => by simp [putAll]
  | o :: l, v :: vs, a, i + 1, h => by simp only [List.drop_succ_cons, List.take_succ_cons, putAll]; exact putAll_split l vs _ i (by simpa using h)
  | [], _ :: _, _, _, h => by simp at h
  | _ :: _, [], _, _, h => by simp at h

theorem countP_set {p q : Nat → Bool} {i : Nat} (hp : p i = true) (hq : q i = false) (hpq : ∀ j, j ≠ i → p j = q j) : ∀ (l : List Nat), l.Nodup → i ∈ l → l.countP p = l.countP q + 1
  | [], _, h => by cases h
  | x :: l, hn, h => by
    simp only [List.nodup_cons] at hn
    by_cases hx : x = i
    · subst hx
      have : l.countP p = l.countP q := List.countP_congr fun j hj => by rw [hpq j fun e => hn.1 (e ▸ hj)]
      simp [List.countP_cons, hp, hq, this]
    · have := countP_set hp hq hpq l hn.2 ((List.mem_cons.1 h).resolve_left fun e => hx e.symm)
      simp [List.countP_cons, hpq x hx, this]
      omega
theorem act_eq {a b : Act} (h1 : a.tmps = b.tmps) (h2 : a.defers = b.defers) : a = b := by cases a; cases b; cases h1; cases h2; rfl
/-- The frame behind all free operations, and those allocations that have come. -/
def endAct (ops : Array Oper) (n : Nat) (vs : List Value) (a0 : Act) (ob : Nat → Option Nat) : Nat → Act
  | 0 => putAll (ops.toList.take n) vs a0
  | k + 1 => match ob (n + k) with
    | none => endAct ops n vs a0 ob k
    | some b => (endAct ops n vs a0 ob k).put (dstOf ops (n + k)) (.pointer (some ⟨b, 0, none⟩))
/-- What holds while the free operations come up: n of them, allocations behind them up to m. -/
structure Head (P : Program) (ops : Array Oper) (Cl : (Nat → Option Nat) → World → Prop) (n m : Nat) (vs : List Value) (a0 : Act) (ob : Nat → Option Nat) (listed : Array Bool) (a : Act) (w : World) : Prop where
  cl : Cl ob w
  inv : HeadInv .any ops m listed
  defers : a.defers = a0.defers
  size : a.tmps.size = a0.tmps.size
  al : ∀ i, n ≤ i → i < m → listed.getD i false = (ob i).isSome
  same : ∀ t, (∀ j, j < m → dstOf ops j = some t → listed.getD j false = true) → a.tmps[t]? = (endAct ops n vs a0 ob (m - n)).tmps[t]?
theorem putD_defers (a : Act) (d : Option Tmp) (v : Value) : (a.put d v).defers = a.defers := by cases d <;> rfl
theorem putD_size (a : Act) (d : Option Tmp) (v : Value) : (a.put d v).tmps.size = a.tmps.size := by cases d <;> simp [Act.put]
theorem putD_other {a : Act} {d : Option Tmp} {v : Value} {t : Nat} (h : d ≠ some t) : (a.put d v).tmps[t]? = a.tmps[t]? := by
  cases d with
  | none => rfl
  | some d =>
    have hne : d ≠ t := fun e => h (by rw [e])
    simp [Act.put, Array.getElem?_setIfInBounds_ne hne]
theorem putD_same {a b : Act} {d : Option Tmp} {v : Value} {t : Nat} (hd : d = some t) (h : a.tmps.size = b.tmps.size) : (a.put d v).tmps[t]? = (b.put d v).tmps[t]? := by
  subst hd
  simp only [Act.put, Array.getElem?_setIfInBounds, if_true, h]
theorem endAct_defers (n : Nat) (vs : List Value) (a0 : Act) (ob : Nat → Option Nat) : ∀ k, (endAct ops n vs a0 ob k).defers = a0.defers
  | 0 => putAll_defers _ _ _
  | k + 1 => by
    rw [endAct]; split
    · exact endAct_defers n vs a0 ob k
    · rw [putD_defers]; exact endAct_defers n vs a0 ob k
theorem endAct_size (n : Nat) (vs : List Value) (a0 : Act) (ob : Nat → Option Nat) : ∀ k, (endAct ops n vs a0 ob k).tmps.size = a0.tmps.size
  | 0 => putAll_size _ _ _
  | k + 1 => by
    rw [endAct]; split
    · exact endAct_size n vs a0 ob k
    · rw [putD_size]; exact endAct_size n vs a0 ob k
theorem endAct_other (n : Nat) (vs : List Value) (a0 : Act) (ob : Nat → Option Nat) {t : Nat} : ∀ k, (∀ j, n ≤ j → j < n + k → dstOf ops j ≠ some t) → (endAct ops n vs a0 ob k).tmps[t]? = (putAll (ops.toList.take n) vs a0).tmps[t]?
  | 0, _ => rfl
  | k + 1, h => by
    rw [endAct]; split
    · exact endAct_other n vs a0 ob k fun j h1 h2 => h j h1 (by omega)
    · rw [putD_other (h (n + k) (by omega) (by omega))]; exact endAct_other n vs a0 ob k fun j h1 h2 => h j h1 (by omega)
def setOb (ob : Nat → Option Nat) (i b : Nat) : Nat → Option Nat := fun j => if j = i then some b else ob j
/-- One allocation more: elsewhere nothing has changed. -/
theorem endAct_set (n : Nat) (vs : List Value) (a0 : Act) (ob : Nat → Option Nat) {i b t : Nat} : ∀ k, dstOf ops i ≠ some t → (endAct ops n vs a0 (setOb ob i b) k).tmps[t]? = (endAct ops n vs a0 ob k).tmps[t]?
  | 0, _ => rfl
  | k + 1, h => by
    by_cases e : n + k = i
    · rw [endAct, show setOb ob i b (n + k) = some b by simp [setOb, e]]
      simp only []
      rw [putD_other (by rw [e]; exact h), endAct_set n vs a0 ob k h, endAct]
      split
      · rfl
      · rw [putD_other (by rw [e]; exact h)]
    · rw [endAct, endAct, show setOb ob i b (n + k) = ob (n + k) by simp [setOb, e]]
      split
      · exact endAct_set n vs a0 ob k h
      · by_cases hd : dstOf ops (n + k) = some t
        · exact putD_same hd (by rw [endAct_size, endAct_size])
        · rw [putD_other hd, putD_other hd]; exact endAct_set n vs a0 ob k h
/-- .. and at its own slot lies the new block. -/
theorem endAct_at (n : Nat) (vs : List Value) (a0 : Act) (ob : Nat → Option Nat) {i b t : Nat} (hd : dstOf ops i = some t) : ∀ k, n ≤ i → i < n + k → (∀ j, n ≤ j → j < n + k → j ≠ i → dstOf ops j ≠ some t) → ∀ a : Act, a.tmps.size = a0.tmps.size →
    (endAct ops n vs a0 (setOb ob i b) k).tmps[t]? = (a.put (some t) (.pointer (some ⟨b, 0, none⟩))).tmps[t]?
  | 0, h1, h2, _, _, _ => by omega
  | k + 1, h1, h2, hu, a, ha => by
    by_cases e : n + k = i
    · rw [endAct, show setOb ob i b (n + k) = some b by simp [setOb, e]]
      simp only []
      rw [show dstOf ops (n + k) = some t by rw [e]; exact hd]
      exact putD_same rfl (by rw [endAct_size, ha])
    · have ih := endAct_at (b := b) n vs a0 ob hd k h1 (by omega) (fun j g1 g2 => hu j g1 (by omega)) a ha
      rw [endAct]; split
      · exact ih
      · rw [putD_other (hu (n + k) (by omega) (by omega) e)]; exact ih

theorem any_order {Q : Exit → Act → World → Prop} {n m : Nat} {a0 : Act} {vs : List Value} (hy : Yield P ops Cl (ops.toList.take n) vs a0) (hh : headOk ops m = true) (ht : tailOk ops m = true) (hnm : n ≤ m)
    (hal : ∀ i, n ≤ i → i < m → ∃ o, ops[i]? = some o ∧ o.guard = none ∧ (∀ a ob w, Cl ob w → ob i = none → ∀ K Q, (∀ w', Cl (setOb ob i w.heap.size) w' → K (a.put o.dst (.pointer (some ⟨w.heap.size, 0, none⟩))) w') → o.wp P a w K Q))
    (hq : ∀ ob w, Cl ob w → (∀ i, n ≤ i → i < m → (ob i).isSome = true) → wpList P ops Q (ops.toList.drop m) (endAct ops n vs a0 ob (m - n)) w) : ∀ (fuel : Nat) (listed : Array Bool) (a : Act) (w : World) (ob : Nat → Option Nat), Head P ops Cl n m vs a0 ob listed a w →
    fuel = (List.range m).countP (fun j => !listed.getD j false) + (ops.size - m) → wpAny P .any ops Q fuel listed a w := by
  simp only [tailOk, Bool.and_eq_true, Bool.or_eq_true, decide_eq_true_eq] at ht
  obtain ⟨⟨⟨hle, hsc⟩, hseq⟩, hback⟩ := ht
  simp only [headOk, List.all_eq_true, List.mem_range] at hh
  simp only [List.all_eq_true, List.mem_range] at hback
  have hvl : vs.length = (ops.toList.take n).length := yield_len _ _ _ hy
  have done : ∀ (listed : Array Bool) (a : Act) (w : World) (ob : Nat → Option Nat), Head P ops Cl n m vs a0 ob listed a w → (List.range m).countP (fun j => !listed.getD j false) = 0 →
      (∀ j, j < m → listed.getD j false = true) ∧ a = endAct ops n vs a0 ob (m - n) ∧ (∀ i, n ≤ i → i < m → (ob i).isSome = true) := by
    intro listed a w ob hH hc
    have hall : ∀ j, j < m → listed.getD j false = true := fun j hj => by
      have := List.countP_eq_zero.1 hc j (List.mem_range.2 hj)
      simpa using this
    have e1 : a.tmps = (endAct ops n vs a0 ob (m - n)).tmps := Array.ext_getElem? fun t => hH.same t fun j hj _ => hall j hj
    have e2 : a.defers = (endAct ops n vs a0 ob (m - n)).defers := by rw [endAct_defers]; exact hH.defers
    exact ⟨hall, act_eq e1 e2, fun i h1 h2 => by rw [← hH.al i h1 h2]; exact hall i h2⟩
  intro fuel
  induction fuel with
  | zero =>
    intro listed a w ob hH hf
    have hn : m = ops.size := by omega
    obtain ⟨hall, haf, hsome⟩ := done listed a w ob hH (by omega)
    subst haf
    refine ⟨?_, ?_⟩
    · cases hr : Region.ready .any ops listed with
      | nil => rfl
      | cons i l =>
        exfalso
        obtain ⟨h1, o, h2, -⟩ := mem_ready.1 (show i ∈ Region.ready .any ops listed by rw [hr]; simp)
        have hi : i < m := by rw [hn]; exact (Array.getElem?_eq_some_iff.1 h2).1
        have := hall i hi
        rw [getD_both h1] at this
        cases this
    · have := hq ob w hH.cl hsome
      rw [List.drop_eq_nil_of_le (by simp [hn])] at this
      exact this
  | succ fuel ih =>
    intro listed a w ob hH hf
    by_cases hc : (List.range m).countP (fun j => !listed.getD j false) = 0
    · obtain ⟨hall, haf, hsome⟩ := done listed a w ob hH hc
      subst haf
      have hl : listed = (List.replicate m true ++ List.replicate (ops.size - m) false).toArray := by
        apply Array.ext
        · simp [hH.inv.size]; omega
        · intro j h1 h2
          have h1' : j < ops.size := by rw [← hH.inv.size]; exact h1
          by_cases hj : j < m
          · have := hall j hj
            simp [h1] at this
            simp [List.getElem_append, hj, this]
          · have := hH.inv.tail j (by omega) h1'
            simp [h1] at this
            simp [List.getElem_append, hj, this]
      subst hl
      have hlen : (ops.toList.drop m).length = ops.size - m := by simp
      have := wpAny_of_seq (P := P) (md := .any) (ops := ops) (Q' := Q) (ops.toList.drop m) m _ _ w (fun j => by simp [List.getElem?_drop]) (by rw [hlen]; exact hseq) (hq ob w hH.cl hsome)
      rw [hlen] at this
      rwa [show fuel + 1 = ops.size - m by omega]
    · have hex : ∃ j, j < m ∧ listed.getD j false = false := by
        obtain ⟨j, hj, hp⟩ := List.countP_pos_iff.1 (Nat.pos_of_ne_zero hc)
        exact ⟨j, List.mem_range.1 hj, by simpa using hp⟩
      obtain ⟨i0, ⟨hi0, hu0⟩, hmin⟩ := exists_least hex
      have hready0 : i0 ∈ Region.ready .any ops listed := by
        have hb := hback i0 hi0
        split at hb
        · rename_i o ho
          refine mem_ready.2 ⟨getD_in (by rw [hH.inv.size]; omega) hu0, o, ho, fun e he hbind => ?_⟩
          have := Array.all_eq_true'.1 hb e he
          simp only [Bool.or_eq_true, hbind, Bool.not_true, Bool.false_eq_true, false_or, Nat.blt_eq] at this
          cases hx : listed.getD e.on false with
          | true => rfl
          | false => have := hmin e.on ⟨by omega, hx⟩; omega
        · cases hb
      refine ⟨fun h0 => (by rw [h0] at hready0; cases hready0), fun i hi => ?_⟩
      have him : i < m := by
        rcases Nat.lt_or_ge i m with h | h
        · exact h
        · exfalso
          rcases hsc with hsc | hsc
          · have := Nat.eq_of_beq_eq_true hsc
            obtain ⟨-, o, ho, -⟩ := mem_ready.1 hi
            have := (Array.getElem?_eq_some_iff.1 ho).1
            omega
          · have hlt : m < ops.size := by
              obtain ⟨-, o, ho, -⟩ := mem_ready.1 hi
              have := (Array.getElem?_eq_some_iff.1 ho).1
              omega
            exact tail_waits hsc.1 hsc.2 hlt hH.inv _ i0 rfl hi0 (getD_in (by rw [hH.inv.size]; omega) hu0) i h hi
      obtain ⟨hun, o, ho, hedges⟩ := mem_ready.1 hi
      have hrow := hh i him
      rw [ho] at hrow
      simp only [List.all_eq_true, List.mem_range] at hrow
      have hdi : dstOf ops i = o.dst := by unfold dstOf; rw [ho]; rfl
      have hcount : fuel = (List.range m).countP (fun j => !(listed.setIfInBounds i true).getD j false) + (ops.size - m) := by
        have := countP_set (p := fun j => !listed.getD j false) (q := fun j => !(listed.setIfInBounds i true).getD j false) (i := i) (by simp [getD_both hun]) (by
          have hi' : i < listed.size := by rw [hH.inv.size]; omega
          simp [hi']) (fun j hj => by rw [getD_set_ne false (Ne.symm hj)]) (List.range m) List.nodup_range (List.mem_range.2 him)
        omega
      have hputd : ∀ v : Value, (a.put o.dst v).defers = a0.defers := fun v => by rw [← hH.defers]; cases o.dst <;> rfl
      have hputs : ∀ v : Value, (a.put o.dst v).tmps.size = a0.tmps.size := fun v => by rw [← hH.size]; cases o.dst <;> simp [Act.put]
      have hother : ∀ (v : Value) (t : Nat), o.dst ≠ some t → (a.put o.dst v).tmps[t]? = a.tmps[t]? := fun v t hdt => by
        cases hod : o.dst with
        | none => rfl
        | some d =>
          have hne : d ≠ t := fun e => hdt (by rw [hod, e])
          simp [Act.put, Array.getElem?_setIfInBounds_ne hne]
      have hback' : ∀ t, o.dst ≠ some t → (∀ j, j < m → dstOf ops j = some t → (listed.setIfInBounds i true).getD j false = true) → ∀ j, j < m → dstOf ops j = some t → listed.getD j false = true := fun t hdt hall j hj hd => by
        have hji : i ≠ j := fun e => hdt (by rw [← hdi, e]; exact hd)
        have := hall j hj hd
        rwa [getD_set_ne false hji] at this
      unfold wpOp
      rw [ho]
      simp only []
      rcases Nat.lt_or_ge i n with hin | hin
      · have hget : (ops.toList.take n)[i]? = some o := by simp [hin, ho]
        obtain ⟨v, hv1, hqv⟩ := yield_get _ _ _ hy i o hget
        have hsplit := putAll_split (ops.toList.take n) vs a0 i hvl
        have hdropdst : ∀ x ∈ (ops.toList.take n).drop i, ∃ j, i ≤ j ∧ j < n ∧ dstOf ops j = x.dst := fun x hx => by
          obtain ⟨q, hm⟩ := List.getElem?_of_mem hx
          rw [List.getElem?_drop, List.getElem?_take] at hm
          split at hm
          · refine ⟨i + q, by omega, by assumption, ?_⟩
            unfold dstOf
            simp at hm
            rw [hm]; rfl
          · cases hm
        have hlook : ∀ t ∈ o.looksAt ops, a.tmps[t]? = (putAll ((ops.toList.take n).take i) (vs.take i) a0).tmps[t]? := fun t htl => by
          have hno : ∀ j, n ≤ j → j < n + (m - n) → dstOf ops j ≠ some t := fun j hj1 hj2 hd => by
            have := hrow j (by omega)
            rw [hd] at this
            simp only [Bool.and_eq_true, Bool.or_eq_true, Bool.not_eq_true', Nat.blt_eq] at this
            rcases this.2 with h4 | h4
            · rw [List.contains_iff_mem.2 htl] at h4; cases h4
            · omega
          rw [hH.same t fun j hj hd => ?_, endAct_other n vs a0 ob _ hno, hsplit, putAll_other _ _ _ _ fun x hx hxd => ?_]
          · obtain ⟨j, h1, h2, h3⟩ := hdropdst x hx
            have := hrow j (by omega)
            rw [h3, hxd] at this
            simp only [Bool.and_eq_true, Bool.or_eq_true, Bool.not_eq_true', Nat.blt_eq] at this
            rcases this.2 with h4 | h4
            · rw [List.contains_iff_mem.2 htl] at h4; cases h4
            · omega
          · have := hrow j hj
            rw [hd] at this
            simp only [Bool.and_eq_true, Bool.or_eq_true, Bool.not_eq_true', Nat.blt_eq] at this
            rcases this.2 with h4 | h4
            · rw [List.contains_iff_mem.2 htl] at h4; cases h4
            · have hw := h4.2
              unfold waits at hw
              rw [ho] at hw
              obtain ⟨e, he, hb⟩ := Array.any_eq_true'.1 hw
              simp only [Bool.and_eq_true] at hb
              have := hedges e he hb.1
              rwa [Nat.eq_of_beq_eq_true hb.2] at this
        have hput : ∀ w', Cl ob w' → wpAny P .any ops Q fuel (listed.setIfInBounds i true) (a.put o.dst v) w' := fun w' hw' => by
          refine ih _ _ w' ob ⟨hw', hH.inv.set hi him, hputd v, hputs v, fun i' h1 h2 => ?_, fun t hall => ?_⟩ hcount
          · rw [getD_set_ne false (by omega)]; exact hH.al i' h1 h2
          · by_cases hdt : o.dst = some t
            · have hno : ∀ j, n ≤ j → j < n + (m - n) → dstOf ops j ≠ some t := fun j hj1 hj2 hd => by
                have := hrow j (by omega)
                rw [hd] at this
                simp only [Bool.and_eq_true, Bool.or_eq_true, decide_eq_true_eq] at this
                rcases this.1 with h6 | h6
                · have := Nat.eq_of_beq_eq_true h6; omega
                · exact h6 hdt
              have h5 : (putAll (ops.toList.take n) vs a0).tmps[t]? = ((putAll ((ops.toList.take n).take i) (vs.take i) a0).put o.dst v).tmps[t]? := by
                have e1 : (ops.toList.take n).drop i = o :: (ops.toList.take n).drop (i + 1) := by
                  rw [List.drop_eq_getElem_cons (by simp; omega)]
                  congr 1
                  have := hget
                  rw [List.getElem?_eq_getElem (by simp; omega)] at this
                  exact Option.some.inj this
                have e2 : vs.drop i = v :: vs.drop (i + 1) := by
                  have hiv : i < vs.length := by rw [hvl]; simp; omega
                  rw [List.drop_eq_getElem_cons hiv]
                  congr 1
                  rw [List.getElem?_eq_getElem hiv] at hv1
                  exact Option.some.inj hv1
                rw [hsplit, e1, e2, putAll]
                refine putAll_other _ _ _ _ fun x hx hxd => ?_
                obtain ⟨q, hm⟩ := List.getElem?_of_mem hx
                rw [List.getElem?_drop, List.getElem?_take] at hm
                split at hm
                · rename_i hlt
                  have := hrow (i + 1 + q) (by omega)
                  have hdj : dstOf ops (i + 1 + q) = some t := by unfold dstOf; simp at hm; rw [hm]; exact hxd
                  rw [hdj] at this
                  simp only [Bool.and_eq_true, Bool.or_eq_true, decide_eq_true_eq] at this
                  rcases this.1 with h6 | h6
                  · have := Nat.eq_of_beq_eq_true h6; omega
                  · exact h6 hdt
                · cases hm
              rw [endAct_other n vs a0 ob _ hno, h5, hdt]
              have hsz : (putAll ((ops.toList.take n).take i) (vs.take i) a0).tmps.size = a.tmps.size := by rw [putAll_size, hH.size]
              simp only [Act.put, Array.getElem?_setIfInBounds, if_true, hsz]
            · rw [hother v t hdt]
              exact hH.same t (hback' t hdt hall)
        have hwant : Region.wanted o (yielded ops a.tmps) = Region.wanted o (yielded ops (putAll ((ops.toList.take n).take i) (vs.take i) a0).tmps) := by
          unfold Region.wanted
          split
          · rfl
          · rename_i j want hg
            have : yielded ops a.tmps j = yielded ops (putAll ((ops.toList.take n).take i) (vs.take i) a0).tmps j := by
              unfold yielded
              cases hd : (ops[j]?).bind (·.dst) with
              | none => rfl
              | some d =>
                simp only [Option.bind_some]
                rw [hlook d (by unfold Oper.looksAt; rw [hg]; simp [hd])]
            rw [this]
        rcases hqv with ⟨h1, h2⟩ | ⟨h1, h2⟩
        · rw [if_pos (by rw [hwant, h1])]
          refine .inl (h2 a (fun x hx => ?_) ob w hH.cl _ Q hput)
          cases x with
          | tmp t =>
            have := hlook t (List.mem_append_left _ (List.mem_filterMap.2 ⟨.tmp t, by simpa using hx, rfl⟩))
            simp only [Act.eval, Array.getD_eq_getD_getElem?, this]
          | _ => rfl
        · rw [if_neg (by rw [hwant, h1]; simp), ← h2]
          exact hput w hH.cl
      · obtain ⟨o', ho', hg, hwp⟩ := hal i hin him
        obtain rfl : o' = o := Option.some.inj (ho'.symm.trans ho)
        have hnone : ob i = none := by
          have := hH.al i hin him
          rw [getD_both hun] at this
          cases hob : ob i with
          | none => rfl
          | some b => rw [hob] at this; cases this
        rw [if_pos (by simp [Region.wanted, hg])]
        refine .inl (hwp a ob w hH.cl hnone _ Q fun w' hw' => ih _ _ w' (setOb ob i w.heap.size) ⟨hw', hH.inv.set hi him, hputd _, hputs _, fun i' h1 h2 => ?_, fun t hall => ?_⟩ hcount)
        · by_cases e : i' = i
          · subst e
            have hi' : i' < listed.size := by rw [hH.inv.size]; omega
            simp [hi', setOb]
          · rw [getD_set_ne false (Ne.symm e), show setOb ob i w.heap.size i' = ob i' by simp [setOb, e]]; exact hH.al i' h1 h2
        · by_cases hdt : o'.dst = some t
          · rw [hdt]
            refine (endAct_at n vs a0 ob (by rw [hdi]; exact hdt) (m - n) hin (by omega) (fun j hj1 hj2 hji hd => ?_) a hH.size).symm
            have := hrow j (by omega)
            rw [hd] at this
            simp only [Bool.and_eq_true, Bool.or_eq_true, decide_eq_true_eq] at this
            rcases this.1 with h6 | h6
            · exact hji (Nat.eq_of_beq_eq_true h6).symm
            · exact h6 hdt
          · rw [hother _ t hdt, hH.same t (hback' t hdt hall), endAct_set n vs a0 ob _ (by rw [hdi]; exact hdt)]
end
end Go.Proofs.Ytbgofenplhdllaa
