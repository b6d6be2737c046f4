/- Texts laid into one: El Em En Ez. -/
import Derived.Test.YtlbgcjpkegpmlaaKnown4
import Derived.Scope
import Derived.Test.YtlbgcjpkegpmlaaProg
/- The engine, part 12: loops; the executor of a code; its soundness. -/
namespace Go.Proofs.Ytlbgcjpkegpmlaa
open Go.RowKit
set_option linter.unusedSimpArgs false
set_option linter.unusedVariables false

/-! Loops -/
/-- The slots that a code writes. -/
def asg : Code → List Nat
  | .region _ ops _ => ops.toList.filterMap (·.dst)
  | .seq a b => asg a ++ asg b
  | .cond _ a b => asg a ++ asg b
  | .block _ c | .loop c | .scope c => asg c
  | _ => []
/-- The cells of a place; is it one cell by itself. -/
def St.cellsAt (st : St) : Pl → Option (Bool × List Lf)
  | .slot d => match look st.sl d with
    | some (.one (.lf l)) => some (true, [l])
    | some (.one (.agg l)) => some (false, l)
    | _ => none
  | .blk b => (look st.mem b).map fun mb => (false, mb.2)
  | .vec i => (look st.vec i).map fun e => (false, [.cnt e.1 e.2])
def St.setAt (st : St) (p : Pl) (one : Bool) (l : List Lf) : St :=
  match p with
  | .slot d => { st with sl := (d, if one then l.head?.map fun x => .one (.lf x) else some (.one (.agg l))) :: st.sl }
  | .blk b => match look st.mem b with
    | some mb => { st with mem := (b, some (mb.1, l)) :: st.mem }
    | none => st
  | .vec i => match l with
    | [.cnt te r] => { st with vec := (i, some (te, r)) :: st.vec }
    | _ => st
/-- Cells made unknown. -/
def hvL : List Lf → Nat → List Lf
  | [], _ => []
  | .cnt te _ :: ls, i => .cnt te (.var i) :: hvL ls (i + 1)
  | l :: ls, i => match l.kind with
    | some k => Lf.ofKind k i :: hvL ls (i + 1)
    | none => l :: hvL ls i
/-- The slices of one's own among them get new variables. -/
def hvV : List Lf → Nat → Vecs
  | [], _ => []
  | .vec te j :: ls, i => (i, some (te, .var i)) :: (j, none) :: hvV ls (i + 1)
  | l :: ls, i => match l.kind with
    | some _ => hvV ls (i + 1)
    | none => hvV ls i
def St.havoc (st : St) : List Pl → St
  | [] => st
  | p :: ps => match st.cellsAt p with
    | some cs => St.havoc { st.setAt p cs.1 (hvL cs.2 st.nx) with nx := st.nx + (cs.2.filter fun l => l.kind.isSome).length, vec := hvV cs.2 st.nx ++ (st.setAt p cs.1 (hvL cs.2 st.nx)).vec } ps
    | none => St.havoc st ps
/-- Slots that are written in a round and of which nothing is known at its head. -/
def St.forget (st : St) (l : List Nat) : St := { st with sl := l.foldl (fun sl d => (d, none) :: sl) st.sl }
/-- Of several places that hold one slice of one's own the first one. -/
def pickPs (st : St) : List Nat → List Nat → List Nat
  | _, [] => []
  | seen, d :: ds => match st.cellsAt (.slot d) with
    | some cs => if (vecsOf cs.2).all fun i => !seen.contains i && (look st.vec i).isSome then d :: pickPs st (vecsOf cs.2 ++ seen) ds else pickPs st seen ds
    | none => pickPs st seen ds
/-- The named slots that a code writes and of which something is known that can be made unknown. -/
def St.places (st : St) (w : List Nat) (seen : List Nat) : List Nat := pickPs st seen ((List.range st.nt).filter fun d => w.contains d && match look st.sl d with
  | some (.one s) => s.cells.all fun l => l.kind.isSome
  | _ => false)
/-- What the cells hold, where they were made unknown (from variable i on); all others are as they were. -/
def backL (vec : Vecs) : Nat → List Lf → List Lf → Option (List Lf)
  | _, [], [] => some []
  | i, l :: ls, m :: ms => match l with
    | .cnt te r => match m with
      | .cnt te' r' => if te = te' ∧ r = .var i then (backL vec (i + 1) ls ms).map (.cnt te r' :: ·) else none
      | _ => none
    | .vec te i' => if i' = i then match m with
      | .vec te' j => match look vec j with
        | some e => if te' = te ∧ e.1 = te then (backL vec (i + 1) ls ms).map (.cnt te (mkJoin j e.2) :: ·) else none
        | none => none
      | _ => none
      else none
    | l => match l.kind with
      | some k => if sameL l (Lf.ofKind k i) && decide (m.kind = some k) && k.noVec then (backL vec (i + 1) ls ms).map (m :: ·) else none
      | none => if sameL l m then backL vec i ls ms else none
  | _, _, _ => none
def backPs (st st' : St) : Nat → List Pl → Option (List Lf)
  | _, [] => some []
  | i, p :: ps => match st.cellsAt p, st'.cellsAt p with
    | some cs, some ds => if cs.1 = ds.1 then match backL st'.vec i cs.2 ds.2 with
        | some a => (backPs st st' (i + a.length) ps).map (a ++ ·)
        | none => none
      else none
    | _, _ => none
/-- Which slice stands at the end for which one at the head. -/
def vmapL : List Lf → List Lf → List (Nat × Nat)
  | .vec _ i :: cs, .vec _ j :: ds => (i, j) :: vmapL cs ds
  | _ :: cs, _ :: ds => vmapL cs ds
  | _, _ => []
def vmapPs (st st' : St) (ps : List Pl) : List (Nat × Nat) := ps.flatMap fun p => match st.cellsAt p, st'.cellsAt p with
  | some cs, some ds => vmapL cs.2 ds.2
  | _, _ => []
def keyOf : List (Nat × Nat) → Nat → Option Nat
  | [], _ => none
  | (k, j) :: l, i => if k = i then some j else keyOf l i
def curOf (vm : List (Nat × Nat)) (i : Nat) : Nat := (keyOf vm i).getD i
/-- All slices of one's own that are known at the head are known at the end, each one by itself. -/
def sameVec (st st' : St) (n : Nat) (ps : List Pl) (vm : List (Nat × Nat)) : Bool :=
  (st.vec.all fun p => match look st.vec p.1 with
    | none => true
    | some e => match look st'.vec (curOf vm p.1) with
      | some e' => Nat.beq e.1 e'.1 && (match keyOf vm p.1 with
        | some _ => Nat.ble n p.1 && decide (e.2 = .var p.1)
        | none => Nat.blt p.1 n && (ps.contains (.vec p.1) || (decide (e.2 = e'.2) && e.2.wf n)))
      | none => false) &&
  (st.vec.all fun p => st.vec.all fun q => Nat.beq p.1 q.1 || !Nat.beq (curOf vm p.1) (curOf vm q.1) || (look st.vec p.1).isNone || (look st.vec q.1).isNone)
def sameClo (st st' : St) (n : Nat) : Bool :=
  st.clo.all fun p => match look st.clo p.1 with
    | none => true
    | some e => match look st'.clo p.1 with
      | some e' => Nat.beq e.1 e'.1 && same0s e.2.1 e'.2.1 && sameLs e.2.2 e'.2.2 && wfC n st.nb p.1 (some e)
      | none => false
/-- All that is known at the head and is not among the places is known, alike, at the end. -/
def sameRest (st st' : St) (n : Nat) (ps : List Pl) : Bool :=
  (st.sl.all fun p => match look st.sl p.1 with
    | none => true
    | some sv => ps.contains (.slot p.1) || match look st'.sl p.1 with
      | some sv' => sameS sv sv'
      | none => false) &&
  (st.mem.all fun p => match look st.mem p.1 with
    | none => true
    | some mb => match look st'.mem p.1 with
      | some mb' => Nat.beq mb.1 mb'.1 && (ps.contains (.blk p.1) || sameLs mb.2 mb'.2)
      | none => false) &&
  sameVec st st' n ps (vmapPs st st' ps) && sameClo st st' n
/-- Of what was not made unknown nothing names the new variables. -/
def headWf (st : St) (n : Nat) (ps : List Pl) : Bool :=
  (st.sl.all fun p => ps.contains (.slot p.1) || match look st.sl p.1 with
    | none => true
    | some sv => sv.wf n st.nb) &&
  (st.mem.all fun p => Nat.blt p.1 st.nb && (ps.contains (.blk p.1) || match look st.mem p.1 with
    | none => true
    | some mb => mb.2.all (Lf.wf n st.nb))) &&
  (ps.all fun p => match st.cellsAt p with
    | some cs => cs.2.all fun l => l.kind.isSome || l.wf n st.nb
    | none => true) &&
  (st.bds.all fun p => Nat.blt p.1 n)
/-- What is not known any more at the end: its places. (For the reader of a tree.) -/
def diffs (st st' : St) (n : Nat) (ps : List Pl) : List Nat :=
  (st.sl.filterMap fun p => match look st.sl p.1 with
    | none => none
    | some sv => if ps.contains (.slot p.1) || (match look st'.sl p.1 with
      | some sv' => sameS sv sv'
      | none => false) then none else some (1000000 + p.1)) ++
  (st.mem.filterMap fun p => match look st.mem p.1 with
    | none => none
    | some mb => if (match look st'.mem p.1 with
      | some mb' => Nat.beq mb.1 mb'.1 && (ps.contains (.blk p.1) || sameLs mb.2 mb'.2)
      | none => false) then none else some (2000000 + p.1)) ++
  (st.vec.filterMap fun p => match look st.vec p.1 with
    | none => none
    | some e => match look st'.vec (curOf (vmapPs st st' ps) p.1) with
      | some e' => if Nat.beq e.1 e'.1 && (match keyOf (vmapPs st st' ps) p.1 with
        | some _ => Nat.ble n p.1 && decide (e.2 = .var p.1)
        | none => Nat.blt p.1 n && (ps.contains (.vec p.1) || (decide (e.2 = e'.2) && e.2.wf n))) then none else some (3000000 + p.1)
      | none => some (3000000 + p.1)) ++
  (if sameVec st st' n ps (vmapPs st st' ps) then [] else [4000000]) ++ (if sameClo st st' n then [] else [5000000]) ++
  (ps.zipIdx.filterMap fun q => match st.cellsAt q.1, st'.cellsAt q.1 with
    | some cs, some ds => if cs.1 = ds.1 && Nat.beq cs.2.length ds.2.length then none else some (6000000 + q.2)
    | _, _ => some (7000000 + q.2))
/-- The places of a loop; what is known before it; what is known at its head. -/
def loopPs (cx : Cx) (c : Code) (st : St) : List Pl :=
  (st.places (asg c) ((cx.hv (st.path * 100000 + (firstReg c).getD 0)).flatMap fun p => match st.cellsAt p with | some cs => vecsOf cs.2 | none => [])).map Pl.slot ++ cx.hv (st.path * 100000 + (firstReg c).getD 0)
def loopSt0 (cx : Cx) (c : Code) (st : St) : St := st.forget ((asg c).filter fun d => !(loopPs cx c st).contains (.slot d))
def loopSt1 (cx : Cx) (c : Code) (st : St) : St := { St.havoc (loopSt0 cx c st) (loopPs cx c st) with lvl := st.lvl + 1 }
/-! Ways that are led into one state -/
def St.newSl : List (Nat × Bool × List Lk) → St → St
  | [], st => st
  | (d, one, ks) :: l, st => St.newSl l { st with sl := (d, if one then (freshL ks st.nx).head?.map fun x => .one (.lf x) else some (.one (.agg (freshL ks st.nx)))) :: st.sl, nx := st.nx + ks.length, vec := freshV ks st.nx ++ st.vec }
/-- What is known where the ways have met. -/
def joinSt1 (j : List (Nat × Bool × List Lk) × List Pl) (ds : List Nat) (st : St) : St := { St.havoc (St.newSl j.1 (st.forget ds)) j.2 with lvl := st.lvl + 1 }
def joinPs (j : List (Nat × Bool × List Lk) × List Pl) : List Pl := j.1.map (fun x => .slot x.1) ++ j.2
def joinKs (j : List (Nat × Bool × List Lk) × List Pl) (st : St) : List Lk := j.1.flatMap (·.2.2) ++ j.2.flatMap fun p => match st.cellsAt p with
  | some cs => cs.2.filterMap Lf.kind
  | none => []
/-- The end of a way. -/
def joinEnd (st st1 : St) (ps : List Pl) (ks : List Lk) (id : Nat) (st' : St) : Option Tree :=
  if sameRest st1 st' st.nx ps && Nat.ble st1.nb st'.nb && Nat.beq st1.nt st'.nt then match backPs st1 st' st.nx ps with
    | some vals => if kindsL vals = some ks then some (obT (rngL st'.bds vals) (.back st.lvl vals)) else some (.fail 61004 [st.path, id])
    | none => some (.fail 61005 [st.path, id])
  else some (.fail 61003 ([st.path, id] ++ diffs st1 st' st.nx ps))
def joinOk (st st1 : St) (ps : List Pl) (ks : List Lk) : Bool :=
  headWf st1 st.nx ps && Nat.beq st1.nx (st.nx + ks.length) && Nat.ble st.nb st1.nb && Nat.beq st1.nt st.nt && decide (st1.bds = st.bds) && Nat.beq st1.lvl (st.lvl + 1)
def dstsOf (ops : Array Oper) : List Nat := ops.toList.filterMap (·.dst)
def joinT (cx : Cx) (id : Nat) (ops : Array Oper) (j : List (Nat × Bool × List Lk) × List Pl) (st : St) (k : St → Option Tree) : Option Tree :=
  if joinOk st (joinSt1 j (dstsOf ops) st) (joinPs j) (joinKs j st) && (Region.noSelect ops && (({ st with lvl := st.lvl + 1 } : St).hide (cx.hv (st.path * 100000 + 50000 + id))).wf) then
    match execAny cx ops true (({ st with lvl := st.lvl + 1 } : St).hide (cx.hv (st.path * 100000 + 50000 + id))) (joinEnd st (joinSt1 j (dstsOf ops) st) (joinPs j) (joinKs j st) id) (3 * ops.size + 8) ops.size (Array.replicate ops.size false) { st with lvl := st.lvl + 1 }, k (joinSt1 j (dstsOf ops) st) with
    | some ws, some t => some (.join (joinKs j st) ws t)
    | _, _ => none
  else some (.fail 61001 [st.path, id])
/-- The number of an if: its first region's. -/
def condKey (st : St) (a b : Code) : Nat := st.path * 100000 + 90000 + ((firstReg a).getD ((firstReg b).getD 0))
def joinK (st st1 : St) (ps : List Pl) (ks : List Lk) (k : Ex → St → Option Tree) (x : Ex) (st' : St) : Option Tree :=
  match x with
  | .nrm => joinEnd st st1 ps ks 90000 st'
  | x => k x st'
def exec (cx : Cx) : Code → St → (Ex → St → Option Tree) → Option Tree
  | .skip, st, k => k .nrm st
  | .label _, st, k => k .nrm st
  | .seq a b, st, k => exec cx a st fun x st => match x with
    | .nrm => exec cx b st k
    | x => k x st
  | .cond c a b, st, k => match st.lf c with
    | some (.bool (.lit t)) => if t then exec cx a st k else exec cx b st k
    | some (.bool e) => match cx.jn (condKey st a b) with
      | none => match exec cx a { st with bds := learn st.nx st.bds e true } k, exec cx b { st with bds := learn st.nx st.bds e false } k with
        | some t, some f => some (.split e t f)
        | _, _ => none
      | some j => if joinOk st (joinSt1 j (asg a ++ asg b) st) (joinPs j) (joinKs j st) then
          match exec cx a { st with lvl := st.lvl + 1, bds := learn st.nx st.bds e true } (joinK st (joinSt1 j (asg a ++ asg b) st) (joinPs j) (joinKs j st) k), exec cx b { st with lvl := st.lvl + 1, bds := learn st.nx st.bds e false } (joinK st (joinSt1 j (asg a ++ asg b) st) (joinPs j) (joinKs j st) k), k .nrm (joinSt1 j (asg a ++ asg b) st) with
          | some t, some f, some r => some (.join (joinKs j st) (.split e t f) r)
          | _, _, _ => none
        else some (.fail 61001 [st.path, condKey st a b])
    | _ => none
  | .block id c, st, k => exec cx c st fun x st => match x with
    | .ext i => if i = id then k .nrm st else k (.ext i) st
    | x => k x st
  | .scope c, st, k => exec cx c st k
  | .exit id, st, k => k (.ext id) st
  | .ret, st, k => k .ret st
  | .region id ops draw, st, k => if !draw || drawOk cx ops then match cx.jn (st.path * 100000 + 50000 + id) with
      | none => execOps cx ops ops.toList st (k .nrm)
      | some j => if joinOk st (joinSt1 j (dstsOf ops) st) (joinPs j) (joinKs j st) then
          match execOps cx ops ops.toList { st with lvl := st.lvl + 1 } (joinEnd st (joinSt1 j (dstsOf ops) st) (joinPs j) (joinKs j st) id), k .nrm (joinSt1 j (dstsOf ops) st) with
          | some ws, some t => some (.join (joinKs j st) ws t)
          | _, _ => none
        else some (.fail 61001 [st.path, id])
    else match cx.jn (st.path * 100000 + 50000 + id) with
    | some j => orF (joinT cx id ops j st (k .nrm)) (51000 + id) [st.path]
    | none => orF (if Region.noSelect ops && (st.hide (cx.hv (st.path * 100000 + 50000 + id))).wf then
      execAny cx ops false (st.hide (cx.hv (st.path * 100000 + 50000 + id))) (k .nrm) (3 * ops.size + 8) ops.size (Array.replicate ops.size false) st
    else none) (50000 + id) [st.path]
  | .loop c, st, k =>
    match backPs (loopSt1 cx c st) (loopSt0 cx c st) st.nx (loopPs cx c st) with
    | none => some (.fail 60001 [st.path, (firstReg c).getD 0])
    | some init => match kindsL init with
      | none => some (.fail 60002 [st.path, (firstReg c).getD 0])
      | some ks =>
        if st.wf && headWf (loopSt1 cx c st) st.nx (loopPs cx c st) && sameRest (loopSt1 cx c st) (loopSt0 cx c st) st.nx (loopPs cx c st) && Nat.beq (loopSt1 cx c st).nx (st.nx + ks.length) && Nat.beq (loopSt1 cx c st).nb st.nb && Nat.beq (loopSt1 cx c st).nt st.nt && decide ((loopSt1 cx c st).bds = st.bds) then
          (exec cx c (loopSt1 cx c st) fun x st' => match x with
            | .nrm => if sameRest (loopSt1 cx c st) st' st.nx (loopPs cx c st) && Nat.ble (loopSt1 cx c st).nb st'.nb && Nat.beq (loopSt1 cx c st).nt st'.nt then match backPs (loopSt1 cx c st) st' st.nx (loopPs cx c st) with
                | some vals => if kindsL vals = some ks then some (obT (rngL st'.bds vals) (.back st.lvl vals)) else some (.fail 60004 [st.path, (firstReg c).getD 0])
                | none => some (.fail 60005 [st.path, (firstReg c).getD 0])
              else some (.fail 60003 ([st.path, (firstReg c).getD 0] ++ diffs (loopSt1 cx c st) st' st.nx (loopPs cx c st)))
            | x => k x st').map fun t => obT (rngL st.bds init) (.loop ks init t)
        else some (.fail 60006 ([st.path, (firstReg c).getD 0] ++ diffs (loopSt1 cx c st) (loopSt0 cx c st) st.nx (loopPs cx c st)))
  | _, _, _ => none

end Go.Proofs.Ytlbgcjpkegpmlaa
/- The engine, part 13: a loop's head comes again. -/
namespace Go.Proofs.Ytlbgcjpkegpmlaa
open Go.RowKit
set_option linter.unusedSimpArgs false
set_option linter.unusedVariables false

theorem look_forget {α : Type} : ∀ (l : List Nat) (sl : List (Nat × Option α)) (t : Nat) (v : α), look (l.foldl (fun sl d => (d, none) :: sl) sl) t = some v → look sl t = some v
  | [], _, _, _, h => h
  | d :: l, sl, t, v, h => by
    have := look_forget l _ t v h
    simp only [look] at this
    split at this
    · cases this
    · exact this
theorem Sat.forget {P : Program} {F : Nat → Prop} {w0 : World} {Γ : Env} {st : St} {a : Act} {w : World} (h : Sat P F w0 Γ st a w) (l : List Nat) : Sat P F w0 Γ (st.forget l) a w :=
  h.slots' (fun t sv hs => h.slots t sv (look_forget l _ t sv hs)) h.size h.defers h.num

theorem look_mem {α : Type} : ∀ {l : List (Nat × Option α)} {t : Nat} {v : α}, look l t = some v → ∃ p ∈ l, p.1 = t
  | [], _, _, h => by cases h
  | (k, u) :: l, t, v, h => by
    simp only [look] at h
    split at h
    · rename_i e; exact ⟨(k, u), by simp, e⟩
    · obtain ⟨p, hp, e⟩ := look_mem h; exact ⟨p, by simp [hp], e⟩

/-- Cells that were made unknown hold what their variables stand for. -/
theorem backL_spec {P : Program} {w : World} {O O' : Nat → Nat → Prop} {vec : Vecs} {Γ Γ0 Γ' : Env} (hvec : ∀ j e, look vec j = some e → VecOK P w O e.1 (at_ Γ.ρ j).loc (e.2.ev Γ.ρ)) (h0 : Ext Γ0 Γ) (h0' : Ext Γ0 Γ') (hO : ∀ b o, O' b o → O b o) : ∀ {cs ds vs : List Lf} {i : Nat}, backL vec i cs ds = some vs →
    (∀ l ∈ ds, l.ok P w O Γ) → (∀ l ∈ cs, (l.kind.isSome || l.wf Γ0.ρ.length Γ0.nb) = true) → (∀ j v, vs[j]? = some v → at_ Γ'.ρ (i + j) = v.c Γ.ρ) →
    cs.map (Lf.den Γ') = ds.map (Lf.den Γ) ∧ (∀ l ∈ cs, l.ok P w O' Γ') ∧ (∀ i' j', (i', j') ∈ vmapL cs ds → ∃ e, look vec j' = some e ∧ at_ Γ'.ρ i' = (mkJoin j' e.2).ev Γ.ρ) ∧
      (∀ (x : Nat) te r te' r', cs[x]? = some (.cnt te r) → ds[x]? = some (.cnt te' r') → te = te' ∧ r.ev Γ'.ρ = r'.ev Γ.ρ)
  | [], [], vs, i, h, _, _, _ => ⟨rfl, fun l hl => (by cases hl), fun i' j' hm => (by cases hm), fun x _ _ _ _ e => (by simp at e)⟩
  | l :: cs, m :: ds, vs, i, h, ho, hw, hv => by
    have step : ∀ {vs' : List Lf} {i1 : Nat}, backL vec i1 cs ds = some vs' → (∀ j v, vs'[j]? = some v → at_ Γ'.ρ (i1 + j) = v.c Γ.ρ) → l.den Γ' = m.den Γ → l.ok P w O' Γ' → (∀ te i' te' j', l = .vec te i' → m = .vec te' j' → ∃ e, look vec j' = some e ∧ at_ Γ'.ρ i' = (mkJoin j' e.2).ev Γ.ρ) → (∀ te r te' r', l = .cnt te r → m = .cnt te' r' → te = te' ∧ r.ev Γ'.ρ = r'.ev Γ.ρ) →
        (l :: cs).map (Lf.den Γ') = (m :: ds).map (Lf.den Γ) ∧ (∀ x ∈ l :: cs, x.ok P w O' Γ') ∧ (∀ i' j', (i', j') ∈ vmapL (l :: cs) (m :: ds) → ∃ e, look vec j' = some e ∧ at_ Γ'.ρ i' = (mkJoin j' e.2).ev Γ.ρ) ∧
          (∀ (x : Nat) te r te' r', (l :: cs)[x]? = some (.cnt te r) → (m :: ds)[x]? = some (.cnt te' r') → te = te' ∧ r.ev Γ'.ρ = r'.ev Γ.ρ) := by
      intro vs' i1 hb hv' hd hok hvm hcn
      obtain ⟨h1, h2, h3, h4⟩ := backL_spec hvec h0 h0' hO hb (fun x hx => ho x (by simp [hx])) (fun x hx => hw x (by simp [hx])) hv'
      refine ⟨by simp [hd, h1], fun x hx => ?_, fun i' j' hm => ?_, fun x te r te' r' hx hy => ?_⟩
      · rcases List.mem_cons.1 hx with rfl | hx
        · exact hok
        · exact h2 x hx
      · have hcase : (∃ te te', l = .vec te i' ∧ m = .vec te' j') ∨ (i', j') ∈ vmapL cs ds := by
          cases l <;> cases m <;> first
            | exact .inr hm
            | (simp only [vmapL, List.mem_cons, Prod.mk.injEq] at hm
               rcases hm with ⟨rfl, rfl⟩ | hm
               · exact .inl ⟨_, _, rfl, rfl⟩
               · exact .inr hm)
        rcases hcase with ⟨te, te', e1, e2⟩ | hm
        · exact hvm te i' te' j' e1 e2
        · exact h3 i' j' hm
      · cases x with
        | zero => simp at hx hy; exact hcn te r te' r' hx hy
        | succ x => exact h4 x te r te' r' (by simpa using hx) (by simpa using hy)
    have tail : ∀ {vs' : List Lf} {x : Lf}, vs = x :: vs' → (∀ j v, vs'[j]? = some v → at_ Γ'.ρ (i + 1 + j) = v.c Γ.ρ) ∧ at_ Γ'.ρ i = x.c Γ.ρ := fun {vs' x} e => by
      subst e
      exact ⟨fun j v hj => by have := hv (j + 1) v (by simpa using hj); rwa [show i + 1 + j = i + (j + 1) by omega], hv 0 x (by simp)⟩
    simp only [backL] at h
    split at h
    · rename_i te r
      split at h
      · rename_i te' r'
        split at h
        · rename_i hc
          obtain ⟨rfl, rfl⟩ := hc
          cases hb : backL vec (i + 1) cs ds with
          | none => simp [hb] at h
          | some vs' =>
            simp [hb] at h
            obtain ⟨t1, t2⟩ := tail h.symm
            have hev : (E.var i).ev Γ'.ρ = r'.ev Γ.ρ := t2
            have hmo := ho (.cnt te r') (by simp)
            refine step hb t1 (by simp only [Lf.den, hev]) (by simp only [Lf.ok, hev]; exact hmo) (fun _ _ _ _ e => (by cases e)) (fun te1 r1 te2 r2 e1 e2 => ?_)
            cases e1; cases e2; exact ⟨rfl, hev⟩
        · cases h
      · cases h
    · rename_i te i'
      split at h
      · rename_i e1
        subst e1
        split at h
        · rename_i te' j
          split at h
          · rename_i e he
            split at h
            · rename_i hc
              obtain ⟨rfl, hc2⟩ := hc
              cases hb : backL vec (i' + 1) cs ds with
              | none => simp [hb] at h
              | some vs' =>
                simp [hb] at h
                obtain ⟨t1, t2⟩ := tail h.symm
                simp only [Lf.c] at t2
                have hve := hvec j e he
                have hj := mkJoin_ev hve
                have hl : (at_ Γ'.ρ i').loc = (at_ Γ.ρ j).loc := by rw [t2, hj]; rfl
                obtain ⟨a, cap, hs⟩ := hve.slice
                refine step hb t1 (by simp only [Lf.den, hl]) ⟨a, _, cap, hl.trans hs⟩ (fun te1 i1 te2 j2 e1 e2 => ?_) (fun _ _ _ _ e => (by cases e))
                cases e1; cases e2; exact ⟨e, he, t2⟩
            · cases h
          · cases h
        · cases h
      · cases h
    · rename_i hn1 hn2
      split at h
      · rename_i k hk
        split at h
        · rename_i hc
          simp only [Bool.and_eq_true, decide_eq_true_eq] at hc
          obtain ⟨⟨c1, c2⟩, c3⟩ := hc
          cases hb : backL vec (i + 1) cs ds with
          | none => simp [hb] at h
          | some vs' =>
            simp [hb] at h
            obtain ⟨t1, t2⟩ := tail h.symm
            have hl := sameL_eq c1
            have hmo := ho m (by simp)
            have key : l.den Γ' = m.den Γ ∧ l.ok P w O' Γ' := by
              subst hl
              cases m with
              | int e => cases c2; exact ⟨by simp [Lf.ofKind, Lf.den, E.den_var, t2, Lf.c, C.int], trivial⟩
              | bool e => cases c2; exact ⟨by simp [Lf.ofKind, Lf.den, B.den, E.ev, t2, Lf.c, C.bool], trivial⟩
              | arr t e =>
                cases c2
                refine ⟨by simp [Lf.ofKind, Lf.den, E.ev, t2, Lf.c], ?_⟩
                simp only [Lf.ofKind, Lf.ok, E.ev, t2, Lf.c]
                exact ArrOK.anti hmo hO
              | vec t j => cases c2; cases c3
              | cnt t j => cases c2; cases c3
              | _ => cases c2
            exact step hb t1 key.1 key.2 (fun te i' _ _ e _ => absurd e (hn2 te i')) (fun te r _ _ e _ => absurd e (hn1 te r))
        · cases h
      · rename_i hk
        split at h
        · rename_i hs
          have e := sameL_eq hs
          subst e
          have hwl := hw l (by simp)
          rw [hk] at hwl
          simp only [Option.isSome_none, Bool.false_or] at hwl
          have hd : l.den Γ' = l.den Γ := by rw [Lf.den_ext h0' l hwl, Lf.den_ext h0 l hwl]
          exact step h hv hd (Lf.ok_anti (Lf.ok_ext h0' hwl (Lf.ok_unext h0 hwl (ho _ (by simp)))) hO) (fun te i' _ _ e _ => absurd e (hn2 te i')) (fun te r _ _ e _ => absurd e (hn1 te r))
        · cases h
  | [], _ :: _, _, _, h, _, _, _ => by cases h
  | _ :: _, [], _, _, h, _, _, _ => by cases h
theorem backPs_spec {st st' : St} : ∀ {ps : List Pl} {i : Nat} {vals : List Lf}, backPs st st' i ps = some vals → ∀ p ∈ ps, ∃ f cs ds j vs, st.cellsAt p = some (f, cs) ∧ st'.cellsAt p = some (f, ds) ∧
    backL st'.vec (i + j) cs ds = some vs ∧ ∀ (x : Nat) v, vs[x]? = some v → vals[j + x]? = some v
  | [], _, _, _, p, hp => by cases hp
  | q :: ps, i, vals, h, p, hp => by
    simp only [backPs] at h
    split at h
    · rename_i cs ds h1 h2
      split at h
      · rename_i hf
        split at h
        · rename_i a ha
          cases hb : backPs st st' (i + a.length) ps with
          | none => simp [hb] at h
          | some b =>
            simp [hb] at h
            subst h
            rcases List.mem_cons.1 hp with rfl | hp
            · refine ⟨cs.1, cs.2, ds.2, 0, a, h1, by rw [h2, hf], by simpa using ha, fun x v hx => ?_⟩
              have : x < a.length := by
                rcases Nat.lt_or_ge x a.length with h' | h'
                · exact h'
                · rw [List.getElem?_eq_none h'] at hx; cases hx
              rw [Nat.zero_add, List.getElem?_append_left this]; exact hx
            · obtain ⟨f, cs', ds', j, vs, e1, e2, e3, e4⟩ := backPs_spec hb p hp
              refine ⟨f, cs', ds', a.length + j, vs, e1, e2, by rwa [Nat.add_assoc] at e3, fun x v hx => ?_⟩
              rw [List.getElem?_append_right (by omega)]
              have := e4 x v hx
              rwa [show a.length + j + x - a.length = j + x by omega]
        · cases h
      · cases h
    · cases h
theorem mkJoin_ty {P : Program} {w : World} {O : Nat → Nat → Prop} {ρ : List C} {te : TypeId} {i : Nat} {r : E} (h : VecOK P w O te (at_ ρ i).loc (r.ev ρ)) : ∃ v rows d, (mkJoin i r).ev ρ = .s v rows ∧ TyN P d te rows ∧ ∀ n, (C.s v rows).small n := by
  obtain ⟨v', rows, d, e, ht⟩ := h.tyN
  have hs := h.small
  rw [mkJoin_ev h]
  have hr : (r.ev ρ).rows = rows := by rw [e]; rfl
  rw [hr]
  exact ⟨_, _, d, rfl, ht, C.small_rows (.inl hs) (by rw [hr]; exact Nat.le_refl _) (fun x hx => by rw [hr]; exact hx) _⟩
theorem backL_kinds {P : Program} {w : World} {O : Nat → Nat → Prop} {vec : Vecs} {Γ : Env} (hvec : ∀ j e, look vec j = some e → VecOK P w O e.1 (at_ Γ.ρ j).loc (e.2.ev Γ.ρ)) : ∀ {cs ds vs : List Lf} {i : Nat}, backL vec i cs ds = some vs → (∀ l ∈ ds, l.ok P w O Γ) → ∀ l ∈ vs, l.ok P w O Γ ∧ l.isVec = false
  | [], [], vs, i, h, _ => by simp [backL] at h; subst h; exact fun l hl => by cases hl
  | l :: cs, m :: ds, vs, i, h, ho => by
    have step : ∀ {vs' : List Lf} {i1 : Nat} {x : Lf}, backL vec i1 cs ds = some vs' → vs = x :: vs' → x.ok P w O Γ → x.isVec = false → ∀ l ∈ vs, l.ok P w O Γ ∧ l.isVec = false := by
      intro vs' i1 x hb e h1 h2 y hy
      subst e
      rcases List.mem_cons.1 hy with rfl | hy
      · exact ⟨h1, h2⟩
      · exact backL_kinds hvec hb (fun x hx => ho x (by simp [hx])) y hy
    simp only [backL] at h
    split at h
    · split at h
      · rename_i te' r'
        split at h
        · cases hb : backL vec (i + 1) cs ds with
          | none => simp [hb] at h
          | some vs' => simp [hb] at h; exact step hb h.symm (by have := ho (.cnt te' r') (by simp); rename_i hc; rw [hc.1]; exact this) rfl
        · cases h
      · cases h
    · split at h
      · split at h
        · rename_i te' j
          split at h
          · rename_i e he
            split at h
            · rename_i hc
              cases hb : backL vec (i + 1) cs ds with
              | none => simp [hb] at h
              | some vs' =>
                simp [hb] at h
                refine step hb h.symm ?_ rfl
                have := mkJoin_ty (hvec j e he)
                rw [hc.2] at this
                exact this
            · cases h
          · cases h
        · cases h
      · cases h
    · split at h
      · split at h
        · rename_i hc
          simp only [Bool.and_eq_true, decide_eq_true_eq] at hc
          cases hb : backL vec (i + 1) cs ds with
          | none => simp [hb] at h
          | some vs' =>
            simp [hb] at h
            refine step hb h.symm (ho m (by simp)) ?_
            have h2 := hc.1.2
            have h3 := hc.2
            cases m with
            | vec t j => cases h2; cases h3
            | _ => rfl
        · cases h
      · split at h
        · exact backL_kinds hvec h (fun x hx => ho x (by simp [hx]))
        · cases h
  | [], _ :: _, _, _, h, _ => by cases h
  | _ :: _, [], _, _, h, _ => by cases h
theorem Sat.cellsAt_ok {P : Program} {F : Nat → Prop} {w0 : World} {Γ : Env} {st : St} {a : Act} {w : World} (h : Sat P F w0 Γ st a w) {p : Pl} {f : Bool} {cs : List Lf} (hc : st.cellsAt p = some (f, cs)) : ∀ l ∈ cs, l.ok P w (Own Γ st) Γ := by
  cases p with
  | slot d =>
    simp only [St.cellsAt] at hc
    split at hc
    · rename_i l hl
      cases hc
      have := (h.slots d _ hl).2
      exact fun x hx => this x (by simpa [S0.cells] using hx)
    · rename_i l hl
      cases hc
      exact (h.slots d _ hl).2
    · cases hc
  | blk b =>
    simp only [St.cellsAt, Option.map_eq_some_iff] at hc
    obtain ⟨mb, hm, e⟩ := hc
    cases e
    exact (h.mem b mb hm).2.1
  | vec i =>
    simp only [St.cellsAt, Option.map_eq_some_iff] at hc
    obtain ⟨e, hm, e'⟩ := hc
    cases e'
    intro l hl
    simp at hl
    subst hl
    obtain ⟨v, rows, d, e1, ht⟩ := (h.vec i e hm).1.tyN
    have hs := (h.vec i e hm).1.small
    simp only [Lf.ok]
    rw [e1] at hs ⊢
    exact ⟨v, rows, d, rfl, ht, hs⟩
theorem backPs_ok {P : Program} {F : Nat → Prop} {w0 : World} {Γ : Env} {st st' : St} {a : Act} {w : World} (h : Sat P F w0 Γ st' a w) : ∀ {ps : List Pl} {i : Nat} {vals : List Lf}, backPs st st' i ps = some vals →
    ∀ l ∈ vals, l.ok P w (Own Γ st') Γ ∧ l.isVec = false
  | [], _, vals, hb => by simp [backPs] at hb; subst hb; exact fun l hl => by cases hl
  | q :: ps, i, vals, hb => by
    simp only [backPs] at hb
    split at hb
    · rename_i cs ds h1 h2
      split at hb
      · split at hb
        · rename_i x hx
          cases hb2 : backPs st st' (i + x.length) ps with
          | none => simp [hb2] at hb
          | some b =>
            simp [hb2] at hb
            subst hb
            intro l hl
            rcases List.mem_append.1 hl with hl | hl
            · exact backL_kinds (fun j e he => (h.vec j e he).1) hx (h.cellsAt_ok h2) l hl
            · exact backPs_ok h hb2 l hl
        · cases hb
      · cases hb
    · cases hb

theorem keyOf_mem : ∀ {vm : List (Nat × Nat)} {i j : Nat}, keyOf vm i = some j → (i, j) ∈ vm
  | [], _, _, h => by cases h
  | (k, j') :: l, i, j, h => by
    simp only [keyOf] at h
    split at h
    · rename_i e; subst e; cases h; simp
    · simp [keyOf_mem h]
/-- THE HEAD COMES AGAIN: a state in which all places hold something stands for the head's, at the values that they hold. -/
theorem Sat.rebase {P : Program} {F : Nat → Prop} {w0 : World} {Γ : Env} {st1 st : St} {a : Act} {w : World} (h : Sat P F w0 Γ st a w) {ρ0 : List C} (hρ : ∃ l, Γ.ρ = ρ0 ++ l) {ps : List Pl}
    (hsame : sameRest st1 st ρ0.length ps = true) {vals : List Lf} (hb : backPs st1 st ρ0.length ps = some vals) {ks : List Lk} (hk : kindsL vals = some ks) (hob : Obs Γ.ρ (rngL st.bds vals)) (hwf : headWf st1 ρ0.length ps = true)
    (hnt : st1.nt = st.nt) (hnb : st1.nb ≤ st.nb) (hnx : st1.nx = ρ0.length + ks.length) (hnum : Num st1.bds ρ0) :
    CTy P ks (cs_ Γ.ρ vals) ∧ Sat P F w0 { Γ with ρ := ρ0 ++ cs_ Γ.ρ vals, nb := st1.nb } st1 a w := by
  obtain ⟨l, hl⟩ := hρ
  have hty : CTy P ks (cs_ Γ.ρ vals) := Ls_ty (P := P) (w := w) h.num hk (backPs_ok h hb) hob
  refine ⟨hty, ?_⟩
  let Γ0 : Env := { Γ with ρ := ρ0, nb := st1.nb }
  let Γ' : Env := { Γ with ρ := ρ0 ++ cs_ Γ.ρ vals, nb := st1.nb }
  have e0 : Ext Γ0 Γ := ⟨⟨l, hl⟩, fun _ _ => rfl, by simp only [Γ0]; rw [h.nb]; exact hnb, rfl, rfl⟩
  have e0' : Ext Γ0 Γ' := ⟨⟨_, rfl⟩, fun _ _ => rfl, Nat.le_refl _, rfl, rfl⟩
  simp only [sameRest, Bool.and_eq_true, List.all_eq_true] at hsame
  obtain ⟨⟨⟨s1, s2⟩, s3⟩, s4⟩ := hsame
  simp only [sameVec, Bool.and_eq_true, List.all_eq_true] at s3
  obtain ⟨s3a, s3b⟩ := s3
  generalize hvm : vmapPs st1 st ps = vm at *
  simp only [headWf, Bool.and_eq_true, List.all_eq_true] at hwf
  obtain ⟨⟨⟨w1, w2⟩, w3⟩, w4⟩ := hwf
  have mem' : ∀ b mb, look st1.mem b = some mb → ∃ mb', look st.mem b = some mb' ∧ mb.1 = mb'.1 ∧ (Pl.blk b ∈ ps ∨ mb.2 = mb'.2) := by
    intro b mb hm
    obtain ⟨p, hp, rfl⟩ := look_mem hm
    have := s2 p hp
    rw [hm] at this
    simp only [] at this
    split at this
    · rename_i mb' hm'
      simp only [Bool.and_eq_true, Bool.or_eq_true, List.contains_iff_mem] at this
      exact ⟨mb', hm', Nat.eq_of_beq_eq_true this.1, this.2.imp id sameLs_eq⟩
    · cases this
  -- a slice at the head and the one that stands for it
  have vec' : ∀ i e, look st1.vec i = some e → ∃ e', look st.vec (curOf vm i) = some e' ∧ e.1 = e'.1 ∧ ((∃ j, keyOf vm i = some j ∧ ρ0.length ≤ i ∧ e.2 = .var i) ∨ (keyOf vm i = none ∧ i < ρ0.length ∧ (Pl.vec i ∈ ps ∨ (e.2 = e'.2 ∧ e.2.wf ρ0.length = true)))) := by
    intro i e hi
    obtain ⟨p, hp, rfl⟩ := look_mem hi
    have := s3a p hp
    rw [hi] at this
    simp only [] at this
    split at this
    · rename_i e' he'
      simp only [Bool.and_eq_true] at this
      refine ⟨e', he', Nat.eq_of_beq_eq_true this.1, ?_⟩
      have h2 := this.2
      split at h2
      · rename_i j hj
        simp only [Bool.and_eq_true, decide_eq_true_eq] at h2
        exact .inl ⟨j, hj, Nat.le_of_ble_eq_true h2.1, h2.2⟩
      · rename_i hj
        simp only [Bool.and_eq_true, Bool.or_eq_true, List.contains_iff_mem, decide_eq_true_eq, Nat.blt_eq] at h2
        exact .inr ⟨hj, h2.1, h2.2⟩
    · cases this
  have vinj : ∀ i e i' e', look st1.vec i = some e → look st1.vec i' = some e' → curOf vm i = curOf vm i' → i = i' := by
    intro i e i' e' h1 h2 heq
    obtain ⟨p, hp, rfl⟩ := look_mem h1
    obtain ⟨q, hq, rfl⟩ := look_mem h2
    have := s3b p hp q hq
    rw [h1, h2, heq] at this
    simp only [Nat.beq_refl, Bool.not_true, Bool.or_false, Option.isNone_some] at this
    exact Nat.eq_of_beq_eq_true this
  -- the places
  have place0 : ∀ (O' : Nat → Nat → Prop), (∀ b o, O' b o → Own Γ st b o) → ∀ p ∈ ps, ∃ f cs ds, st1.cellsAt p = some (f, cs) ∧ st.cellsAt p = some (f, ds) ∧ cs.map (Lf.den Γ') = ds.map (Lf.den Γ) ∧ (∀ l ∈ cs, l.ok P w O' Γ') ∧
      (∀ i' j', (i', j') ∈ vmapL cs ds → ∃ e, look st.vec j' = some e ∧ at_ Γ'.ρ i' = (mkJoin j' e.2).ev Γ.ρ) ∧ (∀ (x : Nat) te r te' r', cs[x]? = some (.cnt te r) → ds[x]? = some (.cnt te' r') → te = te' ∧ r.ev Γ'.ρ = r'.ev Γ.ρ) := by
    intro O' hown p hp
    obtain ⟨f, cs, ds, j, vs, c1, c2, c3, c4⟩ := backPs_spec hb p hp
    have hcw := w3 p hp
    rw [c1] at hcw
    simp only [List.all_eq_true] at hcw
    obtain ⟨g1, g2, g3, g4⟩ := backL_spec (P := P) (w := w) (O := Own Γ st) (Γ := Γ) (Γ0 := Γ0) (Γ' := Γ') (fun j e he => (h.vec j e he).1) e0 e0' hown c3 (h.cellsAt_ok c2) hcw (fun x v hx => by
      have hx' := c4 x v hx
      have : (cs_ Γ.ρ vals)[j + x]? = some (v.c Γ.ρ) := by simp [cs_, hx']
      rw [Nat.add_assoc]
      exact at_app this)
    exact ⟨f, cs, ds, c1, c2, g1, g2, g3, g4⟩
  have vkey : ∀ i j, keyOf vm i = some j → ∃ e, look st.vec j = some e ∧ at_ Γ'.ρ i = (mkJoin j e.2).ev Γ.ρ := by
    intro i j hij
    have hm := keyOf_mem hij
    rw [← hvm] at hm
    obtain ⟨p, hp, hm⟩ := List.mem_flatMap.1 hm
    obtain ⟨f, cs, ds, c1, c2, -, -, g3, -⟩ := place0 (Own Γ st) (fun _ _ h => h) p hp
    rw [c1, c2] at hm
    exact g3 i j hm
  -- where it lies and what it holds
  have hvec : ∀ i e, look st1.vec i = some e → ∃ e', look st.vec (curOf vm i) = some e' ∧ e.1 = e'.1 ∧ (at_ Γ'.ρ i).loc = (at_ Γ.ρ (curOf vm i)).loc ∧ (e.2.ev Γ'.ρ).rows = (e'.2.ev Γ.ρ).rows ∧ (∃ v, e.2.ev Γ'.ρ = .s v (e'.2.ev Γ.ρ).rows) ∧ i < st1.nx := by
    intro i e hi
    obtain ⟨e', h1, h2, h3⟩ := vec' i e hi
    refine ⟨e', h1, h2, ?_⟩
    have hv' := (h.vec _ e' h1).1
    rcases h3 with ⟨j, hj, hge, he2⟩ | ⟨hj, hlt, h3⟩
    · obtain ⟨e'', k1, k2⟩ := vkey i j hj
      have hcur : curOf vm i = j := by unfold curOf; rw [hj]; rfl
      rw [hcur] at h1 hv' ⊢
      obtain rfl : e' = e'' := Option.some.inj (h1.symm.trans k1)
      have hjo := mkJoin_ev hv'
      rw [hjo] at k2
      rw [he2]
      simp only [E.ev, k2]
      refine ⟨rfl, rfl, ⟨_, rfl⟩, ?_⟩
      -- the variable is among the new ones
      rw [hnx]
      rcases Nat.lt_or_ge i (ρ0.length + ks.length) with h | h
      · exact h
      · exfalso
        have hlen : (ρ0 ++ cs_ Γ.ρ vals).length = ρ0.length + ks.length := by rw [List.length_append, hty.len]
        have : at_ (ρ0 ++ cs_ Γ.ρ vals) i = .i 0 := by unfold at_; rw [List.getD_eq_getElem?_getD, List.getElem?_eq_none (by omega)]; rfl
        rw [show at_ Γ'.ρ i = at_ (ρ0 ++ cs_ Γ.ρ vals) i from rfl, this] at k2
        cases k2
    · have hcur : curOf vm i = i := by unfold curOf; rw [hj]; rfl
      rw [hcur] at h1 hv' ⊢
      have hat : at_ Γ'.ρ i = at_ Γ.ρ i := by
        show at_ (ρ0 ++ cs_ Γ.ρ vals) i = _
        rw [at_ext hlt, hl, at_ext hlt]
      rw [hat]
      have hx : ∃ v, e.2.ev Γ'.ρ = .s v (e'.2.ev Γ.ρ).rows := by
        obtain ⟨ks', us, -, ⟨v', hv2⟩, -⟩ := hv'
        rcases h3 with hp | ⟨he, hwf'⟩
        · obtain ⟨f, cs, ds, c1, c2, -, -, -, g4⟩ := place0 (Own Γ st) (fun _ _ h => h) _ hp
          simp only [St.cellsAt, hi, h1, Option.map_some, Option.some.injEq, Prod.mk.injEq] at c1 c2
          obtain ⟨-, rfl⟩ := c1
          obtain ⟨-, rfl⟩ := c2
          obtain ⟨-, g⟩ := g4 0 e.1 e.2 e'.1 e'.2 rfl rfl
          rw [g]; exact ⟨v', hv2⟩
        · have : e.2.ev Γ'.ρ = e'.2.ev Γ.ρ := by
            rw [← he]
            show e.2.ev (ρ0 ++ cs_ Γ.ρ vals) = _
            rw [E.ev_ext _ hwf', hl, E.ev_ext _ hwf']
          rw [this]; exact ⟨v', hv2⟩
      obtain ⟨v, hv⟩ := hx
      exact ⟨rfl, by rw [hv]; rfl, ⟨v, hv⟩, by rw [hnx]; omega⟩
  have hold' : ∀ s j b, Hold Γ' st1 s j b → Hold Γ st s (if s then j else curOf vm j) b := by
    intro s j b hh
    rcases hh.inv with ⟨rfl, mb, hj, rfl⟩ | ⟨rfl, e, hj, hb⟩
    · obtain ⟨mb', hm', -⟩ := mem' j mb hj
      exact ⟨mb', hm', rfl⟩
    · obtain ⟨e', k1, k2, k3, -⟩ := hvec j e hj
      exact Hold.vec (Γ := Γ) (i := curOf vm j) k1 (k3 ▸ hb)
  have hown : ∀ b o, Own Γ' st1 b o → Own Γ st b o := fun b o hb => by
    rcases Own.iff.1 hb with hb | ⟨s, j, hh⟩
    · exact .inl hb
    · exact (hold' s j b hh).own o
  have place : ∀ p ∈ ps, ∃ f cs ds, st1.cellsAt p = some (f, cs) ∧ st.cellsAt p = some (f, ds) ∧ cs.map (Lf.den Γ') = ds.map (Lf.den Γ) ∧ ∀ l ∈ cs, l.ok P w (Own Γ' st1) Γ' := fun p hp => by
    obtain ⟨f, cs, ds, c1, c2, g1, g2, -⟩ := place0 _ hown p hp
    exact ⟨f, cs, ds, c1, c2, g1, g2⟩
  refine ⟨fun t sv hs => ?_, by rw [hnt]; exact h.size, fun b mb hm => ?_, fun i e hi => ?_, fun i e hi => ?_, fun s j s' j' b h1 h2 => ?_, h.keeps, h.fold, h.base, h.defers, by simp [hnx, hty.len], rfl,
    ⟨Bds.ok_ext hnum.bds, hnum.len.app fun c hc => hty.small c hc⟩⟩
  · obtain ⟨p, hp, rfl⟩ := look_mem hs
    have h1 := s1 p hp
    rw [hs] at h1
    simp only [Bool.or_eq_true, List.contains_iff_mem] at h1
    by_cases hpl : Pl.slot p.1 ∈ ps
    · obtain ⟨f, cs, ds, c1, c2, g1, g2⟩ := place _ hpl
      simp only [St.cellsAt, hs] at c1
      split at c1
      · rename_i x hx
        cases hx
        cases c1
        simp only [St.cellsAt] at c2
        split at c2
        · rename_i y hy
          cases c2
          have := (h.slots p.1 _ hy).1
          simp at g1
          exact ⟨(show slotV Γ' a p.1 = slotV Γ a p.1 from rfl).trans (this.trans g1.symm), fun z hz => by simp [S0.cells] at hz; subst hz; exact g2 _ (by simp)⟩
        · cases c2
        · cases c2
      · rename_i x hx
        cases hx
        cases c1
        simp only [St.cellsAt] at c2
        split at c2
        · cases c2
        · rename_i y hy
          cases c2
          have := (h.slots p.1 _ hy).1
          exact ⟨(show slotV Γ' a p.1 = slotV Γ a p.1 from rfl).trans (this.trans (by show _ = Value.agg (List.map (Lf.den Γ') cs).toArray; rw [g1]; rfl)), fun z hz => g2 z hz⟩
        · cases c2
      · cases c1
    · rcases h1 with h1 | h1
      · exact absurd h1 hpl
      · split at h1
        · rename_i sv' hsv'
          have e := sameS_eq h1
          subst e
          have hw' := w1 p hp
          rw [hs] at hw'
          simp only [Bool.or_eq_true, List.contains_iff_mem] at hw'
          have hw2 : sv.wf Γ0.ρ.length Γ0.nb = true := hw'.resolve_left hpl
          obtain ⟨g1, g2⟩ := h.slots p.1 _ hsv'
          exact ⟨(show slotV Γ' a p.1 = slotV Γ a p.1 from rfl).trans (g1.trans ((SV.den_ext e0 sv hw2).trans (SV.den_ext e0' sv hw2).symm)), SV.ok_anti (SV.ok_ext e0' hw2 (SV.ok_unext e0 hw2 g2)) hown⟩
        · cases h1
  · obtain ⟨mb', hm', ht, hor⟩ := mem' b mb hm
    obtain ⟨m1, m2, m3, m4⟩ := h.mem b mb' hm'
    have hb2 : b < st1.nb ∧ (Pl.blk b ∈ ps ∨ mb.2.all (Lf.wf ρ0.length st1.nb) = true) := by
      obtain ⟨p, hp, rfl⟩ := look_mem hm
      have := w2 p hp
      rw [hm] at this
      simp only [Bool.and_eq_true, Nat.blt_eq, Bool.or_eq_true, List.contains_iff_mem] at this
      exact this
    by_cases hpl : Pl.blk b ∈ ps
    · obtain ⟨f, cs, ds, c1, c2, g1, g2⟩ := place _ hpl
      simp only [St.cellsAt, hm, hm', Option.map_some, Option.some.injEq, Prod.mk.injEq] at c1 c2
      obtain ⟨-, rfl⟩ := c1
      obtain ⟨-, rfl⟩ := c2
      refine ⟨?_, g2, m3, hb2.1⟩
      rw [ht, show dens _ mb.2 = dens Γ mb'.2 from by unfold dens; exact congrArg _ g1]
      exact m1
    · have e := hor.resolve_left hpl
      have hwl := hb2.2.resolve_left hpl
      refine ⟨?_, fun l hl => ?_, m3, hb2.1⟩
      · rw [ht, show dens _ mb.2 = dens Γ mb'.2 from by rw [← e]; exact (dens_ext e0' mb.2 hwl).trans (dens_ext e0 mb.2 hwl).symm]
        exact m1
      · have hl' : l.wf Γ0.ρ.length Γ0.nb = true := List.all_eq_true.1 hwl l hl
        exact Lf.ok_anti (Lf.ok_ext e0' hl' (Lf.ok_unext e0 hl' (m2 l (by rw [← e]; exact hl)))) hown
  · obtain ⟨e', k1, k2, k3, k4, k5, k6⟩ := hvec i e hi
    obtain ⟨g1, g2, g3⟩ := h.vec _ e' k1
    refine ⟨?_, k6, fun b hb => g3 b (by rw [← k3]; exact hb)⟩
    show VecOK P w (Own Γ' st1) e.1 (at_ Γ'.ρ i).loc (e.2.ev Γ'.ρ)
    rw [k3, k2]
    obtain ⟨ks', us, f1, f2, f3, f4, f5⟩ := g1.anti hown
    obtain ⟨v, hv⟩ := k5
    exact ⟨ks', us, f1, ⟨v, by rw [k4]; exact hv⟩, by rw [k4]; exact f3, by rw [k4]; exact f4, by rw [k4]; exact f5⟩
  · obtain ⟨p, hp, rfl⟩ := look_mem hi
    have := List.all_eq_true.1 s4 p hp
    rw [hi] at this
    simp only [] at this
    split at this
    · rename_i e' he'
      simp only [Bool.and_eq_true] at this
      obtain ⟨⟨⟨q1, q2⟩, q3⟩, q4⟩ := this
      have ee : e = e' := Prod.ext (Nat.eq_of_beq_eq_true q1) (Prod.ext (same0s_eq q2) (sameLs_eq q3))
      subst ee
      simp only [wfC, Bool.and_eq_true, Nat.blt_eq] at q4
      obtain ⟨⟨r1, r2⟩, r3⟩ := q4
      obtain ⟨k1, k2, k3⟩ := h.clo p.1 e he'
      have hat : at_ Γ'.ρ p.1 = at_ Γ.ρ p.1 := by
        show at_ (ρ0 ++ cs_ Γ.ρ vals) p.1 = _
        rw [at_ext r1, hl, at_ext r1]
      refine ⟨?_, fun s hs l hl' => ?_, fun l hl' => ?_⟩
      · rw [show at_ _ p.1 = at_ Γ'.ρ p.1 from rfl, hat, k1]
        have a1 : e.2.1.map (S0.den Γ) = e.2.1.map (S0.den Γ') := List.map_congr_left fun s hs => by
          have hws : s.wf Γ0.ρ.length Γ0.nb = true := List.all_eq_true.1 r2 s hs
          exact (S0.den_ext e0 s hws).trans (S0.den_ext e0' s hws).symm
        have a2 : e.2.2.map (Lf.den Γ) = e.2.2.map (Lf.den Γ') := List.map_congr_left fun l hl' => by
          have hws : l.wf Γ0.ρ.length Γ0.nb = true := List.all_eq_true.1 r3 l hl'
          exact (Lf.den_ext e0 l hws).trans (Lf.den_ext e0' l hws).symm
        rw [a1, a2]
      · have hws : l.wf Γ0.ρ.length Γ0.nb = true := S0.wf_cells (n := Γ0.ρ.length) (nb := Γ0.nb) (List.all_eq_true.1 r2 s hs) l hl'
        exact Lf.ok_anti (Lf.ok_ext e0' hws (Lf.ok_unext e0 hws (k2 s hs l hl'))) hown
      · have hws : l.wf Γ0.ρ.length Γ0.nb = true := List.all_eq_true.1 r3 l hl'
        exact Lf.ok_anti (Lf.ok_ext e0' hws (Lf.ok_unext e0 hws (k3 l hl'))) hown
    · cases this
  · have g1 := hold' _ _ _ h1
    have g2 := hold' _ _ _ h2
    obtain ⟨q1, q2⟩ := h.inj _ _ _ _ _ g1 g2
    subst q1
    cases s with
    | true => exact ⟨rfl, q2⟩
    | false =>
      obtain ⟨e, hj, -⟩ := h1
      obtain ⟨e', hj', -⟩ := h2
      exact ⟨rfl, vinj j e j' e' hj hj' q2⟩
end Go.Proofs.Ytlbgcjpkegpmlaa
/- The engine, part 14: a code carried out by symbols; a function's contract. -/
namespace Go.Proofs.Ytlbgcjpkegpmlaa
open Go.RowKit
set_option linter.unusedSimpArgs false
set_option linter.unusedVariables false

def Ex.out : Ex → Exit
  | .nrm => .normal
  | .ext id => .exit id
  | .ret => .ret
section
variable {cx : Cx} {R : List C → Prop} {F : Nat → Prop} {w0 : World}
/-- What follows a code. -/
def KOK (cx : Cx) (R : List C → Prop) (F : Nat → Prop) (w0 : World) (k : Ex → St → Option Tree) (Γ : Env) (Ls : List (List C → Prop)) (Q : Exit → Act → World → Prop) : Prop :=
  ∀ x st' T' Γ' Ls', k x st' = some T' → Ext Γ Γ' → Ls <+: Ls' → Ls'.length = st'.lvl → VC cx R T' Γ'.ρ Ls' → ∀ a w, Sat cx.P F w0 Γ' st' a w → Q x.out a w
theorem KOK.mono {k : Ex → St → Option Tree} {Γ Γ1 : Env} {Ls Ls1 : List (List C → Prop)} {Q : Exit → Act → World → Prop} (h : KOK cx R F w0 k Γ Ls Q) (he : Ext Γ Γ1) (hl : Ls <+: Ls1) : KOK cx R F w0 k Γ1 Ls1 Q :=
  fun x st' T' Γ' Ls' hk he' hl' => h x st' T' Γ' Ls' hk (he.trans he') (hl.trans hl')
theorem Sat.learn1 {P : Program} {Γ : Env} {st : St} {a : Act} {w : World} (hs : Sat P F w0 Γ st a w) {b : B} {t : Bool} (hb : b.den Γ.ρ = t) : Sat P F w0 Γ { st with bds := Go.Proofs.Ytlbgcjpkegpmlaa.learn st.nx st.bds b t } a w :=
  hs.slots' hs.slots hs.size hs.defers ⟨learn_ok hs.num.len (by rw [hs.len]; exact Nat.le_refl _) b st.bds t hs.num.bds hb, hs.num.len⟩

theorem take_free {α : Type} (p : α → Bool) : ∀ (l : List α), ∀ x ∈ l.take (l.takeWhile p).length, p x = true
  | [], x, h => by simp at h
  | y :: l, x, h => by
    by_cases hp : p y = true
    · simp only [List.takeWhile_cons, hp, if_true, List.length_cons, List.take_succ_cons] at h
      rcases List.mem_cons.1 h with rfl | h
      · exact hp
      · exact take_free p l x h
    · simp [List.takeWhile_cons, hp] at h
theorem zero_dens {P : Program} {t : TypeId} {cs : List Lf} (h : zeroLf P t = some cs) (Γ Γ' : Env) : dens Γ cs = dens Γ' cs := by
  obtain ⟨it, z, h1, h2, h3⟩ := zeroLf_spec h Γ
  obtain ⟨it', z', h1', h2', h3'⟩ := zeroLf_spec h Γ'
  rw [h1] at h1'
  cases h1'
  rw [h2] at h2'
  cases h2'
  rw [← h3, h3']
theorem zero_ok {P : Program} {t : TypeId} {cs : List Lf} (h : zeroLf P t = some cs) (w : World) (O : Nat → Nat → Prop) (Γ : Env) : ∀ l ∈ cs, l.ok P w O Γ := fun l hl => by
  unfold zeroLf at h
  split at h
  · rename_i it hi
    cases hzz : it.zero with
    | none => simp [hzz] at h
    | some zv =>
      simp [hzz] at h
      subst h
      obtain ⟨v, -, rfl⟩ := List.mem_map.1 hl
      unfold Lf.ofValue
      split <;> trivial
  · cases h
theorem run_alloc {P : Program} {o : Oper} {t : TypeId} (ho : o.op = .alloc t) {cs : List Lf} (hz : zeroLf P t = some cs) (Γ : Env) (a : Act) (w : World) :
    (execOp a.eval o).run P w = .ok (.value (.pointer (some ⟨w.heap.size, 0, none⟩))) (w.alloc (.cells (dens Γ cs) t)) := by
  obtain ⟨it, z, hi, hzz, hc⟩ := zeroLf_spec hz Γ
  unfold execOp
  rw [ho]
  simp [Instr.alloc, zeroValue, run_typeInfo' hi, hzz, newVar, newRow, hc]
theorem draw_sound (hcx : CxOK cx) {id : Nat} {ops : Array Oper} (hcond : drawOk cx ops = true) {Γ : Env} {st : St} {a : Act} {w : World} (hs : Sat cx.P F w0 Γ st a w) {k : St → Option Tree} {T : Tree}
    (h : execOps cx ops ops.toList st k = some T) {Ls : List (List C → Prop)} (hl : Ls.length = st.lvl) (hv : VC cx R T Γ.ρ Ls) {Q : Exit → Act → World → Prop} (hk : Next cx R F w0 k Γ Ls (fun a w => Q .normal a w)) :
    (Code.region id ops true).wp cx.P Q a w := by
  simp only [drawOk, Bool.and_eq_true] at hcond
  obtain ⟨hh, ht⟩ := hcond
  generalize hn : headLen cx ops = n
  have hfree : ∀ o ∈ ops.toList.take n, freeOp cx o = true := by rw [← hn]; exact take_free _ _
  have hw1 : Sat cx.P F w0 Γ st a { w with drawn := w.drawn + 1 } := hs.below ⟨rfl, rfl, rfl, Nat.le_refl _, fun _ _ => rfl⟩
  have hsplit : ops.toList = ops.toList.take n ++ ops.toList.drop n := (List.take_append_drop n _).symm
  rw [hsplit] at h
  generalize hta : (match ops[n]? with | some o => (match o.op with | .alloc t => t | _ => 0) | none => 0) = ta
  generalize hca : (zeroLf cx.P ta).getD [] = ca
  let Cl : Option Nat → World → Prop := fun ob w => Sat cx.P F w0 (Γ.addO ob) st a w ∧ ∀ b, ob = some b → Blk w b ta (dens Γ ca) ∧ w0.heap.size ≤ b ∧ ∃ w1, Sat cx.P F w0 Γ st a w1 ∧ w1.heap.size ≤ b
  have hcl1 : Cl none { w with drawn := w.drawn + 1 } := ⟨by rw [Env.addO_none]; exact hw1, fun b hb => by cases hb⟩
  obtain ⟨vs, st', T', Γ', g1, g2, g3, g4, g5, g6, g7, g8⟩ := head_lex (R := R) (F := F) (w0 := w0) hcx (Cl := Cl) hcl1 (ops.toList.take n) hfree st T h Γ Ls hv a
    ⟨fun ob w hw => hw.1, fun ob w w' hw hb => ⟨hw.1.below hb, fun b hb' => ⟨((hw.2 b hb').1).below hb, (hw.2 b hb').2⟩⟩⟩
  have hle : drawLen cx ops ≤ ops.size := by
    simp only [tailOk, Bool.and_eq_true, decide_eq_true_eq] at ht
    exact ht.1.1.1
  have start : ∀ m, m = drawLen cx ops → n ≤ m → Head cx.P ops Cl n m vs a none (Array.replicate ops.size false) a { w with drawn := w.drawn + 1 } := by
    intro m hm hnm
    refine ⟨hcl1, ⟨by simp, fun j oj _ hj => ?_, fun t _ ht => ?_⟩, rfl, rfl, fun _ => ?_, fun _ => rfl, fun t hall => ?_⟩
    · rw [getD_replicate_false] at hj; cases hj
    · exact getD_in (by simpa using ht) (getD_replicate_false _ _)
    · rw [getD_replicate_false]; rfl
    · refine (putAll_other _ _ _ t fun x hx hxd => ?_).symm
      obtain ⟨j, hj⟩ := List.getElem?_of_mem hx
      rw [List.getElem?_take] at hj
      split at hj
      · rename_i hjn
        have := hall j (by omega) (by unfold dstOf; simp at hj; rw [hj]; exact hxd)
        rw [getD_replicate_false] at this
        cases this
      · cases hj
  have hcount : ∀ m, m ≤ ops.size → ops.size = (List.range m).countP (fun j => !(Array.replicate ops.size false).getD j false) + (ops.size - m) := by
    intro m hm
    have : (List.range m).countP (fun j => !(Array.replicate ops.size false).getD j false) = m := by
      rw [List.countP_eq_length.2 (fun j _ => by rw [getD_replicate_false]; rfl)]
      simp
    omega
  by_cases hal : allocAt ops n = true
  · have hm : drawLen cx ops = n + 1 := by unfold drawLen; rw [hn, if_pos hal]
    rw [hm] at hh ht hle
    unfold allocAt at hal
    split at hal
    · rename_i o ho
      simp only [Bool.and_eq_true, Option.isNone_iff_eq_none] at hal
      obtain ⟨⟨⟨hop, hg⟩, hdst⟩, -⟩ := hal
      split at hop
      · rename_i t hopeq
        have hta' : ta = t := by rw [← hta, ho]; simp only [hopeq]
        subst hta'
        have hdrop : ops.toList.drop n = o :: ops.toList.drop (n + 1) := by
          have hlt : n < ops.toList.length := by simp; omega
          rw [List.drop_eq_getElem_cons hlt]
          congr 1
          have : ops.toList[n]? = some o := by simp [ho]
          rw [List.getElem?_eq_getElem hlt] at this
          exact Option.some.inj this
        rw [hdrop] at g2
        simp only [execOps, hg] at g2
        have g2 := orF_some g2 g5
        have hfz : toFreeze cx st' o = [] := by unfold toFreeze; rw [hopeq]
        have hov : opVal cx.P st' o = none := by unfold opVal; rw [hopeq]
        simp only [doOpF, hfz, freezeAll, doOp, hov, hopeq] at g2
        split at g2
        · rename_i cs hz
          have hcs : ca = cs := by rw [← hca, hz]; rfl
          subst hcs
          have hfirst : ∀ (ob : Option Nat) (w1 : World), True := fun _ _ => trivial
          have hact : ∀ b, endAct ops n vs a (some b) = (putAll (ops.toList.take n) vs a).put o.dst (.pointer (some ⟨b, 0, none⟩)) := fun b => by
            unfold endAct
            rw [show dstOf ops n = o.dst by unfold dstOf; rw [ho]; rfl]
          have halloc : ∀ a1 w1, Cl none w1 → ∀ K Q1, (∀ w', Cl (some w1.heap.size) w' → K (a1.put o.dst (.pointer (some ⟨w1.heap.size, 0, none⟩))) w') → o.wp cx.P a1 w1 K Q1 := fun a1 w1 hw1 K Q1 hK => by
            unfold Oper.wp
            rw [run_alloc hopeq hz Γ]
            have hsw := hw1.1
            rw [Env.addO_none] at hsw
            have hbel := below_alloc w1 (.cells (dens Γ ca) ta)
            refine hK _ ⟨hsw.belowO hbel (Nat.le_refl _) (by simp), fun b hb => ?_⟩
            cases hb
            exact ⟨Blk.new w1 ta _, hsw.keeps.size, w1, hsw, Nat.le_refl _⟩
          refine wp_region_any hcx.mixed (any_order g1 hh ht (Nat.le_succ n) (Nat.le_refl _) (fun _ => ⟨o, ho, hg, halloc⟩) (fun ob w1 hw1 hsome _ => ?_) ops.size _ a _ none (start (n + 1) hm.symm (Nat.le_succ n)) (hcount (n + 1) hle))
          cases ob with
          | none => have := hsome (Nat.lt_succ_self n); cases this
          | some b =>
            obtain ⟨hb1, hb2, hb3⟩ := hw1.2 b rfl
            have hsat := g6.sat (some b) w1 hw1
            obtain ⟨w2, hw2, hge2⟩ := hb3
            have hsat0 := g6.sat none w2 ⟨by rw [Env.addO_none]; exact hw2, fun b hb => by cases hb⟩
            rw [Env.addO_none] at hsat0
            have hnb : ∀ s j, ¬ Hold Γ' st' s j b := fun s j hh => by have := hsat0.hold_lt hh; omega
            have hz' : dens Γ' ca = dens Γ ca := zero_dens hz Γ' Γ
            split at g2
            · rename_i s' st0 m hn
              obtain ⟨f1, f2, f3, f4, f5, f6, f7, f8, f9⟩ := hsat.nils hn (s := .agg ca) (zero_ok hz _ _ _)
              cases hf : st0.fresh ta s'.cells with
              | none => simp [hf] at g2
              | some st1 =>
                cases hp : st1.put o.dst (some (.one (.lf (.ptr st'.nb 0)))) with
                | none => simp [hf, hp] at g2
                | some st2 =>
                  cases hk2 : execOps cx ops (ops.toList.drop (n + 1)) st2 k with
                  | none => simp [hf, hp, hk2] at g2
                  | some T2 =>
                    simp [hf, hp, hk2] at g2
                    subst g2
                    have hvc2 := VC.dfnN g5
                    have hd : dens { Γ' with ρ := Γ'.ρ ++ List.replicate m nilC } s'.cells = dens Γ ca := by
                      rw [← hz']
                      unfold dens
                      have := f9
                      rw [show ({ (Γ'.addO (some b)) with ρ := (Γ'.addO (some b)).ρ ++ List.replicate m nilC } : Env) = ({ Γ' with ρ := Γ'.ρ ++ List.replicate m nilC } : Env).addO (some b) from rfl] at this
                      rw [List.map_congr_left fun l _ => Lf.den_addO _ (some b) l, List.map_congr_left fun l _ => Lf.den_addO Γ' (some b) l] at this
                      rw [this]; rfl
                    have hsat2 : Sat cx.P F w0 (({ Γ' with ρ := Γ'.ρ ++ List.replicate m nilC } : Env).addO (some b)) st0 (putAll (ops.toList.take n) vs a) w1 := f2
                    obtain ⟨Γ2, e1, e2, e3, e4, e5⟩ := hsat2.adopt hf (by rw [hd]; exact hb1) hb2 (fun s j hh => by have := (hsat0.nils hn (s := .agg ca) (zero_ok hz _ _ _)).2.1.hold_lt hh; omega) (fun l hl => Lf.ok_addO.1 (f4 l hl))
                    have hput := e4.put hp (one_ok trivial)
                    simp only [SV.den, S0.den, Lf.den] at hput
                    rw [← f6, e3] at hput
                    rw [hact]
                    have hext : Ext Γ' { Γ' with ρ := Γ'.ρ ++ List.replicate m nilC } := ⟨⟨_, rfl⟩, fun _ _ => rfl, Nat.le_refl _, rfl, rfl⟩
                    exact execOps_sound hcx (ops.toList.drop (n + 1)) st2 T2 hk2 Γ2 Ls (by rw [St.put_lvl hp, e5, f5, g4]; exact hl) (by rw [e2]; exact hvc2) _ w1 hput (hk.mono ((g3.trans hext).trans e1) (List.prefix_refl _))
            · cases hf : st'.fresh ta ca with
              | none => simp [hf] at g2
              | some st1 =>
                cases hp : st1.put o.dst (some (.one (.lf (.ptr st'.nb 0)))) with
                | none => simp [hf, hp] at g2
                | some st2 =>
                  simp [hf, hp] at g2
                  obtain ⟨Γ2, e1, e2, e3, e4, e5⟩ := hsat.adopt hf (by rw [hz']; exact hb1) hb2 hnb (fun l hl => zero_ok hz _ _ _ l hl)
                  have hput := e4.put hp (one_ok trivial)
                  simp only [SV.den, S0.den, Lf.den, e3] at hput
                  rw [hact]
                  exact execOps_sound hcx (ops.toList.drop (n + 1)) st2 T' g2 Γ2 Ls (by rw [St.put_lvl hp, e5, g4]; exact hl) (by rw [e2]; exact g5) _ w1 hput (hk.mono (g3.trans e1) (List.prefix_refl _))
        · cases g2
      · cases hop
    · cases hal
  · have hm : drawLen cx ops = n := by unfold drawLen; rw [hn, if_neg hal]
    rw [hm] at hh ht hle
    refine wp_region_any hcx.mixed (any_order g1 hh ht (Nat.le_refl n) (Nat.le_succ n) (fun h => by omega) (fun ob w1 hw1 _ hnone => ?_) ops.size _ a _ none (start n hm.symm (Nat.le_refl n)) (hcount n hle))
    have := hnone rfl
    subst this
    have hsat := g6.sat none w1 hw1
    rw [Env.addO_none] at hsat
    exact execOps_sound hcx (ops.toList.drop n) st' T' g2 Γ' Ls (by rw [g4]; exact hl) g5 _ w1 hsat (hk.mono g3 (List.prefix_refl _))
theorem joinOk_spec {st st1 : St} {ps : List Pl} {ks : List Lk} (hc : joinOk st st1 ps ks = true) : headWf st1 st.nx ps = true ∧ st1.nx = st.nx + ks.length ∧ st.nb ≤ st1.nb ∧ st1.nt = st.nt ∧ st1.bds = st.bds ∧ st1.lvl = st.lvl + 1 := by
  simp only [joinOk, Bool.and_eq_true, decide_eq_true_eq] at hc
  obtain ⟨⟨⟨⟨⟨c2, c4⟩, c5⟩, c6⟩, c7⟩, c8⟩ := hc
  exact ⟨c2, Nat.eq_of_beq_eq_true c4, Nat.le_of_ble_eq_true c5, Nat.eq_of_beq_eq_true c6, c7, Nat.eq_of_beq_eq_true c8⟩
/-- A way ends; what follows from where the ways meet. -/
theorem joinEnd_sound {st st1 : St} {ps : List Pl} {ks : List Lk} (hc : joinOk st st1 ps ks = true) {k : St → Option Tree} {t : Tree} (ht : k st1 = some t) {Γ : Env} {Ls : List (List C → Prop)} (hl : Ls.length = st.lvl) {a : Act} {w : World} (hs : Sat cx.P F w0 Γ st a w)
    {I : List C → Prop} (hall : allC cx.P ks fun xs => I xs → VC cx R t (Γ.ρ ++ xs) (Ls ++ [I])) {Q : Act → World → Prop} (hk : Next cx R F w0 k Γ Ls Q) {id : Nat} : Next cx R F w0 (joinEnd st st1 ps ks id) Γ (Ls ++ [I]) Q := by
  obtain ⟨c2, c4, c5, c6, c7, c8⟩ := joinOk_spec hc
  have hlen : Γ.ρ.length = st.nx := hs.len
  have hnum1 : Num st1.bds Γ.ρ := by rw [c7]; exact hs.num
  intro st' T' Γ' Ls' hk' he' hl' hlen' hv' a' w' hs'
  unfold joinEnd at hk'
  split at hk'
  · rename_i hc
    simp only [Bool.and_eq_true] at hc
    obtain ⟨⟨d1, d2⟩, d3⟩ := hc
    split at hk'
    · rename_i vals hvals
      split at hk'
      · rename_i hks'
        cases hk'
        obtain ⟨hob', hback⟩ := VC.obT hv'
        obtain ⟨l, hl2⟩ := he'.ρ
        obtain ⟨hty', hsat'⟩ := hs'.rebase (st1 := st1) (ρ0 := Γ.ρ) ⟨l, hl2⟩ (by rw [hlen]; exact d1) (by rw [hlen]; exact hvals) hks' hob' (by rw [hlen]; exact c2) (Nat.eq_of_beq_eq_true d3) (Nat.le_of_ble_eq_true d2) (by rw [hlen]; exact c4) hnum1
        have hget : Ls'[st.lvl]? = some I := by
          obtain ⟨m, rfl⟩ := hl'
          rw [List.append_assoc, List.getElem?_append_right (by omega), hl]
          simp
        simp only [VC, hget] at hback
        have hvx := allC_elim hall _ hty' hback
        refine hk st1 t { Γ' with ρ := Γ.ρ ++ cs_ Γ'.ρ vals, nb := st1.nb } (Ls ++ [I]) ht ⟨⟨_, rfl⟩, fun b hb => he'.blk b hb, by rw [hs.nb]; exact c5, he'.base, he'.up⟩ (List.prefix_append _ _) (by simp [hl, c8]) hvx a' w' hsat'
      · cases hk'; exact hv'.elim
    · cases hk'; exact hv'.elim
  · cases hk'; exact hv'.elim
theorem join_sound (hcx : CxOK cx) {id : Nat} {ops : Array Oper} {j : List (Nat × Bool × List Lk) × List Pl} {st : St} {k : St → Option Tree} {T : Tree} (h : joinT cx id ops j st k = some T) {Γ : Env} {Ls : List (List C → Prop)} (hl : Ls.length = st.lvl) (hv : VC cx R T Γ.ρ Ls) {a : Act} {w : World} (hs : Sat cx.P F w0 Γ st a w)
    {Q : Exit → Act → World → Prop} (hk : Next cx R F w0 k Γ Ls (fun a w => Q .normal a w)) : (Code.region id ops true).wp cx.P Q a w := by
  unfold joinT at h
  split at h
  rotate_left
  · cases h; exact hv.elim
  rename_i hcond
  simp only [Bool.and_eq_true] at hcond
  obtain ⟨hc, hsel, hwf⟩ := hcond
  split at h
  · rename_i ws t hws ht
    cases h
    obtain ⟨I, hvw, hall⟩ := hv
    exact any_sound (R := R) hcx (by simp only [Bool.and_eq_true]; exact ⟨hsel, hwf⟩) hws (Ls := Ls ++ [I]) (by simp [hl]) hvw (hs.relvl _) (joinEnd_sound hc ht hl hs hall hk)
  · cases h
theorem exec_sound (hcx : CxOK cx) : ∀ (c : Code) (st : St) (k : Ex → St → Option Tree) (T : Tree), exec cx c st k = some T →
    ∀ (Γ : Env) (Ls : List (List C → Prop)) (Q : Exit → Act → World → Prop), KOK cx R F w0 k Γ Ls Q → Ls.length = st.lvl → VC cx R T Γ.ρ Ls → ∀ a w, Sat cx.P F w0 Γ st a w → c.wp cx.P Q a w := by
  intro c
  induction c with
  | skip => intro st k T h Γ Ls Q hk hl hv a w hs; exact wp_skip (hk .nrm st T Γ Ls h (Ext.refl _) (List.prefix_refl _) hl hv a w hs)
  | label l => intro st k T h Γ Ls Q hk hl hv a w hs; exact wp_label (hk .nrm st T Γ Ls h (Ext.refl _) (List.prefix_refl _) hl hv a w hs)
  | exit id => intro st k T h Γ Ls Q hk hl hv a w hs; exact wp_exit (hk (.ext id) st T Γ Ls h (Ext.refl _) (List.prefix_refl _) hl hv a w hs)
  | ret => intro st k T h Γ Ls Q hk hl hv a w hs; exact wp_ret (hk .ret st T Γ Ls h (Ext.refl _) (List.prefix_refl _) hl hv a w hs)
  | goto l => intro st k T h; cases h
  | refuse y => intro st k T h; cases h
  | rangeFunc f ps x y => intro st k T h; cases h
  | scope c ih =>
    intro st k T h Γ Ls Q hk hl hv a w hs
    simp only [exec] at h
    refine wp_scope_straight (ih st k T h Γ Ls _ ?_ hl hv a w hs)
    intro e st' T' Γ' Ls' hk' he' hl' hlen hv' a' w' hs'
    cases e with
    | nrm => exact hk .nrm st' T' Γ' Ls' hk' he' hl' hlen hv' a' w' hs'
    | ext id => exact hk (.ext id) st' T' Γ' Ls' hk' he' hl' hlen hv' a' w' hs'
    | ret => exact hk .ret st' T' Γ' Ls' hk' he' hl' hlen hv' a' w' hs'
  | seq x y ihx ihy =>
    intro st k T h Γ Ls Q hk hl hv a w hs
    simp only [exec] at h
    refine wp_seq (ihx st _ T h Γ Ls _ ?_ hl hv a w hs)
    intro e st' T' Γ' Ls' hk' he' hl' hlen hv' a' w' hs'
    cases e with
    | nrm => exact ihy st' k T' hk' Γ' Ls' Q (hk.mono he' hl') hlen hv' a' w' hs'
    | ext id => exact hk (.ext id) st' T' Γ' Ls' hk' he' hl' hlen hv' a' w' hs'
    | ret => exact hk .ret st' T' Γ' Ls' hk' he' hl' hlen hv' a' w' hs'
  | cond c x y ihx ihy =>
    intro st k T h Γ Ls Q hk hl hv a w hs
    simp only [exec] at h
    split at h
    · rename_i t hc
      have he := ((hs.view #[c]).lf (by simp) hc).1
      simp only [Lf.den, B.den] at he
      refine wp_cond he ?_
      cases t
      · simp at h ⊢; exact ihy st k T h Γ Ls Q hk hl hv a w hs
      · simp at h ⊢; exact ihx st k T h Γ Ls Q hk hl hv a w hs
    · rename_i b hlit hc
      have he := ((hs.view #[c]).lf (by simp) hc).1
      simp only [Lf.den] at he
      split at h
      · split at h
        · rename_i t f h1 h2
          cases h
          refine wp_cond_split he (fun hb => ?_) (fun hb => ?_)
          · exact ihx _ k t h1 Γ Ls Q hk hl (hv.1 hb) a w (hs.learn1 hb)
          · exact ihy _ k f h2 Γ Ls Q hk hl (hv.2 hb) a w (hs.learn1 hb)
        · cases h
      · rename_i j hj
        split at h
        · rename_i hok
          split at h
          · rename_i t f r h1 h2 h3
            cases h
            obtain ⟨I, hvw, hall⟩ := hv
            have hend := joinEnd_sound (R := R) (id := 90000) hok h3 hl hs hall (Q := fun a w => Q .normal a w) fun st' T' Γ' Ls' hk' he' hp' hlen hv' a' w' hs' => hk .nrm st' T' Γ' Ls' hk' he' hp' hlen hv' a' w' hs'
            have hkk : KOK cx R F w0 (joinK st (joinSt1 j (asg x ++ asg y) st) (joinPs j) (joinKs j st) k) Γ (Ls ++ [I]) Q := fun e st' T' Γ' Ls' hk' he' hl' hlen' hv' a' w' hs' => by
              cases e with
              | nrm => exact hend st' T' Γ' Ls' hk' he' hl' hlen' hv' a' w' hs'
              | ext i => exact hk (.ext i) st' T' Γ' Ls' hk' he' ((List.prefix_append _ _).trans hl') hlen' hv' a' w' hs'
              | ret => exact hk .ret st' T' Γ' Ls' hk' he' ((List.prefix_append _ _).trans hl') hlen' hv' a' w' hs'
            refine wp_cond_split he (fun hb => ?_) (fun hb => ?_)
            · exact ihx _ _ t h1 Γ (Ls ++ [I]) Q hkk (by simp [hl]) (hvw.1 hb) a w ((hs.learn1 hb).relvl _)
            · exact ihy _ _ f h2 Γ (Ls ++ [I]) Q hkk (by simp [hl]) (hvw.2 hb) a w ((hs.learn1 hb).relvl _)
          · cases h
        · cases h; exact hv.elim
    · cases h
  | block id c ih =>
    intro st k T h Γ Ls Q hk hl hv a w hs
    simp only [exec] at h
    refine wp_block (ih st _ T h Γ Ls _ ?_ hl hv a w hs)
    intro e st' T' Γ' Ls' hk' he' hl' hlen hv' a' w' hs'
    cases e with
    | nrm => exact hk .nrm st' T' Γ' Ls' hk' he' hl' hlen hv' a' w' hs'
    | ret => exact hk .ret st' T' Γ' Ls' hk' he' hl' hlen hv' a' w' hs'
    | ext i =>
      simp only [Ex.out, Exit.inBlock]
      simp only [] at hk'
      by_cases hi : i = id
      · rw [if_pos hi] at hk' ⊢; exact hk .nrm st' T' Γ' Ls' hk' he' hl' hlen hv' a' w' hs'
      · rw [if_neg hi] at hk' ⊢; exact hk (.ext i) st' T' Γ' Ls' hk' he' hl' hlen hv' a' w' hs'
  | region id ops draw =>
    intro st k T h Γ Ls Q hk hl hv a w hs
    simp only [exec] at h
    have hnext : Next cx R F w0 (k .nrm) Γ Ls (fun a w => Q .normal a w) := fun st' T' Γ' Ls' hk' he' hp' hlen hv' a' w' hs' =>
      hk .nrm st' T' Γ' Ls' hk' he' hp' hlen hv' a' w' hs'
    split at h
    · rename_i hcond
      have two : ∀ {st : St} {k : St → Option Tree} {T : Tree} {Ls : List (List C → Prop)}, execOps cx ops ops.toList st k = some T → Ls.length = st.lvl → VC cx R T Γ.ρ Ls → Sat cx.P F w0 Γ st a w → Next cx R F w0 k Γ Ls (fun a w => Q .normal a w) → (Code.region id ops draw).wp cx.P Q a w := by
        intro st k T Ls h hl hv hs hnext
        cases draw with
        | false => exact wp_region_list (execOps_sound hcx ops.toList st T h Γ Ls hl hv a w hs hnext)
        | true =>
          simp only [Bool.not_true, Bool.false_or] at hcond
          exact draw_sound hcx hcond hs h hl hv hnext
      split at h
      · exact two h hl hv hs hnext
      · rename_i j hj
        split at h
        · rename_i hok
          split at h
          · rename_i ws t hws ht
            cases h
            obtain ⟨I, hvw, hall⟩ := hv
            exact two hws (Ls := Ls ++ [I]) (by simp [hl]) hvw (hs.relvl _) (joinEnd_sound hok ht hl hs hall hnext)
          · cases h
        · cases h; exact hv.elim
    · rename_i hcond
      cases draw with
      | false => simp at hcond
      | true =>
        split at h
        · rename_i j hj
          have h := orF_some h hv
          exact join_sound hcx h hl hv hs hnext
        · have h := orF_some h hv
          split at h
          · rename_i hc; exact any_sound hcx hc h hl hv hs hnext
          · cases h
  | loop c ih =>
    intro st k T h Γ Ls Q hk hl hv a w hs
    simp only [exec] at h
    have hs0 : Sat cx.P F w0 Γ (loopSt0 cx c st) a w := hs.forget _
    have hl1 : (loopSt1 cx c st).lvl = st.lvl + 1 := rfl
    have e1 : (loopSt0 cx c st).nb = st.nb := rfl
    have e2 : (loopSt0 cx c st).nt = st.nt := rfl
    have e3 : (loopSt0 cx c st).bds = st.bds := rfl
    generalize loopSt1 cx c st = st1 at *
    generalize loopSt0 cx c st = st0 at *
    generalize loopPs cx c st = ps at *
    split at h
    · cases h; exact hv.elim
    · rename_i init hinit
      split at h
      · cases h; exact hv.elim
      · rename_i ks hks
        split at h
        rotate_left
        · cases h; exact hv.elim
        · rename_i hcond
          simp only [Bool.and_eq_true, decide_eq_true_eq] at hcond
          obtain ⟨⟨⟨⟨⟨⟨c1, c2⟩, c3⟩, c4⟩, c5⟩, c6⟩, c7⟩ := hcond
          have c4 := Nat.eq_of_beq_eq_true c4
          have c5 := Nat.eq_of_beq_eq_true c5
          have c6 := Nat.eq_of_beq_eq_true c6
          generalize hkl : (fun (x : Ex) (st' : St) => match x with
            | .nrm => if sameRest st1 st' st.nx ps && Nat.ble st1.nb st'.nb && Nat.beq st1.nt st'.nt then match backPs st1 st' st.nx ps with
                | some vals => if kindsL vals = some ks then some (obT (rngL st'.bds vals) (.back st.lvl vals)) else some (.fail 60004 [st.path, (firstReg c).getD 0])
                | none => some (.fail 60005 [st.path, (firstReg c).getD 0])
              else some (.fail 60003 ([st.path, (firstReg c).getD 0] ++ diffs st1 st' st.nx ps))
            | x => k x st' : Ex → St → Option Tree) = kl at h
          cases hb : exec cx c st1 kl with
          | none => simp [hb] at h
          | some t =>
            simp [hb] at h
            subst h
            obtain ⟨hob, I, μ, hI0, hall⟩ := VC.obT hv
            have hlen : Γ.ρ.length = st.nx := hs.len
            have hnum1 : Num st1.bds Γ.ρ := by rw [c7]; exact hs.num
            obtain ⟨hty0, hsat0⟩ := hs0.rebase (st1 := st1) (ρ0 := Γ.ρ) ⟨[], by simp⟩ (by rw [hlen]; exact c3) (by rw [hlen]; exact hinit) hks (by rw [e3]; exact hob) (by rw [hlen]; exact c2) (by rw [c6, e2]) (by rw [c5, e1]; exact Nat.le_refl _) (by rw [hlen]; exact c4) hnum1
            refine wp_loop_ghost (fun n a w => ∃ xs Γx, CTy cx.P ks xs ∧ I xs ∧ μ xs = n ∧ Γx.ρ = Γ.ρ ++ xs ∧ Ext Γ Γx ∧ Sat cx.P F w0 Γx st1 a w) (μ (cs_ Γ.ρ init))
              ⟨cs_ Γ.ρ init, { Γ with ρ := Γ.ρ ++ cs_ Γ.ρ init, nb := st1.nb }, hty0, hI0, rfl, rfl, ⟨⟨_, rfl⟩, fun _ _ => rfl, by simp only [c5]; rw [hs.nb]; exact Nat.le_refl _, rfl, rfl⟩, hsat0⟩ ?_
            rintro n a1 w1 ⟨xs, Γx, hty, hI, hn, hρ, he, hsx⟩
            have hvx := allC_elim hall xs hty hI
            rw [← hρ] at hvx
            refine ih st1 kl t hb Γx (Ls ++ [fun ys => I ys ∧ μ ys < μ xs]) _ ?_ (by simp [hl, hl1]) hvx a1 w1 hsx
            intro e st' T' Γ' Ls' hk' he' hl' hlen' hv' a' w' hs'
            subst hkl
            cases e with
            | ext i => exact hk (.ext i) st' T' Γ' Ls' hk' (he.trans he') ((List.prefix_append _ _).trans hl') hlen' hv' a' w' hs'
            | ret => exact hk .ret st' T' Γ' Ls' hk' (he.trans he') ((List.prefix_append _ _).trans hl') hlen' hv' a' w' hs'
            | nrm =>
              simp only [] at hk'
              split at hk'
              · rename_i hc
                simp only [Bool.and_eq_true] at hc
                obtain ⟨⟨d1, d2⟩, d3⟩ := hc
                split at hk'
                · rename_i vals hvals
                  split at hk'
                  · rename_i hks'
                    cases hk'
                    obtain ⟨hob', hback⟩ := VC.obT hv'
                    obtain ⟨l, hl2⟩ := (he.trans he').ρ
                    obtain ⟨hty', hsat'⟩ := hs'.rebase (st1 := st1) (ρ0 := Γ.ρ) ⟨l, hl2⟩ (by rw [hlen]; exact d1) (by rw [hlen]; exact hvals) hks' hob' (by rw [hlen]; exact c2) (Nat.eq_of_beq_eq_true d3) (Nat.le_of_ble_eq_true d2) (by rw [hlen]; exact c4) hnum1
                    have hget : Ls'[st.lvl]? = some (fun ys => I ys ∧ μ ys < μ xs) := by
                      obtain ⟨m, rfl⟩ := hl'
                      rw [List.append_assoc, List.getElem?_append_right (by omega), hl]
                      simp
                    simp only [VC, hget] at hback
                    simp only [Ex.out, Exit.then]
                    refine ⟨μ (cs_ Γ'.ρ vals), by rw [← hn]; exact hback.2, cs_ Γ'.ρ vals, { Γ' with ρ := Γ.ρ ++ cs_ Γ'.ρ vals, nb := st1.nb }, hty', hback.1, rfl, rfl, ⟨⟨_, rfl⟩, fun b hb => ?_, by simp only [c5]; rw [hs.nb]; exact Nat.le_refl _, (he.trans he').base, (he.trans he').up⟩, hsat'⟩
                    exact (he.trans he').blk b hb
                  · cases hk'; exact hv'.elim
                · cases hk'; exact hv'.elim
              · cases hk'; exact hv'.elim
end

/-! A function's beginning and end -/
def retOne (P : Program) (st : St) : ResultVar → Option S0
  | .tmp t => st.s0 (.tmp t)
  | .cell a t => match st.lf (.tmp a) with
    | some l => loadLf P st.mem st.vec t l
    | none => none
def retAll (P : Program) (st : St) : List ResultVar → Option (List S0)
  | [] => some []
  | r :: rs => match retOne P st r, retAll P st rs with
    | some s, some l => some (s :: l)
    | _, _ => none
def argSl : Nat → List S0 → List (Nat × Option SV)
  | _, [] => []
  | i, s :: l => (i, some (.one s)) :: argSl (i + 1) l
/-- The pointer among the arguments. -/
def boxArg : List Sh0 → Option (TypeId × List Lk)
  | [] => none
  | .box t l :: _ => some (t, l)
  | _ :: ss => boxArg ss
/-- What lies behind the pointer at the end. -/
def outL (st : St) (ct : Ct) : Option (List Lf) :=
  match boxArg ct.args with
  | none => some []
  | some (t, ks) => match look st.mem 0 with
    | some mb => if mb.1 = t ∧ kindsL mb.2 = some ks then some mb.2 else none
    | none => none
/-- Slices of one's own are handed on with what they hold. -/
def giveL (P : Program) (vec : Vecs) : List Lk → List Lf → List Lf
  | k :: ks, l :: ls => (match k with | .vec _ => l.give P vec k | _ => l.adapt P [] k) :: giveL P vec ks ls
  | _, ls => ls
def S0.give (P : Program) (vec : Vecs) (sh : Sh0) (s : S0) : S0 :=
  match sh, s with
  | .lf k, .lf l => .lf (match k with | .vec _ => l.give P vec k | _ => l.adapt P [] k)
  | .agg ks, .agg ls => .agg (giveL P vec ks ls)
  | _, s => s
def gives (P : Program) (vec : Vecs) : List Sh0 → List S0 → List S0
  | sh :: shs, s :: ss => s.give P vec sh :: gives P vec shs ss
  | _, ss => ss
/-- The variable of a slice that is handed on. -/
def cntIdx (vec : Vecs) : Lf → Option Nat
  | .cnt te r => match (match r with | .var i => some i | .join (.var i) _ => some i | _ => none : Option Nat) with
    | some i => match look vec i with
      | some e => if e.1 = te ∧ mkJoin i e.2 = r then some i else none
      | none => none
    | none => none
  | _ => none
def Lf.isCnt : Lf → Bool
  | .cnt _ _ => true
  | _ => false
def nodupI (vec : Vecs) : List Lf → Bool
  | [] => true
  | l :: ls => !l.isVec && (match cntIdx vec l with | some i => ls.all fun m => !decide (cntIdx vec m = some i) | none => !l.isCnt) && nodupI vec ls
def resOf (cx : Cx) (ct : Ct) (st : St) (l : List S0) : List S0 := if (kindsOf ct.res).all Lk.noVec then adapts cx.P st.vec ct.res l else gives cx.P st.vec ct.res l
def endOf (cx : Cx) (fn : Func) (ct : Ct) (st : St) : Option Tree :=
  match retAll cx.P st fn.results.toList, outL st ct with
  | some l, some o => if shapes st.mem (resOf cx ct st l) = some ct.res ∧ nodupI st.vec (cellsOf st.mem (resOf cx ct st l)) = true ∧ (l.all fun s => s.cells.all fun x => !x.isCnt) = true then
      some (obT (rngL st.bds (cellsOf st.mem (resOf cx ct st l) ++ o)) (.ret (cellsOf st.mem (resOf cx ct st l) ++ o)))
    else some (.fail 70001 [])
  | none, _ => some (.fail 70002 [])
  | _, none => some (.fail 70003 [])
def startOf (fn : Func) (ct : Ct) (bds : Bds) (wr : List Nat) : St :=
  { sl := argSl 0 (freshS 0 ct.args 0), mem := freshMem 0 ct.args 0, nt := fn.ntmps, nb := (freshMem 0 ct.args 0).length, nx := (kindsOf ct.args).length, lvl := 0, bds := bds, wr := wr }
def execFn (cx : Cx) (fn : Func) (ct : Ct) (bds : Bds) : Option Tree :=
  match fn.body with
  | none => none
  | some c =>
    if ct.args.length ≤ fn.ntmps ∧ ct.args.length ≤ 1000 ∧ boxOk ct = true then
      exec cx c (startOf fn ct bds cx.wr) fun x st => match x with
        | .ext _ => none
        | _ => endOf cx fn ct st
    else none

def resSem (tmps : Array Value) : ResultVar → Sem Value
  | .tmp t => pure (tmps.getD t undef)
  | .cell x t => do loadVar t (← asAddr (tmps.getD x undef))
theorem results_eq (fn : Func) (tmps : Array Value) : results fn tmps = (fn.results.mapM (resSem tmps) >>= fun vs => pure (if h : vs.size = 1 then vs[0] else .tuple vs)) := by
  unfold results
  congr 1
theorem run_one {P : Program} {F : Nat → Prop} {w0 : World} {Γ : Env} {st : St} {a : Act} {w : World} (hs : Sat P F w0 Γ st a w) {r : ResultVar} {s : S0} (h1 : retOne P st r = some s) :
    (resSem a.tmps r).run P w = .ok (s.den Γ) w ∧ s.ok P w (Own Γ st) Γ := by
  have hv := hs.view (P := P) #[.tmp 0]
  cases r with
  | tmp t =>
    simp only [retOne] at h1
    obtain ⟨g1, g2⟩ := hs.tmp (St.s0_ev h1)
    refine ⟨?_, g2⟩
    simp only [resSem, g1, Sem.run_pure]
    rfl
  | cell x t =>
    simp only [retOne] at h1
    split at h1
    · rename_i lf hlf
      obtain ⟨g1, g2⟩ := hs.tmp (St.lf_ev hlf)
      have hlo := g2 lf (by simp [S0.cells])
      obtain ⟨g3, g4⟩ := run_loadLf hv h1 hlo
      refine ⟨?_, g4⟩
      rw [show (SV.one (S0.lf lf)).den Γ = lf.den Γ from rfl] at g1
      have hp : ∃ ad, lf.den Γ = .pointer (some ad) := by
        cases lf with
        | ptr b o => exact ⟨_, rfl⟩
        | elp te sz e y o =>
          obtain ⟨b, p, he, -⟩ := hlo.1.addr hlo.2.1 hlo.2.2.1
          exact ⟨_, he _⟩
        | velp te sz i y o =>
          obtain ⟨b, n, cap, hl, -⟩ := hlo
          exact ⟨(⟨b, 0, none⟩ : Addr).add ((E.den Γ.ρ y).toNat * sz + o), by simp only [Lf.den, hl, elemAt]⟩
        | _ => simp [loadLf] at h1
      obtain ⟨ad, had⟩ := hp
      rw [had] at g1 g3
      simp only [resSem, g1, asAddr, pure_bind]
      simpa only [Instr.loadAt, Instr.sureAddr, pure_bind] using g3
    · cases h1
theorem run_all {P : Program} {F : Nat → Prop} {w0 : World} {Γ : Env} {st : St} {a : Act} {w : World} (hs : Sat P F w0 Γ st a w) : ∀ (rs : List ResultVar) (l : List S0), retAll P st rs = some l →
    (rs.mapM (resSem a.tmps)).run P w = .ok (l.map (S0.den Γ)) w ∧ ∀ s ∈ l, s.ok P w (Own Γ st) Γ
  | [], l, h => by simp [retAll] at h; subst h; simp
  | r :: rs, l, h => by
    simp only [retAll] at h
    split at h
    · rename_i s l' h1 h2
      cases h
      obtain ⟨i1, i2⟩ := run_all hs rs l' h2
      obtain ⟨j1, j2⟩ := run_one hs h1
      refine ⟨?_, fun x hx => ?_⟩
      · simp only [List.mapM_cons, Sem.run_bind, i1, j1, Result.andThen_ok, Sem.run_pure, List.map_cons]
      · rcases List.mem_cons.1 hx with rfl | hx
        · exact j2
        · exact i2 x hx
    · cases h
theorem run_results {P : Program} {fn : Func} {F : Nat → Prop} {w0 : World} {Γ : Env} {st : St} {a : Act} {w : World} (hs : Sat P F w0 Γ st a w) {l : List S0} (h : retAll P st fn.results.toList = some l) :
    (results fn a.tmps).run P w = .ok (match l.map (S0.den Γ) with | [x] => x | _ => .tuple (l.map (S0.den Γ)).toArray) w ∧ ∀ s ∈ l, s.ok P w (Own Γ st) Γ := by
  obtain ⟨k1, k2⟩ := run_all hs _ _ h
  refine ⟨?_, k2⟩
  rw [results_eq]
  simp only [Array.mapM_eq_mapM_toList, Sem.run_bind, Sem.run_map, k1, Result.andThen_ok, Sem.run_pure]
  congr 1
  match l.map (S0.den Γ) with
  | [] => simp
  | [x] => simp
  | x :: y :: l => simp

/-- A FUNCTION'S CONTRACT, out of its tree. -/
theorem look_argSl : ∀ (l : List S0) (i t : Nat) (sv : SV), look (argSl i l) t = some sv → ∃ j s, t = i + j ∧ l[j]? = some s ∧ sv = .one s
  | [], _, _, _, h => by cases h
  | s :: l, i, t, sv, h => by
    simp only [argSl, look] at h
    split at h
    · rename_i e; cases h; exact ⟨0, s, by omega, rfl, rfl⟩
    · obtain ⟨j, s', e, hj, hsv⟩ := look_argSl l (i + 1) t sv h
      exact ⟨j + 1, s', by omega, by simpa using hj, hsv⟩
theorem freshS_len (nb : Nat) : ∀ (l : List Sh0) (i : Nat), (freshS nb l i).length = l.length
  | [], _ => rfl
  | s :: l, i => by simp [freshS, freshS_len nb l]
theorem boxArg_none : ∀ {ss : List Sh0}, boxArg ss = none → ss.all (fun s => !s.isBox) = true
  | [], _ => rfl
  | .box t l :: _, h => by cases h
  | .lf k :: ss, h => by simp only [List.all_cons, Bool.and_eq_true]; exact ⟨rfl, boxArg_none (ss := ss) h⟩
  | .agg k :: ss, h => by simp only [List.all_cons, Bool.and_eq_true]; exact ⟨rfl, boxArg_none (ss := ss) h⟩
theorem boxArg_some : ∀ {ss : List Sh0} {p : TypeId × List Lk}, boxArg ss = some p → ss.all (fun s => !s.isBox) = false
  | [], _, h => by cases h
  | .box t l :: _, _, _ => rfl
  | .lf k :: ss, _, h => by have := boxArg_some (ss := ss) h; simpa [Sh0.isBox] using this
  | .agg k :: ss, _, h => by have := boxArg_some (ss := ss) h; simpa [Sh0.isBox] using this
theorem filter_noBox {ss : List Sh0} (h : (ss.filter Sh0.isBox).length ≤ 0) : ss.all (fun s => !s.isBox) = true := by
  have h0 : (ss.filter Sh0.isBox) = [] := List.eq_nil_of_length_eq_zero (by omega)
  rw [List.all_eq_true]
  intro x hx
  cases hxb : x.isBox with
  | false => rfl
  | true => have := List.mem_filter.2 ⟨hx, hxb⟩; rw [h0] at this; cases this
theorem outs_none {P : Program} {w : World} {O : Nat → Nat → Prop} : ∀ {ss : List Sh0} {vs : List Value}, ss.all (fun s => !s.isBox) = true → Outs P w O ss vs []
  | [], vs, _ => by cases vs <;> rfl
  | s :: ss, [], _ => by cases s <;> rfl
  | s :: ss, v :: vs, hb => by
    simp only [List.all_cons, Bool.and_eq_true] at hb
    cases s with
    | box t l => cases hb.1
    | lf k => exact outs_none (ss := ss) (vs := vs) hb.2
    | agg l => exact outs_none (ss := ss) (vs := vs) hb.2
theorem box_start {P : Program} {w : World} {O : Nat → Nat → Prop} {ρ : List C} {t : TypeId} {ks : List Lk} : ∀ {ss : List Sh0} {vs : List Value} {cs : List C}, Reps P w O none ss vs cs → (ss.filter Sh0.isBox).length ≤ 1 → boxArg ss = some (t, ks) → ∀ i, (∀ j c, cs[j]? = some c → at_ ρ (i + j) = c) →
    ∃ (b : Nat) (us : List Value) (c1 : List C) (n : Nat), (∀ x, IsBox ss vs x ↔ x = b) ∧ Blk w b t us.toArray ∧ (∀ o, O b o) ∧ LReps P w (fun x o => O x o ∨ some b = some x) ks us c1 ∧ freshMem 0 ss i = [(0, some (t, freshL ks n))] ∧ (∀ j c, c1[j]? = some c → at_ ρ (n + j) = c) ∧
      ∀ w' O' us' c', Blk w' b t us'.toArray → LReps P w' O' ks us' c' → Outs P w' O' ss vs c'
  | [], _, _, _, _, hb, _, _ => by cases hb
  | s :: ss, [], _, h, _, _, _, _ => h.elim
  | s :: ss, v :: vs, cs, h, hl, hb, i, hi => by
    obtain ⟨c1, c2, rfl, h1, h2⟩ := h
    have hlen : c1.length = s.kinds.length := h1.ty.len
    have hi2 : ∀ j c, c2[j]? = some c → at_ ρ (i + s.kinds.length + j) = c := fun j c hj => by
      have := hi (c1.length + j) c (by rw [List.getElem?_append_right (by omega)]; simpa using hj)
      rwa [← hlen, Nat.add_assoc]
    have hi1 : ∀ j c, c1[j]? = some c → at_ ρ (i + j) = c := fun j c hj => hi j c (by
      have : j < c1.length := by
        rcases Nat.lt_or_ge j c1.length with h' | h'
        · exact h'
        · rw [List.getElem?_eq_none h'] at hj; cases hj
      rw [List.getElem?_append_left this]; exact hj)
    cases s with
    | box t' l =>
      cases hb
      have hno : ss.all (fun s => !s.isBox) = true := filter_noBox (by simp only [List.filter_cons, Sh0.isBox, if_true, List.length_cons] at hl; omega)
      obtain ⟨b, us, rfl, g1, g2, g3⟩ := h1
      refine ⟨b, us, c1, i, fun x => ⟨?_, fun e => .inl (by rw [e])⟩, g1, g2, g3, ?_, hi1, fun w' O' us' c' k1 k2 => ⟨c', [], b, us', by simp, rfl, k1, k2, outs_none hno⟩⟩
      · rintro (hx | hx)
        · cases hx; rfl
        · exact absurd hx (isBox_noBox hno)
      · simp only [freshMem]
        rw [freshMem_noBox 0 ss _ hno]
    | lf k =>
      obtain ⟨b, us, c, n, r1, r2, r3, r4, r5, r6, r7⟩ := box_start h2 hl hb _ hi2
      exact ⟨b, us, c, n, r1, r2, r3, r4, r5, r6, r7⟩
    | agg l =>
      obtain ⟨b, us, c, n, r1, r2, r3, r4, r5, r6, r7⟩ := box_start h2 hl hb _ hi2
      exact ⟨b, us, c, n, r1, r2, r3, r4, r5, r6, r7⟩
theorem St.look_one {t : TypeId} {l : List Lf} {j : Nat} {mb : TypeId × List Lf} (h : look [(0, some (t, l))] j = some mb) : j = 0 ∧ mb = (t, l) := by
  simp only [look] at h
  split at h
  · rename_i e; cases h; exact ⟨e.symm, rfl⟩
  · cases h
/-! What is handed on at the end -/
section
variable {P : Program} {F : Nat → Prop} {w0 : World} {Γ : Env} {st : St} {a : Act} {w : World}
theorem cntIdx_spec (h : Sat P F w0 Γ st a w) {l : Lf} {i : Nat} (hi : cntIdx st.vec l = some i) : ∃ te e, look st.vec i = some e ∧ l = .cnt te (mkJoin i e.2) ∧ e.1 = te ∧ (l.c Γ.ρ).loc = (at_ Γ.ρ i).loc := by
  unfold cntIdx at hi
  split at hi
  · rename_i te r
    split at hi
    · rename_i i' hi'
      split at hi
      · rename_i e he
        split at hi
        · rename_i hc
          cases hi
          refine ⟨te, e, he, by rw [hc.2], hc.1, ?_⟩
          simp only [Lf.c]
          rw [← hc.2, mkJoin_ev (h.vec _ e he).1]
          rfl
        · cases hi
      · cases hi
    · cases hi
  · cases hi
theorem nodupI_spec {vec : Vecs} : ∀ {ls : List Lf}, nodupI vec ls = true → ∀ l ∈ ls, l.isVec = false ∧ (l.isCnt = true → ∃ i, cntIdx vec l = some i)
  | [], _, l, hl => by cases hl
  | x :: ls, h, l, hl => by
    simp only [nodupI, Bool.and_eq_true, Bool.not_eq_true'] at h
    obtain ⟨⟨h1, h2⟩, h3⟩ := h
    rcases List.mem_cons.1 hl with rfl | hl
    · refine ⟨h1, fun hc => ?_⟩
      split at h2
      · rename_i i hi; exact ⟨i, hi⟩
      · rw [hc] at h2; cases h2
    · exact nodupI_spec h3 l hl
theorem kind_vec {l : Lf} {t : TypeId} (hk : l.kind = some (.vec t)) (hv : l.isVec = false) : l.isCnt = true := by
  cases l with
  | vec te i => cases hv
  | cnt te r => rfl
  | _ => cases hk
theorem vecB_cells (h : Sat P F w0 Γ st a w) : ∀ {ls : List Lf} {ks : List Lk}, kindsL ls = some ks → nodupI st.vec ls = true → (vecB ks (cs_ Γ.ρ ls)).Nodup ∧ ∀ b ∈ vecB ks (cs_ Γ.ρ ls), ∃ l ∈ ls, ∃ i, cntIdx st.vec l = some i ∧ Hold Γ st false i b
  | [], ks, hk, _ => by simp [kindsL] at hk; subst hk; simp [vecB, cs_]
  | l :: ls, ks, hk, hn => by
    have hn0 := hn
    simp only [nodupI, Bool.and_eq_true, Bool.not_eq_true'] at hn
    obtain ⟨⟨h1, h2⟩, h3⟩ := hn
    simp only [kindsL] at hk
    split at hk
    · rename_i k ks' hk1 hk2
      cases hk
      obtain ⟨i1, i2⟩ := vecB_cells h hk2 h3
      have tail : vecB (k :: ks') (cs_ Γ.ρ (l :: ls)) = vecB ks' (cs_ Γ.ρ ls) → (vecB (k :: ks') (cs_ Γ.ρ (l :: ls))).Nodup ∧ ∀ b ∈ vecB (k :: ks') (cs_ Γ.ρ (l :: ls)), ∃ x ∈ l :: ls, ∃ i, cntIdx st.vec x = some i ∧ Hold Γ st false i b := fun e => by
        rw [e]
        exact ⟨i1, fun b hb => by obtain ⟨x, hx, r⟩ := i2 b hb; exact ⟨x, by simp [hx], r⟩⟩
      cases k with
      | vec t =>
        have hc := kind_vec hk1 h1
        obtain ⟨i, hi⟩ := (nodupI_spec hn0 l (by simp)).2 hc
        obtain ⟨te, e, q1, q2, q3, q4⟩ := cntIdx_spec h hi
        rw [hi] at h2
        simp only [List.all_eq_true, Bool.not_eq_true', decide_eq_false_iff_not] at h2
        cases hob : (l.c Γ.ρ).loc.ownBlock with
        | none => exact tail (by simp [cs_, vecB, hob])
        | some b =>
          have hh : Hold Γ st false i b := .vec (Γ := Γ) q1 (by rw [← q4]; exact hob)
          have e' : vecB (.vec t :: ks') (cs_ Γ.ρ (l :: ls)) = b :: vecB ks' (cs_ Γ.ρ ls) := by simp [cs_, vecB, hob]
          rw [e']
          refine ⟨List.nodup_cons.2 ⟨fun hb => ?_, i1⟩, fun x hx => ?_⟩
          · obtain ⟨m, hm, j, hj, hhj⟩ := i2 b hb
            have := (h.inj _ _ _ _ _ hh hhj).2
            subst this
            exact h2 m hm hj
          · rcases List.mem_cons.1 hx with rfl | hx
            · exact ⟨l, by simp, i, hi, hh⟩
            · obtain ⟨m, hm, r⟩ := i2 x hx; exact ⟨m, by simp [hm], r⟩
      | int => exact tail rfl
      | bool => exact tail rfl
      | arr t => exact tail rfl
    · cases hk
theorem Lf.give_spec (h : Sat P F w0 Γ st a w) {O : Nat → Nat → Prop} (hO : ∀ b o, O b o → Own Γ st b o) {k : Lk} {l : Lf} (ho : l.ok P w (Own Γ st) Γ) (hnc : l.isCnt = false) :
    ((match k with | .vec _ => l.give P st.vec k | _ => l.adapt P [] k) : Lf).den Γ = l.den Γ ∧ (((match k with | .vec _ => l.give P st.vec k | _ => l.adapt P [] k) : Lf).isVec = false → ((match k with | .vec _ => l.give P st.vec k | _ => l.adapt P [] k) : Lf).okR P w O Γ) := by
  have plain : ∀ x : Lf, x.ok P w (Own Γ st) Γ → x.isCnt = false → x.isVec = false → x.okR P w O Γ := fun x hx hc hv => by
    cases x with
    | cnt te r => cases hc
    | vec te i => cases hv
    | _ => exact Lf.ok_anti hx hO
  have other : (l.adapt P [] k).den Γ = l.den Γ ∧ ((l.adapt P [] k).isVec = false → (l.adapt P [] k).okR P w O Γ) := by
    refine ⟨adapt_den0 P Γ k l, fun hv => plain _ (S0.adaptOk ho) ?_ hv⟩
    unfold Lf.adapt
    split
    · rfl
    · split <;> rfl
    · exact hnc
  cases k with
  | vec t =>
    by_cases hvv : ∃ te i, l = .vec te i
    · obtain ⟨te, i, rfl⟩ := hvv
      show (Lf.give P st.vec (.vec t) (.vec te i)).den Γ = _ ∧ ((Lf.give P st.vec (.vec t) (.vec te i)).isVec = false → (Lf.give P st.vec (.vec t) (.vec te i)).okR P w O Γ)
      simp only [Lf.give]
      split
      · rename_i e he
        split
        · rename_i hc
          have hj := mkJoin_ev (h.vec i e he).1
          refine ⟨by simp only [Lf.den, hj, C.loc], fun _ => ?_⟩
          obtain ⟨ks, us, k1, k2, k3, k4, k5⟩ := (h.vec i e he).1.anti hO
          simp only [Lf.okR, hj]
          rw [← hc]
          exact ⟨ks, us, k1, ⟨_, rfl⟩, k3, k4, k5⟩
        · exact ⟨rfl, fun hv => by cases hv⟩
      · exact ⟨rfl, fun hv => by cases hv⟩
    · have hg : Lf.give P st.vec (.vec t) l = l := by
        cases l with
        | vec te i => exact absurd ⟨te, i, rfl⟩ hvv
        | _ => rfl
      show (Lf.give P st.vec (.vec t) l).den Γ = _ ∧ ((Lf.give P st.vec (.vec t) l).isVec = false → (Lf.give P st.vec (.vec t) l).okR P w O Γ)
      rw [hg]
      exact ⟨rfl, plain l ho hnc⟩
  | int => exact other
  | bool => exact other
  | arr t => exact other
theorem gives_spec (h : Sat P F w0 Γ st a w) {O : Nat → Nat → Prop} (hO : ∀ b o, O b o → Own Γ st b o) : ∀ {shs : List Sh0} {ss : List S0}, (∀ s ∈ ss, s.ok P w (Own Γ st) Γ) → (ss.all fun s => s.cells.all fun x => !x.isCnt) = true →
    (gives P st.vec shs ss).map (S0.den Γ) = ss.map (S0.den Γ) ∧ ∀ s ∈ gives P st.vec shs ss, ∀ l ∈ s.cells, l.isVec = false → l.okR P w O Γ
  | [], ss, h1, h2 => by
    have key : ∀ s ∈ ss, ∀ l ∈ s.cells, l.isVec = false → l.okR P w O Γ := fun s hs l hl hv => by
      have hc := List.all_eq_true.1 (List.all_eq_true.1 h2 s hs) l hl
      have ho := h1 s hs l hl
      cases l with
      | cnt te r => cases hc
      | vec te i => cases hv
      | _ => exact Lf.ok_anti ho hO
    cases ss <;> exact ⟨rfl, key⟩
  | _ :: _, [], _, _ => ⟨rfl, fun l hl => by cases hl⟩
  | sh :: shs, s :: ss, h1, h2 => by
    simp only [List.all_cons, Bool.and_eq_true] at h2
    obtain ⟨g1, g2⟩ := gives_spec h hO (shs := shs) (ss := ss) (fun x hx => h1 x (by simp [hx])) h2.2
    have hcn : ∀ l ∈ s.cells, l.isCnt = false := fun l hl => by have := List.all_eq_true.1 h2.1 l hl; simpa using this
    have hso := h1 s (by simp)
    have hL : ∀ (ks : List Lk) (ls : List Lf), (∀ l ∈ ls, l.isCnt = false) → (∀ l ∈ ls, l.ok P w (Own Γ st) Γ) → (giveL P st.vec ks ls).map (Lf.den Γ) = ls.map (Lf.den Γ) ∧ ∀ l ∈ giveL P st.vec ks ls, l.isVec = false → l.okR P w O Γ := by
      intro ks
      induction ks with
      | nil =>
        intro ls k1 k2
        have key : ∀ l ∈ ls, l.isVec = false → l.okR P w O Γ := fun l hl hv => by
          have hc := k1 l hl
          have ho := k2 l hl
          cases l with
          | cnt te r => cases hc
          | vec te i => cases hv
          | _ => exact Lf.ok_anti ho hO
        cases ls <;> exact ⟨rfl, key⟩
      | cons k ks ih =>
        intro ls k1 k2
        cases ls with
        | nil => exact ⟨rfl, fun l hl => by cases hl⟩
        | cons l ls =>
          obtain ⟨q1, q2⟩ := ih ls (fun x hx => k1 x (by simp [hx])) (fun x hx => k2 x (by simp [hx]))
          obtain ⟨q3, q4⟩ := Lf.give_spec h hO (k := k) (k2 l (by simp)) (k1 l (by simp))
          refine ⟨by simp only [giveL, List.map_cons, q1, q3], fun x hx => ?_⟩
          rcases List.mem_cons.1 hx with rfl | hx
          · exact q4
          · exact q2 x hx
    have one : (s.give P st.vec sh).den Γ = s.den Γ ∧ ∀ l ∈ (s.give P st.vec sh).cells, l.isVec = false → l.okR P w O Γ := by
      unfold S0.give
      split
      · rename_i k l
        obtain ⟨q3, q4⟩ := Lf.give_spec h hO (k := k) (hso l (by simp [S0.cells])) (hcn l (by simp [S0.cells]))
        exact ⟨q3, fun x hx => by simp only [S0.cells, List.mem_singleton] at hx; subst hx; exact q4⟩
      · rename_i ks ls
        obtain ⟨q1, q2⟩ := hL ks ls hcn hso
        exact ⟨by simp only [S0.den, dens, q1], q2⟩
      · refine ⟨rfl, fun l hl hv => ?_⟩
        have hc := hcn l hl
        have ho := hso l hl
        cases l with
        | cnt te r => cases hc
        | vec te i => cases hv
        | _ => exact Lf.ok_anti ho hO
    refine ⟨by simp [gives, g1, one.1], fun x hx => ?_⟩
    rcases List.mem_cons.1 hx with rfl | hx
    · exact one.2
    · exact g2 x hx
theorem shapes_kindsL {mem : Mem} : ∀ {args : List S0} {ss : List Sh0}, shapes mem args = some ss → kindsL (cellsOf mem args) = some (kindsOf ss)
  | [], ss, h => by simp [shapes] at h; subst h; rfl
  | s :: args, ss, h => by
    simp only [shapes] at h
    split at h
    · rename_i sh hss h1 h2
      cases h
      have hc : cellsOf mem (s :: args) = s.cellsM mem ++ cellsOf mem args := by simp [cellsOf]
      have hk : kindsOf (sh :: hss) = sh.kinds ++ kindsOf hss := by simp [kindsOf]
      rw [hc, hk]
      have app : ∀ {l m : List Lf} {k n : List Lk}, kindsL l = some k → kindsL m = some n → kindsL (l ++ m) = some (k ++ n) := by
        intro l
        induction l with
        | nil => intro m k n h1 h2; simp [kindsL] at h1; subst h1; exact h2
        | cons x l ih =>
          intro m k n h1 h2
          simp only [kindsL] at h1
          split at h1
          · rename_i k' ks' e1 e2
            cases h1
            simp only [List.cons_append, kindsL, e1, ih e2 h2]
          · cases h1
      refine app ?_ (shapes_kindsL h2)
      have plain : s.shapeM mem = s.shape → s.cellsM mem = s.cells → kindsL (s.cellsM mem) = some sh.kinds := by
        intro e1 e2
        rw [e1] at h1
        rw [e2]
        cases s with
        | lf l =>
          simp only [S0.shape, Option.map_eq_some_iff] at h1
          obtain ⟨k, hk', rfl⟩ := h1
          simp [S0.cells, kindsL, hk', Sh0.kinds]
        | agg ls =>
          simp only [S0.shape, Option.map_eq_some_iff] at h1
          obtain ⟨k, hk', rfl⟩ := h1
          exact hk'
      by_cases hp : ∃ b, s = .lf (.ptr b 0)
      · obtain ⟨b, rfl⟩ := hp
        simp only [S0.shapeM] at h1
        split at h1
        · rename_i mb hmb
          simp only [Option.map_eq_some_iff] at h1
          obtain ⟨ks, hks, rfl⟩ := h1
          simp only [S0.cellsM, hmb]
          exact hks
        · cases h1
      · refine plain ?_ ?_
        · unfold S0.shapeM; split
          · exact absurd ⟨_, rfl⟩ hp
          · rfl
        · unfold S0.cellsM; split
          · exact absurd ⟨_, rfl⟩ hp
          · rfl
    · cases h
end
theorem cellsOf_box {mem : Mem} {args : List S0} {b : Nat} {mb : TypeId × List Lf} (hin : S0.lf (.ptr b 0) ∈ args) (hmb : look mem b = some mb) : ∀ l ∈ mb.2, l ∈ cellsOf mem args := fun l hl =>
  List.mem_flatMap.2 ⟨_, hin, by simp only [S0.cellsM, hmb]; exact hl⟩
theorem cellsOf_plain {mem : Mem} {args : List S0} {s : S0} (hs : s ∈ args) (hp : ¬ ∃ b, s = .lf (.ptr b 0)) : ∀ l ∈ s.cells, l ∈ cellsOf mem args := fun l hl =>
  List.mem_flatMap.2 ⟨s, hs, by
    unfold S0.cellsM; split
    · exact absurd ⟨_, rfl⟩ hp
    · exact hl⟩
theorem ct_ok_open {cx : Cx} (hcx : CxOK cx) {f : FuncId} {fn : Func} (hf : cx.P.funcs[f]? = some fn) {ct : Ct} {bds : Bds} {c : Code} (hbody : fn.body = some c) (hle' : ct.args.length ≤ fn.ntmps ∧ ct.args.length ≤ 1000 ∧ boxOk ct = true)
    (hvc : ∀ cs, CTy cx.P (kindsOf ct.args) cs → ct.pre cs → bds.ok cs ∧ ∀ (F : Nat → Prop) (w0 : World) (Γ : Env) (a : Act) (w : World) (Q : Exit → Act → World → Prop), Γ.ρ = cs → Sat cx.P F w0 Γ (startOf fn ct bds cx.wr) a w →
      KOK cx (ct.post cs) F w0 (fun x st => match x with
        | .ext _ => none
        | _ => endOf cx fn ct st) Γ [] Q → c.wp cx.P Q a w) : CtOK cx.P f ct := by
  intro Base w vs cs hBase hreps hpre
  have hty := hreps.ty
  obtain ⟨hb, hmain⟩ := hvc cs hty hpre
  obtain ⟨hle, hle2, hbx⟩ := hle'
  refine calls_of_wp hf hbody ?_
  have hat : ∀ j c, cs[j]? = some c → at_ cs (0 + j) = c := fun j c hj => by rw [Nat.zero_add]; simp [at_, List.getD_eq_getElem?_getD, hj]
  have hbx' := hbx
  simp only [boxOk, Bool.and_eq_true, Bool.or_eq_true] at hbx'
  obtain ⟨⟨hb1, hb2⟩, hb3⟩ := hbx'
  have hb1 := Nat.le_of_ble_eq_true hb1
  have hbkn : (boxKinds ct.args).all Lk.noVec = true := by
    have : ∀ {ss : List Sh0}, (kindsOf ss).all Lk.noVec = true → (boxKinds ss).all Lk.noVec = true := by
      intro ss
      induction ss with
      | nil => intro _; rfl
      | cons s ss ih =>
        intro h
        have hk : kindsOf (s :: ss) = s.kinds ++ kindsOf ss := by simp [kindsOf]
        rw [hk, List.all_append, Bool.and_eq_true] at h
        cases s with
        | box t l => show (l ++ boxKinds ss).all Lk.noVec = true; rw [List.all_append, Bool.and_eq_true]; exact ⟨h.1, ih h.2⟩
        | _ => exact ih h.2
    exact this hb3
  have hsm : Smalls cs := by
    have := Smalls.nil.app (cs := cs) fun c hc => hty.small c hc
    simpa using this
  -- where the argument's block lies
  obtain ⟨B, hB1, hB2, hB3⟩ : ∃ B : Nat, (∀ x, IsBox ct.args vs x → x = B ∧ ∃ p, boxArg ct.args = some p) ∧
      (∀ Γ : Env, Γ.ρ = cs → Γ.blk 0 = B → Γ.base = Base → ∀ j mb, look (freshMem 0 ct.args 0) j = some mb → Blk w (Γ.blk j) mb.1 (dens Γ mb.2) ∧ (∀ l ∈ mb.2, l.ok cx.P w (fun x o => Base x o ∨ x = B) Γ) ∧ IsBox ct.args vs (Γ.blk j) ∧ j < (freshMem 0 ct.args 0).length ∧ j = 0 ∧ ∀ o, Base B o) ∧
      (∀ (st' : St) (o : List Lf) (w' : World) (Γ' : Env) (O' : Nat → Nat → Prop), outL st' ct = some o → Γ'.blk 0 = (if (freshMem 0 ct.args 0).length = 0 then Γ'.blk 0 else B) → (∀ mb, look st'.mem 0 = some mb → Blk w' (Γ'.blk 0) mb.1 (dens Γ' mb.2) ∧ ∀ l ∈ mb.2, l.ok cx.P w' O' Γ') → Num st'.bds Γ'.ρ → Obs Γ'.ρ (rngL st'.bds o) → Outs cx.P w' O' ct.args vs (cs_ Γ'.ρ o) ∧ ((∃ p, boxArg ct.args = some p) → ∃ mb, look st'.mem 0 = some mb ∧ Γ'.blk 0 = B)) := by
    cases hba : boxArg ct.args with
    | none =>
      have hno := boxArg_none hba
      refine ⟨0, fun x hx => absurd hx (isBox_noBox hno), fun Γ _ _ _ j mb hj => ?_, fun st' o w' Γ' O' ho _ _ _ _ => ?_⟩
      · rw [freshMem_noBox 0 ct.args 0 hno] at hj; cases hj
      · simp only [outL, hba, Option.some.injEq] at ho; subst ho; exact ⟨outs_none hno, fun ⟨p, hp⟩ => by cases hp⟩
    | some p =>
      obtain ⟨t, ks⟩ := p
      obtain ⟨b, us, c1, n, r1, r2, r3, r4, r5, r6, r7⟩ := box_start hreps hb1 hba 0 hat
      have hksn : ks.all Lk.noVec = true := by
        have : ∀ {ss : List Sh0}, boxArg ss = some (t, ks) → (boxKinds ss).all Lk.noVec = true → ks.all Lk.noVec = true := by
          intro ss
          induction ss with
          | nil => intro h _; cases h
          | cons s ss ih =>
            intro h hn
            cases s with
            | box t' l =>
              cases h
              have : (ks ++ boxKinds ss).all Lk.noVec = true := hn
              rw [List.all_append, Bool.and_eq_true] at this
              exact this.1
            | lf k => exact ih h hn
            | agg k => exact ih h hn
        exact this hba hbkn
      refine ⟨b, fun x hx => ⟨(r1 x).1 hx, _, rfl⟩, fun Γ hρ hblk hbase j mb hj => ?_, fun st' o w' Γ' O' ho hbl hm hn hob => ?_⟩
      · rw [r5] at hj
        obtain ⟨rfl, rfl⟩ := St.look_one hj
        obtain ⟨f1, f2⟩ := freshL_rep (Γ := Γ) r4 n (fun j c hj => by rw [hρ]; exact r6 j c hj)
        refine ⟨by rw [hblk]; unfold dens; rw [f1]; exact r2, fun l hl => Lf.ok_anti (f2 l hl) fun x o hx => hx.imp id fun e => by rw [e], by rw [hblk]; exact (r1 b).2 rfl, by rw [r5]; exact Nat.succ_pos _, rfl, r3⟩
      · rw [r5] at hbl
        simp only [List.length_cons, List.length_nil, Nat.zero_add, Nat.one_ne_zero, if_false] at hbl
        simp only [outL, hba] at ho
        split at ho
        · rename_i mb hmb
          split at ho
          · rename_i hc
            cases ho
            obtain ⟨m1, m2⟩ := hm mb hmb
            refine ⟨?_, fun _ => ⟨mb, hmb, hbl⟩⟩
            rw [hbl, hc.1] at m1
            exact r7 w' O' _ _ m1 (Ls_rep hn hc.2 (kindsL_noVec hc.2 hksn m2) hob)
          · cases ho
        · cases ho
  let Γ : Env := { ρ := cs, blk := fun _ => B, nb := (freshMem 0 ct.args 0).length, base := Base }
  obtain ⟨f1, f2⟩ := freshS_rep (Γ := Γ) (nb := 0) hreps (fun b hb => ((hB1 b hb).1).symm) 0 hat
  have hvl : vs.length = ct.args.length := by rw [← f1, List.length_map, freshS_len]
  have hmemB : ∀ j mb, look (freshMem 0 ct.args 0) j = some mb → ∀ o, Base (Γ.blk j) o := fun j mb hj o => (hB2 Γ rfl rfl rfl j mb hj).2.2.2.2.2 o
  have hown : ∀ b o, Own Γ (startOf fn ct bds cx.wr) b o → Base b o := by
    rintro b o (hb | ⟨j, mb, hj, rfl⟩ | ⟨i, e, hi, -⟩)
    · exact hb
    · exact hmemB j mb hj o
    · cases hi
  have hs : Sat cx.P (fun i => i < w.heap.size ∧ ¬ IsBox ct.args vs i) w Γ (startOf fn ct bds cx.wr) { tmps := vs.toArray ++ Array.replicate (fn.ntmps - vs.toArray.size) undef, defers := [] } w := by
    refine ⟨fun t sv ht => ?_, by simp [startOf]; omega, fun b mb hm => ?_, fun i e hi => (by cases hi), fun i e hi => (by cases hi), fun s j s' j' b h1 h2 => ?_, Keeps.refl _ _, fun i hi => hi.1, hBase, rfl, hty.len, rfl, ⟨hb, hsm⟩⟩
    · obtain ⟨j, s, e, hj, rfl⟩ := look_argSl _ _ _ _ ht
      have hjl : j < vs.length := by
        rw [hvl, ← freshS_len 0 ct.args 0]
        rcases Nat.lt_or_ge j (freshS 0 ct.args 0).length with h' | h'
        · exact h'
        · rw [List.getElem?_eq_none h'] at hj; cases hj
      have hmem := List.mem_of_getElem? hj
      refine ⟨?_, fun l hl => Lf.ok_anti (f2 s hmem l hl) hown⟩
      have : vs[j]? = some (s.den Γ) := by rw [← f1]; simp [hj]
      subst e
      unfold slotV
      rw [if_pos (by omega)]
      simp only [Nat.zero_add, Array.getD_eq_getD_getElem?]
      rw [Array.getElem?_append_left (by simpa using hjl)]
      simp [this, SV.den]
    · obtain ⟨m1, m2, m3, m4, m5, m6⟩ := hB2 Γ rfl rfl rfl b mb hm
      refine ⟨m1, fun l hl => Lf.ok_anti (m2 l hl) fun x o hx => .inl (hown x o hx), fun hn => hn.2 m3, m4⟩
    · rcases h1.inv with ⟨rfl, mb, hm, rfl⟩ | ⟨rfl, e, hm, -⟩
      · rcases h2.inv with ⟨rfl, mc, hm', -⟩ | ⟨rfl, e, hm', -⟩
        · have h1 := (hB2 Γ rfl rfl rfl j mb hm).2.2.2.2.1
          have h2 := (hB2 Γ rfl rfl rfl j' mc hm').2.2.2.2.1
          exact ⟨rfl, by rw [h1, h2]⟩
        · cases hm'
      · cases hm
  refine hmain _ _ Γ _ w _ rfl hs ?_
  intro x st' T' Γ' Ls' hk he hl hlen hv' a' w' hs'
  have fin : endOf cx fn ct st' = some T' → a'.defers = [] ∧ ∃ v, (results fn a'.tmps).run cx.P w' = .ok v w' ∧ ∃ v' rs outs, Ending.returned v = .returned v' ∧ Res cx.P w' Base w.heap.size ct.res v' rs ∧ Outs cx.P w' (fun b o => Base b o ∨ b ∈ vecB (kindsOf ct.res) rs) ct.args vs outs ∧ ct.post cs (rs ++ outs) ∧ Keeps (fun i => i < w.heap.size ∧ ¬ IsBox ct.args vs i) w w' := by
    intro hend
    unfold endOf at hend
    split at hend
    · rename_i l o hl' ho
      split at hend
      rotate_left
      · cases hend; exact hv'.elim
      · rename_i hcc
        obtain ⟨hsh, hnd, hnc⟩ := hcc
        cases hend
        obtain ⟨hob, hret⟩ := VC.obT hv'
        obtain ⟨ob1, ob2⟩ := rngL_app hob
        obtain ⟨r1, r2⟩ := run_results hs' hl'
        generalize hl'' : resOf cx ct st' l = l' at *
        have hbase : ∀ b o, Base b o → Own Γ' st' b o := fun b o hb => .inl (by rw [he.base]; exact hb)
        obtain ⟨v1, v2⟩ := vecB_cells hs' (shapes_kindsL hsh) hnd
        generalize hrs : cs_ Γ'.ρ (cellsOf st'.mem l') = rs at *
        have hO : ∀ b o, (Base b o ∨ b ∈ vecB (kindsOf ct.res) rs) → Own Γ' st' b o := fun b o hb => hb.elim (hbase b o) fun hb => by
          obtain ⟨x, -, i, -, hh⟩ := v2 b hb; exact hh.own o
        -- the results' cells
        obtain ⟨hden, hokR⟩ : l'.map (S0.den Γ') = l.map (S0.den Γ') ∧ ∀ s ∈ l', ∀ x ∈ s.cells, x.isVec = false → x.okR cx.P w' (fun b o => Base b o ∨ b ∈ vecB (kindsOf ct.res) rs) Γ' := by
          unfold resOf at hl''
          split at hl''
          · rename_i hnv
            have hvb : vecB (kindsOf ct.res) rs = [] := vecB_noVec hnv
            obtain ⟨g1, g2⟩ := adapts_spec hs' (O' := fun b o => Base b o ∨ b ∈ vecB (kindsOf ct.res) rs) hO (shs := ct.res) (ss := l) (fun s _ l _ _ i e hi b hb o ho => by
              rw [hvb] at ho
              rcases ho with ho | ho
              · exact ((hs'.vec i e hi).2.2 b hb).2 o (by rw [he.base]; exact ho)
              · cases ho) r2
            rw [hl''] at g1 g2
            obtain ⟨q1, q2⟩ := shapes_okR (Γ := Γ') hsh hnv g2
            exact ⟨g1, fun s hs x hx _ => q1 s hs x hx⟩
          · obtain ⟨g1, g2⟩ := gives_spec hs' hO (shs := ct.res) (ss := l) r2 hnc
            rw [hl''] at g1 g2
            exact ⟨g1, g2⟩
        have hcv : ∀ x ∈ cellsOf st'.mem l', x.isVec = false := fun x hx => (nodupI_spec hnd x hx).1
        have hrep := cells_rep (P := cx.P) (w := w') (O := fun b o => Base b o ∨ b ∈ vecB (kindsOf ct.res) rs) (old := some w.heap.size) hs'.num hsh (fun s hs2 x hx => by
          by_cases hp : ∃ b, s = .lf (.ptr b 0)
          · obtain ⟨b, rfl⟩ := hp
            simp [S0.cells] at hx; subst hx; trivial
          · exact hokR s hs2 x hx (hcv x (cellsOf_plain hs2 hp x hx))) (fun b mb hin hmb => by
          obtain ⟨m1, m2, m3, m4⟩ := hs'.mem b mb hmb
          refine ⟨m1, fun x hx => ?_, ?_⟩
          · have hxv := hcv x (cellsOf_box hin hmb x hx)
            have hxc : x.isCnt = false ∨ ∃ i, cntIdx st'.vec x = some i := by
              cases hxc : x.isCnt with
              | false => exact .inl rfl
              | true => exact .inr ((nodupI_spec hnd x (cellsOf_box hin hmb x hx)).2 hxc)
            have hmo := m2 x hx
            have hO2 : ∀ y o, ((Base y o ∨ y ∈ vecB (kindsOf ct.res) rs) ∨ some (Γ'.blk b) = some y) → Own Γ' st' y o := fun y o hy => hy.elim (hO y o) fun e => by cases e; exact (Hold.mem (Γ := Γ') hmb).own o
            cases x with
            | vec te i => cases hxv
            | cnt te r =>
              rcases hxc with hxc | ⟨i, hi⟩
              · cases hxc
              · obtain ⟨te', e, k1, k2, k3, k4⟩ := cntIdx_spec hs' hi
                cases k2
                have hve := (hs'.vec i e k1).1
                obtain ⟨ks, us, p1, p2, p3, p4, p5⟩ := hve.anti hO2
                simp only [Lf.okR, mkJoin_ev hve]
                rw [← k3]
                exact ⟨ks, us, p1, ⟨_, rfl⟩, p3, p4, p5⟩
            | _ => exact Lf.ok_anti hmo hO2
          · rcases hb2 with h | h
            · exact absurd hin ((shapes_noBox hsh h).2.2.2 b)
            · rcases Nat.lt_or_ge (Γ'.blk b) w.heap.size with hlt | hge
              · exact absurd ⟨hlt, isBox_noBox h.1.2⟩ m3
              · exact hge) ob1
        rw [hrs] at hrep
        obtain ⟨houts, hboxm⟩ := hB3 st' o w' Γ' (fun b o => Base b o ∨ b ∈ vecB (kindsOf ct.res) rs) ho (by
          split
          · rfl
          · rename_i hne
            rw [he.blk 0 (show 0 < (freshMem 0 ct.args 0).length by omega)]) (fun mb hmb => ⟨(hs'.mem 0 mb hmb).1, fun l hl => Lf.ok_anti ((hs'.mem 0 mb hmb).2.1 l hl) hO⟩) hs'.num ob2
        refine ⟨hs'.defers, _, r1, _, rs, cs_ Γ'.ρ o, rfl, ⟨_, rfl, ?_, v1, fun b hb => ?_⟩, houts, ?_, hs'.keeps⟩
        · rw [← hden]; exact hrep
        · obtain ⟨x, hx, i, hi, hh⟩ := v2 b hb
          obtain ⟨e, he1, he2⟩ := hh
          have hnF := ((hs'.vec i e he1).2.2 b he2).1
          rcases Nat.lt_or_ge b w.heap.size with hlt | hge
          · exfalso
            refine hnF ⟨hlt, fun hbx => ?_⟩
            obtain ⟨e1, hp⟩ := hB1 b hbx
            obtain ⟨mb, hmb, hbl⟩ := hboxm hp
            have := (hs'.inj _ _ _ _ _ (Hold.mem (Γ := Γ') hmb) (show Hold Γ' st' false i (Γ'.blk 0) from ⟨e, he1, by rw [he2, e1, hbl]⟩)).1
            cases this
          · exact hge
        · have : rs ++ cs_ Γ'.ρ o = cs_ Γ'.ρ (cellsOf st'.mem l' ++ o) := by rw [← hrs]; simp [cs_]
          rw [this]; exact hret
    · cases hend; exact hv'.elim
    · cases hend; exact hv'.elim
  cases x with
  | nrm => exact fin hk
  | ret => exact fin hk
  | ext i => cases hk
theorem ct_ok {cx : Cx} (hcx : CxOK cx) {f : FuncId} {fn : Func} (hf : cx.P.funcs[f]? = some fn) {ct : Ct} {bds : Bds} {T : Tree} (hT : execFn cx fn ct bds = some T)
    (hvc : allC cx.P (kindsOf ct.args) fun cs => ct.pre cs → bds.ok cs ∧ VC cx (ct.post cs) T cs []) : CtOK cx.P f ct := by
  unfold execFn at hT
  split at hT
  · cases hT
  · rename_i c hbody
    split at hT
    · rename_i hle'
      refine ct_ok_open (bds := bds) hcx hf hbody hle' fun cs hty hpre => ?_
      obtain ⟨hb, hv⟩ := allC_elim hvc cs hty hpre
      exact ⟨hb, fun F w0 Γ a w Q hρ hs hk => exec_sound (R := ct.post cs) hcx c _ _ T hT Γ [] _ hk rfl (by rw [hρ]; exact hv) a w hs⟩
    · cases hT

theorem allC_mono {P : Program} : ∀ {ks : List Lk} {p q : List C → Prop}, allC P ks p → (∀ cs, p cs → q cs) → allC P ks q
  | [], p, q, h, hh => hh _ h
  | .int :: ks, p, q, h, hh => fun n h1 h2 => allC_mono (h n h1 h2) fun cs hc => hh _ hc
  | .bool :: ks, p, q, h, hh => fun t => allC_mono (h t) fun cs hc => hh _ hc
  | .arr t :: ks, p, q, h, hh => fun v rows d h1 h2 => allC_mono (h v rows d h1 h2) fun cs hc => hh _ hc
  | .vec t :: ks, p, q, h, hh => fun v rows d h1 h2 => allC_mono (h v rows d h1 h2) fun cs hc => hh _ hc
/-! Functions carried out in place -/
def enterSt (fn : Func) (args : List S0) (st : St) : St := { st with sl := argSl 0 args ++ st.sl.map fun p => (p.1 + 1000, p.2), nt := fn.ntmps }
def leaveSl : List (Nat × Option SV) → List (Nat × Option SV)
  | [] => []
  | (k, v) :: l => if 1000 ≤ k then (k - 1000, v) :: leaveSl l else leaveSl l
def leaveSt (st st' : St) : St := { st' with sl := leaveSl st'.sl, nt := st.nt }
def hand (cx : Cx) (fns : Nat → Option Func) : Hd := fun f args st k =>
  match fns f with
  | some fn => match fn.body with
    | some c => if args.length ≤ fn.ntmps ∧ fn.ntmps ≤ 1000 then
        exec cx c (enterSt fn args st) fun x st' => match x with
          | .ext _ => none
          | _ => match retAll cx.P st' fn.results.toList with
            | some l => k l (leaveSt st st')
            | none => some (.fail 80001 [f, st'.path])
      else none
    | none => none
  | none => none
theorem look_leave : ∀ (l : List (Nat × Option SV)) (t : Nat), look (leaveSl l) t = look l (t + 1000)
  | [], _ => rfl
  | (k, v) :: l, t => by
    simp only [leaveSl]
    split
    · rename_i h
      simp only [look]
      by_cases hk : k - 1000 = t
      · rw [if_pos hk, if_pos (by omega)]
      · rw [if_neg hk, if_neg (by omega)]; exact look_leave l t
    · rename_i h
      simp only [look]
      rw [if_neg (by omega)]; exact look_leave l t
theorem look_shift : ∀ (l : List (Nat × Option SV)) (t : Nat), look (l.map fun p => (p.1 + 1000, p.2)) t = if 1000 ≤ t then look l (t - 1000) else none
  | [], t => by simp [look]
  | (k, v) :: l, t => by
    simp only [List.map_cons, look, look_shift l t]
    by_cases h : 1000 ≤ t
    · simp only [h, if_true]
      by_cases hk : k = t - 1000
      · rw [if_pos (by omega), if_pos hk]
      · rw [if_neg (by omega), if_neg hk]
    · rw [if_neg (by omega)]; simp [h]
theorem look_enter : ∀ (args : List S0) (i : Nat) (m : List (Nat × Option SV)) (t : Nat) (sv : SV), look (argSl i args ++ m) t = some sv → (∃ j s, t = i + j ∧ args[j]? = some s ∧ sv = .one s) ∨ look m t = some sv
  | [], _, _, _, _, h => .inr h
  | s :: l, i, m, t, sv, h => by
    simp only [argSl, List.cons_append, look] at h
    split at h
    · rename_i e; cases h; exact .inl ⟨0, s, by omega, rfl, rfl⟩
    · rcases look_enter l (i + 1) m t sv h with ⟨j, s', e, hj, hsv⟩ | h
      · exact .inl ⟨j + 1, s', by omega, by simpa using hj, hsv⟩
      · exact .inr h
theorem Lf.den_up (Γ : Env) (u : Nat → Value) (l : Lf) : l.den { Γ with up := u } = l.den Γ := by cases l <;> rfl
theorem dens_up (Γ : Env) (u : Nat → Value) (l : List Lf) : dens { Γ with up := u } l = dens Γ l := by
  unfold dens; rw [List.map_congr_left fun x _ => Lf.den_up Γ u x]
theorem S0.den_up (Γ : Env) (u : Nat → Value) (s : S0) : s.den { Γ with up := u } = s.den Γ := by
  cases s with
  | lf l => exact Lf.den_up Γ u l
  | agg l => simp only [S0.den, dens_up]
theorem SV.den_up (Γ : Env) (u : Nat → Value) (s : SV) : s.den { Γ with up := u } = s.den Γ := by
  cases s with
  | one s => exact S0.den_up Γ u s
  | tup l => simp only [SV.den]; rw [List.map_congr_left fun x _ => S0.den_up Γ u x]
  | fn f l => simp only [SV.den, dens_up]
theorem Lf.ok_up {P : Program} {w : World} {O : Nat → Nat → Prop} {Γ : Env} {u : Nat → Value} {l : Lf} : l.ok P w O { Γ with up := u } ↔ l.ok P w O Γ := by cases l <;> exact Iff.rfl
theorem S0.ok_up {P : Program} {w : World} {O : Nat → Nat → Prop} {Γ : Env} {u : Nat → Value} {s : S0} : s.ok P w O { Γ with up := u } ↔ s.ok P w O Γ := ⟨fun h l hl => Lf.ok_up.1 (h l hl), fun h l hl => Lf.ok_up.2 (h l hl)⟩
theorem SV.ok_up {P : Program} {w : World} {O : Nat → Nat → Prop} {Γ : Env} {u : Nat → Value} {s : SV} : s.ok P w O { Γ with up := u } ↔ s.ok P w O Γ := by
  cases s with
  | one s => exact S0.ok_up
  | tup l => exact ⟨fun h s hs => S0.ok_up.1 (h s hs), fun h s hs => S0.ok_up.2 (h s hs)⟩
  | fn f l => exact ⟨fun h l hl => Lf.ok_up.1 (h l hl), fun h l hl => Lf.ok_up.2 (h l hl)⟩
/-- Another frame. -/
theorem Sat.frame {P : Program} {F : Nat → Prop} {w0 : World} {Γ : Env} {st : St} {a : Act} {w : World} (h : Sat P F w0 Γ st a w) {u : Nat → Value} {sl : List (Nat × Option SV)} {nt : Nat} {a' : Act} (hsz : a'.tmps.size = nt) (hd : a'.defers = [])
    (hs : ∀ t sv, look sl t = some sv → slotV { Γ with up := u } a' t = sv.den Γ ∧ sv.ok P w (Own Γ st) Γ) : Sat P F w0 { Γ with up := u } { st with sl := sl, nt := nt } a' w := by
  have hown : ∀ b o, Own { Γ with up := u } { st with sl := sl, nt := nt } b o → Own Γ st b o := fun b o h => h
  refine ⟨fun t sv ht => ?_, hsz, fun b mb hm => ?_, h.vec, fun i e hi => ?_, h.inj, h.keeps, h.fold, h.base, hd, h.len, h.nb, h.num⟩
  · obtain ⟨h1, h2⟩ := hs t sv ht
    exact ⟨by rw [SV.den_up]; exact h1, SV.ok_up.2 h2⟩
  · obtain ⟨h1, h2, h3, h4⟩ := h.mem b mb hm
    exact ⟨by rw [dens_up]; exact h1, fun l hl => Lf.ok_up.2 (h2 l hl), h3, h4⟩
  · obtain ⟨h1, h2, h3⟩ := h.clo i e hi
    refine ⟨?_, fun s hs => S0.ok_up.2 (h2 s hs), fun l hl => Lf.ok_up.2 (h3 l hl)⟩
    rw [List.map_congr_left fun s _ => S0.den_up Γ u s, List.map_congr_left fun l _ => Lf.den_up Γ u l]
    exact h1
theorem VC_congr {cx cx' : Cx} (hP : cx.P = cx'.P) (hct : cx.ct = cx'.ct) {R : List C → Prop} : ∀ {T : Tree} {ρ : List C} {Ls : List (List C → Prop)}, VC cx R T ρ Ls → VC cx' R T ρ Ls
  | .ret l, ρ, Ls, h => h
  | .split b t e, ρ, Ls, h => ⟨fun hb => VC_congr hP hct (h.1 hb), fun hb => VC_congr hP hct (h.2 hb)⟩
  | .ob b t, ρ, Ls, h => ⟨h.1, VC_congr hP hct h.2⟩
  | .call f args t, ρ, Ls, h => by
    simp only [VC] at h ⊢
    rw [← hct, ← hP]
    cases hc : cx.ct f with
    | none => rw [hc] at h; exact h.elim
    | some ct =>
      rw [hc] at h
      exact ⟨h.1, allC_mono h.2 fun rs hr hp => VC_congr hP hct (hr hp)⟩
  | .loop ks init t, ρ, Ls, h => by
    obtain ⟨I, μ, h0, h1⟩ := h
    refine ⟨I, μ, h0, ?_⟩
    rw [← hP]
    exact allC_mono h1 fun xs hx hi => VC_congr hP hct (hx hi)
  | .arr rows t, ρ, Ls, h => fun v => VC_congr hP hct (h v)
  | .dfn e t, ρ, Ls, h => VC_congr hP hct (T := t) h
  | .mk n row t, ρ, Ls, h => fun v => VC_congr hP hct (h v)
  | .cat a b t, ρ, Ls, h => fun v => VC_congr hP hct (h v)
  | .upd a x o l t, ρ, Ls, h => fun v => VC_congr hP hct (h v)
  | .both a b, ρ, Ls, h => ⟨VC_congr hP hct h.1, VC_congr hP hct h.2⟩
  | .join ks ws t, ρ, Ls, h => by
    obtain ⟨I, h0, h1⟩ := h
    refine ⟨I, VC_congr hP hct h0, ?_⟩
    rw [← hP]
    exact allC_mono h1 fun xs hx hi => VC_congr hP hct (hx hi)
  | .fail _ _, _, _, h => h
  | .back lvl vals, ρ, Ls, h => h
theorem hand_ok {cx cx' : Cx} (hcx : CxOK cx) {fns : Nat → Option Func} (hP : cx'.P = cx.P) (hct : cx'.ct = cx.ct) (hH : cx'.H = hand cx fns) (hf : ∀ f fn, fns f = some fn → cx.P.funcs[f]? = some fn ∧ Callable cx.P f) : HOK cx' := by
  intro f args st k T h
  rw [hH] at h
  rw [hP]
  unfold hand at h
  split at h
  · rename_i fn hfn
    obtain ⟨hfn1, hfn2⟩ := hf f fn hfn
    split at h
    · rename_i c hbody
      split at h
      · rename_i hle
        refine ⟨hfn2, fun R F w0 Γ Ls a w K hl hv hs hwf hargs hok hk => ?_⟩
        have hv := VC_congr hP hct hv
        have hlenA : (args.map (S0.den Γ)).toArray.size = args.length := by simp
        refine calls_of_wp hfn1 hbody ?_
        let ae : Act := { tmps := (args.map (S0.den Γ)).toArray ++ Array.replicate (fn.ntmps - (args.map (S0.den Γ)).toArray.size) undef, defers := [] }
        have hse : Sat cx.P F w0 { Γ with up := slotV Γ a } (enterSt fn args st) ae w := by
          refine hs.frame (by simp [ae]; omega) rfl fun t sv ht => ?_
          rcases look_enter _ _ _ _ _ ht with ⟨j, s, rfl, hj, rfl⟩ | ht
          · have hjl : j < args.length := by
              rcases Nat.lt_or_ge j args.length with h' | h'
              · exact h'
              · rw [List.getElem?_eq_none h'] at hj; cases hj
            refine ⟨?_, hok s (List.mem_of_getElem? hj)⟩
            unfold slotV
            rw [if_pos (by omega)]
            simp only [ae, Nat.zero_add, Array.getD_eq_getD_getElem?]
            rw [Array.getElem?_append_left (by simpa using hjl)]
            simp [hj, SV.den]
          · rw [look_shift] at ht
            split at ht
            · rename_i hge
              obtain ⟨g1, g2⟩ := hs.slots _ _ ht
              refine ⟨?_, g2⟩
              unfold slotV
              rw [if_neg (by omega)]
              dsimp only
              exact g1
            · cases ht
        have hlv : Ls.length = (enterSt fn args st).lvl := hl
        generalize enterSt fn args st = ste at *
        refine exec_sound (R := R) (F := F) (w0 := w0) hcx c ste _ T h { Γ with up := slotV Γ a } Ls _ ?_ hlv hv ae w hse
        intro x st' T' Γ' Ls' hk' he hl' hlen' hv' a' w' hs'
        have fin : (match retAll cx.P st' fn.results.toList with | some l => k l (leaveSt st st') | none => some (.fail 80001 [f, st'.path])) = some T' → a'.defers = [] ∧ ∃ v, (results fn a'.tmps).run cx.P w' = .ok v w' ∧ ∃ v', Ending.returned v = .returned v' ∧ K v' w' := by
          intro hend
          split at hend
          · rename_i l hl2
            obtain ⟨r1, r2⟩ := run_results hs' hl2
            refine ⟨hs'.defers, _, r1, _, rfl, ?_⟩
            have hleave : Sat cx.P F w0 { Γ' with up := Γ.up } (leaveSt st st') a w' := by
              refine hs'.frame hs.size hs.defers fun t sv ht => ?_
              rw [look_leave] at ht
              obtain ⟨g1, g2⟩ := hs'.slots _ _ ht
              refine ⟨?_, g2⟩
              rw [← g1]
              unfold slotV
              rw [if_neg (show ¬ t + 1000 < 1000 by omega), Nat.add_sub_cancel, he.up]
              rfl
            have := hk l (leaveSt st st') T' { Γ' with up := Γ.up } Ls' hend ⟨he.ρ, he.blk, he.nb, he.base, rfl⟩ hl' hlen' (VC_congr hP.symm hct.symm hv') w' hleave (fun s hs2 => S0.ok_up.2 (r2 s hs2))
            rw [List.map_congr_left fun s _ => S0.den_up Γ' Γ.up s] at this
            have hval : ∀ L : List Value, valOf L = (match L with | [x] => x | _ => .tuple L.toArray) := fun L => by
              match L with
              | [] => rfl
              | [x] => rfl
              | x :: y :: l => rfl
            rw [hval] at this
            exact this
          · cases hend; exact hv'.elim
        cases x with
        | nrm => exact fin hk'
        | ret => exact fin hk'
        | ext i => cases hk'
      · cases h
    · cases h
  · cases h
/-- So deep functions are carried out in place. -/
def Cx.deep (fns : Nat → Option Func) (cx : Cx) : Nat → Cx
  | 0 => { cx with H := fun _ _ _ _ => none }
  | n + 1 => { cx with H := hand (Cx.deep fns cx n) fns }
theorem Cx.deep_same (fns : Nat → Option Func) (cx : Cx) : ∀ n, (Cx.deep fns cx n).P = cx.P ∧ (Cx.deep fns cx n).ct = cx.ct ∧ (Cx.deep fns cx n).inl = cx.inl ∧ (Cx.deep fns cx n).sel = cx.sel
  | 0 => ⟨rfl, rfl, rfl, rfl⟩
  | _ + 1 => ⟨rfl, rfl, rfl, rfl⟩
theorem Cx.deep_ok {fns : Nat → Option Func} {cx : Cx} (hct : ∀ f ct, cx.ct f = some ct → Callable cx.P f ∧ CtOK cx.P f ct ∧ (ct.det = true → ∀ cs rs rs', ct.post cs rs → ct.post cs rs' → rs = rs')) (hm : cx.P.follows .mixedOrders = true) (hi : ∀ f g, cx.inl f = some g → Callable cx.P f ∧ InlOK cx.P f g) (hs : ∀ f g, cx.sel f = some g → Callable cx.P f ∧ SelOK cx.P f g)
    (hf : ∀ f fn, fns f = some fn → cx.P.funcs[f]? = some fn ∧ Callable cx.P f) : ∀ n, CxOK (Cx.deep fns cx n)
  | 0 => ⟨hct, hm, hi, hs, fun f args st k T h => by cases h⟩
  | n + 1 => ⟨hct, hm, hi, hs, by
      obtain ⟨h1, h2, -⟩ := Cx.deep_same fns cx n
      exact hand_ok (Cx.deep_ok hct hm hi hs hf n) (h1.symm) (h2.symm) rfl (by rw [h1]; exact hf)⟩
end Go.Proofs.Ytlbgcjpkegpmlaa
/- The engine's last part: tables of contracts. -/
namespace Go.Proofs.Ytlbgcjpkegpmlaa
open Go.RowKit
set_option linter.unusedSimpArgs false
set_option linter.unusedVariables false

/-- A contract whose result is a function of the arguments. -/
def ctF (args res : List Sh0) (pre : List C → Prop) (g : List C → List C) : Ct := ⟨args, res, pre, fun cs rs => rs = g cs, true⟩
/-- A statement: it returns true. -/
def ctLaw (args : List Sh0) : Ct := ⟨args, [.lf .bool], fun _ => True, fun _ rs => rs = [.b true], false⟩
theorem ctF_det {args res : List Sh0} {pre : List C → Prop} {g : List C → List C} : (ctF args res pre g).det = true → ∀ cs rs rs', (ctF args res pre g).post cs rs → (ctF args res pre g).post cs rs' → rs = rs' :=
  fun _ _ _ _ h h' => h.trans h'.symm
/-- What the program's tables hold of a function. -/
structure Tab where
  ct : Nat → Option Ct
  inl : Nat → Option Inl
  sel : Nat → Option Sel := fun _ => none
/-- Functions that are carried out in place. -/
def fnsOf : List (Nat × Func) → Nat → Option Func
  | [], _ => none
  | (k, fn) :: l, f => if k = f then some fn else fnsOf l f
def FnOK (p : Nat × Func) : Prop := Try.prog.funcs[p.1]? = some p.2 ∧ Callable Try.prog p.1
noncomputable def Tab.only (t : Tab) (l : List Nat) (hv : Nat → List Pl) (fns : List (Nat × Func) := []) (n : Nat := 0) (wr : List Nat := []) (jn : Nat → Option (List (Nat × Bool × List Lk) × List Pl) := fun _ => none) : Cx :=
  Cx.deep (fnsOf fns) { P := Try.prog, ct := fun f => if l.contains f then t.ct f else none, inl := fun f => if l.contains f then t.inl f else none, sel := fun f => if l.contains f then t.sel f else none, hv := hv, H := fun _ _ _ _ => none, wr := wr, jn := jn } n
/-- What is shown of one function of a table. -/
def Tab.ok (t : Tab) (f : Nat) : Prop := Callable Try.prog f ∧ (∀ ct, t.ct f = some ct → CtOK Try.prog f ct ∧ (ct.det = true → ∀ cs rs rs', ct.post cs rs → ct.post cs rs' → rs = rs')) ∧ (∀ g, t.inl f = some g → InlOK Try.prog f g) ∧ ∀ g, t.sel f = some g → SelOK Try.prog f g
theorem mixedOrders : Try.prog.follows .mixedOrders = true := by kernel_rfl
theorem fns_nil : ∀ p ∈ ([] : List (Nat × Func)), FnOK p := fun p hp => by cases hp
theorem fns_cons {p : Nat × Func} {l : List (Nat × Func)} (h : FnOK p) (h' : ∀ q ∈ l, FnOK q) : ∀ q ∈ p :: l, FnOK q := fun q hq => by
  rcases List.mem_cons.1 hq with rfl | hq
  · exact h
  · exact h' q hq
theorem fnsOf_ok : ∀ {l : List (Nat × Func)}, (∀ p ∈ l, FnOK p) → ∀ f fn, fnsOf l f = some fn → Try.prog.funcs[f]? = some fn ∧ Callable Try.prog f
  | [], _, f, fn, h => by cases h
  | (k, g) :: l, hl, f, fn, h => by
    simp only [fnsOf] at h
    split at h
    · rename_i e; subst e; cases h; exact hl (k, g) (by simp)
    · exact fnsOf_ok (fun p hp => hl p (by simp [hp])) f fn h
theorem Tab.cx_ok {t : Tab} {l : List Nat} {hv : Nat → List Pl} {fns : List (Nat × Func)} {n : Nat} {wr : List Nat} {jn : Nat → Option (List (Nat × Bool × List Lk) × List Pl)} (h : ∀ f ∈ l, t.ok f) (hf : ∀ p ∈ fns, FnOK p := by exact fns_nil) : CxOK (t.only l hv fns n wr jn) := by
  refine Cx.deep_ok (fun f ct hf => ?_) mixedOrders (fun f g hf => ?_) (fun f g hf => ?_) (fnsOf_ok hf) n
  · simp only [] at hf
    split at hf
    · rename_i hc
      obtain ⟨h1, h2, h3⟩ := h f (by simpa using hc)
      exact ⟨h1, h2 ct hf⟩
    · cases hf
  · simp only [] at hf
    split at hf
    · rename_i hc
      obtain ⟨h1, h2, h3, h4⟩ := h f (by simpa using hc)
      exact ⟨h1, h3 g hf⟩
    · cases hf
  · simp only [] at hf
    split at hf
    · rename_i hc
      obtain ⟨h1, h2, h3, h4⟩ := h f (by simpa using hc)
      exact ⟨h1, h4 g hf⟩
    · cases hf
theorem Tab.of_ct {t : Tab} {f : Nat} {ct : Ct} (h1 : t.ct f = some ct) (h2 : t.inl f = none) (hc : Callable Try.prog f) (hok : CtOK Try.prog f ct) (hdet : ct.det = true → ∀ cs rs rs', ct.post cs rs → ct.post cs rs' → rs = rs') (h3 : t.sel f = none := by rfl) : t.ok f :=
  ⟨hc, fun c h => (by rw [h1] at h; cases h; exact ⟨hok, hdet⟩), fun g h => (by rw [h2] at h; cases h), fun g h => (by rw [h3] at h; cases h)⟩
theorem Tab.of_inl {t : Tab} {f : Nat} {g : Inl} (h1 : t.ct f = none) (h2 : t.inl f = some g) (hc : Callable Try.prog f) (hok : InlOK Try.prog f g) (h3 : t.sel f = none := by rfl) : t.ok f :=
  ⟨hc, fun c h => (by rw [h1] at h; cases h), fun g' h => (by rw [h2] at h; cases h; exact hok), fun g h => (by rw [h3] at h; cases h)⟩
theorem Tab.of_sel {t : Tab} {f : Nat} {g : Sel} (h1 : t.ct f = none) (h2 : t.inl f = none) (hc : Callable Try.prog f) (h3 : t.sel f = some g) (hok : SelOK Try.prog f g) : t.ok f :=
  ⟨hc, fun c h => (by rw [h1] at h; cases h), fun g h => (by rw [h2] at h; cases h), fun g' h => (by rw [h3] at h; cases h; exact hok)⟩
theorem all_nil {p : Nat → Prop} : ∀ f ∈ ([] : List Nat), p f := fun f h => by cases h
theorem all_cons {p : Nat → Prop} {a : Nat} {l : List Nat} (h : p a) (h' : ∀ f ∈ l, p f) : ∀ f ∈ a :: l, p f := fun f hf => by
  rcases List.mem_cons.1 hf with rfl | hf
  · exact h
  · exact h' f hf

/-! A function written out in place, out of its contract -/
theorem LReps.plain {P : Program} {w : World} {O : Nat → Nat → Prop} {Γ : Env} : ∀ {ls : List Lf} {ks : List Lk} {us : List Value}, kindsL ls = some ks → ls.all Lf.plain = true → LReps P w O ks us (cs_ Γ.ρ ls) → us = ls.map (Lf.den Γ)
  | [], ks, us, hk, _, h => by simp [kindsL] at hk; subst hk; cases us with | nil => rfl | cons u us => exact h.elim
  | l :: ls, ks, us, hk, hp, h => by
    simp only [kindsL] at hk
    split at hk
    · rename_i k ks' h1 h2
      cases hk
      simp only [List.all_cons, Bool.and_eq_true] at hp
      cases us with
      | nil => exact h.elim
      | cons u us =>
        obtain ⟨h3, h4⟩ := h
        rw [LReps.plain h2 hp.2 h4]
        have : u = l.den Γ := by
          cases l with
          | int e => cases h1; obtain ⟨n, rfl, hn⟩ := h3.2; cases hn; rfl
          | bool e => cases h1; obtain ⟨n, rfl, hn⟩ := h3.2; cases hn; rfl
          | _ => cases hp.1
        rw [this]; rfl
    · cases hk
theorem Rep0.plain {P : Program} {w : World} {O : Nat → Nat → Prop} {old : Option Nat} {Γ : Env} {s : S0} {sh : Sh0} {v : Value} (hs : s.shape = some sh) (hp : s.plain = true) (h : Rep0 P w O old sh v (cs_ Γ.ρ s.cells)) : v = s.den Γ := by
  cases s with
  | lf l =>
    simp only [S0.shape, Option.map_eq_some_iff] at hs
    obtain ⟨k, hk, rfl⟩ := hs
    obtain ⟨c, hc, hr⟩ := h
    have := LReps.plain (P := P) (w := w) (O := O) (Γ := Γ) (ls := [l]) (ks := [k]) (us := [v]) (by simp [kindsL, hk]) hp (by
      have e : cs_ Γ.ρ (S0.lf l).cells = [c] := hc
      show LReps P w O [k] [v] (cs_ Γ.ρ (S0.lf l).cells)
      rw [e]; exact ⟨hr, trivial⟩)
    simpa [S0.den] using this
  | agg ls =>
    simp only [S0.shape, Option.map_eq_some_iff] at hs
    obtain ⟨k, hk, rfl⟩ := hs
    obtain ⟨us, rfl, hr⟩ := h
    rw [LReps.plain hk hp hr]
    rfl
theorem shapes_nil_noBox : ∀ {args : List S0} {ss : List Sh0}, shapes [] args = some ss → ss.all (fun s => !s.isBox) = true
  | [], ss, h => by simp [shapes] at h; subst h; rfl
  | s :: args, ss, h => by
    simp only [shapes] at h
    split at h
    · rename_i sh hss h1 h2
      cases h
      simp only [List.all_cons, Bool.and_eq_true]
      refine ⟨?_, shapes_nil_noBox h2⟩
      unfold S0.shapeM at h1
      split at h1
      · cases h1
      · cases s with
        | lf l => simp only [S0.shape, Option.map_eq_some_iff] at h1; obtain ⟨k, -, rfl⟩ := h1; rfl
        | agg l => simp only [S0.shape, Option.map_eq_some_iff] at h1; obtain ⟨k, -, rfl⟩ := h1; rfl
    · cases h
theorem Keeps.noBox {ss : List Sh0} {vs : List Value} {w w' : World} (hn : ss.all (fun s => !s.isBox) = true) (h : Keeps (fun i => i < w.heap.size ∧ ¬ IsBox ss vs i) w w') : Below w.heap.size w w' :=
  ⟨h.os, h.tape, h.output, h.size, fun i hi => h.block i ⟨hi, isBox_noBox hn⟩⟩
theorem Inl.of_ct {f : Nat} {g : Inl} {args : List Sh0} {r : Sh0} {pre : List C → Prop} {fn : List C → List C} (hf : CtOK Try.prog f (ctF args [r] pre fn))
    (h : ∀ bd ρ l obs s, g bd l = some (obs, s) → Num bd ρ → Obs ρ obs → shapes [] l = some args ∧ l.all S0.plain = true ∧ Obs ρ (rngL bd (cellsOf [] l)) ∧ pre (cs_ ρ (cellsOf [] l)) ∧ s.plain = true ∧ s.shape = some r ∧ fn (cs_ ρ (cellsOf [] l)) = cs_ ρ s.cells) : InlOK Try.prog f g := by
  intro Γ bd l obs s hn hg ho
  obtain ⟨h1, h2, h3, h4, h5, h6, h7⟩ := h bd Γ.ρ l obs s hg hn ho
  refine ⟨h5, fun w => ?_⟩
  have hno := shapes_nil_noBox h1
  have hreps := cells_rep (P := Try.prog) (w := w) (O := fun _ _ => False) (Γ := Γ) (old := none) hn h1 (fun s hs l hl => by
    have := List.all_eq_true.1 (List.all_eq_true.1 h2 s hs) l hl
    cases l <;> first | trivial | cases this) (fun b mb _ hb => by cases hb) h3
  refine (hf (fun _ _ => False) w _ _ (fun b o hb => hb.elim) hreps h4).mono ?_
  rintro e w' ⟨v, rs, outs, rfl, ⟨vs, rfl, hr, -⟩, hout, hpost, hb⟩
  refine ⟨?_, hb.noBox hno⟩
  have ho := outs_noBox hno hout
  subst ho
  have hrs : rs = cs_ Γ.ρ s.cells := by have := hpost.trans h7; rwa [List.append_nil] at this
  subst hrs
  match vs, hr with
  | [v], hr =>
    obtain ⟨c1, c2, hc, hr1, hr2⟩ := hr
    cases hr2
    rw [List.append_nil] at hc
    subst hc
    rw [Rep0.plain h6 h5 hr1]

/-! A statement's call -/
theorem law_walk {f : Nat} {ss : List Sh0} (h : CtOK Try.prog f (ctLaw ss)) (hno : ss.all (fun s => !s.isBox) = true) {W : World} {vs : List Value} {cs : List C} (hr : Reps Try.prog W (fun _ _ => False) none ss vs cs) :
    Calls Try.prog f vs.toArray W fun e w' => e = .returned (.bool true) ∧ Below W.heap.size W w' := by
  refine (h (fun _ _ => False) W vs cs (fun _ _ hb => hb.elim) hr trivial).mono ?_
  rintro e w' ⟨v, rs, outs, rfl, ⟨us, rfl, hres, -⟩, hout, hpost, hb⟩
  refine ⟨?_, hb.noBox hno⟩
  have ho := outs_noBox hno hout
  subst ho
  have hrs : rs = [.b true] := by have : rs ++ [] = [.b true] := hpost; rwa [List.append_nil] at this
  subst hrs
  match us, hres with
  | [v], hres =>
    obtain ⟨c1, c2, hc, ⟨c, rfl, hr1⟩, hr2⟩ := hres
    cases hr2
    cases hc
    obtain ⟨t, rfl, ht⟩ := hr1.2
    cases ht
    rfl
theorem rep_int {W : World} {O : Nat → Nat → Prop} {n : Int} (h : -9223372036854775808 ≤ n ∧ n ≤ 9223372036854775807) : LRep Try.prog W O .int (.int .i64 n) (.i n) :=
  ⟨fun m => by cases m <;> exact h, n, rfl, rfl⟩
theorem reps_ints {W : World} {O : Nat → Nat → Prop} : ∀ (ns : List Int), (∀ n ∈ ns, -9223372036854775808 ≤ n ∧ n ≤ 9223372036854775807) → LReps Try.prog W O (List.replicate ns.length .int) (ns.map (Value.int .i64)) (ns.map .i)
  | [], _ => trivial
  | n :: ns, h => ⟨rep_int (h n (by simp)), reps_ints ns fun m hm => h m (by simp [hm])⟩
theorem rep_agg {W : World} {O : Nat → Nat → Prop} {ss : List Sh0} {vs : List Value} {cs : List C} (ns : List Int) (h : ∀ n ∈ ns, -9223372036854775808 ≤ n ∧ n ≤ 9223372036854775807) {old : Option Nat} (hr : Reps Try.prog W O old ss vs cs) :
    Reps Try.prog W O old (.agg (List.replicate ns.length .int) :: ss) (.agg (ns.map (Value.int .i64)).toArray :: vs) (ns.map .i ++ cs) :=
  ⟨_, _, rfl, ⟨_, rfl, reps_ints ns h⟩, hr⟩
theorem rep_lf {W : World} {O : Nat → Nat → Prop} {ss : List Sh0} {vs : List Value} {cs : List C} {n : Int} (h : -9223372036854775808 ≤ n ∧ n ≤ 9223372036854775807) {old : Option Nat} (hr : Reps Try.prog W O old ss vs cs) :
    Reps Try.prog W O old (.lf .int :: ss) (.int .i64 n :: vs) (.i n :: cs) :=
  ⟨[_], _, rfl, ⟨_, rfl, rep_int h⟩, hr⟩

/-! Reading a tree -/
theorem den_cmp_le (ρ : List C) (a b : E) : ((B.cmp .le a b).den ρ = true) = (a.den ρ ≤ b.den ρ) := by simp [B.den, Cmp.den]
theorem den_cmp_lt (ρ : List C) (a b : E) : ((B.cmp .lt a b).den ρ = true) = (a.den ρ < b.den ρ) := by simp [B.den, Cmp.den]
theorem den_cmp_eq (ρ : List C) (a b : E) : ((B.cmp .eq a b).den ρ = true) = (a.den ρ = b.den ρ) := by simp [B.den, Cmp.den]
theorem den_cmp_ne (ρ : List C) (a b : E) : ((B.cmp .ne a b).den ρ = true) = (a.den ρ ≠ b.den ρ) := by simp [B.den, Cmp.den]
theorem den_cmp_le' (ρ : List C) (a b : E) : ((B.cmp .le a b).den ρ = false) = (b.den ρ < a.den ρ) := by simp [B.den, Cmp.den]
theorem den_cmp_lt' (ρ : List C) (a b : E) : ((B.cmp .lt a b).den ρ = false) = (b.den ρ ≤ a.den ρ) := by simp [B.den, Cmp.den]
theorem den_cmp_eq' (ρ : List C) (a b : E) : ((B.cmp .eq a b).den ρ = false) = (a.den ρ ≠ b.den ρ) := by simp [B.den, Cmp.den]
theorem den_cmp_ne' (ρ : List C) (a b : E) : ((B.cmp .ne a b).den ρ = false) = (a.den ρ = b.den ρ) := by simp [B.den, Cmp.den]
theorem den_and (ρ : List C) (a b : B) : ((B.and a b).den ρ = true) = (a.den ρ = true ∧ b.den ρ = true) := by simp [B.den]
theorem den_and' (ρ : List C) (a b : B) : ((B.and a b).den ρ = false) = (a.den ρ = true → b.den ρ = false) := by
  simp only [B.den]; cases a.den ρ <;> cases b.den ρ <;> simp
theorem den_or (ρ : List C) (a b : B) : ((B.or a b).den ρ = true) = (a.den ρ = true ∨ b.den ρ = true) := by simp [B.den]
theorem den_or' (ρ : List C) (a b : B) : ((B.or a b).den ρ = false) = (a.den ρ = false ∧ b.den ρ = false) := by simp [B.den]
theorem den_not (ρ : List C) (a : B) : ((B.not a).den ρ = true) = (a.den ρ = false) := by simp [B.den]
theorem den_not' (ρ : List C) (a : B) : ((B.not a).den ρ = false) = (a.den ρ = true) := by simp [B.den]
theorem den_blit (ρ : List C) (t : Bool) : (B.lit t).den ρ = t := rfl
theorem den_of (ρ : List C) (e : E) : (B.of e).den ρ = (e.ev ρ).bool := rfl
theorem ev_var (ρ : List C) (i : Nat) : (E.var i).ev ρ = at_ ρ i := rfl
theorem at_nil (i : Nat) : at_ [] i = .i 0 := rfl
theorem at_zero (c : C) (l : List C) : at_ (c :: l) 0 = c := rfl
theorem at_succ (c : C) (l : List C) (i : Nat) : at_ (c :: l) (i + 1) = at_ l i := rfl
theorem at_0 (a : C) (l : List C) : at_ (a :: l) 0 = a := rfl
theorem at_1 (a b : C) (l : List C) : at_ (a :: b :: l) 1 = b := rfl
theorem at_2 (a b c : C) (l : List C) : at_ (a :: b :: c :: l) 2 = c := rfl
theorem at_3 (a b c d : C) (l : List C) : at_ (a :: b :: c :: d :: l) 3 = d := rfl
theorem at_4 (a b c d e : C) (l : List C) : at_ (a :: b :: c :: d :: e :: l) 4 = e := rfl
theorem at_5 (a b c d e f : C) (l : List C) : at_ (a :: b :: c :: d :: e :: f :: l) 5 = f := rfl
theorem at_6 (a b c d e f g : C) (l : List C) : at_ (a :: b :: c :: d :: e :: f :: g :: l) 6 = g := rfl
theorem at_7 (a b c d e f g h : C) (l : List C) : at_ (a :: b :: c :: d :: e :: f :: g :: h :: l) 7 = h := rfl
theorem at_skip (a b c d e f g h : C) (l : List C) (i : Nat) : at_ (a :: b :: c :: d :: e :: f :: g :: h :: l) (i + 8) = at_ l i := rfl
theorem c_int (ρ : List C) (e : E) : (Lf.int e).c ρ = .i (e.den ρ) := rfl
theorem c_bool (ρ : List C) (b : B) : (Lf.bool b).c ρ = .b (b.den ρ) := rfl
theorem c_arr (ρ : List C) (t : TypeId) (e : E) : (Lf.arr t e).c ρ = e.ev ρ := rfl
theorem c_cnt (ρ : List C) (t : TypeId) (e : E) : (Lf.cnt t e).c ρ = e.ev ρ := rfl
theorem c_vec (ρ : List C) (t : TypeId) (i : Nat) : (Lf.vec t i).c ρ = at_ ρ i := rfl
theorem ev_nil (ρ : List C) : E.nil.ev ρ = .s (.slice none 0 0) [] := rfl
theorem ev_join (ρ : List C) (l r : E) : (E.join l r).ev ρ = .s (l.ev ρ).loc (r.ev ρ).rows := rfl
theorem ev_sub3 (ρ : List C) (a lo hi : E) (sz : Nat) : (E.sub3 a lo hi sz).ev ρ = .s (partLoc (a.ev ρ).loc (lo.den ρ).toNat (hi.den ρ).toNat sz) (((a.ev ρ).rows.take (hi.den ρ).toNat).drop (lo.den ρ).toNat) := rfl
theorem ev_cell (ρ : List C) (a x : E) (o : Nat) : (E.cell a x o).ev ρ = (a.ev ρ).at (x.den ρ).toNat o := rfl
theorem loc_s (v : Value) (r : List (List C)) : (C.s v r).loc = v := rfl
theorem int_i (n : Int) : (C.i n).int = n := rfl
theorem bool_b (t : Bool) : (C.b t).bool = t := rfl
theorem rows_s (v : Value) (r : List (List C)) : (C.s v r).rows = r := rfl
theorem cs_nil (ρ : List C) : cs_ ρ [] = [] := rfl
theorem cs_cons (ρ : List C) (l : Lf) (ls : List Lf) : cs_ ρ (l :: ls) = l.c ρ :: cs_ ρ ls := rfl
theorem vc_both {cx : Cx} {R : List C → Prop} {a b : Tree} {ρ : List C} {Ls : List (List C → Prop)} : VC cx R (.both a b) ρ Ls = (VC cx R a ρ Ls ∧ VC cx R b ρ Ls) := rfl
theorem kindsOf_nil : kindsOf [] = [] := rfl
theorem kindsOf_lf (k : Lk) (l : List Sh0) : kindsOf (.lf k :: l) = k :: kindsOf l := rfl
theorem kindsOf_box (t : TypeId) (ks : List Lk) (l : List Sh0) : kindsOf (.box t ks :: l) = ks ++ kindsOf l := rfl
theorem boxKinds_nil : boxKinds [] = [] := rfl
theorem boxKinds_lf (k : Lk) (l : List Sh0) : boxKinds (.lf k :: l) = boxKinds l := rfl
theorem boxKinds_agg (k : List Lk) (l : List Sh0) : boxKinds (.agg k :: l) = boxKinds l := rfl
theorem boxKinds_box (t : TypeId) (k : List Lk) (l : List Sh0) : boxKinds (.box t k :: l) = k ++ boxKinds l := rfl
theorem kindsOf_agg (ks : List Lk) (l : List Sh0) : kindsOf (.agg ks :: l) = ks ++ kindsOf l := rfl
theorem bds_nil (ρ : List C) : Bds.ok [] ρ := fun x lo hi h => by cases h
theorem cell_at (v : Value) (rows : List (List C)) (i o : Nat) : (C.s v rows).at i o = (rows.getD i []).getD o (.i 0) := rfl
end Go.Proofs.Ytlbgcjpkegpmlaa
