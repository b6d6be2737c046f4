/- The engine, part 12: loops; the executor of a code; its soundness. -/
import Derived.Test.YtlbgcjpkegpmlaaEw
namespace Go.Proofs.Ytlbgcjpkegpmlaa
open Go.RowKit
set_option linter.unusedSimpArgs false
set_option linter.unusedVariables false

/-! Loops -/
/-- The slots that a code writes. -/
def asg : Code → List Nat
  | .region _ ops _ => ops.toList.filterMap (·.dst)
  | .seq a b => asg a ++ asg b
  | .cond _ a b => asg a ++ asg b
  | .block _ c | .loop c | .scope c => asg c
  | _ => []
/-- The cells of a place; is it one cell by itself. -/
def St.cellsAt (st : St) : Pl → Option (Bool × List Lf)
  | .slot d => match look st.sl d with
    | some (.one (.lf l)) => some (true, [l])
    | some (.one (.agg l)) => some (false, l)
    | _ => none
  | .blk b => (look st.mem b).map fun mb => (false, mb.2)
  | .vec i => (look st.vec i).map fun e => (false, [.cnt e.1 e.2])
def St.setAt (st : St) (p : Pl) (one : Bool) (l : List Lf) : St :=
  match p with
  | .slot d => { st with sl := (d, if one then l.head?.map fun x => .one (.lf x) else some (.one (.agg l))) :: st.sl }
  | .blk b => match look st.mem b with
    | some mb => { st with mem := (b, some (mb.1, l)) :: st.mem }
    | none => st
  | .vec i => match l with
    | [.cnt te r] => { st with vec := (i, some (te, r)) :: st.vec }
    | _ => st
/-- Cells made unknown. -/
def hvL : List Lf → Nat → List Lf
  | [], _ => []
  | .cnt te _ :: ls, i => .cnt te (.var i) :: hvL ls (i + 1)
  | l :: ls, i => match l.kind with
    | some k => Lf.ofKind k i :: hvL ls (i + 1)
    | none => l :: hvL ls i
/-- The slices of one's own among them get new variables. -/
def hvV : List Lf → Nat → Vecs
  | [], _ => []
  | .vec te j :: ls, i => (i, some (te, .var i)) :: (j, none) :: hvV ls (i + 1)
  | l :: ls, i => match l.kind with
    | some _ => hvV ls (i + 1)
    | none => hvV ls i
def St.havoc (st : St) : List Pl → St
  | [] => st
  | p :: ps => match st.cellsAt p with
    | some cs => St.havoc { st.setAt p cs.1 (hvL cs.2 st.nx) with nx := st.nx + (cs.2.filter fun l => l.kind.isSome).length, vec := hvV cs.2 st.nx ++ (st.setAt p cs.1 (hvL cs.2 st.nx)).vec } ps
    | none => St.havoc st ps
/-- Slots that are written in a round and of which nothing is known at its head. -/
def St.forget (st : St) (l : List Nat) : St := { st with sl := l.foldl (fun sl d => (d, none) :: sl) st.sl }
/-- Of several places that hold one slice of one's own the first one. -/
def pickPs (st : St) : List Nat → List Nat → List Nat
  | _, [] => []
  | seen, d :: ds => match st.cellsAt (.slot d) with
    | some cs => if (vecsOf cs.2).all fun i => !seen.contains i && (look st.vec i).isSome then d :: pickPs st (vecsOf cs.2 ++ seen) ds else pickPs st seen ds
    | none => pickPs st seen ds
/-- The named slots that a code writes and of which something is known that can be made unknown. -/
def St.places (st : St) (w : List Nat) (seen : List Nat) : List Nat := pickPs st seen ((List.range st.nt).filter fun d => w.contains d && match look st.sl d with
  | some (.one s) => s.cells.all fun l => l.kind.isSome
  | _ => false)
/-- What the cells hold, where they were made unknown (from variable i on); all others are as they were. -/
def backL (vec : Vecs) : Nat → List Lf → List Lf → Option (List Lf)
  | _, [], [] => some []
  | i, l :: ls, m :: ms => match l with
    | .cnt te r => match m with
      | .cnt te' r' => if te = te' ∧ r = .var i then (backL vec (i + 1) ls ms).map (.cnt te r' :: ·) else none
      | _ => none
    | .vec te i' => if i' = i then match m with
      | .vec te' j => match look vec j with
        | some e => if te' = te ∧ e.1 = te then (backL vec (i + 1) ls ms).map (.cnt te (mkJoin j e.2) :: ·) else none
        | none => none
      | _ => none
      else none
    | l => match l.kind with
      | some k => if sameL l (Lf.ofKind k i) && decide (m.kind = some k) && k.noVec then (backL vec (i + 1) ls ms).map (m :: ·) else none
      | none => if sameL l m then backL vec i ls ms else none
  | _, _, _ => none
def backPs (st st' : St) : Nat → List Pl → Option (List Lf)
  | _, [] => some []
  | i, p :: ps => match st.cellsAt p, st'.cellsAt p with
    | some cs, some ds => if cs.1 = ds.1 then match backL st'.vec i cs.2 ds.2 with
        | some a => (backPs st st' (i + a.length) ps).map (a ++ ·)
        | none => none
      else none
    | _, _ => none
/-- Which slice stands at the end for which one at the head. -/
def vmapL : List Lf → List Lf → List (Nat × Nat)
  | .vec _ i :: cs, .vec _ j :: ds => (i, j) :: vmapL cs ds
  | _ :: cs, _ :: ds => vmapL cs ds
  | _, _ => []
def vmapPs (st st' : St) (ps : List Pl) : List (Nat × Nat) := ps.flatMap fun p => match st.cellsAt p, st'.cellsAt p with
  | some cs, some ds => vmapL cs.2 ds.2
  | _, _ => []
def keyOf : List (Nat × Nat) → Nat → Option Nat
  | [], _ => none
  | (k, j) :: l, i => if k = i then some j else keyOf l i
def curOf (vm : List (Nat × Nat)) (i : Nat) : Nat := (keyOf vm i).getD i
/-- All slices of one's own that are known at the head are known at the end, each one by itself. -/
def sameVec (st st' : St) (n : Nat) (ps : List Pl) (vm : List (Nat × Nat)) : Bool :=
  (st.vec.all fun p => match look st.vec p.1 with
    | none => true
    | some e => match look st'.vec (curOf vm p.1) with
      | some e' => Nat.beq e.1 e'.1 && (match keyOf vm p.1 with
        | some _ => Nat.ble n p.1 && decide (e.2 = .var p.1)
        | none => Nat.blt p.1 n && (ps.contains (.vec p.1) || (decide (e.2 = e'.2) && e.2.wf n)))
      | none => false) &&
  (st.vec.all fun p => st.vec.all fun q => Nat.beq p.1 q.1 || !Nat.beq (curOf vm p.1) (curOf vm q.1) || (look st.vec p.1).isNone || (look st.vec q.1).isNone)
def sameClo (st st' : St) (n : Nat) : Bool :=
  st.clo.all fun p => match look st.clo p.1 with
    | none => true
    | some e => match look st'.clo p.1 with
      | some e' => Nat.beq e.1 e'.1 && same0s e.2.1 e'.2.1 && sameLs e.2.2 e'.2.2 && wfC n st.nb p.1 (some e)
      | none => false
/-- All that is known at the head and is not among the places is known, alike, at the end. -/
def sameRest (st st' : St) (n : Nat) (ps : List Pl) : Bool :=
  (st.sl.all fun p => match look st.sl p.1 with
    | none => true
    | some sv => ps.contains (.slot p.1) || match look st'.sl p.1 with
      | some sv' => sameS sv sv'
      | none => false) &&
  (st.mem.all fun p => match look st.mem p.1 with
    | none => true
    | some mb => match look st'.mem p.1 with
      | some mb' => Nat.beq mb.1 mb'.1 && (ps.contains (.blk p.1) || sameLs mb.2 mb'.2)
      | none => false) &&
  sameVec st st' n ps (vmapPs st st' ps) && sameClo st st' n
/-- Of what was not made unknown nothing names the new variables. -/
def headWf (st : St) (n : Nat) (ps : List Pl) : Bool :=
  (st.sl.all fun p => ps.contains (.slot p.1) || match look st.sl p.1 with
    | none => true
    | some sv => sv.wf n st.nb) &&
  (st.mem.all fun p => Nat.blt p.1 st.nb && (ps.contains (.blk p.1) || match look st.mem p.1 with
    | none => true
    | some mb => mb.2.all (Lf.wf n st.nb))) &&
  (ps.all fun p => match st.cellsAt p with
    | some cs => cs.2.all fun l => l.kind.isSome || l.wf n st.nb
    | none => true) &&
  (st.bds.all fun p => Nat.blt p.1 n)
/-- What is not known any more at the end: its places. (For the reader of a tree.) -/
def diffs (st st' : St) (n : Nat) (ps : List Pl) : List Nat :=
  (st.sl.filterMap fun p => match look st.sl p.1 with
    | none => none
    | some sv => if ps.contains (.slot p.1) || (match look st'.sl p.1 with
      | some sv' => sameS sv sv'
      | none => false) then none else some (1000000 + p.1)) ++
  (st.mem.filterMap fun p => match look st.mem p.1 with
    | none => none
    | some mb => if (match look st'.mem p.1 with
      | some mb' => Nat.beq mb.1 mb'.1 && (ps.contains (.blk p.1) || sameLs mb.2 mb'.2)
      | none => false) then none else some (2000000 + p.1)) ++
  (st.vec.filterMap fun p => match look st.vec p.1 with
    | none => none
    | some e => match look st'.vec (curOf (vmapPs st st' ps) p.1) with
      | some e' => if Nat.beq e.1 e'.1 && (match keyOf (vmapPs st st' ps) p.1 with
        | some _ => Nat.ble n p.1 && decide (e.2 = .var p.1)
        | none => Nat.blt p.1 n && (ps.contains (.vec p.1) || (decide (e.2 = e'.2) && e.2.wf n))) then none else some (3000000 + p.1)
      | none => some (3000000 + p.1)) ++
  (if sameVec st st' n ps (vmapPs st st' ps) then [] else [4000000]) ++ (if sameClo st st' n then [] else [5000000]) ++
  (ps.zipIdx.filterMap fun q => match st.cellsAt q.1, st'.cellsAt q.1 with
    | some cs, some ds => if cs.1 = ds.1 && Nat.beq cs.2.length ds.2.length then none else some (6000000 + q.2)
    | _, _ => some (7000000 + q.2))
/-- The places of a loop; what is known before it; what is known at its head. -/
def loopPs (cx : Cx) (c : Code) (st : St) : List Pl :=
  (st.places (asg c) ((cx.hv (st.path * 100000 + (firstReg c).getD 0)).flatMap fun p => match st.cellsAt p with | some cs => vecsOf cs.2 | none => [])).map Pl.slot ++ cx.hv (st.path * 100000 + (firstReg c).getD 0)
def loopSt0 (cx : Cx) (c : Code) (st : St) : St := st.forget ((asg c).filter fun d => !(loopPs cx c st).contains (.slot d))
def loopSt1 (cx : Cx) (c : Code) (st : St) : St := { St.havoc (loopSt0 cx c st) (loopPs cx c st) with lvl := st.lvl + 1 }
def exec (cx : Cx) : Code → St → (Ex → St → Option Tree) → Option Tree
  | .skip, st, k => k .nrm st
  | .label _, st, k => k .nrm st
  | .seq a b, st, k => exec cx a st fun x st => match x with
    | .nrm => exec cx b st k
    | x => k x st
  | .cond c a b, st, k => match st.lf c with
    | some (.bool (.lit t)) => if t then exec cx a st k else exec cx b st k
    | some (.bool e) => match exec cx a { st with bds := learn st.nx st.bds e true } k, exec cx b { st with bds := learn st.nx st.bds e false } k with
      | some t, some f => some (.split e t f)
      | _, _ => none
    | _ => none
  | .block id c, st, k => exec cx c st fun x st => match x with
    | .ext i => if i = id then k .nrm st else k (.ext i) st
    | x => k x st
  | .scope c, st, k => exec cx c st k
  | .exit id, st, k => k (.ext id) st
  | .ret, st, k => k .ret st
  | .region id ops draw, st, k => if !draw || drawOk cx ops then execOps cx ops ops.toList st (k .nrm)
    else orF (if Region.noSelect ops && (st.hide (cx.hv (st.path * 100000 + 50000 + id))).wf then
      execAny cx ops (st.hide (cx.hv (st.path * 100000 + 50000 + id))) (k .nrm) (3 * ops.size + 8) ops.size (Array.replicate ops.size false) st
    else none) (50000 + id) [st.path]
  | .loop c, st, k =>
    match backPs (loopSt1 cx c st) (loopSt0 cx c st) st.nx (loopPs cx c st) with
    | none => some (.fail 60001 [st.path, (firstReg c).getD 0])
    | some init => match kindsL init with
      | none => some (.fail 60002 [st.path, (firstReg c).getD 0])
      | some ks =>
        if st.wf && headWf (loopSt1 cx c st) st.nx (loopPs cx c st) && sameRest (loopSt1 cx c st) (loopSt0 cx c st) st.nx (loopPs cx c st) && Nat.beq (loopSt1 cx c st).nx (st.nx + ks.length) && Nat.beq (loopSt1 cx c st).nb st.nb && Nat.beq (loopSt1 cx c st).nt st.nt && decide ((loopSt1 cx c st).bds = st.bds) then
          (exec cx c (loopSt1 cx c st) fun x st' => match x with
            | .nrm => if sameRest (loopSt1 cx c st) st' st.nx (loopPs cx c st) && Nat.ble (loopSt1 cx c st).nb st'.nb && Nat.beq (loopSt1 cx c st).nt st'.nt then match backPs (loopSt1 cx c st) st' st.nx (loopPs cx c st) with
                | some vals => if kindsL vals = some ks then some (obT (rngL st'.bds vals) (.back st.lvl vals)) else some (.fail 60004 [st.path, (firstReg c).getD 0])
                | none => some (.fail 60005 [st.path, (firstReg c).getD 0])
              else some (.fail 60003 ([st.path, (firstReg c).getD 0] ++ diffs (loopSt1 cx c st) st' st.nx (loopPs cx c st)))
            | x => k x st').map fun t => obT (rngL st.bds init) (.loop ks init t)
        else some (.fail 60006 ([st.path, (firstReg c).getD 0] ++ diffs (loopSt1 cx c st) (loopSt0 cx c st) st.nx (loopPs cx c st)))
  | _, _, _ => none

end Go.Proofs.Ytlbgcjpkegpmlaa
