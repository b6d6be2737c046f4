/- The engine, part 12: loops; the executor of a code; its soundness. -/
import Derived.Test.YtlbgcjpkegpmlaaEw
namespace Go.Proofs.Ytlbgcjpkegpmlaa
open Go.RowKit
set_option linter.unusedSimpArgs false
set_option linter.unusedVariables false

/-! Loops -/
/-- The slots that a code writes. -/
def asg : Code → List Nat
  | .region _ ops _ => ops.toList.filterMap (·.dst)
  | .seq a b => asg a ++ asg b
  | .cond _ a b => asg a ++ asg b
  | .block _ c | .loop c | .scope c => asg c
  | _ => []
/-- A place that a round may write: a slot, a block. -/
inductive Pl where
  | slot (d : Nat)
  | blk (b : Nat)
  deriving DecidableEq, Repr, Inhabited
/-- The cells of a place; is it one cell by itself. -/
def St.cellsAt (st : St) : Pl → Option (Bool × List Lf)
  | .slot d => match look st.sl d with
    | some (.one (.lf l)) => some (true, [l])
    | some (.one (.agg l)) => some (false, l)
    | _ => none
  | .blk b => (look st.mem b).map fun mb => (false, mb.2)
def St.setAt (st : St) (p : Pl) (one : Bool) (l : List Lf) : St :=
  match p with
  | .slot d => { st with sl := (d, if one then l.head?.map fun x => .one (.lf x) else some (.one (.agg l))) :: st.sl }
  | .blk b => match look st.mem b with
    | some mb => { st with mem := (b, some (mb.1, l)) :: st.mem }
    | none => st
/-- Cells made unknown. -/
def hvL : List Lf → Nat → List Lf
  | [], _ => []
  | l :: ls, i => match l.kind with
    | some k => Lf.ofKind k i :: hvL ls (i + 1)
    | none => l :: hvL ls i
def St.havoc (st : St) : List Pl → St
  | [] => st
  | p :: ps => match st.cellsAt p with
    | some cs => St.havoc { st.setAt p cs.1 (hvL cs.2 st.nx) with nx := st.nx + (cs.2.filter fun l => l.kind.isSome).length } ps
    | none => St.havoc st ps
/-- Slots that are written in a round and of which nothing is known at its head. -/
def St.forget (st : St) (l : List Nat) : St := { st with sl := l.foldl (fun sl d => (d, none) :: sl) st.sl }
/-- The named slots that a code writes and of which something is known that can be made unknown. -/
def St.places (st : St) (named : Nat) (w : List Nat) : List Nat := (List.range named).filter fun d => w.contains d && match look st.sl d with
  | some (.one s) => s.cells.all fun l => l.kind.isSome
  | _ => false
/-- What the cells hold, where they were made unknown (from variable i on); all others are as they were. -/
def backL : Nat → List Lf → List Lf → Option (List Lf)
  | _, [], [] => some []
  | i, l :: ls, m :: ms => match l.kind with
    | some k => if sameL l (Lf.ofKind k i) && decide (m.kind = some k) then (backL (i + 1) ls ms).map (m :: ·) else none
    | none => if sameL l m then backL i ls ms else none
  | _, _, _ => none
def backPs (st st' : St) : Nat → List Pl → Option (List Lf)
  | _, [] => some []
  | i, p :: ps => match st.cellsAt p, st'.cellsAt p with
    | some cs, some ds => if cs.1 = ds.1 then match backL i cs.2 ds.2 with
        | some a => (backPs st st' (i + a.length) ps).map (a ++ ·)
        | none => none
      else none
    | _, _ => none
/-- All that is known at the head and is not among the places is known, alike, at the end. -/
def sameRest (st st' : St) (ps : List Pl) : Bool :=
  (st.sl.all fun p => match look st.sl p.1 with
    | none => true
    | some sv => ps.contains (.slot p.1) || match look st'.sl p.1 with
      | some sv' => sameS sv sv'
      | none => false) &&
  (st.mem.all fun p => match look st.mem p.1 with
    | none => true
    | some mb => match look st'.mem p.1 with
      | some mb' => Nat.beq mb.1 mb'.1 && (ps.contains (.blk p.1) || sameLs mb.2 mb'.2)
      | none => false)
/-- Of what was not made unknown nothing names the new variables. -/
def headWf (st : St) (n : Nat) (ps : List Pl) : Bool :=
  (st.sl.all fun p => ps.contains (.slot p.1) || match look st.sl p.1 with
    | none => true
    | some sv => sv.wf n st.nb) &&
  (st.mem.all fun p => Nat.blt p.1 st.nb && (ps.contains (.blk p.1) || match look st.mem p.1 with
    | none => true
    | some mb => mb.2.all (Lf.wf n st.nb))) &&
  (ps.all fun p => match st.cellsAt p with
    | some cs => cs.2.all fun l => l.kind.isSome || l.wf n st.nb
    | none => true) &&
  (st.bds.all fun p => Nat.blt p.1 n)
/-- The places of a loop; what is known before it; what is known at its head. -/
def loopPs (cx : Cx) (c : Code) (st : St) : List Pl := (st.places cx.named (asg c)).map Pl.slot ++ ((cx.hv ((firstReg c).getD 0)).map Pl.blk)
def loopSt0 (cx : Cx) (c : Code) (st : St) : St := st.forget ((asg c).filter fun d => !(st.places cx.named (asg c)).contains d)
def loopSt1 (cx : Cx) (c : Code) (st : St) : St := { St.havoc (loopSt0 cx c st) (loopPs cx c st) with lvl := st.lvl + 1 }
def exec (cx : Cx) : Code → St → (Ex → St → Option Tree) → Option Tree
  | .skip, st, k => k .nrm st
  | .label _, st, k => k .nrm st
  | .seq a b, st, k => exec cx a st fun x st => match x with
    | .nrm => exec cx b st k
    | x => k x st
  | .cond c a b, st, k => match st.lf c with
    | some (.bool (.lit t)) => if t then exec cx a st k else exec cx b st k
    | some (.bool e) => match exec cx a { st with bds := learn st.nx st.bds e true } k, exec cx b { st with bds := learn st.nx st.bds e false } k with
      | some t, some f => some (.split e t f)
      | _, _ => none
    | _ => none
  | .block id c, st, k => exec cx c st fun x st => match x with
    | .ext i => if i = id then k .nrm st else k (.ext i) st
    | x => k x st
  | .exit id, st, k => k (.ext id) st
  | .ret, st, k => k .ret st
  | .region id ops draw, st, k => if !draw || drawOk cx ops then execOps cx ops ops.toList st (k .nrm)
    else if Region.noSelect ops && (st.hide (cx.hv (1000 + id))).wf && (cx.hv (1000 + id)).all (fun b => (look st.mem b).isSome) then
      execAny cx ops (cx.hv (1000 + id)) (st.hide (cx.hv (1000 + id))) (k .nrm) (3 * ops.size + 8) ops.size (Array.replicate ops.size false) st
    else none
  | .loop c, st, k =>
    match backPs (loopSt1 cx c st) (loopSt0 cx c st) st.nx (loopPs cx c st) with
    | none => none
    | some init => match kindsL init with
      | none => none
      | some ks =>
        if st.wf && headWf (loopSt1 cx c st) st.nx (loopPs cx c st) && sameRest (loopSt1 cx c st) (loopSt0 cx c st) (loopPs cx c st) && Nat.beq (loopSt1 cx c st).nx (st.nx + ks.length) && Nat.beq (loopSt1 cx c st).nb st.nb && Nat.beq (loopSt1 cx c st).nt st.nt && decide ((loopSt1 cx c st).bds = st.bds) then
          (exec cx c (loopSt1 cx c st) fun x st' => match x with
            | .nrm => if sameRest (loopSt1 cx c st) st' (loopPs cx c st) && Nat.ble (loopSt1 cx c st).nb st'.nb && Nat.beq (loopSt1 cx c st).nt st'.nt then match backPs (loopSt1 cx c st) st' st.nx (loopPs cx c st) with
                | some vals => if kindsL vals = some ks then some (obT (rngL st'.bds vals) (.back st.lvl vals)) else none
                | none => none
              else none
            | x => k x st').map fun t => obT (rngL st.bds init) (.loop ks init t)
        else none
  | _, _, _ => none

end Go.Proofs.Ytlbgcjpkegpmlaa
