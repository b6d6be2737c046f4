/- Texts laid into one: XB5 XB6 XS5 XT5 XM1 XB7 XB8 Fz XS6 Sh XG1 XS7 XT9 XN1 XM2 XM3 XM4 XM5 XM6 XM7 XM8 XM9. -/
import Derived.Test.YtcglpbchejkolaaNeeded7
import Derived.Shelf.SortG.Plain
import Derived.Shelf.SlicesG.CompactI
import Derived.Shelf.SlGeneric
import Derived.Test.YtcglpbchejkolaaProg
import Derived.Sort.OwnSortedInts
/- Earth: fits, and EarthFits by the table. -/
namespace Go.Proofs.Ytcglpbchejkolaa
open Go.RowKit
set_option linter.unusedSimpArgs false
set_option linter.unusedVariables false

theorem true1 {tp tf : List Kn} {r : Rep} (h : r.kind = 1) : trueV tp tf r = decide (r.p ≤ (rangeP tp r.z).1) := by
  unfold trueV; rw [if_pos (Or.inl h), if_neg (by omega)]
theorem true2 {tp tf : List Kn} {r : Rep} (h : r.kind ≠ 1) (h2 : r.kind < 3) : trueV tp tf r = decide ((rangeP tp r.z).2 ≤ r.p) := by
  unfold trueV; rw [if_neg (by omega), if_neg (by omega)]
theorem true3 {tp tf : List Kn} {r : Rep} (h : r.kind = 3) : trueV tp tf r = decide (r.p ≤ (rangeP tf r.z).1) := by
  unfold trueV; rw [if_pos (Or.inr h), if_pos (by omega)]
theorem true4 {tp tf : List Kn} {r : Rep} (h : 4 ≤ r.kind) : trueV tp tf r = decide ((rangeP tf r.z).2 ≤ r.p) := by
  unfold trueV; rw [if_neg (by omega), if_pos (by omega)]
theorem fitsV_iff {e : Ear} {tp tf : List Kn} : fitsV e tp tf = true ↔ checkV e = 0 ∧ truthV tp tf e.bottom = 0 ∧ growsV e.gl e.gh tp = true ∧ growsV e.gl e.gh tf = true ∧ spansV tp e.pl e.bottom = true ∧ spansV e.ph tp e.bottom = true ∧ spansV tf e.fl e.bottom = true ∧ spansV e.fh tf e.bottom = true ∧ spansV tf tp e.bottom = true ∧ e.reps.all (trueV tp tf) = true := by
  unfold fitsV
  simp only [Bool.and_eq_true, beq_iff_eq, and_assoc]
end Go.Proofs.Ytcglpbchejkolaa
/- Earth: reports added, and EarthAdds by the table. -/
namespace Go.Proofs.Ytcglpbchejkolaa
open Go.RowKit
set_option linter.unusedSimpArgs false
set_option linter.unusedVariables false

theorem reps_app (a b : List (List C)) : repsOf (a ++ b) = repsOf a ++ repsOf b := by simp [repsOf]
theorem reps_one (a b c : Int) : repsOf [[.i a, .i b, .i c]] = [⟨a, b, c⟩] := rfl
def Rep.up (r : Rep) : Rep := ⟨r.kind, r.z, r.p + 1⟩
end Go.Proofs.Ytcglpbchejkolaa
/- Earth: contracts, more of them: earths and truths made of numbers. -/
namespace Go.Proofs.Ytcglpbchejkolaa
set_option linter.unusedVariables false

structure Gr where
  bottom : Int
  steps : List Int
  off : List Int
  marks : List Int
def grOf (cs : List C) : Gr := ⟨n_ cs 0, ints (at_ cs 1).rows, ints (at_ cs 2).rows, ints (at_ cs 3).rows⟩
def pickV (l : List Int) (i : Int) : Int := if l.length = 0 then 0 else l.getD (i % l.length).toNat 0 % 1099511627776
def stepV (g : Gr) (B i at_ : Int) : Int := if i = 4 ∨ B < at_ + (1 + pickV g.steps (i + 2) % B) then B - at_ else 1 + pickV g.steps (i + 2) % B
def gainA (g : Gr) (i : Int) : Int := 2000 + pickV g.steps (i + 3) / 7 % 20001
def gainB (g : Gr) (i : Int) : Int := gainA g i + pickV g.steps (i + 4) / 11 % (30001 - gainA g i)
def truthGo (g : Gr) (B : Int) : Nat → Int → Int → Int → Int → List (Int × Int × Int)
  | 0, _, _, _, _ => []
  | n + 1, i, a, p, f => (a, p, f) :: (if a = B then [] else truthGo g B n (i + 1) (a + stepV g B i a) (p + gainA g i * stepV g B i a) (f + gainB g i * stepV g B i a))
def bottomV (g : Gr) : Int := 1000 + g.bottom % 499001
def truthL (g : Gr) : List (Int × Int × Int) := truthGo g (bottomV g) 6 0 0 (pickV g.steps 0 % 1000000) (pickV g.steps 0 % 1000000 + pickV g.steps 1 % 20000000)
def tpV (g : Gr) : List Kn := (truthL g).map fun k => (k.1, k.2.1)
def tfV (g : Gr) : List Kn := (truthL g).map fun k => (k.1, k.2.2)
def shiftGo (off : List Int) (up : Bool) : Int → List Kn → List Kn
  | _, [] => []
  | i, k :: l => (k.1, if up = true then k.2 + pickV off i % 40000000 else max 0 (k.2 - pickV off i % 40000000)) :: shiftGo off up (i + 1) l
def endV (ks : List Kn) : Int := (ks.getD (ks.length - 1) (0, 0)).1
def repV (tp tf : List Kn) (n : Int) : Rep :=
  ⟨1 + n % 1099511627776 % 4, n % 1099511627776 / 4 % (endV tp + 1),
    if n % 1099511627776 % 4 = 0 then max 0 ((rangeP tp (n % 1099511627776 / 4 % (endV tp + 1))).1 - n % 1099511627776 / 4096 % 1000000)
    else if n % 1099511627776 % 4 = 1 then (rangeP tp (n % 1099511627776 / 4 % (endV tp + 1))).2 + n % 1099511627776 / 4096 % 1000000
    else if n % 1099511627776 % 4 = 2 then max 0 ((rangeP tf (n % 1099511627776 / 4 % (endV tp + 1))).1 - n % 1099511627776 / 4096 % 1000000)
    else (rangeP tf (n % 1099511627776 / 4 % (endV tp + 1))).2 + n % 1099511627776 / 4096 % 1000000⟩
def knownV (g : Gr) : Ear :=
  ⟨endV (tpV g), shiftGo g.off false 0 (tpV g), shiftGo g.off true 3 (tpV g), shiftGo g.off false 5 (tfV g), shiftGo g.off true 7 (tfV g), pickV g.off 1 % 2001, 30000 + pickV g.off 2 % 10001, (g.marks.take 8).map (repV (tpV g) (tfV g))⟩

def groundSh : Sh0 := .agg [.int, .arr 2, .arr 2, .arr 2]
def vecTruth : Sh0 := .agg [.vec 44, .vec 44]
def ctPick : Ct := ctF [.lf (.arr 2), .lf .int] [.lf .int] (fun cs => 0 ≤ n_ cs 1) (fun cs => [.i (pickV (ints (at_ cs 0).rows) (n_ cs 1))])
def ctTrue : Ct := ⟨[groundSh], [vecTruth], fun _ => True, fun cs rs => k_ rs 0 = tpV (grOf cs) ∧ k_ rs 1 = tfV (grOf cs), false⟩
def ctShifted : Ct := ⟨[lineSh, .lf (.arr 2), .lf .int, .lf .bool], [.agg [.vec 44]], fun cs => (k_ cs 0).length ≤ 100 ∧ (∀ k ∈ k_ cs 0, -1152921504606846976 ≤ k.2 ∧ k.2 ≤ 1152921504606846976) ∧ 0 ≤ n_ cs 2 ∧ n_ cs 2 ≤ 1000, fun cs rs => k_ rs 0 = shiftGo (ints (at_ cs 1).rows) (at_ cs 3).bool (n_ cs 2) (k_ cs 0), false⟩
def ctReport : Ct := ctF [.agg [.arr 44, .arr 44], .lf .int] [.agg [.int, .int, .int]] (fun cs => lineE (k_ cs 0) = 0 ∧ lineE (k_ cs 1) = 0) (fun cs => [.i (repV (k_ cs 0) (k_ cs 1) (n_ cs 2)).kind, .i (repV (k_ cs 0) (k_ cs 1) (n_ cs 2)).z, .i (repV (k_ cs 0) (k_ cs 1) (n_ cs 2)).p])
def ctKnown : Ct := ⟨[groundSh], [vecEarth], fun _ => True, fun cs rs => earOf rs = knownV (grOf cs), false⟩
def tab5 : Tab where
  ct := fun f => match f with
    | 61 => some ctPick
    | 34 => some ctTrue
    | 62 => some ctShifted
    | 59 => some ctReport
    | 20 => some ctKnown
    | f => tab4.ct f
  inl := tab4.inl
  sel := tab4.sel
theorem up5_ok {f : Nat} (h : tab4.ok f) (he : tab5.ct f = tab4.ct f := by rfl) : tab5.ok f :=
  ⟨h.1, fun ct hc => h.2.1 ct (he ▸ hc), h.2.2.1, h.2.2.2⟩
end Go.Proofs.Ytcglpbchejkolaa
/- What is to be shown of each function, as the executor has it. Printed by trees.py. -/
namespace Go.Proofs.Ytcglpbchejkolaa
noncomputable def cpick : Cx := tab5.only [22] (fun _ => []) [] 0 [] (fun _ => none)
def tpick : Tree :=
  (.split (.cmp .eq (.len (.var 0)) (.lit 0)) (.ret [(.int (.lit 0))]) (.ob (.cmp .ne (.len (.var 0)) (.lit 0)) (.ob (.cmp .le (.lit 0) (.rem (.var 1) (.len (.var 0)))) (.ob (.cmp .lt (.rem (.var 1) (.len (.var 0))) (.len (.var 0))) (.call 22 [(.int (.cell (.var 0) (.rem (.var 1) (.len (.var 0))) 0)), (.int (.lit 1099511627776))] (.ret [(.int (.var 2))]))))))
noncomputable def ctruth : Cx := tab5.only [22, 61] (fun r => match r with
  | 6 => [.blk 2]
  | 50008 => [.vec 17, .vec 18]
  | _ => []) [] 0 [] (fun r => match r with
  | 50008 => some ([], [.blk 2])
  | 50011 => some ([(69, true, [.bool])], [])
  | 90012 => some ([(9, true, [.int])], [])
  | _ => none)
def ttruth : Tree :=
  (.dfn .nil (.dfn .nil (.call 22 [(.int (.var 0)), (.int (.lit 499001))] (.ob (.and (.cmp .le (.lit (-9223372036854775808)) (.add (.lit 1000) (.var 6))) (.cmp .le (.add (.lit 1000) (.var 6)) (.lit 9223372036854775807))) (.dfn .nil (.dfn .nil (.call 61 [(.arr 2 (.var 1)), (.int (.lit 0))] (.call 22 [(.int (.var 9)), (.int (.lit 1000000))] (.call 61 [(.arr 2 (.var 1)), (.int (.lit 1))] (.call 22 [(.int (.var 11)), (.int (.lit 20000000))] (.ob (.and (.cmp .le (.lit (-9223372036854775808)) (.add (.var 10) (.var 12))) (.cmp .le (.add (.var 10) (.var 12)) (.lit 9223372036854775807))) (.ob (.and (.cmp .le (.lit (-9223372036854775808)) (.add (.var 10) (.var 12))) (.cmp .le (.add (.var 10) (.var 12)) (.lit 9223372036854775807))) (.loop [.int, .int, .int, .int, (.vec 44), (.vec 44)] [(.int (.lit 0)), (.int (.var 10)), (.int (.add (.var 10) (.var 12))), (.int (.lit 0)), (.cnt 44 (.var 7)), (.cnt 44 (.var 8))] (.split (.cmp .lt (.var 16) (.lit 6)) (.join [(.vec 44), (.vec 44)] (.both (.arr [[(.int (.var 13)), (.int (.var 14))]] (.both (.ob (.cmp .le (.mul (.add (.len (.var 17)) (.len (.var 19))) (.lit 16)) (.lit 140737488355328)) (.cat (.var 17) (.var 19) (.arr [[(.int (.var 13)), (.int (.var 15))]] (.ob (.cmp .le (.mul (.add (.len (.var 18)) (.len (.var 21))) (.lit 16)) (.lit 140737488355328)) (.cat (.var 18) (.var 21) (.back 1 [(.cnt 44 (.var 20)), (.cnt 44 (.var 22))])))))) (.arr [[(.int (.var 13)), (.int (.var 15))]] (.ob (.cmp .le (.mul (.add (.len (.var 17)) (.len (.var 19))) (.lit 16)) (.lit 140737488355328)) (.cat (.var 17) (.var 19) (.ob (.cmp .le (.mul (.add (.len (.var 18)) (.len (.var 20))) (.lit 16)) (.lit 140737488355328)) (.cat (.var 18) (.var 20) (.back 1 [(.cnt 44 (.var 21)), (.cnt 44 (.var 22))])))))))) (.arr [[(.int (.var 13)), (.int (.var 15))]] (.arr [[(.int (.var 13)), (.int (.var 14))]] (.ob (.cmp .le (.mul (.add (.len (.var 17)) (.len (.var 20))) (.lit 16)) (.lit 140737488355328)) (.cat (.var 17) (.var 20) (.ob (.cmp .le (.mul (.add (.len (.var 18)) (.len (.var 19))) (.lit 16)) (.lit 140737488355328)) (.cat (.var 18) (.var 19) (.back 1 [(.cnt 44 (.var 21)), (.cnt 44 (.var 22))])))))))) (.split (.cmp .eq (.var 13) (.add (.lit 1000) (.var 6))) (.ret [(.cnt 44 (.var 19)), (.cnt 44 (.var 20))]) (.call 61 [(.arr 2 (.var 1)), (.int (.add (.var 16) (.lit 2)))] (.ob (.and (.cmp .le (.lit (-9223372036854775808)) (.add (.lit 1000) (.var 6))) (.cmp .le (.add (.lit 1000) (.var 6)) (.lit 9223372036854775807))) (.call 22 [(.int (.var 21)), (.int (.add (.lit 1000) (.var 6)))] (.ob (.and (.cmp .le (.lit (-9223372036854775808)) (.add (.lit 1) (.var 22))) (.cmp .le (.add (.lit 1) (.var 22)) (.lit 9223372036854775807))) (.join [.bool] (.split (.cmp .eq (.var 16) (.lit 4)) (.back 2 [(.bool (.lit true))]) (.ob (.and (.cmp .le (.lit (-9223372036854775808)) (.add (.var 13) (.add (.lit 1) (.var 22)))) (.cmp .le (.add (.var 13) (.add (.lit 1) (.var 22))) (.lit 9223372036854775807))) (.back 2 [(.bool (.cmp .lt (.add (.lit 1000) (.var 6)) (.add (.var 13) (.add (.lit 1) (.var 22)))))]))) (.join [.int] (.split (.of (.var 23)) (.ob (.and (.cmp .le (.lit (-9223372036854775808)) (.sub (.add (.lit 1000) (.var 6)) (.var 13))) (.cmp .le (.sub (.add (.lit 1000) (.var 6)) (.var 13)) (.lit 9223372036854775807))) (.ob (.and (.cmp .le (.lit (-9223372036854775808)) (.sub (.add (.lit 1000) (.var 6)) (.var 13))) (.cmp .le (.sub (.add (.lit 1000) (.var 6)) (.var 13)) (.lit 9223372036854775807))) (.back 3 [(.int (.sub (.add (.lit 1000) (.var 6)) (.var 13)))]))) (.ob (.and (.cmp .le (.lit (-9223372036854775808)) (.add (.lit 1) (.var 22))) (.cmp .le (.add (.lit 1) (.var 22)) (.lit 9223372036854775807))) (.back 3 [(.int (.add (.lit 1) (.var 22)))]))) (.call 61 [(.arr 2 (.var 1)), (.int (.add (.var 16) (.lit 3)))] (.ob (.and (.cmp .le (.lit (-9223372036854775808)) (.quo (.var 25) (.lit 7))) (.cmp .le (.quo (.var 25) (.lit 7)) (.lit 9223372036854775807))) (.ob (.and (.cmp .le (.lit (-9223372036854775808)) (.quo (.var 25) (.lit 7))) (.cmp .le (.quo (.var 25) (.lit 7)) (.lit 9223372036854775807))) (.call 22 [(.int (.quo (.var 25) (.lit 7))), (.int (.lit 20001))] (.ob (.and (.cmp .le (.lit (-9223372036854775808)) (.add (.lit 2000) (.var 26))) (.cmp .le (.add (.lit 2000) (.var 26)) (.lit 9223372036854775807))) (.call 61 [(.arr 2 (.var 1)), (.int (.add (.var 16) (.lit 4)))] (.ob (.and (.cmp .le (.lit (-9223372036854775808)) (.quo (.var 27) (.lit 11))) (.cmp .le (.quo (.var 27) (.lit 11)) (.lit 9223372036854775807))) (.ob (.and (.cmp .le (.lit (-9223372036854775808)) (.sub (.lit 30001) (.add (.lit 2000) (.var 26)))) (.cmp .le (.sub (.lit 30001) (.add (.lit 2000) (.var 26))) (.lit 9223372036854775807))) (.ob (.and (.cmp .le (.lit (-9223372036854775808)) (.quo (.var 27) (.lit 11))) (.cmp .le (.quo (.var 27) (.lit 11)) (.lit 9223372036854775807))) (.ob (.and (.cmp .le (.lit (-9223372036854775808)) (.sub (.lit 30001) (.add (.lit 2000) (.var 26)))) (.cmp .le (.sub (.lit 30001) (.add (.lit 2000) (.var 26))) (.lit 9223372036854775807))) (.call 22 [(.int (.quo (.var 27) (.lit 11))), (.int (.sub (.lit 30001) (.add (.lit 2000) (.var 26))))] (.ob (.and (.cmp .le (.lit (-9223372036854775808)) (.add (.add (.lit 2000) (.var 26)) (.var 28))) (.cmp .le (.add (.add (.lit 2000) (.var 26)) (.var 28)) (.lit 9223372036854775807))) (.ob (.and (.cmp .le (.lit (-9223372036854775808)) (.add (.var 13) (.var 24))) (.cmp .le (.add (.var 13) (.var 24)) (.lit 9223372036854775807))) (.ob (.and (.cmp .le (.lit (-9223372036854775808)) (.mul (.add (.lit 2000) (.var 26)) (.var 24))) (.cmp .le (.mul (.add (.lit 2000) (.var 26)) (.var 24)) (.lit 9223372036854775807))) (.ob (.and (.cmp .le (.lit (-9223372036854775808)) (.add (.var 14) (.mul (.add (.lit 2000) (.var 26)) (.var 24)))) (.cmp .le (.add (.var 14) (.mul (.add (.lit 2000) (.var 26)) (.var 24))) (.lit 9223372036854775807))) (.ob (.and (.cmp .le (.lit (-9223372036854775808)) (.mul (.add (.add (.lit 2000) (.var 26)) (.var 28)) (.var 24))) (.cmp .le (.mul (.add (.add (.lit 2000) (.var 26)) (.var 28)) (.var 24)) (.lit 9223372036854775807))) (.ob (.and (.cmp .le (.lit (-9223372036854775808)) (.add (.var 15) (.mul (.add (.add (.lit 2000) (.var 26)) (.var 28)) (.var 24)))) (.cmp .le (.add (.var 15) (.mul (.add (.add (.lit 2000) (.var 26)) (.var 28)) (.var 24))) (.lit 9223372036854775807))) (.ob (.and (.cmp .le (.lit (-9223372036854775808)) (.add (.var 13) (.var 24))) (.cmp .le (.add (.var 13) (.var 24)) (.lit 9223372036854775807))) (.ob (.and (.cmp .le (.lit (-9223372036854775808)) (.add (.var 14) (.mul (.add (.lit 2000) (.var 26)) (.var 24)))) (.cmp .le (.add (.var 14) (.mul (.add (.lit 2000) (.var 26)) (.var 24))) (.lit 9223372036854775807))) (.ob (.and (.cmp .le (.lit (-9223372036854775808)) (.add (.var 15) (.mul (.add (.add (.lit 2000) (.var 26)) (.var 28)) (.var 24)))) (.cmp .le (.add (.var 15) (.mul (.add (.add (.lit 2000) (.var 26)) (.var 28)) (.var 24))) (.lit 9223372036854775807))) (.back 0 [(.int (.add (.var 13) (.var 24))), (.int (.add (.var 14) (.mul (.add (.lit 2000) (.var 26)) (.var 24)))), (.int (.add (.var 15) (.mul (.add (.add (.lit 2000) (.var 26)) (.var 28)) (.var 24)))), (.int (.add (.var 16) (.lit 1))), (.cnt 44 (.var 19)), (.cnt 44 (.var 20))]))))))))))))))))))))))))))))) (.ret [(.cnt 44 (.var 17)), (.cnt 44 (.var 18))])))))))))))))))
noncomputable def cshifted : Cx := tab5.only [22, 61] (fun r => match r with
  | 3 => [.blk 2]
  | _ => []) [] 0 [] (fun _ => none)
def tshifted : Tree :=
  (.dfn .nil (.dfn .nil (.loop [.int, (.vec 44)] [(.int (.lit 0)), (.cnt 44 (.var 5))] (.split (.cmp .lt (.var 6) (.len (.var 0))) (.ob (.and (.cmp .le (.lit (-9223372036854775808)) (.add (.var 2) (.var 6))) (.cmp .le (.add (.var 2) (.var 6)) (.lit 9223372036854775807))) (.ob (.and (.cmp .le (.lit (-9223372036854775808)) (.add (.var 2) (.var 6))) (.cmp .le (.add (.var 2) (.var 6)) (.lit 9223372036854775807))) (.call 61 [(.arr 2 (.var 1)), (.int (.add (.var 2) (.var 6)))] (.call 22 [(.int (.var 8)), (.int (.lit 40000000))] (.ob (.cmp .le (.lit 0) (.var 6)) (.ob (.cmp .lt (.var 6) (.len (.var 0))) (.split (.of (.var 3)) (.ob (.and (.cmp .le (.lit (-9223372036854775808)) (.add (.cell (.var 0) (.var 6) 1) (.var 9))) (.cmp .le (.add (.cell (.var 0) (.var 6) 1) (.var 9)) (.lit 9223372036854775807))) (.ob (.and (.cmp .le (.lit (-9223372036854775808)) (.add (.cell (.var 0) (.var 6) 1) (.var 9))) (.cmp .le (.add (.cell (.var 0) (.var 6) 1) (.var 9)) (.lit 9223372036854775807))) (.arr [[(.int (.cell (.var 0) (.var 6) 0)), (.int (.add (.cell (.var 0) (.var 6) 1) (.var 9)))]] (.ob (.cmp .le (.mul (.add (.len (.var 7)) (.len (.var 10))) (.lit 16)) (.lit 140737488355328)) (.cat (.var 7) (.var 10) (.back 0 [(.int (.add (.var 6) (.lit 1))), (.cnt 44 (.var 11))])))))) (.ob (.and (.cmp .le (.lit (-9223372036854775808)) (.sub (.cell (.var 0) (.var 6) 1) (.var 9))) (.cmp .le (.sub (.cell (.var 0) (.var 6) 1) (.var 9)) (.lit 9223372036854775807))) (.ob (.and (.cmp .le (.lit (-9223372036854775808)) (.max (.lit 0) (.sub (.cell (.var 0) (.var 6) 1) (.var 9)))) (.cmp .le (.max (.lit 0) (.sub (.cell (.var 0) (.var 6) 1) (.var 9))) (.lit 9223372036854775807))) (.arr [[(.int (.cell (.var 0) (.var 6) 0)), (.int (.max (.lit 0) (.sub (.cell (.var 0) (.var 6) 1) (.var 9))))]] (.ob (.cmp .le (.mul (.add (.len (.var 7)) (.len (.var 10))) (.lit 16)) (.lit 140737488355328)) (.cat (.var 7) (.var 10) (.back 0 [(.int (.add (.var 6) (.lit 1))), (.cnt 44 (.var 11))]))))))))))))) (.ret [(.cnt 44 (.var 7))])))))
noncomputable def creport : Cx := tab5.only [22, 38] (fun _ => []) [] 0 [] (fun _ => none)
def treport : Tree :=
  (.call 22 [(.int (.var 2)), (.int (.lit 1099511627776))] (.ob (.cmp .le (.lit 0) (.sub (.len (.var 0)) (.lit 1))) (.ob (.cmp .lt (.sub (.len (.var 0)) (.lit 1)) (.len (.var 0))) (.ob (.and (.cmp .le (.lit (-9223372036854775808)) (.add (.lit 1) (.rem (.var 3) (.lit 4)))) (.cmp .le (.add (.lit 1) (.rem (.var 3) (.lit 4))) (.lit 9223372036854775807))) (.ob (.and (.cmp .le (.lit (-9223372036854775808)) (.quo (.var 3) (.lit 4))) (.cmp .le (.quo (.var 3) (.lit 4)) (.lit 9223372036854775807))) (.ob (.and (.cmp .le (.lit (-9223372036854775808)) (.add (.cell (.var 0) (.sub (.len (.var 0)) (.lit 1)) 0) (.lit 1))) (.cmp .le (.add (.cell (.var 0) (.sub (.len (.var 0)) (.lit 1)) 0) (.lit 1)) (.lit 9223372036854775807))) (.ob (.cmp .ne (.add (.cell (.var 0) (.sub (.len (.var 0)) (.lit 1)) 0) (.lit 1)) (.lit 0)) (.ob (.and (.cmp .le (.lit (-9223372036854775808)) (.rem (.quo (.var 3) (.lit 4)) (.add (.cell (.var 0) (.sub (.len (.var 0)) (.lit 1)) 0) (.lit 1)))) (.cmp .le (.rem (.quo (.var 3) (.lit 4)) (.add (.cell (.var 0) (.sub (.len (.var 0)) (.lit 1)) 0) (.lit 1))) (.lit 9223372036854775807))) (.call 38 [(.arr 44 (.var 0)), (.int (.rem (.quo (.var 3) (.lit 4)) (.add (.cell (.var 0) (.sub (.len (.var 0)) (.lit 1)) 0) (.lit 1))))] (.ob (.and (.cmp .le (.lit (-9223372036854775808)) (.rem (.quo (.var 3) (.lit 4)) (.add (.cell (.var 0) (.sub (.len (.var 0)) (.lit 1)) 0) (.lit 1)))) (.cmp .le (.rem (.quo (.var 3) (.lit 4)) (.add (.cell (.var 0) (.sub (.len (.var 0)) (.lit 1)) 0) (.lit 1))) (.lit 9223372036854775807))) (.call 38 [(.arr 44 (.var 1)), (.int (.rem (.quo (.var 3) (.lit 4)) (.add (.cell (.var 0) (.sub (.len (.var 0)) (.lit 1)) 0) (.lit 1))))] (.ob (.and (.cmp .le (.lit (-9223372036854775808)) (.quo (.var 3) (.lit 4096))) (.cmp .le (.quo (.var 3) (.lit 4096)) (.lit 9223372036854775807))) (.split (.cmp .eq (.add (.lit 1) (.rem (.var 3) (.lit 4))) (.lit 1)) (.ob (.and (.cmp .le (.lit (-9223372036854775808)) (.sub (.var 4) (.rem (.quo (.var 3) (.lit 4096)) (.lit 1000000)))) (.cmp .le (.sub (.var 4) (.rem (.quo (.var 3) (.lit 4096)) (.lit 1000000))) (.lit 9223372036854775807))) (.ob (.and (.cmp .le (.lit (-9223372036854775808)) (.add (.lit 1) (.rem (.var 3) (.lit 4)))) (.cmp .le (.add (.lit 1) (.rem (.var 3) (.lit 4))) (.lit 9223372036854775807))) (.ob (.and (.cmp .le (.lit (-9223372036854775808)) (.rem (.quo (.var 3) (.lit 4)) (.add (.cell (.var 0) (.sub (.len (.var 0)) (.lit 1)) 0) (.lit 1)))) (.cmp .le (.rem (.quo (.var 3) (.lit 4)) (.add (.cell (.var 0) (.sub (.len (.var 0)) (.lit 1)) 0) (.lit 1))) (.lit 9223372036854775807))) (.ob (.and (.cmp .le (.lit (-9223372036854775808)) (.max (.lit 0) (.sub (.var 4) (.rem (.quo (.var 3) (.lit 4096)) (.lit 1000000))))) (.cmp .le (.max (.lit 0) (.sub (.var 4) (.rem (.quo (.var 3) (.lit 4096)) (.lit 1000000)))) (.lit 9223372036854775807))) (.ret [(.int (.add (.lit 1) (.rem (.var 3) (.lit 4)))), (.int (.rem (.quo (.var 3) (.lit 4)) (.add (.cell (.var 0) (.sub (.len (.var 0)) (.lit 1)) 0) (.lit 1)))), (.int (.max (.lit 0) (.sub (.var 4) (.rem (.quo (.var 3) (.lit 4096)) (.lit 1000000)))))]))))) (.split (.cmp .eq (.add (.lit 1) (.rem (.var 3) (.lit 4))) (.lit 2)) (.ob (.and (.cmp .le (.lit (-9223372036854775808)) (.add (.var 5) (.rem (.quo (.var 3) (.lit 4096)) (.lit 1000000)))) (.cmp .le (.add (.var 5) (.rem (.quo (.var 3) (.lit 4096)) (.lit 1000000))) (.lit 9223372036854775807))) (.ob (.and (.cmp .le (.lit (-9223372036854775808)) (.add (.lit 1) (.rem (.var 3) (.lit 4)))) (.cmp .le (.add (.lit 1) (.rem (.var 3) (.lit 4))) (.lit 9223372036854775807))) (.ob (.and (.cmp .le (.lit (-9223372036854775808)) (.rem (.quo (.var 3) (.lit 4)) (.add (.cell (.var 0) (.sub (.len (.var 0)) (.lit 1)) 0) (.lit 1)))) (.cmp .le (.rem (.quo (.var 3) (.lit 4)) (.add (.cell (.var 0) (.sub (.len (.var 0)) (.lit 1)) 0) (.lit 1))) (.lit 9223372036854775807))) (.ob (.and (.cmp .le (.lit (-9223372036854775808)) (.add (.var 5) (.rem (.quo (.var 3) (.lit 4096)) (.lit 1000000)))) (.cmp .le (.add (.var 5) (.rem (.quo (.var 3) (.lit 4096)) (.lit 1000000))) (.lit 9223372036854775807))) (.ret [(.int (.add (.lit 1) (.rem (.var 3) (.lit 4)))), (.int (.rem (.quo (.var 3) (.lit 4)) (.add (.cell (.var 0) (.sub (.len (.var 0)) (.lit 1)) 0) (.lit 1)))), (.int (.add (.var 5) (.rem (.quo (.var 3) (.lit 4096)) (.lit 1000000))))]))))) (.split (.cmp .eq (.add (.lit 1) (.rem (.var 3) (.lit 4))) (.lit 3)) (.ob (.and (.cmp .le (.lit (-9223372036854775808)) (.sub (.var 6) (.rem (.quo (.var 3) (.lit 4096)) (.lit 1000000)))) (.cmp .le (.sub (.var 6) (.rem (.quo (.var 3) (.lit 4096)) (.lit 1000000))) (.lit 9223372036854775807))) (.ob (.and (.cmp .le (.lit (-9223372036854775808)) (.add (.lit 1) (.rem (.var 3) (.lit 4)))) (.cmp .le (.add (.lit 1) (.rem (.var 3) (.lit 4))) (.lit 9223372036854775807))) (.ob (.and (.cmp .le (.lit (-9223372036854775808)) (.rem (.quo (.var 3) (.lit 4)) (.add (.cell (.var 0) (.sub (.len (.var 0)) (.lit 1)) 0) (.lit 1)))) (.cmp .le (.rem (.quo (.var 3) (.lit 4)) (.add (.cell (.var 0) (.sub (.len (.var 0)) (.lit 1)) 0) (.lit 1))) (.lit 9223372036854775807))) (.ob (.and (.cmp .le (.lit (-9223372036854775808)) (.max (.lit 0) (.sub (.var 6) (.rem (.quo (.var 3) (.lit 4096)) (.lit 1000000))))) (.cmp .le (.max (.lit 0) (.sub (.var 6) (.rem (.quo (.var 3) (.lit 4096)) (.lit 1000000)))) (.lit 9223372036854775807))) (.ret [(.int (.add (.lit 1) (.rem (.var 3) (.lit 4)))), (.int (.rem (.quo (.var 3) (.lit 4)) (.add (.cell (.var 0) (.sub (.len (.var 0)) (.lit 1)) 0) (.lit 1)))), (.int (.max (.lit 0) (.sub (.var 6) (.rem (.quo (.var 3) (.lit 4096)) (.lit 1000000)))))]))))) (.split (.cmp .eq (.add (.lit 1) (.rem (.var 3) (.lit 4))) (.lit 4)) (.ob (.and (.cmp .le (.lit (-9223372036854775808)) (.add (.var 7) (.rem (.quo (.var 3) (.lit 4096)) (.lit 1000000)))) (.cmp .le (.add (.var 7) (.rem (.quo (.var 3) (.lit 4096)) (.lit 1000000))) (.lit 9223372036854775807))) (.ob (.and (.cmp .le (.lit (-9223372036854775808)) (.add (.lit 1) (.rem (.var 3) (.lit 4)))) (.cmp .le (.add (.lit 1) (.rem (.var 3) (.lit 4))) (.lit 9223372036854775807))) (.ob (.and (.cmp .le (.lit (-9223372036854775808)) (.rem (.quo (.var 3) (.lit 4)) (.add (.cell (.var 0) (.sub (.len (.var 0)) (.lit 1)) 0) (.lit 1)))) (.cmp .le (.rem (.quo (.var 3) (.lit 4)) (.add (.cell (.var 0) (.sub (.len (.var 0)) (.lit 1)) 0) (.lit 1))) (.lit 9223372036854775807))) (.ob (.and (.cmp .le (.lit (-9223372036854775808)) (.add (.var 7) (.rem (.quo (.var 3) (.lit 4096)) (.lit 1000000)))) (.cmp .le (.add (.var 7) (.rem (.quo (.var 3) (.lit 4096)) (.lit 1000000))) (.lit 9223372036854775807))) (.ret [(.int (.add (.lit 1) (.rem (.var 3) (.lit 4)))), (.int (.rem (.quo (.var 3) (.lit 4)) (.add (.cell (.var 0) (.sub (.len (.var 0)) (.lit 1)) 0) (.lit 1)))), (.int (.add (.var 7) (.rem (.quo (.var 3) (.lit 4096)) (.lit 1000000))))]))))) (.ob (.and (.cmp .le (.lit (-9223372036854775808)) (.add (.lit 1) (.rem (.var 3) (.lit 4)))) (.cmp .le (.add (.lit 1) (.rem (.var 3) (.lit 4))) (.lit 9223372036854775807))) (.ob (.and (.cmp .le (.lit (-9223372036854775808)) (.rem (.quo (.var 3) (.lit 4)) (.add (.cell (.var 0) (.sub (.len (.var 0)) (.lit 1)) 0) (.lit 1)))) (.cmp .le (.rem (.quo (.var 3) (.lit 4)) (.add (.cell (.var 0) (.sub (.len (.var 0)) (.lit 1)) 0) (.lit 1))) (.lit 9223372036854775807))) (.ret [(.int (.add (.lit 1) (.rem (.var 3) (.lit 4)))), (.int (.rem (.quo (.var 3) (.lit 4)) (.add (.cell (.var 0) (.sub (.len (.var 0)) (.lit 1)) 0) (.lit 1)))), (.int (.lit 0))])))))))))))))))))))
noncomputable def cknown : Cx := tab5.only [22, 61, 34, 62, 59] (fun r => match r with
  | 6 => [.blk 3]
  | 50008 => [.vec 39]
  | _ => []) [] 0 [] (fun _ => none)
def tknown : Tree :=
  (.dfn .nil (.dfn .nil (.dfn .nil (.dfn .nil (.dfn .nil (.call 34 [(.int (.var 0)), (.arr 2 (.var 1)), (.arr 2 (.var 2)), (.arr 2 (.var 3))] (.dfn .nil (.dfn .nil (.ob (.cmp .le (.lit 0) (.sub (.len (.var 9)) (.lit 1))) (.ob (.cmp .lt (.sub (.len (.var 9)) (.lit 1)) (.len (.var 9))) (.call 61 [(.arr 2 (.var 2)), (.int (.lit 1))] (.call 22 [(.int (.var 13)), (.int (.lit 2001))] (.call 61 [(.arr 2 (.var 2)), (.int (.lit 2))] (.call 22 [(.int (.var 15)), (.int (.lit 10001))] (.ob (.and (.cmp .le (.lit (-9223372036854775808)) (.add (.lit 30000) (.var 16))) (.cmp .le (.add (.lit 30000) (.var 16)) (.lit 9223372036854775807))) (.dfn .nil (.dfn .nil (.dfn .nil (.dfn .nil (.dfn .nil (.dfn .nil (.dfn .nil (.dfn .nil (.dfn .nil (.dfn .nil (.call 62 [(.arr 44 (.var 9)), (.arr 2 (.var 2)), (.int (.lit 0)), (.bool (.lit false))] (.call 62 [(.arr 44 (.var 9)), (.arr 2 (.var 2)), (.int (.lit 3)), (.bool (.lit true))] (.call 62 [(.arr 44 (.var 10)), (.arr 2 (.var 2)), (.int (.lit 5)), (.bool (.lit false))] (.call 62 [(.arr 44 (.var 10)), (.arr 2 (.var 2)), (.int (.lit 7)), (.bool (.lit true))] (.ob (.and (.cmp .le (.lit (-9223372036854775808)) (.add (.lit 30000) (.var 16))) (.cmp .le (.add (.lit 30000) (.var 16)) (.lit 9223372036854775807))) (.loop [.int, .int, (.vec 44), (.vec 44), (.vec 44), (.vec 44), .int, .int, (.vec 57)] [(.int (.lit 0)), (.int (.cell (.var 9) (.sub (.len (.var 9)) (.lit 1)) 0)), (.cnt 44 (.var 27)), (.cnt 44 (.var 28)), (.cnt 44 (.var 29)), (.cnt 44 (.var 30)), (.int (.var 14)), (.int (.add (.lit 30000) (.var 16))), (.cnt 57 (.var 21))] (.split (.cmp .lt (.var 31) (.len (.var 3))) (.split (.cmp .lt (.var 31) (.lit 8)) (.ob (.cmp .le (.lit 0) (.var 31)) (.ob (.cmp .lt (.var 31) (.len (.var 3))) (.call 59 [(.arr 44 (.var 9)), (.arr 44 (.var 10)), (.int (.cell (.var 3) (.var 31) 0))] (.arr [[(.int (.var 40)), (.int (.var 41)), (.int (.var 42))]] (.ob (.cmp .le (.mul (.add (.len (.var 39)) (.len (.var 43))) (.lit 24)) (.lit 140737488355328)) (.cat (.var 39) (.var 43) (.back 0 [(.int (.add (.var 31) (.lit 1))), (.int (.var 32)), (.cnt 44 (.var 33)), (.cnt 44 (.var 34)), (.cnt 44 (.var 35)), (.cnt 44 (.var 36)), (.int (.var 37)), (.int (.var 38)), (.cnt 57 (.var 44))]))))))) (.ret [(.int (.var 32)), (.cnt 44 (.var 33)), (.cnt 44 (.var 34)), (.cnt 44 (.var 35)), (.cnt 44 (.var 36)), (.int (.var 37)), (.int (.var 38)), (.cnt 57 (.var 39))])) (.ret [(.int (.var 32)), (.cnt 44 (.var 33)), (.cnt 44 (.var 34)), (.cnt 44 (.var 35)), (.cnt 44 (.var 36)), (.int (.var 37)), (.int (.var 38)), (.cnt 57 (.var 39))])))))))))))))))))))))))))))))))))
end Go.Proofs.Ytcglpbchejkolaa
/- Earth: truths and earths made of numbers: plain laws. -/
namespace Go.Proofs.Ytcglpbchejkolaa
open Go.RowKit
set_option linter.unusedSimpArgs false
set_option linter.unusedVariables false

theorem pickV_bd (l : List Int) (i : Int) : 0 ≤ pickV l i ∧ pickV l i < 1099511627776 := by
  unfold pickV
  split
  · omega
  · exact ⟨Int.emod_nonneg _ (by decide), Int.emod_lt_of_pos _ (by decide)⟩
theorem gainA_bd (g : Gr) (i : Int) : 2000 ≤ gainA g i ∧ gainA g i ≤ 22000 := by
  unfold gainA
  have := pickV_bd g.steps (i + 3)
  omega
theorem gainB_bd (g : Gr) (i : Int) : gainA g i ≤ gainB g i ∧ gainB g i ≤ 30000 := by
  have h := gainA_bd g i
  unfold gainB
  have h1 := Int.emod_nonneg (pickV g.steps (i + 4) / 11) (b := 30001 - gainA g i) (by omega)
  have h2 := Int.emod_lt_of_pos (pickV g.steps (i + 4) / 11) (b := 30001 - gainA g i) (by omega)
  omega
theorem stepV_bd (g : Gr) {B i a : Int} (hB : 1 ≤ B) (h : a < B) : 1 ≤ stepV g B i a ∧ a + stepV g B i a ≤ B := by
  unfold stepV
  have h1 := Int.emod_nonneg (pickV g.steps (i + 2)) (b := B) (by omega)
  split <;> omega
theorem bottomV_bd (g : Gr) : 1000 ≤ bottomV g ∧ bottomV g ≤ 500000 := by
  unfold bottomV; omega
/-- A truth's knots: both lines. -/
inductive TR (B : Int) : List (Int × Int × Int) → Prop
  | one (p f : Int) : TR B [(B, p, f)]
  | cons {a p f a' p' f' x y : Int} {l : List (Int × Int × Int)} (ha : a < a') (hB : a' ≤ B) (hx : 2000 ≤ x) (hxy : x ≤ y) (hy : y ≤ 30000) (hp : p' = p + x * (a' - a)) (hf : f' = f + y * (a' - a)) (ht : TR B ((a', p', f') :: l)) : TR B ((a, p, f) :: (a', p', f') :: l)
theorem truthGo_TR (g : Gr) {B : Int} (hB : 1 ≤ B) : ∀ (n : Nat) (i a p f : Int), 0 ≤ i → i + (n + 1) = 6 → 0 ≤ a → a ≤ B → (5 ≤ i → a = B) → TR B (truthGo g B (n + 1) i a p f)
  | n, i, a, p, f, i0, hn, a0, a1, h5 => by
    rw [truthGo]
    by_cases ha : a = B
    · rw [if_pos ha, ha]; exact .one p f
    · rw [if_neg ha]
      have hs := stepV_bd g (i := i) hB (by omega : a < B)
      have hA := gainA_bd g i
      have hG := gainB_bd g i
      match n, hn with
      | 0, hn => exact absurd (h5 (by omega)) ha
      | n + 1, hn =>
        have ih := truthGo_TR g hB n (i + 1) (a + stepV g B i a) (p + gainA g i * stepV g B i a) (f + gainB g i * stepV g B i a) (by omega) (by omega) (by omega) (by omega) (fun h => by
          unfold stepV; rw [if_pos (Or.inl (by omega))]; omega)
        rw [truthGo] at ih ⊢
        exact .cons (x := gainA g i) (y := gainB g i) (by omega) (by omega) (by omega) (by omega) (by omega) (by rw [show a + stepV g B i a - a = stepV g B i a by omega]) (by rw [show a + stepV g B i a - a = stepV g B i a by omega]) ih
theorem truthGo_len (g : Gr) (B : Int) : ∀ (n : Nat) (i a p f : Int), (truthGo g B n i a p f).length ≤ n
  | 0, _, _, _, _ => Nat.le_refl _
  | n + 1, i, a, p, f => by
    rw [truthGo, List.length_cons]
    split
    · simp
    · have := truthGo_len g B n (i + 1) (a + stepV g B i a) (p + gainA g i * stepV g B i a) (f + gainB g i * stepV g B i a)
      omega
theorem TR.box {B : Int} : ∀ {l : List (Int × Int × Int)} {a p f : Int}, TR B ((a, p, f) :: l) → p ≤ f → ∀ k ∈ (a, p, f) :: l, a ≤ k.1 ∧ k.1 ≤ B ∧ p ≤ k.2.1 ∧ k.2.1 ≤ p + 30000 * (k.1 - a) ∧ f ≤ k.2.2 ∧ k.2.2 ≤ f + 30000 * (k.1 - a) ∧ k.2.1 ≤ k.2.2
  | [], a, p, f, h, hpf, k, hk => by
    cases h
    rw [List.mem_singleton] at hk
    subst hk
    exact ⟨Int.le_refl _, Int.le_refl _, Int.le_refl _, by simp, Int.le_refl _, by simp, hpf⟩
  | (a', p', f') :: l, a, p, f, h, hpf, k, hk => by
    cases h with
    | @cons _ _ _ _ _ _ x y _ ha hB hx hxy hy hp hf ht =>
      have m1 : x * (a' - a) ≤ 30000 * (a' - a) := Int.mul_le_mul_of_nonneg_right (by omega) (by omega)
      have m2 : y * (a' - a) ≤ 30000 * (a' - a) := Int.mul_le_mul_of_nonneg_right (by omega) (by omega)
      have m3 : x * (a' - a) ≤ y * (a' - a) := Int.mul_le_mul_of_nonneg_right (by omega) (by omega)
      have m4 : 0 ≤ x * (a' - a) := Int.mul_nonneg (by omega) (by omega)
      rcases List.mem_cons.1 hk with rfl | hk
      · exact ⟨Int.le_refl _, by show a ≤ B; omega, Int.le_refl _, by simp, Int.le_refl _, by simp, hpf⟩
      · have ih := ht.box (by omega) k hk
        refine ⟨by omega, by omega, by omega, by omega, by omega, by omega, by omega⟩
/-- A line that goes up from its first place to its last one, by so much a step at least and at most. -/
inductive Rise (gl gh B : Int) : List Kn → Prop
  | one (v : Int) : Rise gl gh B [(B, v)]
  | cons {a v a' v' : Int} {l : List Kn} (ha : a < a') (hB : a' ≤ B) (h1 : gl * (a' - a) ≤ v' - v) (h2 : v' - v ≤ gh * (a' - a)) (ht : Rise gl gh B ((a', v') :: l)) : Rise gl gh B ((a, v) :: (a', v') :: l)
theorem TR.pore {B : Int} : ∀ {l : List (Int × Int × Int)}, TR B l → Rise 2000 30000 B (l.map fun k => (k.1, k.2.1))
  | [], h => by cases h
  | [k], h => by cases h; exact .one _
  | (a, p, f) :: (a', p', f') :: l, h => by
    cases h with
    | @cons _ _ _ _ _ _ x y _ ha hB hx hxy hy hp hf ht =>
      have m1 : 2000 * (a' - a) ≤ x * (a' - a) := Int.mul_le_mul_of_nonneg_right hx (by omega)
      have m2 : x * (a' - a) ≤ 30000 * (a' - a) := Int.mul_le_mul_of_nonneg_right (by omega) (by omega)
      exact .cons ha hB (show 2000 * (a' - a) ≤ p' - p by omega) (show p' - p ≤ 30000 * (a' - a) by omega) ht.pore
theorem TR.frac {B : Int} : ∀ {l : List (Int × Int × Int)}, TR B l → Rise 2000 30000 B (l.map fun k => (k.1, k.2.2))
  | [], h => by cases h
  | [k], h => by cases h; exact .one _
  | (a, p, f) :: (a', p', f') :: l, h => by
    cases h with
    | @cons _ _ _ _ _ _ x y _ ha hB hx hxy hy hp hf ht =>
      have m1 : 2000 * (a' - a) ≤ y * (a' - a) := Int.mul_le_mul_of_nonneg_right (by omega) (by omega)
      have m2 : y * (a' - a) ≤ 30000 * (a' - a) := Int.mul_le_mul_of_nonneg_right (by omega) (by omega)
      exact .cons ha hB (show 2000 * (a' - a) ≤ f' - f by omega) (show f' - f ≤ 30000 * (a' - a) by omega) ht.frac
theorem Rise.asc {gl gh B : Int} : ∀ {l : List Kn}, Rise gl gh B l → Asc l
  | [], _ => .nil
  | [k], _ => .one k
  | _ :: _ :: _, .cons ha hB h1 h2 ht => .cons ha ht.asc
theorem Rise.end {gl gh B : Int} : ∀ {l : List Kn}, Rise gl gh B l → endV l = B
  | [], h => by cases h
  | [k], h => by cases h; rfl
  | k :: k' :: l, .cons ha hB h1 h2 ht => by
    have := ht.end
    unfold endV at this ⊢
    simpa using this
theorem Rise.wide {gl gh gl' gh' B : Int} (g1 : gl' ≤ gl) (g2 : gh ≤ gh') : ∀ {l : List Kn}, Rise gl gh B l → Rise gl' gh' B l
  | [], h => by cases h
  | [k], h => by cases h; exact .one _
  | _ :: _ :: _, .cons ha hB h1 h2 ht => .cons ha hB
    (by have := Int.mul_le_mul_of_nonneg_right g1 (show 0 ≤ _ from Int.sub_nonneg_of_le (Int.le_of_lt ha)); omega)
    (by have := Int.mul_le_mul_of_nonneg_right g2 (show 0 ≤ _ from Int.sub_nonneg_of_le (Int.le_of_lt ha)); omega) (ht.wide g1 g2)
theorem badKs_zero {a v : Int} : ∀ {ks : List Kn} {last : Int}, Asc ks → (∀ k ∈ ks, 0 ≤ k.1 ∧ k.1 ≤ a ∧ 0 ≤ k.2 ∧ k.2 ≤ v) → (∀ k l, ks = k :: l → last < k.1) → badKs a v last ks = 0
  | [], _, _, _, _ => rfl
  | k :: l, last, h, hb, hl => by
    rw [badKs_next (hb k (by simp)) (hl k l rfl)]
    refine badKs_zero h.tail (fun x hx => hb x (by simp [hx])) fun k' l' e => ?_
    subst e
    exact h.head_lt k' (by simp)
theorem lineE_of {ks : List Kn} (h0 : ks ≠ []) (h1 : ks.length ≤ 24) (ha : Asc ks) (hb : ∀ k ∈ ks, 0 ≤ k.1 ∧ k.1 ≤ 1048576 ∧ 0 ≤ k.2 ∧ k.2 ≤ 68719476736) : lineE ks = 0 := by
  unfold lineE
  rw [lineV_in (by omega), if_neg (by rw [List.length_eq_zero_iff]; exact h0), if_neg (by omega)]
  exact badKs_zero ha hb fun k l e => by have := hb k (by rw [e]; simp); omega
/-! The truth of some numbers -/
theorem truthL_TR (g : Gr) : TR (bottomV g) (truthL g) := truthGo_TR g (by have := bottomV_bd g; omega) 5 0 0 _ _ (by omega) (by omega) (by omega) (by have := bottomV_bd g; omega) (by omega)
theorem truthL_len (g : Gr) : (truthL g).length ≤ 6 := truthGo_len g _ 6 0 0 _ _
theorem truthL_box (g : Gr) : ∀ k ∈ truthL g, 0 ≤ k.1 ∧ k.1 ≤ bottomV g ∧ 0 ≤ k.2.1 ∧ k.2.1 ≤ 1000000 + 30000 * k.1 ∧ k.2.1 ≤ k.2.2 ∧ k.2.2 ≤ 21000000 + 30000 * k.1 := by
  have h := truthL_TR g
  unfold truthL at h ⊢
  rw [truthGo] at h ⊢
  intro k hk
  have h0 := pickV_bd g.steps 0
  have h1 := pickV_bd g.steps 1
  have := h.box (by omega) k hk
  omega
theorem tp_rise (g : Gr) : Rise 2000 30000 (bottomV g) (tpV g) := (truthL_TR g).pore
theorem tf_rise (g : Gr) : Rise 2000 30000 (bottomV g) (tfV g) := (truthL_TR g).frac
theorem tp_len (g : Gr) : (tpV g).length ≤ 6 := by unfold tpV; rw [List.length_map]; exact truthL_len g
theorem tf_len (g : Gr) : (tfV g).length ≤ 6 := by unfold tfV; rw [List.length_map]; exact truthL_len g
theorem tp_box (g : Gr) : ∀ k ∈ tpV g, 0 ≤ k.1 ∧ k.1 ≤ 500000 ∧ 0 ≤ k.2 ∧ k.2 ≤ 15001000000 := fun k hk => by
  obtain ⟨x, hx, rfl⟩ := List.mem_map.1 hk
  have := truthL_box g x hx
  have := bottomV_bd g
  exact ⟨this.1 |> fun _ => by show 0 ≤ x.1; omega, by show x.1 ≤ _; omega, by show 0 ≤ x.2.1; omega, by show x.2.1 ≤ _; omega⟩
theorem tf_box (g : Gr) : ∀ k ∈ tfV g, 0 ≤ k.1 ∧ k.1 ≤ 500000 ∧ 0 ≤ k.2 ∧ k.2 ≤ 15021000000 := fun k hk => by
  obtain ⟨x, hx, rfl⟩ := List.mem_map.1 hk
  have := truthL_box g x hx
  have := bottomV_bd g
  exact ⟨by show 0 ≤ x.1; omega, by show x.1 ≤ _; omega, by show 0 ≤ x.2.2; omega, by show x.2.2 ≤ _; omega⟩
theorem Rise.ne {gl gh B : Int} {l : List Kn} (h : Rise gl gh B l) : l ≠ [] := by intro e; subst e; cases h
theorem tp_line (g : Gr) : lineE (tpV g) = 0 := lineE_of (tp_rise g).ne (by have := tp_len g; omega) (tp_rise g).asc fun k hk => by have := tp_box g k hk; omega
theorem tf_line (g : Gr) : lineE (tfV g) = 0 := lineE_of (tf_rise g).ne (by have := tf_len g; omega) (tf_rise g).asc fun k hk => by have := tf_box g k hk; omega
theorem tp_end (g : Gr) : endV (tpV g) = bottomV g := (tp_rise g).end
end Go.Proofs.Ytcglpbchejkolaa
/- Earth: what makes earths and truths of numbers. -/
namespace Go.Proofs.Ytcglpbchejkolaa
open Go.RowKit
set_option linter.unusedSimpArgs false
set_option linter.unusedVariables false

theorem pick_ok : tab5.ok 61 := by
  refine Tab.of_ct rfl rfl ⟨_, Try.func61, by decide, rfl⟩ ?_ ctF_det
  refine ct_ok (cx := cpick) (Tab.cx_ok (all_cons (up5_ok (up4_ok mod64_ok)) all_nil)) Try.func61 (bds := []) (T := tpick) (by kernel_rfl) ?_
  have h1 : cpick.ct 22 = some ctMod := rfl
  unfold tpick
  simp only [VC, allC, List.map_cons, List.map_nil, List.length_cons, List.length_nil, List.getElem?_cons_zero, List.getElem?_cons_succ, List.cons.injEq, C.i.injEq, C.b.injEq, and_true, true_and, forall_const, kindsOf_nil, kindsOf_lf, kindsOf_agg, kindsOf_box, boxKinds_nil, boxKinds_lf, boxKinds_agg, boxKinds_box, List.append_nil, List.cons_append, List.nil_append, den_cmp_le, den_cmp_lt, den_cmp_eq, den_cmp_ne, den_cmp_le', den_cmp_lt', den_cmp_eq', den_cmp_ne', den_and, den_and', den_or, den_or', den_not, den_not', den_blit, den_of, ev_var, at_0, at_1, at_2, at_3, at_4, at_5, at_6, at_7, at_skip, c_int, c_bool, c_arr, c_cnt, c_vec, ev_nil, ev_join, ev_sub3, loc_s, int_i, bool_b, rows_s, cs_nil, cs_cons, E.den_lit, E.den_var, E.den_add, E.den_sub, E.den_mul, E.den_quo, E.den_rem, E.den_max, E.den_min, E.den_len, E.den_wr, E.den_cell, ev_cell, in1, h1, ctMod, ctPick, ctF, n_]
  intro u r _ _ _ i _ _ hi
  rw [← ints_len r]
  generalize ints r = l at *
  refine ⟨bds_nil _, fun h => ?_, fun h => ⟨h, ?_⟩⟩
  · unfold pickV; rw [if_pos (by omega)]
  · rw [Int.tmod_eq_emod_of_nonneg hi]
    have e1 := Int.emod_nonneg i h
    have e2 := Int.emod_lt_of_pos i (show 0 < (l.length : Int) by omega)
    refine ⟨e1, e2, by decide, ?_⟩
    rintro n _ _ rfl
    unfold pickV; rw [if_neg (by omega)]
theorem knots_snoc (rows : List (List C)) (a b : Int) : knots (rows ++ [[.i a, .i b]]) = knots rows ++ [(a, b)] := by rw [knots_app, knots_one]
theorem shifted_ok : tab5.ok 62 := by
  refine Tab.of_ct rfl rfl ⟨_, Try.func62, by decide, rfl⟩ ?_ (fun h => by cases h)
  refine ct_ok (cx := cshifted) (Tab.cx_ok (all_cons (up5_ok (up4_ok mod64_ok)) (all_cons pick_ok all_nil))) Try.func62 (bds := []) (T := tshifted) (by kernel_rfl) ?_
  have h1 : cshifted.ct 22 = some ctMod := rfl
  have h2 : cshifted.ct 61 = some ctPick := rfl
  unfold tshifted
  simp only [VC, allC, List.map_cons, List.map_nil, List.length_cons, List.length_nil, List.getElem?_cons_zero, List.getElem?_cons_succ, List.cons.injEq, C.i.injEq, C.b.injEq, and_true, true_and, forall_const, kindsOf_nil, kindsOf_lf, kindsOf_agg, kindsOf_box, boxKinds_nil, boxKinds_lf, boxKinds_agg, boxKinds_box, List.append_nil, List.cons_append, List.nil_append, den_cmp_le, den_cmp_lt, den_cmp_eq, den_cmp_ne, den_cmp_le', den_cmp_lt', den_cmp_eq', den_cmp_ne', den_and, den_and', den_or, den_or', den_not, den_not', den_blit, den_of, ev_var, at_0, at_1, at_2, at_3, at_4, at_5, at_6, at_7, at_skip, c_int, c_bool, c_arr, c_cnt, c_vec, ev_nil, ev_join, ev_sub3, loc_s, int_i, bool_b, rows_s, cs_nil, cs_cons, E.den_lit, E.den_var, E.den_add, E.den_sub, E.den_mul, E.den_quo, E.den_rem, E.den_max, E.den_min, E.den_len, E.den_wr, E.den_cell, ev_cell, kn1, kn2, h1, h2, ctMod, ctPick, ctShifted, ctF, lineSh, n_, k_]
  intro u1 r1 _ _ _ u2 r2 _ _ _ fr _ _ up hp
  rw [← knots_len r1]
  generalize knots r1 = ks at *
  generalize ints r2 = off at *
  obtain ⟨hl, hb, f0, f1⟩ := hp
  refine ⟨bds_nil _, fun xs => match xs with | [.i i, .s _ rows] => 0 ≤ i ∧ i ≤ ks.length ∧ rows.length = i.toNat ∧ knots rows ++ shiftGo off up (fr + i) (ks.drop i.toNat) = shiftGo off up fr ks | _ => False, fun xs => match xs with | [.i i, _] => ((ks.length : Int) - i).toNat | _ => 0, ⟨by omega, by omega, rfl, by simp [knots]⟩, ?_⟩
  rintro i _ _ v7 r7 _ _ _ ⟨i0, i1, hlen, hI⟩
  refine ⟨fun hlt => ?_, fun hge => ?_⟩
  · refine ⟨⟨by omega, by omega⟩, ⟨by omega, by omega⟩, by omega, ?_⟩
    rintro n _ _ hn
    refine ⟨by decide, ?_⟩
    rintro d _ _ hd
    have hk := hb _ (getD_mem (l := ks) (i := i.toNat) (by omega) (0, 0))
    have d0 := Int.emod_nonneg n (b := 40000000) (by decide)
    have d1 := Int.emod_lt_of_pos n (b := 40000000) (by decide)
    rw [← hd] at d0 d1
    rw [drop_cons (show i.toNat < ks.length by omega) (0, 0), shiftGo, ← hn, ← hd] at hI
    have hm : ((ks.length : Int) - (i + 1)).toNat < ((ks.length : Int) - i).toNat := by omega
    refine ⟨i0, hlt, fun hup => ?_, fun hup => ?_⟩
    · rw [if_pos hup] at hI
      refine ⟨⟨by omega, by omega⟩, ⟨by omega, by omega⟩, by omega, fun v2 => ⟨⟨by omega, by omega, by rw [List.length_append, hlen, List.length_singleton]; omega, ?_⟩, hm⟩⟩
      rw [knots_snoc, List.append_assoc, show fr + (i + 1) = fr + i + 1 by omega, show (i + 1).toNat = i.toNat + 1 by omega]
      exact hI
    · rw [if_neg (by rw [hup]; decide)] at hI
      refine ⟨⟨by omega, by omega⟩, ⟨by omega, by omega⟩, by omega, fun v2 => ⟨⟨by omega, by omega, by rw [List.length_append, hlen, List.length_singleton]; omega, ?_⟩, hm⟩⟩
      rw [knots_snoc, List.append_assoc, show fr + (i + 1) = fr + i + 1 by omega, show (i + 1).toNat = i.toNat + 1 by omega]
      exact hI
  · rw [List.drop_eq_nil_of_le (by omega), shiftGo, List.append_nil] at hI
    exact hI
theorem rangeP_bd {ks : List Kn} (h : lineE ks = 0) (x : Int) : 0 ≤ (rangeP ks x).1 ∧ (rangeP ks x).1 ≤ (rangeP ks x).2 ∧ (rangeP ks x).2 ≤ (rangeP ks x).1 + 1 ∧ (rangeP ks x).2 ≤ 68719476737 := by
  have := (good (rightB_of h)).val x
  unfold rangeP
  exact ⟨by show 0 ≤ _; omega, by show _ ≤ _ + _; omega, by show _ + _ ≤ _; omega, by show _ + _ ≤ _; omega⟩
theorem endV_bd {ks : List Kn} (h : lineE ks = 0) : 0 < ks.length ∧ 0 ≤ endV ks ∧ endV ks ≤ 1048576 := by
  have hne := (lineV_ok h).1
  have hp : 0 < ks.length := List.length_pos_iff.2 hne
  have := (lineE_box h).2 _ (getD_mem (l := ks) (i := ks.length - 1) (by omega) (0, 0))
  exact ⟨hp, this.1, this.2.1⟩
theorem report_ok : tab5.ok 59 := by
  refine Tab.of_ct rfl rfl ⟨_, Try.func59, by decide, rfl⟩ ?_ ctF_det
  refine ct_ok (cx := creport) (Tab.cx_ok (all_cons (up5_ok (up4_ok mod64_ok)) (all_cons (up5_ok (up4_ok (up3_ok (up_ok rat_ok)))) all_nil))) Try.func59 (bds := []) (T := treport) (by kernel_rfl) ?_
  have h1 : creport.ct 22 = some ctMod := rfl
  have h2 : creport.ct 38 = some ctAt := rfl
  unfold treport
  simp only [VC, allC, List.map_cons, List.map_nil, List.length_cons, List.length_nil, List.getElem?_cons_zero, List.getElem?_cons_succ, List.cons.injEq, C.i.injEq, C.b.injEq, and_true, true_and, forall_const, kindsOf_nil, kindsOf_lf, kindsOf_agg, kindsOf_box, boxKinds_nil, boxKinds_lf, boxKinds_agg, boxKinds_box, List.append_nil, List.cons_append, List.nil_append, den_cmp_le, den_cmp_lt, den_cmp_eq, den_cmp_ne, den_cmp_le', den_cmp_lt', den_cmp_eq', den_cmp_ne', den_and, den_and', den_or, den_or', den_not, den_not', den_blit, den_of, ev_var, at_0, at_1, at_2, at_3, at_4, at_5, at_6, at_7, at_skip, c_int, c_bool, c_arr, c_cnt, c_vec, ev_nil, ev_join, ev_sub3, loc_s, int_i, bool_b, rows_s, cs_nil, cs_cons, E.den_lit, E.den_var, E.den_add, E.den_sub, E.den_mul, E.den_quo, E.den_rem, E.den_max, E.den_min, E.den_len, E.den_wr, E.den_cell, ev_cell, kn1, kn2, h1, h2, ctMod, ctAt, ctReport, ctF, lineSh, rangeSh, n_, k_, ofKn]
  intro u1 r1 _ _ _ u2 r2 _ _ _ q _ _ hp
  rw [← knots_len r1]
  generalize knots r1 = tp at *
  generalize knots r2 = tf at *
  obtain ⟨hl, hl2⟩ := hp
  obtain ⟨hpos, e0, e1⟩ := endV_bd hl
  refine ⟨bds_nil _, by decide, ?_⟩
  rintro n _ _ hn
  have n0 := Int.emod_nonneg q (b := 1099511627776) (by decide)
  have n1 := Int.emod_lt_of_pos q (b := 1099511627776) (by decide)
  have hE : (tp.getD ((tp.length : Int) - 1).toNat (0, 0)).1 = endV tp := by unfold endV; rw [show ((tp.length : Int) - 1).toNat = tp.length - 1 by omega]
  unfold repV
  rw [← hn] at n0 n1 ⊢
  rw [hE]
  generalize endV tp = E at *
  have t1 : n.tmod 4 = n % 4 := Int.tmod_eq_emod_of_nonneg n0
  have t2 : n.tdiv 4 = n / 4 := Int.tdiv_eq_ediv_of_nonneg n0
  have t3 : n.tdiv 4096 = n / 4096 := Int.tdiv_eq_ediv_of_nonneg n0
  have t4 : (n / 4).tmod (E + 1) = n / 4 % (E + 1) := Int.tmod_eq_emod_of_nonneg (by omega)
  have t5 : (n / 4096).tmod 1000000 = n / 4096 % 1000000 := Int.tmod_eq_emod_of_nonneg (by omega)
  simp only [t1, t2, t3, t4, t5]
  have z0 := Int.emod_nonneg (n / 4) (b := E + 1) (by omega)
  have z1 := Int.emod_lt_of_pos (n / 4) (b := E + 1) (by omega)
  generalize n / 4 % (E + 1) = z at *
  refine ⟨by omega, by omega, ⟨by omega, by omega⟩, ⟨by omega, by omega⟩, ⟨by omega, by omega⟩, by omega, ⟨by omega, by omega⟩, ?_⟩
  rintro p1 _ _ p2 _ _ ⟨hp1, hp2⟩
  refine ⟨⟨by omega, by omega⟩, ?_⟩
  rintro f1 _ _ f2 _ _ ⟨hf1, hf2⟩
  unfold atV at hp1 hp2 hf1 hf2
  rw [if_pos (rightB_of hl)] at hp1 hp2
  rw [if_pos (rightB_of hl2)] at hf1 hf2
  have b1 := rangeP_bd hl z
  have b2 := rangeP_bd hl2 z
  rw [← hp1, ← hp2] at b1 ⊢
  rw [← hf1, ← hf2] at b2 ⊢
  refine ⟨⟨by omega, by omega⟩, fun k1 => ?_, fun k1 => ⟨fun k2 => ?_, fun k2 => ⟨fun k3 => ?_, fun k3 => ⟨fun k4 => ?_, fun k4 => by omega⟩⟩⟩⟩
  · rw [if_pos (show n % 4 = 0 by omega)]
    exact ⟨⟨by omega, by omega⟩, ⟨by omega, by omega⟩, ⟨by omega, by omega⟩, ⟨by omega, by omega⟩, trivial, trivial, rfl⟩
  · rw [if_neg (show ¬ n % 4 = 0 by omega), if_pos (show n % 4 = 1 by omega)]
    exact ⟨⟨by omega, by omega⟩, ⟨by omega, by omega⟩, ⟨by omega, by omega⟩, ⟨by omega, by omega⟩, trivial, trivial, rfl⟩
  · rw [if_neg (show ¬ n % 4 = 0 by omega), if_neg (show ¬ n % 4 = 1 by omega), if_pos (show n % 4 = 2 by omega)]
    exact ⟨⟨by omega, by omega⟩, ⟨by omega, by omega⟩, ⟨by omega, by omega⟩, ⟨by omega, by omega⟩, trivial, trivial, rfl⟩
  · rw [if_neg (show ¬ n % 4 = 0 by omega), if_neg (show ¬ n % 4 = 1 by omega), if_neg (show ¬ n % 4 = 2 by omega)]
    exact ⟨⟨by omega, by omega⟩, ⟨by omega, by omega⟩, ⟨by omega, by omega⟩, ⟨by omega, by omega⟩, trivial, trivial, rfl⟩
end Go.Proofs.Ytcglpbchejkolaa
/- Earth: True and Known of numbers. -/
namespace Go.Proofs.Ytcglpbchejkolaa
open Go.RowKit
set_option linter.unusedSimpArgs false
set_option linter.unusedVariables false

set_option maxRecDepth 100000 in
theorem truth_ok : tab5.ok 34 := by
  refine Tab.of_ct rfl rfl ⟨_, Try.func34, by decide, rfl⟩ ?_ (fun h => by cases h)
  refine ct_ok (cx := ctruth) (Tab.cx_ok (all_cons (up5_ok (up4_ok mod64_ok)) (all_cons pick_ok all_nil))) Try.func34 (bds := []) (T := ttruth) (by kernel_rfl) ?_
  have h1 : ctruth.ct 22 = some ctMod := rfl
  have h2 : ctruth.ct 61 = some ctPick := rfl
  unfold ttruth
  simp only [VC, allC, List.map_cons, List.map_nil, List.length_cons, List.length_nil, List.getElem?_cons_zero, List.getElem?_cons_succ, List.cons.injEq, C.i.injEq, C.b.injEq, and_true, true_and, forall_const, kindsOf_nil, kindsOf_lf, kindsOf_agg, kindsOf_box, boxKinds_nil, boxKinds_lf, boxKinds_agg, boxKinds_box, List.append_nil, List.cons_append, List.nil_append, den_cmp_le, den_cmp_lt, den_cmp_eq, den_cmp_ne, den_cmp_le', den_cmp_lt', den_cmp_eq', den_cmp_ne', den_and, den_and', den_or, den_or', den_not, den_not', den_blit, den_of, ev_var, at_0, at_1, at_2, at_3, at_4, at_5, at_6, at_7, at_skip, c_int, c_bool, c_arr, c_cnt, c_vec, ev_nil, ev_join, ev_sub3, loc_s, int_i, bool_b, rows_s, cs_nil, cs_cons, E.den_lit, E.den_var, E.den_add, E.den_sub, E.den_mul, E.den_quo, E.den_rem, E.den_max, E.den_min, E.den_len, E.den_wr, E.den_cell, ev_cell, h1, h2, ctMod, ctPick, ctTrue, ctF, groundSh, vecTruth, n_, k_, grOf]
  intro b _ _ u1 r1 _ _ _ u2 r2 _ _ _ u3 r3 _ _ _
  generalize hg : (⟨b, ints r1, ints r2, ints r3⟩ : Gr) = g at *
  have gb : g.bottom = b := by rw [← hg]
  have gs : ints r1 = g.steps := by rw [← hg]
  rw [gs]
  refine ⟨bds_nil _, by decide, ?_⟩
  rintro m _ _ hm
  have hB : 1000 + m = bottomV g := by unfold bottomV; rw [gb, hm]
  have bB := bottomV_bd g
  refine ⟨⟨by omega, by omega⟩, by decide, ?_⟩
  rintro n9 _ _ h9
  refine ⟨by decide, ?_⟩
  rintro n10 _ _ h10
  refine ⟨by decide, ?_⟩
  rintro n11 _ _ h11
  refine ⟨by decide, ?_⟩
  rintro n12 _ _ h12
  have b10 := Int.emod_nonneg n9 (b := 1000000) (by decide)
  have b10' := Int.emod_lt_of_pos n9 (b := 1000000) (by decide)
  have b12 := Int.emod_nonneg n11 (b := 20000000) (by decide)
  have b12' := Int.emod_lt_of_pos n11 (b := 20000000) (by decide)
  rw [← h10] at b10 b10'
  rw [← h12] at b12 b12'
  rw [hB]
  generalize hBB : bottomV g = B at *
  have hP : tpV g = (truthGo g B 6 0 0 n10 (n10 + n12)).map fun k => (k.1, k.2.1) := by unfold tpV truthL; rw [hBB, ← h9, ← h11, ← h10, ← h12]
  have hF : tfV g = (truthGo g B 6 0 0 n10 (n10 + n12)).map fun k => (k.1, k.2.2) := by unfold tfV truthL; rw [hBB, ← h9, ← h11, ← h10, ← h12]
  refine ⟨⟨by omega, by omega⟩, ⟨by omega, by omega⟩, fun xs => match xs with | [.i a, .i p, .i f, .i i, .s _ rp, .s _ rf] => 0 ≤ i ∧ i ≤ 6 ∧ 0 ≤ a ∧ a ≤ B ∧ 0 ≤ p ∧ p ≤ 1000000 + 30000 * a ∧ 0 ≤ f ∧ f ≤ 21000000 + 30000 * a ∧ rp.length = i.toNat ∧ rf.length = i.toNat ∧ knots rp ++ (truthGo g B (6 - i).toNat i a p f).map (fun k => (k.1, k.2.1)) = tpV g ∧ knots rf ++ (truthGo g B (6 - i).toNat i a p f).map (fun k => (k.1, k.2.2)) = tfV g | _ => False, fun xs => match xs with | [_, _, _, .i i, _, _] => (6 - i).toNat | _ => 0, ⟨by omega, by omega, by omega, by omega, by omega, by omega, by omega, by omega, rfl, rfl, hP.symm, hF.symm⟩, ?_⟩
  rintro a _ _ p _ _ f _ _ i _ _ v17 rp _ _ _ v18 rf _ _ _ ⟨i0, i1, a0, a1, p0, p1, f0, f1, lp, lf, hp, hf⟩
  refine ⟨fun hi => ?_, fun hi => ?_⟩
  rotate_left
  · rw [show (6 - i).toNat = 0 by omega, truthGo, List.map_nil, List.append_nil] at hp hf
    exact ⟨hp, hf⟩
  rw [show (6 - i).toNat = (5 - i).toNat + 1 by omega, truthGo, List.map_cons] at hp hf
  refine ⟨fun xs => match xs with | [.s _ rp', .s _ rf'] => rp' = rp ++ [[.i a, .i p]] ∧ rf' = rf ++ [[.i a, .i f]] | _ => False, ⟨⟨⟨by omega, fun _ => ⟨by omega, fun _ => ⟨rfl, rfl⟩⟩⟩, ⟨by omega, fun _ => ⟨by omega, fun _ => ⟨rfl, rfl⟩⟩⟩⟩, ⟨by omega, fun _ => ⟨by omega, fun _ => ⟨rfl, rfl⟩⟩⟩⟩, ?_⟩
  rintro v19 r19 _ _ _ v20 r20 _ _ _ ⟨rfl, rfl⟩
  refine ⟨fun ha => ?_, fun ha => ⟨by omega, ?_⟩⟩
  · rw [if_pos ha, List.map_nil] at hp hf
    exact ⟨by rw [knots_snoc]; exact hp, by rw [knots_snoc]; exact hf⟩
  rw [if_neg ha] at hp hf
  rintro n21 _ _ h21
  refine ⟨⟨by omega, by omega⟩, by omega, ?_⟩
  rintro n22 _ _ h22
  have b22 := Int.emod_nonneg n21 (b := B) (by omega)
  have b22' := Int.emod_lt_of_pos n21 (b := B) (by omega)
  rw [← h22] at b22 b22'
  have hst : stepV g B i a = if i = 4 ∨ B < a + (1 + n22) then B - a else 1 + n22 := by unfold stepV; rw [← h21, ← h22]
  have bst := stepV_bd g (i := i) (show 1 ≤ B by omega) (show a < B by omega)
  refine ⟨⟨by omega, by omega⟩, fun xs => match xs with | [.b t] => t = decide (i = 4 ∨ B < a + (1 + n22)) | _ => False, ⟨fun h4 => (decide_eq_true (.inl h4)).symm, fun h4 => ⟨⟨by omega, by omega⟩, ?_⟩⟩, ?_⟩
  · have e : (decide (B < a + (1 + n22))) = decide (i = 4 ∨ B < a + (1 + n22)) := by
      rw [decide_eq_decide]; exact ⟨.inr, fun h => h.resolve_left h4⟩
    rw [← e, ← hB]; rfl
  rintro t ht
  refine ⟨fun xs => match xs with | [.i s] => s = stepV g B i a | _ => False, ⟨fun h => ⟨⟨by omega, by omega⟩, ⟨by omega, by omega⟩, ?_⟩, fun h => ⟨⟨by omega, by omega⟩, ?_⟩⟩, ?_⟩
  · show B - a = _
    rw [hst, if_pos (of_decide_eq_true (ht.symm.trans h))]
  · show 1 + n22 = _
    rw [hst, if_neg (of_decide_eq_false (ht.symm.trans h))]
  rintro s _ _ rfl
  generalize stepV g B i a = s at *
  refine ⟨by omega, ?_⟩
  rintro n25 _ _ h25
  have b25 := pickV_bd g.steps (i + 3)
  rw [← h25] at b25
  rw [Int.tdiv_eq_ediv_of_nonneg b25.1]
  refine ⟨⟨by omega, by omega⟩, ⟨by omega, by omega⟩, by decide, ?_⟩
  rintro n26 _ _ h26
  have hA : 2000 + n26 = gainA g i := by unfold gainA; rw [← h25, h26]
  have bA := gainA_bd g i
  rw [hA]
  refine ⟨⟨by omega, by omega⟩, by omega, ?_⟩
  rintro n27 _ _ h27
  have b27 := pickV_bd g.steps (i + 4)
  rw [← h27] at b27
  rw [Int.tdiv_eq_ediv_of_nonneg b27.1]
  refine ⟨⟨by omega, by omega⟩, ⟨by omega, by omega⟩, ⟨by omega, by omega⟩, ⟨by omega, by omega⟩, by omega, ?_⟩
  rintro n28 _ _ h28
  have hG : gainA g i + n28 = gainB g i := by unfold gainB; rw [← h27, h28]
  have bG := gainB_bd g i
  rw [hG]
  generalize gainA g i = A at *
  generalize gainB g i = G at *
  have m1 : A * s ≤ 30000 * s := Int.mul_le_mul_of_nonneg_right (by omega) (by omega)
  have m2 : G * s ≤ 30000 * s := Int.mul_le_mul_of_nonneg_right (by omega) (by omega)
  have m3 : 0 ≤ A * s := Int.mul_nonneg (by omega) (by omega)
  have m4 : 0 ≤ G * s := Int.mul_nonneg (by omega) (by omega)
  refine ⟨⟨by omega, by omega⟩, ⟨by omega, by omega⟩, ⟨by omega, by omega⟩, ⟨by omega, by omega⟩, ⟨by omega, by omega⟩, ⟨by omega, by omega⟩, ⟨by omega, by omega⟩, ⟨by omega, by omega⟩, ⟨by omega, by omega⟩, ⟨by omega, by omega, by omega, by omega, by omega, by omega, by omega, by omega, by rw [List.length_append, lp, List.length_singleton]; omega, by rw [List.length_append, lf, List.length_singleton]; omega, ?_, ?_⟩, (show (6 - (i + 1)).toNat < (6 - i).toNat by omega)⟩
  · rw [knots_snoc, List.append_assoc, show (6 - (i + 1)).toNat = (5 - i).toNat by omega]; exact hp
  · rw [knots_snoc, List.append_assoc, show (6 - (i + 1)).toNat = (5 - i).toNat by omega]; exact hf
theorem reps_snoc (rows : List (List C)) (a b c : Int) : repsOf (rows ++ [[.i a, .i b, .i c]]) = repsOf rows ++ [⟨a, b, c⟩] := by rw [reps_app, reps_one]
set_option maxRecDepth 100000 in
theorem known_ok : tab5.ok 20 := by
  refine Tab.of_ct rfl rfl ⟨_, Try.func20, by decide, rfl⟩ ?_ (fun h => by cases h)
  refine ct_ok (cx := cknown) (Tab.cx_ok (all_cons (up5_ok (up4_ok mod64_ok)) (all_cons pick_ok (all_cons truth_ok (all_cons shifted_ok (all_cons report_ok all_nil)))))) Try.func20 (bds := []) (T := tknown) (by kernel_rfl) ?_
  have h1 : cknown.ct 22 = some ctMod := rfl
  have h2 : cknown.ct 61 = some ctPick := rfl
  have h3 : cknown.ct 34 = some ctTrue := rfl
  have h4 : cknown.ct 62 = some ctShifted := rfl
  have h5 : cknown.ct 59 = some ctReport := rfl
  unfold tknown
  simp only [VC, allC, List.map_cons, List.map_nil, List.length_cons, List.length_nil, List.getElem?_cons_zero, List.getElem?_cons_succ, List.cons.injEq, C.i.injEq, C.b.injEq, and_true, true_and, forall_const, kindsOf_nil, kindsOf_lf, kindsOf_agg, kindsOf_box, boxKinds_nil, boxKinds_lf, boxKinds_agg, boxKinds_box, List.append_nil, List.cons_append, List.nil_append, den_cmp_le, den_cmp_lt, den_cmp_eq, den_cmp_ne, den_cmp_le', den_cmp_lt', den_cmp_eq', den_cmp_ne', den_and, den_and', den_or, den_or', den_not, den_not', den_blit, den_of, ev_var, at_0, at_1, at_2, at_3, at_4, at_5, at_6, at_7, at_skip, c_int, c_bool, c_arr, c_cnt, c_vec, ev_nil, ev_join, ev_sub3, loc_s, int_i, bool_b, rows_s, cs_nil, cs_cons, E.den_lit, E.den_var, E.den_add, E.den_sub, E.den_mul, E.den_quo, E.den_rem, E.den_max, E.den_min, E.den_len, E.den_wr, E.den_cell, ev_cell, h1, h2, h3, h4, h5, ctMod, ctPick, ctTrue, ctShifted, ctReport, ctKnown, ctF, groundSh, vecTruth, vecEarth, lineSh, n_, k_, grOf, earOf]
  intro b _ _ u1 r1 _ _ _ u2 r2 _ _ _ u3 r3 _ _ _
  simp only [in1 u3 r3]
  rw [← ints_len r3]
  generalize hg : (⟨b, ints r1, ints r2, ints r3⟩ : Gr) = g at *
  have go : ints r2 = g.off := by rw [← hg]
  have gm : ints r3 = g.marks := by rw [← hg]
  rw [go, gm]
  refine ⟨bds_nil _, ?_⟩
  rintro v9 r9 _ _ _ v10 r10 _ _ _ ⟨h9, h10⟩
  rw [← knots_len r9]
  simp only [kn1 v9 r9, h9, h10]
  obtain ⟨lpos, e0, e1⟩ := endV_bd (tp_line g)
  have hE : ((tpV g).getD (((tpV g).length : Int) - 1).toNat (0, 0)).1 = endV (tpV g) := by unfold endV; rw [show (((tpV g).length : Int) - 1).toNat = (tpV g).length - 1 by omega]
  rw [hE]
  refine ⟨by omega, by omega, by decide, ?_⟩
  rintro n13 _ _ h13
  refine ⟨by decide, ?_⟩
  rintro n14 _ _ h14
  refine ⟨by decide, ?_⟩
  rintro n15 _ _ h15
  refine ⟨by decide, ?_⟩
  rintro n16 _ _ h16
  have b16 := Int.emod_nonneg n15 (b := 10001) (by decide)
  have b16' := Int.emod_lt_of_pos n15 (b := 10001) (by decide)
  rw [← h16] at b16 b16'
  have tl : (tpV g).length ≤ 100 ∧ ∀ k ∈ tpV g, -1152921504606846976 ≤ k.2 ∧ k.2 ≤ 1152921504606846976 := ⟨by have := tp_len g; omega, fun k hk => by have := tp_box g k hk; omega⟩
  have fl : (tfV g).length ≤ 100 ∧ ∀ k ∈ tfV g, -1152921504606846976 ≤ k.2 ∧ k.2 ≤ 1152921504606846976 := ⟨by have := tf_len g; omega, fun k hk => by have := tf_box g k hk; omega⟩
  refine ⟨⟨by omega, by omega⟩, ⟨tl.1, tl.2, by decide, by decide⟩, ?_⟩
  rintro v27 r27 _ _ _ h27
  refine ⟨⟨tl.1, tl.2, by decide, by decide⟩, ?_⟩
  rintro v28 r28 _ _ _ h28
  refine ⟨⟨fl.1, fl.2, by decide, by decide⟩, ?_⟩
  rintro v29 r29 _ _ _ h29
  refine ⟨⟨fl.1, fl.2, by decide, by decide⟩, ?_⟩
  rintro v30 r30 _ _ _ h30
  refine ⟨⟨by omega, by omega⟩, fun xs => match xs with | [.i i, .i b, .s _ a1, .s _ a2, .s _ a3, .s _ a4, .i gl, .i gh, .s _ rr] => 0 ≤ i ∧ i ≤ 8 ∧ i ≤ g.marks.length ∧ b = endV (tpV g) ∧ knots a1 = shiftGo g.off false 0 (tpV g) ∧ knots a2 = shiftGo g.off true 3 (tpV g) ∧ knots a3 = shiftGo g.off false 5 (tfV g) ∧ knots a4 = shiftGo g.off true 7 (tfV g) ∧ gl = n14 ∧ gh = 30000 + n16 ∧ rr.length = i.toNat ∧ repsOf rr = (g.marks.take i.toNat).map (repV (tpV g) (tfV g)) | _ => False, fun xs => match xs with | .i i :: _ => (8 - i).toNat | _ => 0, ⟨by omega, by omega, by omega, rfl, h27, h28, h29, h30, rfl, rfl, rfl, rfl⟩, ?_⟩
  rintro i _ _ b' _ _ v33 r33 _ _ _ v34 r34 _ _ _ v35 r35 _ _ _ v36 r36 _ _ _ gl _ _ gh _ _ v39 r39 _ _ _ ⟨i0, i8, im, eb, k1, k2, k3, k4, egl, egh, rl, hr⟩
  subst eb egl egh
  have fin : ((g.marks.length : Int) ≤ i ∨ 8 ≤ i) → (⟨endV (tpV g), knots r33, knots r34, knots r35, knots r36, gl, 30000 + n16, repsOf r39⟩ : Ear) = knownV g := fun h => by
    unfold knownV
    rw [k1, k2, k3, k4, hr, h14, h13, h16, h15]
    congr 2
    rcases h with h | h
    · rw [List.take_of_length_le (by omega), List.take_of_length_le (by omega)]
    · rw [show i.toNat = 8 by omega]
  refine ⟨fun hlt => ⟨fun h8 => ?_, fun h8 => fin (.inr (by omega))⟩, fun hge => fin (.inl (by omega))⟩
  refine ⟨i0, hlt, ⟨tp_line g, tf_line g⟩, ?_⟩
  rintro x _ _ y _ _ z _ _ ⟨rfl, rfl, rfl⟩
  refine ⟨by omega, fun v44 => ⟨⟨by omega, by omega, by omega, rfl, k1, k2, k3, k4, rfl, rfl, by rw [List.length_append, rl, List.length_singleton]; omega, ?_⟩, (show (8 - (i + 1)).toNat < (8 - i).toNat by omega)⟩⟩
  rw [reps_snoc, hr, show (i + 1).toNat = i.toNat + 1 by omega, take_snoc (by omega) 0, List.map_append]
  rfl
end Go.Proofs.Ytcglpbchejkolaa
/- A result that is a slice of one's own may be taken as any slice. -/
namespace Go.Proofs.Ytcglpbchejkolaa
open Go.RowKit
set_option linter.unusedVariables false
section
variable {P : Program}
end
end Go.Proofs.Ytcglpbchejkolaa
/- Earth: contracts, more of them: earths and truths made of numbers whose lists are not turned. -/
namespace Go.Proofs.Ytcglpbchejkolaa
set_option linter.unusedVariables false

def ctTrueA : Ct := ⟨[groundSh], [truthSh], fun _ => True, fun cs rs => k_ rs 0 = tpV (grOf cs) ∧ k_ rs 1 = tfV (grOf cs), false⟩
def ctKnownA : Ct := ⟨[groundSh], [earthSh], fun _ => True, fun cs rs => earOf rs = knownV (grOf cs), false⟩
def tab6 : Tab where
  ct := fun f => match f with
    | 34 => some ctTrueA
    | 20 => some ctKnownA
    | f => tab5.ct f
  inl := tab5.inl
  sel := tab5.sel
theorem up6_ok {f : Nat} (h : tab5.ok f) (he : tab6.ct f = tab5.ct f := by rfl) : tab6.ok f :=
  ⟨h.1, fun ct hc => h.2.1 ct (he ▸ hc), h.2.2.1, h.2.2.2⟩
end Go.Proofs.Ytcglpbchejkolaa
/- Earth: the library's slices.Sort and slices.Compact at []int64: what the shelf asks of this program (laid by the shelf's own plain mode). -/
namespace Go.Proofs.Ytcglpbchejkolaa
open Go.Shelf
def sort64_ren : Go.Shelf.Ren := ⟨fun | 53 => 107 | 64 => 121 | 63 => 120 | 78 => 138 | 79 => 139 | 70 => 129 | 71 => 130 | 72 => 131 | 73 => 132 | 74 => 133 | 75 => 134 | 59 => 135 | 76 => 136 | 77 => 137 | 88 => 141 | 89 => 142 | 90 => 143 | 91 => 144 | 92 => 145 | 68 => 123 | 96 => 146 | n => n, fun | 22 => 30 | 23 => 2 | 3 => 3 | 51 => 129 | 0 => 0 | 67 => 144 | 69 => 146 | 4 => 4 | 61 => 137 | 60 => 136 | 44 => 121 | 5 => 5 | 9 => 9 | 75 => 148 | 79 => 152 | 83 => 154 | 84 => 155 | n => n, fun | n => n⟩
theorem sort64 : Go.Proofs.SlLaysN.n53 Try.prog sort64_ren := {
  mixed := by kernel_rfl
  f53 := ⟨Try.f107.name, by decide, Try.func107.trans (congrArg some (by kernel_rfl))⟩
  f59 := ⟨Try.f135.name, by decide, Try.func135.trans (congrArg some (by kernel_rfl))⟩
  f63 := ⟨Try.f120.name, by decide, Try.func120.trans (congrArg some (by kernel_rfl))⟩
  f64 := Try.func121.trans (congrArg some (by kernel_rfl))
  f68 := ⟨Try.f123.name, by decide, Try.func123.trans (congrArg some (by kernel_rfl))⟩
  f70 := ⟨Try.f129.name, by decide, Try.func129.trans (congrArg some (by kernel_rfl))⟩
  f71 := ⟨Try.f130.name, by decide, Try.func130.trans (congrArg some (by kernel_rfl))⟩
  f72 := ⟨Try.f131.name, by decide, Try.func131.trans (congrArg some (by kernel_rfl))⟩
  f73 := ⟨Try.f132.name, by decide, Try.func132.trans (congrArg some (by kernel_rfl))⟩
  f74 := ⟨Try.f133.name, by decide, Try.func133.trans (congrArg some (by kernel_rfl))⟩
  f75 := ⟨Try.f134.name, by decide, Try.func134.trans (congrArg some (by kernel_rfl))⟩
  f76 := ⟨Try.f136.name, by decide, Try.func136.trans (congrArg some (by kernel_rfl))⟩
  f77 := ⟨Try.f137.name, by decide, Try.func137.trans (congrArg some (by kernel_rfl))⟩
  f78 := Try.func138.trans (congrArg some (by kernel_rfl))
  f79 := Try.func139.trans (congrArg some (by kernel_rfl))
  f88 := ⟨Try.f141.name, by decide, Try.func141.trans (congrArg some (by kernel_rfl))⟩
  f89 := Try.func142.trans (congrArg some (by kernel_rfl))
  f90 := Try.func143.trans (congrArg some (by kernel_rfl))
  f91 := ⟨Try.f144.name, by decide, Try.func144.trans (congrArg some (by kernel_rfl))⟩
  f92 := ⟨Try.f145.name, by decide, Try.func145.trans (congrArg some (by kernel_rfl))⟩
  f96 := ⟨Try.f146.name, by decide, Try.func146.trans (congrArg some (by kernel_rfl))⟩
  t0 := Try.underlying0
  a0 := Try.isAgg0
  z0 := Try.sizeOf0
  v0 := Try.zeroValue0
  t3 := Try.underlying3
  a3 := Try.isAgg3
  z3 := Try.sizeOf3
  v3 := Try.zeroValue3
  t4 := Try.underlying4
  a4 := Try.isAgg4
  z4 := Try.sizeOf4
  v4 := Try.zeroValue4
  t5 := Try.underlying5
  a5 := Try.isAgg5
  z5 := Try.sizeOf5
  v5 := Try.zeroValue5
  t9 := Try.underlying9
  a9 := Try.isAgg9
  z9 := Try.sizeOf9
  v9 := Try.zeroValue9
  t22 := Try.underlying30
  a22 := Try.isAgg30
  z22 := Try.sizeOf30
  v22 := Try.zeroValue30
  t23 := Try.underlying2
  a23 := Try.isAgg2
  z23 := Try.sizeOf2
  v23 := Try.zeroValue2
  t44 := Try.underlying121
  a44 := Try.isAgg121
  z44 := Try.sizeOf121
  v44 := Try.zeroValue121
  t51 := Try.underlying129
  a51 := Try.isAgg129
  z51 := Try.sizeOf129
  v51 := Try.zeroValue129
  t60 := Try.underlying136
  a60 := Try.isAgg136
  z60 := Try.sizeOf136
  v60 := Try.zeroValue136
  t61 := Try.underlying137
  a61 := Try.isAgg137
  z61 := Try.sizeOf137
  v61 := Try.zeroValue137
  t67 := Try.underlying144
  a67 := Try.isAgg144
  z67 := Try.sizeOf144
  v67 := Try.zeroValue144
  t69 := Try.underlying146
  a69 := Try.isAgg146
  z69 := Try.sizeOf146
  v69 := Try.zeroValue146
  t75 := Try.underlying148
  a75 := Try.isAgg148
  z75 := Try.sizeOf148
  v75 := Try.zeroValue148
  t79 := Try.underlying152
  a79 := Try.isAgg152
  z79 := Try.sizeOf152
  v79 := Try.zeroValue152
  t83 := Try.underlying154
  a83 := Try.isAgg154
  z83 := Try.sizeOf154
  v83 := Try.zeroValue154
  t84 := Try.underlying155
  a84 := Try.isAgg155
  z84 := Try.sizeOf155
  v84 := Try.zeroValue155 }
def comp64_ren : Go.Shelf.Ren := ⟨fun | 43 => 108 | n => n, fun | 22 => 30 | 23 => 2 | 3 => 3 | 4 => 4 | 0 => 0 | n => n, fun | n => n⟩
theorem comp64 : Go.Proofs.SlLaysN.n43 Try.prog comp64_ren := {
  mixed := by kernel_rfl
  f43 := ⟨Try.f108.name, by decide, Try.func108.trans (congrArg some (by kernel_rfl))⟩
  t0 := Try.underlying0
  a0 := Try.isAgg0
  z0 := Try.sizeOf0
  v0 := Try.zeroValue0
  t3 := Try.underlying3
  a3 := Try.isAgg3
  z3 := Try.sizeOf3
  v3 := Try.zeroValue3
  t4 := Try.underlying4
  a4 := Try.isAgg4
  z4 := Try.sizeOf4
  v4 := Try.zeroValue4
  t22 := Try.underlying30
  a22 := Try.isAgg30
  z22 := Try.sizeOf30
  v22 := Try.zeroValue30
  t23 := Try.underlying2
  a23 := Try.isAgg2
  z23 := Try.sizeOf2
  v23 := Try.zeroValue2
  i23 := by kernel_rfl }
end Go.Proofs.Ytcglpbchejkolaa
/- Earth: slices.Sort and slices.Compact of a slice of one's own. -/
namespace Go.Proofs.Ytcglpbchejkolaa
open Go.RowKit Go.Sort
set_option linter.unusedSimpArgs false
set_option linter.unusedVariables false

def intRows (l : List Int) : List (List C) := l.map fun n => [C.i n]
theorem intRows_len (l : List Int) : (intRows l).length = l.length := by simp [intRows]
theorem intRows_flat : ∀ l : List Int, (intRows l).flatten = l.map C.i
  | [] => rfl
  | n :: l => by
    have := intRows_flat l
    simp only [intRows, List.map_cons, List.flatten_cons] at this ⊢
    rw [this]; rfl
theorem rowsK_int : ∀ n, rowsK n [.int] = List.replicate n Lk.int
  | 0 => rfl
  | n + 1 => by
    have := rowsK_int n
    unfold rowsK at this ⊢
    rw [List.replicate_succ, List.flatten_cons, this, List.replicate_succ]; rfl
theorem creps_ints {P : Program} {w : World} {O : Nat → Nat → Prop} : ∀ (l : List Int), (∀ n ∈ l, ∀ m, C.small m (.i n)) → CReps P w O (List.replicate l.length Lk.int) (l.map (Value.int .i64)) (l.map C.i)
  | [], _ => trivial
  | n :: l, h => ⟨⟨h n (by simp), n, rfl, rfl⟩, creps_ints l fun x hx => h x (by simp [hx])⟩
theorem ints_ofG {P : Program} {w : World} {O : Nat → Nat → Prop} : ∀ {rows : List (List C)} {us : List Value}, (∀ r ∈ rows, r.length = 1) → CReps P w O (List.replicate rows.length Lk.int) us rows.flatten → ∃ zs : List Int, rows = intRows zs ∧ us = zs.map (Value.int .i64) ∧ ∀ n ∈ zs, ∀ m, C.small m (.i n)
  | [], us, _, h => by
    cases us with
    | nil => exact ⟨[], rfl, rfl, fun n hn => nomatch hn⟩
    | cons u us => exact h.elim
  | r :: rows, us, hl, h => by
    have h1 := hl r (by simp)
    match r, h1 with
    | [c], _ =>
      rw [List.flatten_cons, List.length_cons, List.replicate_succ] at h
      cases us with
      | nil => exact h.elim
      | cons u us =>
        obtain ⟨⟨hs, n, rfl, rfl⟩, h2⟩ := h
        obtain ⟨zs, rfl, rfl, h3⟩ := ints_ofG (fun x hx => hl x (by simp [hx])) h2
        refine ⟨n :: zs, rfl, rfl, fun x hx => ?_⟩
        rcases List.mem_cons.1 hx with rfl | hx
        · exact hs
        · exact h3 x hx
theorem ints_vec {P : Program} {w : World} {O : Nat → Nat → Prop} {te : TypeId} {v : Value} {c : C} (h : VecOK P w O te v c) (hk : kinds P te = some [.int]) : ∃ zs : List Int, c.rows = intRows zs ∧ w.ownsRow 0 te 1 v zs.length (zs.map (Value.int .i64)) ∧ ∀ n ∈ zs, ∀ m, C.small m (.i n) := by
  obtain ⟨ks, us, hk', -, hl, hr, ho⟩ := h
  rw [hk] at hk'
  cases hk'
  rw [rowsK_int] at hr
  obtain ⟨zs, h1, rfl, h3⟩ := ints_ofG hl hr
  rw [h1, intRows_len] at ho
  exact ⟨zs, h1, ho, h3⟩
theorem vec_ints {P : Program} {w : World} {O : Nat → Nat → Prop} {te : TypeId} {v u : Value} {zs : List Int} (hk : kinds P te = some [.int]) (ho : w.ownsRow 0 te 1 v zs.length (zs.map (Value.int .i64))) (hs : ∀ n ∈ zs, ∀ m, C.small m (.i n)) : VecOK P w O te v (.s u (intRows zs)) := by
  refine ⟨[.int], zs.map (Value.int .i64), hk, ⟨_, rfl⟩, fun r hr => ?_, ?_, ?_⟩
  · obtain ⟨n, -, rfl⟩ := List.mem_map.1 hr; rfl
  · show CReps P w O (rowsK (intRows zs).length [.int]) _ (intRows zs).flatten
    rw [intRows_len, rowsK_int, intRows_flat]
    exact creps_ints zs hs
  · show w.ownsRow 0 te 1 v (intRows zs).length _
    rw [intRows_len]; exact ho
section
variable {F : Nat → Prop} {w0 : World} {Γ : Env} {st : St} {a : Act} {w : World}
theorem sort_vec (h : Sat Try.prog F w0 Γ st a w) (hw : st.wf = true) {i : Nat} {e : E} (hi : look st.vec i = some (2, e)) {zs : List Int} (hz : (e.ev Γ.ρ).rows = intRows zs) (hne : zs ≠ []) (hlen : zs.length < 4611686018427387904) :
    Calls Try.prog 107 #[(at_ Γ.ρ i).loc] w fun x w' => x = .returned (.tuple #[]) ∧
      Sat Try.prog F w0 { Γ with ρ := Γ.ρ ++ [.s (at_ Γ.ρ i).loc (intRows (zs.mergeSort fun x y => decide (x ≤ y)))] } { st with nx := st.nx + 1, vec := (i, some (2, .var st.nx)) :: st.vec } a w' := by
  have hk : kinds Try.prog 2 = some [.int] := by kernel_rfl
  have hvec := (h.vec i _ hi).1
  obtain ⟨zs', h1, ho, hs⟩ := ints_vec hvec hk
  have hzz : zs' = zs := by
    have e2 : intRows zs' = intRows zs := h1.symm.trans hz
    have := congrArg (fun l : List (List C) => l.flatten.map C.int) e2
    simp only [intRows_flat, List.map_map] at this
    have hid : (C.int ∘ C.i) = id := funext fun n => rfl
    rw [hid, List.map_id, List.map_id] at this
    exact this
  subst hzz
  have hlt : ∀ b o, Own Γ st b o → b < w.heap.size := h.own_lt
  generalize hloc : (at_ Γ.ρ i).loc = loc at *
  rcases ho.2 with ⟨-, e2⟩ | ⟨g, cap, cur, e1, hB, hg, hnc, hcm, hcs, hct⟩
  · exact absurd (List.length_eq_zero_iff.1 e2) hne
  have hgl : g < w.heap.size := (Array.getElem?_eq_some_iff.1 hg).1
  have hct' : cur.toList.take zs'.length = zs'.map (Value.int .i64) := by rw [Nat.mul_one] at hct; exact hct
  have hH := holds_of_blockI hg hct'
  subst e1
  refine (AnyG.slices_Sort_int sort64 g 0 cap zs' w hH hgl hlen).mono ?_
  rintro x w' ⟨rfl, n, os, rfl⟩
  refine ⟨rfl, ?_⟩
  have hl : (zs'.mergeSort fun x y => decide (x ≤ y)).length = zs'.length := List.length_mergeSort _
  have hgb := grownBy_sortedI (w := w) (g := g) (n := n) (os := os) (zs'.mergeSort fun x y => decide (x ≤ y)).toArray
  have hown := ownsRow_sortedI (w := w) (base := 0) (n := n) (os := os) (ss := zs') (ts := zs'.mergeSort fun x y => decide (x ≤ y)) hl hB hg hnc hcm (by rw [hcs])
  have hv : VecOK Try.prog (grow (putRow (Value.int .i64) (Go.Sort.ahead w n) g 0 (zs'.mergeSort fun x y => decide (x ≤ y)).toArray) os) (fun b o => Own Γ st b o ∨ w.heap.size ≤ b) 2 (at_ Γ.ρ i).loc (.s (.slice (some ⟨g, 0, none⟩) zs'.length cap) (intRows (zs'.mergeSort fun x y => decide (x ≤ y)))) := by
    rw [hloc]
    refine vec_ints hk ?_ fun m hm => hs m ((List.mergeSort_perm zs' _).mem_iff.1 hm)
    rw [hl]; exact hown
  exact h.vupd hw hi (by rw [hloc]; exact hgb) hv
theorem compact_le (zs : List Int) : (Lib.compact zs).length ≤ zs.length := by
  unfold Lib.compact Lib.compactUpTo
  rw [List.length_map]
  have := List.length_filter_le (Lib.keeps zs.toArray) (List.range zs.length)
  simpa using this
theorem compact_mem {zs : List Int} {n : Int} (h : n ∈ Lib.compact zs) : n ∈ zs := by
  unfold Lib.compact Lib.compactUpTo at h
  obtain ⟨j, hj, rfl⟩ := List.mem_map.1 h
  have hj2 := List.mem_range.1 (List.mem_filter.1 hj).1
  have : zs.toArray[j]! = zs[j] := by simp [getElem!_pos, hj2]
  rw [this]; exact List.getElem_mem _
theorem compact_vec (h : Sat Try.prog F w0 Γ st a w) (hw : st.wf = true) {i : Nat} {e : E} (hi : look st.vec i = some (2, e)) {zs : List Int} (hz : (e.ev Γ.ρ).rows = intRows zs) (hne : zs ≠ []) (hlen : zs.length < 4611686018427387904) :
    Calls Try.prog 108 #[(at_ Γ.ρ i).loc] w fun x w' => ∃ v', x = .returned v' ∧
      Sat Try.prog F w0 { Γ with ρ := Γ.ρ ++ [.s v' (intRows (Lib.compact zs))] } { st with nx := st.nx + 1, vec := (st.nx, some (2, .var st.nx)) :: dropV (some i) st.vec } a w' := by
  have hk : kinds Try.prog 2 = some [.int] := by kernel_rfl
  have hvec := (h.vec i _ hi).1
  obtain ⟨zs', h1, ho, hs⟩ := ints_vec hvec hk
  have hzz : zs' = zs := by
    have e2 : intRows zs' = intRows zs := h1.symm.trans hz
    have := congrArg (fun l : List (List C) => l.flatten.map C.int) e2
    simp only [intRows_flat, List.map_map] at this
    have hid : (C.int ∘ C.i) = id := funext fun n => rfl
    rw [hid, List.map_id, List.map_id] at this
    exact this
  subst hzz
  generalize hloc : (at_ Γ.ρ i).loc = loc at *
  rcases ho.2 with ⟨-, e2⟩ | ⟨g, cap, cur, e1, hB, hg, hnc, hcm, hcs, hct⟩
  · exact absurd (List.length_eq_zero_iff.1 e2) hne
  have hgl : g < w.heap.size := (Array.getElem?_eq_some_iff.1 hg).1
  have hct' : cur.toList.take zs'.length = zs'.map (Value.int .i64) := by rw [Nat.mul_one] at hct; exact hct
  have hH := holds_of_blockI hg hct'
  subst e1
  refine (AnyG.slices_Compact_int comp64 g 0 cap zs' w hH (by omega) hnc).mono ?_
  rintro x w' ⟨rfl, q, rfl⟩
  refine ⟨_, rfl, ?_⟩
  have hle := compact_le zs'
  generalize hts : Lib.compact zs' ++ List.replicate (zs'.length - (Lib.compact zs').length) 0 = ts at *
  have hl : ts.length = zs'.length := by rw [← hts, List.length_append, List.length_replicate]; omega
  have hgb := grownBy_sortedI (w := w) (g := g) (n := q) (os := #[]) ts.toArray
  have hown := ownsRow_sortedI (w := w) (base := 0) (n := q) (os := #[]) (ss := zs') (ts := ts) hl hB hg hnc hcm (by rw [hcs])
  rw [grow_empty] at hgb hown
  have hown2 : (putRow (Value.int .i64) (Go.Sort.ahead w q) g 0 ts.toArray).ownsRow 0 2 1 (.slice (some ⟨g, 0, none⟩) (Lib.compact zs').length cap) (Lib.compact zs').length ((Lib.compact zs').map (Value.int .i64)) := by
    refine ⟨by simp, .inr ?_⟩
    rcases hown.2 with ⟨h0, -⟩ | ⟨g', cap', cur', hv, hB', hg', hnc', hcm', hcs', hct2⟩
    · cases h0
    cases hv
    refine ⟨g, cap, cur', rfl, hB', hg', by omega, hcm', hcs', ?_⟩
    rw [Nat.mul_one] at hct2 ⊢
    have : cur'.toList.take (Lib.compact zs').length = (cur'.toList.take zs'.length).take (Lib.compact zs').length := by rw [List.take_take, Nat.min_eq_left hle]
    rw [this, hct2, ← List.map_take, ← hts, List.take_left']
    rfl
  have hv : VecOK Try.prog (putRow (Value.int .i64) (Go.Sort.ahead w q) g 0 ts.toArray) (fun b o => Own Γ st b o ∨ w.heap.size ≤ b) 2 (C.s (.slice (some ⟨g, 0, none⟩) (Lib.compact zs').length cap) (intRows (Lib.compact zs'))).loc (.s (.slice (some ⟨g, 0, none⟩) (Lib.compact zs').length cap) (intRows (Lib.compact zs'))) :=
    vec_ints hk hown2 fun m hm => hs m (compact_mem hm)
  exact h.vnew hw (ci := some i) (row := some g) ⟨_, hi, by rw [hloc]; rfl⟩ hgb hv fun b hb => .inl hb
end
end Go.Proofs.Ytcglpbchejkolaa
/- Earth: contracts, more of them: depths, contradictions, conflicts. -/
namespace Go.Proofs.Ytcglpbchejkolaa
set_option linter.unusedVariables false

def insD (x : Int) : List Int → List Int
  | [] => [x]
  | y :: l => if x < y then x :: y :: l else if x = y then y :: l else y :: insD x l
def sortD (l : List Int) : List Int := l.foldl (fun a x => insD x a) []
def lowAt (b : Int) (l : List Kn) : List Int := (l.filter fun k => decide (k.1 ≤ b)).map (·.1)
def minAt (b : Int) (l : List Kn) : List Int := l.map fun k => min k.1 b
def lowAll (b : Int) (ls : List (List Kn)) : List Int := ls.flatMap (lowAt b)
def minAll (b : Int) (ls : List (List Kn)) : List Int := ls.flatMap (minAt b)
def Ear.lines (e : Ear) : List (List Kn) := [e.pl, e.ph, e.fl, e.fh]
def rawR (e : Ear) : List Int := [0, e.bottom] ++ lowAll e.bottom e.lines ++ e.reps.map (·.z)
def rawP (e : Ear) : List Int := [0, e.bottom] ++ minAll e.bottom e.lines ++ e.reps.map (·.z)
def depthsV (e : Ear) : List Int := sortD (rawR e)
/-- The depths of any earth. -/
def depthsE (e : Ear) : List Int := if checkV e = 0 then depthsV e else []
def Ear.only (e : Ear) (l : List Rep) : Ear := { e with reps := l }
def badAt (e : Ear) (z : Int) : Bool := decide (phV e z < plV e z) || decide (fhV e z < flV e z)
def crossV (e : Ear) : Bool := (depthsV e).any (badAt e)
def rep0 : Rep := ⟨0, 0, 0⟩
def alone (e : Ear) (i : Nat) : Bool := crossV (e.only [e.reps.getD i rep0])
def pairX (e : Ear) (i k : Nat) : Bool := crossV (e.only [e.reps.getD i rep0, e.reps.getD k rep0])
def singles (e : Ear) (n : Nat) : List (List Int) := ((List.range n).filter (alone e)).map fun (i : Nat) => [(i : Int)]
def pairsAt (e : Ear) (i n : Nat) : List (List Int) := ((List.range n).filter fun k => decide (i < k) && !alone e k && pairX e i k).map fun (k : Nat) => [(i : Int), (k : Int)]
def pairsOf (e : Ear) (n : Nat) : List (List Int) := (List.range n).flatMap fun i => if alone e i = true then [] else pairsAt e i e.reps.length
def conflictsV (e : Ear) : List (List Int) := if checkV e = 0 then (if crossV (e.only []) = true then [[]] else singles e e.reps.length ++ pairsOf e e.reps.length) else []
def lists (rows : List (List C)) : List (List Int) := rows.map fun r => ints (r.getD 0 (.i 0)).rows

def ctDepthsI : Ct := ⟨[earthSh], [.lf (.vec 2)], fun cs => checkV (earOf cs) = 0, fun cs rs => ∃ v rows, rs = [.s v rows] ∧ ints rows = depthsV (earOf cs), false⟩
def ctDepths : Ct := ⟨[earthSh], [.lf (.vec 2)], fun _ => True, fun cs rs => ∃ v rows, rs = [.s v rows] ∧ ints rows = depthsE (earOf cs), false⟩
def ctCrosses : Ct := ctF [earthSh, .lf (.arr 57)] [.lf .bool] (fun cs => checkV ((earOf cs).only (repsOf (at_ cs 8).rows)) = 0) (fun cs => [.b (crossV ((earOf cs).only (repsOf (at_ cs 8).rows)))])
def ctConflicts : Ct := ⟨[earthSh], [.lf (.vec 74)], fun _ => True, fun cs rs => ∃ v rows, rs = [.s v rows] ∧ lists rows = conflictsV (earOf cs), false⟩
def ctLongs : Ct := ctF [.lf (.arr 2), .lf (.arr 2)] [.lf .bool] (fun _ => True) (fun cs => [.b (ints (at_ cs 0).rows == ints (at_ cs 1).rows)])
def tab7 : Tab where
  ct := fun f => match f with
    | 86 | 87 => some ctDepthsI
    | 51 | 52 => some ctDepths
    | 88 => some ctCrosses
    | 54 => some ctConflicts
    | 50 => some ctLongs
    | f => tab6.ct f
  inl := tab6.inl
  sel := tab6.sel
theorem up7_ok {f : Nat} (h : tab6.ok f) (he : tab7.ct f = tab6.ct f := by rfl) : tab7.ok f :=
  ⟨h.1, fun ct hc => h.2.1 ct (he ▸ hc), h.2.2.1, h.2.2.2⟩
/-! Pieces of earth.depths -/
def endK (cx : Cx) (fn : Func) (ct : Ct) : Ex → St → Option Tree := fun x st => match x with
  | .ext _ => none
  | _ => endOf cx fn ct st
def depSt1 : St := { sl := [(3, some (.one (.lf (.vec 2 8))))], vec := [(8, some (2, .var 8))], mem := [], nt := 52, nb := 0, nx := 9, lvl := 1, bds := [] }
end Go.Proofs.Ytcglpbchejkolaa
/- What is to be shown of each function, as the executor has it. Printed by trees.py. -/
namespace Go.Proofs.Ytcglpbchejkolaa
noncomputable def cdepths2 : Cx := tab7.only [35, 86] (fun _ => []) [] 0 [] (fun _ => none)
def tdepths2 : Tree :=
  (.dfn .nil (.call 35 [(.int (.var 0)), (.arr 44 (.var 1)), (.arr 44 (.var 2)), (.arr 44 (.var 3)), (.arr 44 (.var 4)), (.int (.var 5)), (.int (.var 6)), (.arr 57 (.var 7))] (.split (.cmp .ne (.var 9) (.lit 0)) (.dfn .nil (.ret [(.cnt 2 (.var 10))])) (.call 86 [(.int (.var 0)), (.arr 44 (.var 1)), (.arr 44 (.var 2)), (.arr 44 (.var 3)), (.arr 44 (.var 4)), (.int (.var 5)), (.int (.var 6)), (.arr 57 (.var 7))] (.ret [(.cnt 2 (.var 10))])))))
noncomputable def flcrosses : List (Nat × Func) := [(109, Try.f109), (122, Try.f122), (110, Try.f110)]
theorem fxcrosses : ∀ p ∈ flcrosses, FnOK p := fns_cons ⟨Try.func109, ⟨_, Try.func109, by decide, rfl⟩⟩ (fns_cons ⟨Try.func122, ⟨_, Try.func122, by decide, rfl⟩⟩ (fns_cons ⟨Try.func110, ⟨_, Try.func110, by decide, rfl⟩⟩ (fns_nil)))
noncomputable def ccrosses : Cx := tab7.only [86, 95] (fun _ => []) flcrosses 3 [] (fun _ => none)
def tcrosses : Tree :=
  (.call 86 [(.int (.var 0)), (.arr 44 (.var 1)), (.arr 44 (.var 2)), (.arr 44 (.var 3)), (.arr 44 (.var 4)), (.int (.var 5)), (.int (.var 6)), (.arr 57 (.var 8))] (.arr [] (.loop [.int, .int] [(.int (.lit 0)), (.int (.lit 0))] (.split (.cmp .lt (.var 12) (.len (.var 9))) (.ob (.cmp .le (.lit 0) (.var 12)) (.ob (.cmp .lt (.var 12) (.len (.var 9))) (.call 95 [(.int (.var 0)), (.arr 44 (.var 1)), (.arr 44 (.var 2)), (.arr 44 (.var 3)), (.arr 44 (.var 4)), (.int (.var 5)), (.int (.var 6)), (.arr 57 (.var 8)), (.int (.cell (.var 9) (.var 12) 0))] (.split (.cmp .lt (.var 14) (.var 13)) (.ret [(.bool (.lit true))]) (.split (.cmp .lt (.var 16) (.var 15)) (.ret [(.bool (.lit true))]) (.back 0 [(.int (.var 11)), (.int (.add (.var 12) (.lit 1)))])))))) (.ret [(.bool (.lit false))])))))
noncomputable def cconflicts : Cx := tab7.only [35, 88] (fun r => match r with
  | 8 => [.vec 12]
  | _ => []) [] 0 [] (fun _ => none)
def tconflicts : Tree :=
  (.dfn .nil (.call 35 [(.int (.var 0)), (.arr 44 (.var 1)), (.arr 44 (.var 2)), (.arr 44 (.var 3)), (.arr 44 (.var 4)), (.int (.var 5)), (.int (.var 6)), (.arr 57 (.var 7))] (.split (.cmp .ne (.var 9) (.lit 0)) (.dfn .nil (.ret [(.cnt 74 (.var 10))])) (.call 88 [(.int (.var 0)), (.arr 44 (.var 1)), (.arr 44 (.var 2)), (.arr 44 (.var 3)), (.arr 44 (.var 4)), (.int (.var 5)), (.int (.var 6)), (.arr 57 (.var 7)), (.arr 57 .nil)] (.split (.of (.var 10)) (.arr [] (.dfn (.var 11) (.arr [[(.arr 3 (.var 12))]] (.ret [(.cnt 74 (.var 13))])))) (.dfn .nil (.ob (.cmp .le (.mul (.lit 1) (.len (.var 7))) (.lit 281474976710656)) (.mk (.len (.var 7)) [(.bool (.lit false))] (.loop [(.vec 74), .int, (.vec 4)] [(.cnt 74 (.var 11)), (.int (.lit 0)), (.cnt 4 (.var 12))] (.split (.cmp .lt (.var 14) (.len (.var 7))) (.ob (.cmp .le (.lit 0) (.var 14)) (.ob (.cmp .lt (.var 14) (.len (.var 7))) (.arr [[(.int (.cell (.var 7) (.var 14) 0)), (.int (.cell (.var 7) (.var 14) 1)), (.int (.cell (.var 7) (.var 14) 2))]] (.call 88 [(.int (.var 0)), (.arr 44 (.var 1)), (.arr 44 (.var 2)), (.arr 44 (.var 3)), (.arr 44 (.var 4)), (.int (.var 5)), (.int (.var 6)), (.arr 57 (.var 7)), (.arr 57 (.var 16))] (.ob (.cmp .lt (.var 14) (.len (.var 15))) (.upd (.var 15) (.var 14) 0 [(.bool (.of (.var 17)))] (.ob (.cmp .lt (.var 14) (.len (.var 18))) (.split (.of (.cell (.var 18) (.var 14) 0)) (.arr [[(.int (.var 14))]] (.dfn (.var 19) (.arr [[(.arr 3 (.var 20))]] (.ob (.cmp .le (.mul (.add (.len (.var 13)) (.len (.var 21))) (.lit 24)) (.lit 140737488355328)) (.cat (.var 13) (.var 21) (.back 0 [(.cnt 74 (.var 22)), (.int (.add (.var 14) (.lit 1))), (.cnt 4 (.var 18))])))))) (.back 0 [(.cnt 74 (.var 13)), (.int (.add (.var 14) (.lit 1))), (.cnt 4 (.var 18))]))))))))) (.loop [(.vec 74), .int] [(.cnt 74 (.var 13)), (.int (.lit 0))] (.split (.cmp .lt (.var 17) (.len (.var 7))) (.ob (.cmp .le (.lit 0) (.var 17)) (.ob (.cmp .lt (.var 17) (.len (.var 7))) (.ob (.cmp .lt (.var 17) (.len (.var 15))) (.split (.of (.cell (.var 15) (.var 17) 0)) (.back 1 [(.cnt 74 (.var 16)), (.int (.add (.var 17) (.lit 1)))]) (.loop [(.vec 74), .int] [(.cnt 74 (.var 16)), (.int (.add (.var 17) (.lit 1)))] (.split (.cmp .lt (.var 19) (.len (.var 7))) (.ob (.cmp .le (.lit 0) (.var 19)) (.ob (.cmp .lt (.var 19) (.len (.var 15))) (.split (.not (.of (.cell (.var 15) (.var 19) 0))) (.ob (.cmp .lt (.var 19) (.len (.var 7))) (.arr [[(.int (.cell (.var 7) (.var 17) 0)), (.int (.cell (.var 7) (.var 17) 1)), (.int (.cell (.var 7) (.var 17) 2))], [(.int (.cell (.var 7) (.var 19) 0)), (.int (.cell (.var 7) (.var 19) 1)), (.int (.cell (.var 7) (.var 19) 2))]] (.call 88 [(.int (.var 0)), (.arr 44 (.var 1)), (.arr 44 (.var 2)), (.arr 44 (.var 3)), (.arr 44 (.var 4)), (.int (.var 5)), (.int (.var 6)), (.arr 57 (.var 7)), (.arr 57 (.var 20))] (.split (.of (.var 21)) (.arr [[(.int (.var 17))], [(.int (.var 19))]] (.dfn (.var 22) (.arr [[(.arr 3 (.var 23))]] (.ob (.cmp .le (.mul (.add (.len (.var 18)) (.len (.var 24))) (.lit 24)) (.lit 140737488355328)) (.cat (.var 18) (.var 24) (.back 2 [(.cnt 74 (.var 25)), (.int (.add (.var 19) (.lit 1)))])))))) (.back 2 [(.cnt 74 (.var 18)), (.int (.add (.var 19) (.lit 1)))]))))) (.back 2 [(.cnt 74 (.var 18)), (.int (.add (.var 19) (.lit 1)))])))) (.back 1 [(.cnt 74 (.var 18)), (.int (.add (.var 17) (.lit 1)))]))))))) (.ret [(.cnt 74 (.var 16))])))))))))))))
noncomputable def fldep1 : List (Nat × Func) := [(69, Try.f69)]
theorem fxdep1 : ∀ p ∈ fldep1, FnOK p := fns_cons ⟨Try.func69, ⟨_, Try.func69, by decide, rfl⟩⟩ (fns_nil)
noncomputable def cdep1 : Cx := tab7.only [] (fun r => match r with
  | 3 => [.blk 2000005]
  | _ => []) fldep1 1 [] (fun _ => none)
def tdep1 : Tree :=
  (.dfn .nil (.arr [[(.int (.lit 0))], [(.int (.var 0))]] (.dfn .nil (.dfn .nil (.dfn .nil (.dfn .nil (.dfn .nil (.loop [(.vec 2), .int] [(.cnt 2 (.var 9)), (.int (.lit 0))] (.split (.cmp .lt (.var 16) (.len (.var 1))) (.ob (.cmp .le (.lit 0) (.var 16)) (.ob (.cmp .lt (.var 16) (.len (.var 1))) (.arr [[(.int (.min (.cell (.var 1) (.var 16) 0) (.var 0)))]] (.ob (.cmp .le (.mul (.add (.len (.var 15)) (.len (.var 17))) (.lit 8)) (.lit 140737488355328)) (.cat (.var 15) (.var 17) (.back 1 [(.cnt 2 (.var 18)), (.int (.add (.var 16) (.lit 1)))])))))) (.dfn .nil (.loop [(.vec 2), .int, .bool] [(.cnt 2 (.var 15)), (.int (.lit 0)), (.bool (.cmp .lt (.var 16) (.len (.var 1))))] (.split (.cmp .lt (.var 19) (.len (.var 2))) (.ob (.cmp .le (.lit 0) (.var 19)) (.ob (.cmp .lt (.var 19) (.len (.var 2))) (.arr [[(.int (.min (.cell (.var 2) (.var 19) 0) (.var 0)))]] (.ob (.cmp .le (.mul (.add (.len (.var 18)) (.len (.var 21))) (.lit 8)) (.lit 140737488355328)) (.cat (.var 18) (.var 21) (.back 2 [(.cnt 2 (.var 22)), (.int (.add (.var 19) (.lit 1))), (.bool (.cmp .lt (.var 19) (.len (.var 2))))])))))) (.dfn .nil (.loop [(.vec 2), .int, .bool] [(.cnt 2 (.var 18)), (.int (.lit 0)), (.bool (.cmp .lt (.var 19) (.len (.var 2))))] (.split (.cmp .lt (.var 23) (.len (.var 3))) (.ob (.cmp .le (.lit 0) (.var 23)) (.ob (.cmp .lt (.var 23) (.len (.var 3))) (.arr [[(.int (.min (.cell (.var 3) (.var 23) 0) (.var 0)))]] (.ob (.cmp .le (.mul (.add (.len (.var 22)) (.len (.var 25))) (.lit 8)) (.lit 140737488355328)) (.cat (.var 22) (.var 25) (.back 3 [(.cnt 2 (.var 26)), (.int (.add (.var 23) (.lit 1))), (.bool (.cmp .lt (.var 23) (.len (.var 3))))])))))) (.dfn .nil (.loop [(.vec 2), .int, .bool] [(.cnt 2 (.var 22)), (.int (.lit 0)), (.bool (.cmp .lt (.var 23) (.len (.var 3))))] (.split (.cmp .lt (.var 27) (.len (.var 4))) (.ob (.cmp .le (.lit 0) (.var 27)) (.ob (.cmp .lt (.var 27) (.len (.var 4))) (.arr [[(.int (.min (.cell (.var 4) (.var 27) 0) (.var 0)))]] (.ob (.cmp .le (.mul (.add (.len (.var 26)) (.len (.var 29))) (.lit 8)) (.lit 140737488355328)) (.cat (.var 26) (.var 29) (.back 4 [(.cnt 2 (.var 30)), (.int (.add (.var 27) (.lit 1))), (.bool (.cmp .lt (.var 27) (.len (.var 4))))])))))) (.loop [(.vec 2), .int] [(.cnt 2 (.var 26)), (.int (.lit 0))] (.split (.cmp .lt (.var 30) (.len (.var 7))) (.ob (.cmp .le (.lit 0) (.var 30)) (.ob (.cmp .lt (.var 30) (.len (.var 7))) (.arr [[(.int (.cell (.var 7) (.var 30) 1))]] (.ob (.cmp .le (.mul (.add (.len (.var 29)) (.len (.var 31))) (.lit 8)) (.lit 140737488355328)) (.cat (.var 29) (.var 31) (.back 5 [(.cnt 2 (.var 32)), (.int (.add (.var 30) (.lit 1)))])))))) (.back 0 [(.cnt 2 (.var 29))])))))))))))))))))))))
end Go.Proofs.Ytcglpbchejkolaa
/- Earth: the depths: plain laws of lists. -/
namespace Go.Proofs.Ytcglpbchejkolaa
open Go.RowKit
set_option linter.unusedSimpArgs false
set_option linter.unusedVariables false

/-- Strictly ascending. -/
def SA (l : List Int) : Prop := l.Pairwise (· < ·)
theorem insD_mem {x y : Int} : ∀ {l : List Int}, y ∈ insD x l ↔ y = x ∨ y ∈ l
  | [] => by simp [insD]
  | z :: l => by
    unfold insD
    split
    · simp
    · split
      · rename_i h; subst h; simp
      · have := insD_mem (x := x) (y := y) (l := l)
        simp only [List.mem_cons, this]
        constructor
        · rintro (h | h | h) <;> simp [h]
        · rintro (h | h | h) <;> simp [h]
theorem insD_asc {x : Int} : ∀ {l : List Int}, SA l → SA (insD x l)
  | [], _ => by simp [insD, SA]
  | z :: l, h => by
    unfold SA at h ⊢
    rw [List.pairwise_cons] at h
    unfold insD
    split
    · rename_i hx
      rw [List.pairwise_cons, List.pairwise_cons]
      exact ⟨fun y hy => by rcases List.mem_cons.1 hy with rfl | hy; exact hx; exact Int.lt_trans hx (h.1 y hy), h⟩
    · split
      · rw [List.pairwise_cons]; exact h
      · rename_i h1 h2
        rw [List.pairwise_cons]
        refine ⟨fun y hy => ?_, insD_asc h.2⟩
        rcases insD_mem.1 hy with rfl | hy
        · omega
        · exact h.1 y hy
theorem foldD_spec : ∀ (l a : List Int), SA a → SA (l.foldl (fun a x => insD x a) a) ∧ ∀ y, y ∈ l.foldl (fun a x => insD x a) a ↔ y ∈ a ∨ y ∈ l
  | [], a, h => ⟨h, fun y => by simp⟩
  | x :: l, a, h => by
    obtain ⟨h1, h2⟩ := foldD_spec l (insD x a) (insD_asc h)
    refine ⟨h1, fun y => ?_⟩
    rw [List.foldl_cons, h2, insD_mem, List.mem_cons]
    constructor
    · rintro ((h | h) | h) <;> simp [h]
    · rintro (h | h | h) <;> simp [h]
theorem sortD_asc (l : List Int) : SA (sortD l) := (foldD_spec l [] List.Pairwise.nil).1
theorem sortD_mem {l : List Int} {y : Int} : y ∈ sortD l ↔ y ∈ l := by
  have := (foldD_spec l [] List.Pairwise.nil).2 y
  unfold sortD
  rw [this]; simp
theorem asc_unique : ∀ {a b : List Int}, SA a → SA b → (∀ y, y ∈ a ↔ y ∈ b) → a = b
  | [], [], _, _, _ => rfl
  | [], y :: b, _, _, h => by have := (h y).2 (by simp); cases this
  | x :: a, [], _, _, h => by have := (h x).1 (by simp); cases this
  | x :: a, y :: b, ha, hb, h => by
    have ha' := List.pairwise_cons.1 ha
    have hb' := List.pairwise_cons.1 hb
    have e : x = y := by
      have h1 := (h x).1 (by simp)
      have h2 := (h y).2 (by simp)
      rcases List.mem_cons.1 h1 with h1 | h1
      · exact h1
      · rcases List.mem_cons.1 h2 with h2 | h2
        · exact h2.symm
        · have := hb'.1 x h1; have := ha'.1 y h2; omega
    subst e
    rw [asc_unique ha'.2 hb'.2 fun z => ?_]
    constructor
    · intro hz
      rcases List.mem_cons.1 ((h z).1 (by simp [hz])) with e | hz'
      · subst e; have := ha'.1 z hz; omega
      · exact hz'
    · intro hz
      rcases List.mem_cons.1 ((h z).2 (by simp [hz])) with e | hz'
      · subst e; have := hb'.1 z hz; omega
      · exact hz'
/-! slices.Compact of a sorted list -/
theorem compUp_spec {d : Array Int} (hd : ∀ i j, i < j → j < d.size → d[i]! ≤ d[j]!) : ∀ m, m ≤ d.size → SA (Lib.compactUpTo d m) ∧ (∀ y, y ∈ Lib.compactUpTo d m ↔ ∃ j, j < m ∧ d[j]! = y)
  | 0, _ => ⟨List.Pairwise.nil, fun y => by simp [Lib.compactUpTo]⟩
  | m + 1, hm => by
    obtain ⟨h1, h2⟩ := compUp_spec hd m (by omega)
    rw [Lib.compactUpTo_succ]
    by_cases hk : Lib.keeps d m = true
    · rw [if_pos hk]
      have hk' := of_decide_eq_true hk
      refine ⟨?_, fun y => ?_⟩
      · unfold SA at h1 ⊢
        rw [List.pairwise_append]
        refine ⟨h1, by simp, fun x hx y hy => ?_⟩
        rw [List.mem_singleton] at hy
        subst hy
        obtain ⟨j, hj, rfl⟩ := (h2 x).1 hx
        have hne : d[m]! ≠ d[m - 1]! := by
          rcases hk' with h | h
          · omega
          · exact h
        have a1 : d[j]! ≤ d[m - 1]! := by
          rcases Nat.lt_or_ge j (m - 1) with h | h
          · exact hd _ _ h (by omega)
          · rw [show j = m - 1 by omega]; exact Int.le_refl _
        have a2 := hd (m - 1) m (by omega) (by omega)
        omega
      · rw [List.mem_append, h2, List.mem_singleton]
        constructor
        · rintro (⟨j, hj, e⟩ | e)
          · exact ⟨j, by omega, e⟩
          · exact ⟨m, by omega, e.symm⟩
        · rintro ⟨j, hj, e⟩
          rcases Nat.lt_or_ge j m with h | h
          · exact .inl ⟨j, h, e⟩
          · exact .inr (by rw [← e, show j = m by omega])
    · rw [if_neg hk, List.append_nil]
      refine ⟨h1, fun y => ?_⟩
      have hk' : ¬ (m = 0 ∨ d[m]! ≠ d[m - 1]!) := fun h => hk (decide_eq_true h)
      have e0 : d[m]! = d[m - 1]! := Classical.byContradiction fun h => hk' (.inr h)
      have m0 : m ≠ 0 := fun h => hk' (.inl h)
      rw [h2]
      constructor
      · rintro ⟨j, hj, e⟩; exact ⟨j, by omega, e⟩
      · rintro ⟨j, hj, e⟩
        rcases Nat.lt_or_ge j m with h | h
        · exact ⟨j, h, e⟩
        · exact ⟨m - 1, by omega, by rw [← e, show j = m by omega, e0]⟩
theorem compact_sorted {zs : List Int} (h : zs.Pairwise (· ≤ ·)) : SA (Lib.compact zs) ∧ ∀ y, y ∈ Lib.compact zs ↔ y ∈ zs := by
  have hget : ∀ i, i < zs.length → zs.toArray[i]! = zs.getD i 0 := fun i hi => by simp [getElem!_pos, hi]
  have hd : ∀ i j, i < j → j < zs.toArray.size → zs.toArray[i]! ≤ zs.toArray[j]! := fun i j hij hj => by
    have hj' : j < zs.length := by simpa using hj
    rw [hget i (by omega), hget j hj']
    have := List.pairwise_iff_getElem.1 h i j (by omega) hj' hij
    simpa [List.getD_eq_getElem?_getD, List.getElem?_eq_getElem, hj', show i < zs.length by omega] using this
  obtain ⟨h1, h2⟩ := compUp_spec hd zs.length (by simp)
  refine ⟨h1, fun y => ?_⟩
  unfold Lib.compact
  rw [h2]
  constructor
  · rintro ⟨j, hj, rfl⟩
    have : zs.toArray[j]! = zs[j] := by simp [getElem!_pos, hj]
    rw [this]; exact List.getElem_mem _
  · intro hy
    obtain ⟨j, hj, e⟩ := List.getElem_of_mem hy
    exact ⟨j, hj, by rw [← e]; simp [getElem!_pos, hj]⟩
theorem sorted_merge (zs : List Int) : (zs.mergeSort fun x y => decide (x ≤ y)).Pairwise (· ≤ ·) := by
  have := List.pairwise_mergeSort (le := fun (x y : Int) => decide (x ≤ y)) (fun a b c h1 h2 => decide_eq_true (Int.le_trans (of_decide_eq_true h1) (of_decide_eq_true h2))) (fun a b => by
    rcases Int.le_total a b with h | h
    · simp [h]
    · simp [h]) zs
  exact this.imp fun h => of_decide_eq_true h
/-- What the program's sorting comes to. -/
theorem compact_merge {zs l : List Int} (h : ∀ y, y ∈ zs ↔ y ∈ l) : Lib.compact (zs.mergeSort fun x y => decide (x ≤ y)) = sortD l := by
  obtain ⟨h1, h2⟩ := compact_sorted (sorted_merge zs)
  refine asc_unique h1 (sortD_asc l) fun y => ?_
  rw [h2, sortD_mem, (List.mergeSort_perm zs _).mem_iff]
  exact h y
/-! Raw depths -/
theorem raw_same {b : Int} (b0 : 0 ≤ b) {ls : List (List Kn)} (l : List Int) (y : Int) : y ∈ [0, b] ++ minAll b ls ++ l ↔ y ∈ [0, b] ++ lowAll b ls ++ l := by
  have hm : ∀ y, y ∈ minAll b ls ↔ ∃ k, (∃ q ∈ ls, k ∈ q) ∧ y = min k.1 b := fun y => by
    unfold minAll minAt
    rw [List.mem_flatMap]
    constructor
    · rintro ⟨q, hq, hy⟩
      obtain ⟨k, hk, e⟩ := List.mem_map.1 hy
      exact ⟨k, ⟨q, hq, hk⟩, e.symm⟩
    · rintro ⟨k, ⟨q, hq, hk⟩, e⟩
      exact ⟨q, hq, List.mem_map.2 ⟨k, hk, e.symm⟩⟩
  have hl : ∀ y, y ∈ lowAll b ls ↔ ∃ k, (∃ q ∈ ls, k ∈ q) ∧ k.1 ≤ b ∧ y = k.1 := fun y => by
    unfold lowAll lowAt
    rw [List.mem_flatMap]
    constructor
    · rintro ⟨q, hq, hy⟩
      obtain ⟨k, hk, e⟩ := List.mem_map.1 hy
      obtain ⟨h1, h2⟩ := List.mem_filter.1 hk
      exact ⟨k, ⟨q, hq, h1⟩, of_decide_eq_true h2, e.symm⟩
    · rintro ⟨k, ⟨q, hq, hk⟩, h2, e⟩
      exact ⟨q, hq, List.mem_map.2 ⟨k, List.mem_filter.2 ⟨hk, decide_eq_true h2⟩, e.symm⟩⟩
  simp only [List.mem_append, hm, hl]
  constructor
  · rintro ((h | ⟨k, hk, e⟩) | h)
    · exact .inl (.inl h)
    · by_cases hb : k.1 ≤ b
      · exact .inl (.inr ⟨k, hk, hb, by omega⟩)
      · exact .inl (.inl (by simp; omega))
    · exact .inr h
  · rintro ((h | ⟨k, hk, hb, e⟩) | h)
    · exact .inl (.inl h)
    · exact .inl (.inr ⟨k, hk, by omega⟩)
    · exact .inr h
theorem depths_mem {e : Ear} {y : Int} : y ∈ depthsV e ↔ y = 0 ∨ y = e.bottom ∨ (∃ q ∈ e.lines, ∃ k ∈ q, k.1 ≤ e.bottom ∧ y = k.1) ∨ ∃ r ∈ e.reps, y = r.z := by
  unfold depthsV rawR
  rw [sortD_mem, List.mem_append, List.mem_append]
  unfold lowAll lowAt
  simp only [List.mem_cons, List.not_mem_nil, or_false, List.mem_flatMap, List.mem_map, List.mem_filter, decide_eq_true_eq]
  constructor
  · rintro (((h | h) | ⟨q, hq, k, ⟨hk, hb⟩, e⟩) | ⟨r, hr, e⟩)
    · exact .inl h
    · exact .inr (.inl h)
    · exact .inr (.inr (.inl ⟨q, hq, k, hk, hb, e.symm⟩))
    · exact .inr (.inr (.inr ⟨r, hr, e.symm⟩))
  · rintro (h | h | ⟨q, hq, k, hk, hb, e⟩ | ⟨r, hr, e⟩)
    · exact .inl (.inl (.inl h))
    · exact .inl (.inl (.inr h))
    · exact .inl (.inr ⟨q, hq, k, ⟨hk, hb⟩, e.symm⟩)
    · exact .inr ⟨r, hr, e.symm⟩
end Go.Proofs.Ytcglpbchejkolaa
/- Earth: the values of a line, part by part: plain laws. -/
namespace Go.Proofs.Ytcglpbchejkolaa
open Go.RowKit
set_option linter.unusedSimpArgs false
set_option linter.unusedVariables false

def segR (p q : Kn) (y : Int) : Kn := (p.2 + (q.2 - p.2) * (y - p.1) / (q.1 - p.1), p.2 + -(-((q.2 - p.2) * (y - p.1)) / (q.1 - p.1)))
def le2 (p q : Kn) : Prop := p.1 ≤ q.1 ∧ p.2 ≤ q.2
theorem rangeP_knot {ks : List Kn} (ha : Asc ks) {k : Kn} (hk : k ∈ ks) : rangeP ks k.1 = (k.2, k.2) := by
  unfold rangeP
  rw [valP_knot ha hk]
  show (k.2, k.2 + min 0 1) = _
  rw [show k.2 + min (0 : Int) 1 = k.2 by omega]
theorem val_mid {ks : List Kn} (ha : Asc ks) {i : Nat} (h1 : 0 < i) (h2 : i < ks.length) {y : Int} (hy : (ks.getD (i - 1) (0, 0)).1 ≤ y) (hy2 : y ≤ (ks.getD i (0, 0)).1) :
    rangeP ks y = segR (ks.getD (i - 1) (0, 0)) (ks.getD i (0, 0)) y := by
  have hlt := ha.lt (i := i - 1) (j := i) (by omega) h2
  have hp := getD_mem (l := ks) (i := i - 1) (by omega) (0, 0)
  have hq := getD_mem (l := ks) (i := i) h2 (0, 0)
  have hbefore : ∀ k < i, (ks.getD (i - 1) (0, 0)).1 < y → (ks.getD k (0, 0)).1 < y := fun k hk h => by
    rcases Nat.lt_or_ge k (i - 1) with h3 | h3
    · have := ha.lt (i := k) (j := i - 1) h3 (by omega); omega
    · rw [show k = i - 1 by omega]; exact h
  have hafter : ∀ k, i ≤ k → k < ks.length → y ≤ (ks.getD k (0, 0)).1 := fun k h3 h4 => by
    rcases Nat.lt_or_ge i k with h5 | h5
    · have := ha.lt (i := i) (j := k) h5 h4; omega
    · rw [show k = i by omega]; exact hy2
  by_cases e1 : (ks.getD (i - 1) (0, 0)).1 = y
  · rw [← e1, rangeP_knot ha hp]
    unfold segR
    rw [Int.sub_self, Int.mul_zero, Int.neg_zero, Int.zero_ediv]
    simp
  by_cases e2 : (ks.getD i (0, 0)).1 = y
  · rw [← e2, rangeP_knot ha hq]
    unfold segR
    rw [← Int.neg_mul, Int.mul_ediv_cancel _ (by omega), Int.mul_ediv_cancel _ (by omega)]
    ext <;> simp <;> omega
  have hf := findV_at (ks := ks) (by intro e; rw [e] at h2; simp at h2) (x := y) (i := i) (by omega) (fun k hk => hbefore k hk (by omega)) hafter
  rw [if_neg (fun h => e2 h.2), show min i (ks.length - 1) = i by omega] at hf
  unfold rangeP valP partAt
  rw [hf]
  generalize ks.getD (i - 1) (0, 0) = p at *
  generalize ks.getD i (0, 0) = q at *
  rw [if_neg (fun h : p = q => by rw [h] at hlt; omega)]
  unfold segR segP
  rw [ceil_law (by omega)]
  simp only [Int.add_assoc]
theorem val_low {ks : List Kn} (ha : Asc ks) (h0 : 0 < ks.length) {y : Int} (hy : y ≤ (ks.getD 0 (0, 0)).1) : rangeP ks y = ((ks.getD 0 (0, 0)).2, (ks.getD 0 (0, 0)).2) := by
  have hf := findV_at (ks := ks) (by intro e; rw [e] at h0; simp at h0) (x := y) (i := 0) (by omega) (fun k hk => by omega) (fun k _ h4 => by
    rcases Nat.eq_zero_or_pos k with h5 | h5
    · rw [h5]; exact hy
    · have := ha.lt (i := 0) (j := k) h5 h4; omega)
  have hf : findV ks y = (ks.getD 0 (0, 0), ks.getD 0 (0, 0)) := by rw [hf]; split <;> simp
  unfold rangeP valP partAt
  rw [hf, if_pos rfl]
  show ((ks.getD 0 (0, 0)).2, (ks.getD 0 (0, 0)).2 + min 0 1) = _
  rw [show (ks.getD 0 (0, 0)).2 + min (0 : Int) 1 = (ks.getD 0 (0, 0)).2 by omega]
theorem val_high {ks : List Kn} (ha : Asc ks) (h0 : 0 < ks.length) {y : Int} (hy : (ks.getD (ks.length - 1) (0, 0)).1 ≤ y) : rangeP ks y = ((ks.getD (ks.length - 1) (0, 0)).2, (ks.getD (ks.length - 1) (0, 0)).2) := by
  by_cases e : (ks.getD (ks.length - 1) (0, 0)).1 = y
  · rw [← e, rangeP_knot ha (getD_mem (by omega) _)]
  have hf := findV_at (ks := ks) (by intro e; rw [e] at h0; simp at h0) (x := y) (i := ks.length) (by omega) (fun k hk => by
    rcases Nat.lt_or_ge k (ks.length - 1) with h5 | h5
    · have := ha.lt (i := k) (j := ks.length - 1) h5 (by omega); omega
    · rw [show k = ks.length - 1 by omega]; omega) (fun k h3 h4 => by omega)
  rw [if_neg (fun h => by omega), show min ks.length (ks.length - 1) = ks.length - 1 by omega] at hf
  unfold rangeP valP partAt
  rw [hf, if_pos rfl]
  show ((ks.getD (ks.length - 1) (0, 0)).2, (ks.getD (ks.length - 1) (0, 0)).2 + min 0 1) = _
  rw [show (ks.getD (ks.length - 1) (0, 0)).2 + min (0 : Int) 1 = (ks.getD (ks.length - 1) (0, 0)).2 by omega]
theorem segR_up {p q : Kn} (h : p.1 < q.1) (hd : p.2 ≤ q.2) {x y : Int} (hxy : x ≤ y) : le2 (segR p q x) (segR p q y) := by
  have m : (q.2 - p.2) * (x - p.1) ≤ (q.2 - p.2) * (y - p.1) := Int.mul_le_mul_of_nonneg_left (by omega) (by omega)
  have a1 := Int.ediv_le_ediv (show 0 < q.1 - p.1 by omega) m
  have a2 := Int.ediv_le_ediv (show 0 < q.1 - p.1 by omega) (Int.neg_le_neg m)
  exact ⟨by show p.2 + _ ≤ p.2 + _; omega, by show p.2 + -_ ≤ p.2 + -_; omega⟩
theorem segR_down {p q : Kn} (h : p.1 < q.1) (hd : q.2 ≤ p.2) {x y : Int} (hxy : x ≤ y) : le2 (segR p q y) (segR p q x) := by
  have m : (q.2 - p.2) * (y - p.1) ≤ (q.2 - p.2) * (x - p.1) := Int.mul_le_mul_of_nonpos_left (by omega) (by omega)
  have a1 := Int.ediv_le_ediv (show 0 < q.1 - p.1 by omega) m
  have a2 := Int.ediv_le_ediv (show 0 < q.1 - p.1 by omega) (Int.neg_le_neg m)
  exact ⟨by show p.2 + _ ≤ p.2 + _; omega, by show p.2 + -_ ≤ p.2 + -_; omega⟩
/-- A part on which a line goes one way. -/
def Mono (ks : List Kn) (a b : Int) : Prop :=
  (∀ x y, a ≤ x → x ≤ y → y ≤ b → le2 (rangeP ks x) (rangeP ks y)) ∨ (∀ x y, a ≤ x → x ≤ y → y ≤ b → le2 (rangeP ks y) (rangeP ks x))
/-- Within a part each place lies in a smaller one, between knots or the part's ends, on which the line goes one way. -/
theorem piece {ks : List Kn} (ha : Asc ks) (h0 : 0 < ks.length) {u w x : Int} (hu : u ≤ x) (hw : x ≤ w) : ∃ a b, u ≤ a ∧ a ≤ x ∧ x ≤ b ∧ b ≤ w ∧ Mono ks a b ∧ (a = u ∨ ∃ k ∈ ks, k.1 = a) ∧ (b = w ∨ ∃ k ∈ ks, k.1 = b) := by
  have conc : ∀ {v : Int}, le2 (v, v) (v, v) := ⟨Int.le_refl _, Int.le_refl _⟩
  obtain ⟨i, hi, h1, h2⟩ := split_at ha x
  by_cases e0 : i = 0
  · subst e0
    have hx := h2 0 (Nat.le_refl _) h0
    by_cases hb : (ks.getD 0 (0, 0)).1 ≤ w
    · exact ⟨u, (ks.getD 0 (0, 0)).1, Int.le_refl _, hu, hx, hb, .inl fun y z _ h4 h5 => by rw [val_low ha h0 (by omega), val_low ha h0 h5]; exact conc, .inl rfl, .inr ⟨_, getD_mem h0 _, rfl⟩⟩
    · exact ⟨u, w, Int.le_refl _, hu, hw, Int.le_refl _, .inl fun y z _ h4 h5 => by rw [val_low ha h0 (by omega), val_low ha h0 (by omega)]; exact conc, .inl rfl, .inl rfl⟩
  have hp := h1 (i - 1) (by omega)
  have lo : ∃ a, u ≤ a ∧ a ≤ x ∧ (ks.getD (i - 1) (0, 0)).1 ≤ a ∧ (a = u ∨ ∃ k ∈ ks, k.1 = a) := by
    by_cases h : u ≤ (ks.getD (i - 1) (0, 0)).1
    · exact ⟨_, h, by omega, Int.le_refl _, .inr ⟨_, getD_mem (by omega) _, rfl⟩⟩
    · exact ⟨u, Int.le_refl _, hu, by omega, .inl rfl⟩
  obtain ⟨a, a1, a2, a3, a4⟩ := lo
  by_cases e1 : i = ks.length
  · subst e1
    exact ⟨a, w, a1, a2, hw, Int.le_refl _, .inl fun y z h3 h4 _ => by rw [val_high ha h0 (by omega), val_high ha h0 (by omega)]; exact conc, a4, .inl rfl⟩
  have hq := h2 i (Nat.le_refl _) (by omega)
  have hlt := ha.lt (i := i - 1) (j := i) (by omega) (by omega)
  have hi' : ∃ b, x ≤ b ∧ b ≤ w ∧ b ≤ (ks.getD i (0, 0)).1 ∧ (b = w ∨ ∃ k ∈ ks, k.1 = b) := by
    by_cases h : (ks.getD i (0, 0)).1 ≤ w
    · exact ⟨_, hq, h, Int.le_refl _, .inr ⟨_, getD_mem (by omega) _, rfl⟩⟩
    · exact ⟨w, hw, Int.le_refl _, by omega, .inl rfl⟩
  obtain ⟨b, b1, b2, b3, b4⟩ := hi'
  refine ⟨a, b, a1, a2, b1, b2, ?_, a4, b4⟩
  clear a4 b4
  rcases Int.le_total (ks.getD (i - 1) (0, 0)).2 (ks.getD i (0, 0)).2 with hd | hd
  · left
    intro y z h3 h4 h5
    rw [val_mid ha (i := i) (y := y) (by omega) (by omega) (by omega) (by omega), val_mid ha (i := i) (y := z) (by omega) (by omega) (by omega) (by omega)]
    exact segR_up hlt hd h4
  · right
    intro y z h3 h4 h5
    rw [val_mid ha (i := i) (y := y) (by omega) (by omega) (by omega) (by omega), val_mid ha (i := i) (y := z) (by omega) (by omega) (by omega) (by omega)]
    exact segR_down hlt hd h4
end Go.Proofs.Ytcglpbchejkolaa
/- Earth: the least and the greatest value of a part enclose all, and are among them: plain laws. -/
namespace Go.Proofs.Ytcglpbchejkolaa
open Go.RowKit
set_option linter.unusedSimpArgs false
set_option linter.unusedVariables false

section
variable {ks : List Kn} (hr : rightB ks = true) {a b : Int} (hab : a ≤ b)
include hr hab
end
end Go.Proofs.Ytcglpbchejkolaa
/- Earth: the earth made of numbers: its lines are lines. -/
namespace Go.Proofs.Ytcglpbchejkolaa
open Go.RowKit
set_option linter.unusedSimpArgs false
set_option linter.unusedVariables false

theorem shift_len (off : List Int) (up : Bool) : ∀ (l : List Kn) (i : Int), (shiftGo off up i l).length = l.length
  | [], i => rfl
  | k :: l, i => by rw [shiftGo, List.length_cons, List.length_cons, shift_len off up l]
theorem shift_asc (off : List Int) (up : Bool) : ∀ {l : List Kn} {i : Int}, Asc l → Asc (shiftGo off up i l)
  | [], i, _ => .nil
  | [k], i, _ => .one _
  | k :: k' :: l, i, .cons h ht => .cons h (shift_asc off up (i := i + 1) ht)
theorem shift_box {off : List Int} {up : Bool} {A V : Int} : ∀ {l : List Kn} {i : Int}, (∀ k ∈ l, 0 ≤ k.1 ∧ k.1 ≤ A ∧ 0 ≤ k.2 ∧ k.2 ≤ V) → ∀ k ∈ shiftGo off up i l, 0 ≤ k.1 ∧ k.1 ≤ A ∧ 0 ≤ k.2 ∧ k.2 ≤ V + 40000000
  | [], i, _, k, hk => by cases hk
  | x :: l, i, h, k, hk => by
    rw [shiftGo] at hk
    rcases List.mem_cons.1 hk with rfl | hk
    · have hx := h x (by simp)
      have hp := Int.emod_nonneg (pickV off i) (b := 40000000) (by decide)
      have hp' := Int.emod_lt_of_pos (pickV off i) (b := 40000000) (by decide)
      refine ⟨hx.1, hx.2.1, ?_⟩
      show 0 ≤ (if up = true then x.2 + pickV off i % 40000000 else max 0 (x.2 - pickV off i % 40000000)) ∧ (if up = true then x.2 + pickV off i % 40000000 else max 0 (x.2 - pickV off i % 40000000)) ≤ V + 40000000
      split <;> omega
    · exact shift_box (fun k hk => h k (by simp [hk])) k hk
theorem shift_line {off : List Int} {up : Bool} {l : List Kn} {i : Int} (h0 : l ≠ []) (h1 : l.length ≤ 6) (ha : Asc l) (hb : ∀ k ∈ l, 0 ≤ k.1 ∧ k.1 ≤ 500000 ∧ 0 ≤ k.2 ∧ k.2 ≤ 15021000000) : lineE (shiftGo off up i l) = 0 :=
  lineE_of (fun e => h0 (List.length_eq_zero_iff.1 (by rw [← shift_len off up l i, e]; rfl))) (by rw [shift_len]; omega) (shift_asc off up ha) fun k hk => by have := shift_box hb k hk; omega
theorem tp_box' (g : Gr) : ∀ k ∈ tpV g, 0 ≤ k.1 ∧ k.1 ≤ 500000 ∧ 0 ≤ k.2 ∧ k.2 ≤ 15021000000 := fun k hk => by have := tp_box g k hk; omega
theorem known_pl (g : Gr) : lineE (knownV g).pl = 0 := shift_line (tp_rise g).ne (tp_len g) (tp_rise g).asc (tp_box' g)
theorem known_ph (g : Gr) : lineE (knownV g).ph = 0 := shift_line (tp_rise g).ne (tp_len g) (tp_rise g).asc (tp_box' g)
theorem known_fl (g : Gr) : lineE (knownV g).fl = 0 := shift_line (tf_rise g).ne (tf_len g) (tf_rise g).asc (tf_box g)
theorem known_fh (g : Gr) : lineE (knownV g).fh = 0 := shift_line (tf_rise g).ne (tf_len g) (tf_rise g).asc (tf_box g)
end Go.Proofs.Ytcglpbchejkolaa
/- Earth: bounds of a line's values; one cm's step of what a point allows. -/
namespace Go.Proofs.Ytcglpbchejkolaa
open Go.RowKit
set_option linter.unusedSimpArgs false
set_option linter.unusedVariables false

theorem range_box {ks : List Kn} (ha : Asc ks) (h0 : 0 < ks.length) {lo hi : Int} (hb : ∀ k ∈ ks, lo ≤ k.2 ∧ k.2 ≤ hi) (x : Int) : lo ≤ (rangeP ks x).1 ∧ (rangeP ks x).1 ≤ hi ∧ lo ≤ (rangeP ks x).2 ∧ (rangeP ks x).2 ≤ hi := by
  obtain ⟨i, hi', h1, h2⟩ := split_at ha x
  by_cases e0 : i = 0
  · subst e0
    rw [val_low ha h0 (h2 0 (Nat.le_refl _) h0)]
    have := hb _ (getD_mem h0 (0, 0))
    exact ⟨this.1, this.2, this.1, this.2⟩
  have hp := h1 (i - 1) (by omega)
  by_cases e1 : i = ks.length
  · rw [val_high ha h0 (by rw [← e1]; omega)]
    have := hb _ (getD_mem (l := ks) (i := ks.length - 1) (by omega) (0, 0))
    exact ⟨this.1, this.2, this.1, this.2⟩
  have hq := h2 i (Nat.le_refl _) (by omega)
  have hlt := ha.lt (i := i - 1) (j := i) (by omega) (by omega)
  have mp := getD_mem (l := ks) (i := i - 1) (by omega) (0, 0)
  have mq := getD_mem (l := ks) (i := i) (by omega) (0, 0)
  have kp := rangeP_knot ha mp
  have kq := rangeP_knot ha mq
  rw [val_mid ha (i := i) (by omega) (by omega) (Int.le_refl _) (by omega)] at kp
  rw [val_mid ha (i := i) (by omega) (by omega) (by omega) (Int.le_refl _)] at kq
  rw [val_mid ha (i := i) (by omega) (by omega) (by omega) hq]
  have bp := hb _ mp
  have bq := hb _ mq
  rcases Int.le_total (ks.getD (i - 1) (0, 0)).2 (ks.getD i (0, 0)).2 with hd | hd
  · have u1 := segR_up hlt hd (show (ks.getD (i - 1) (0, 0)).1 ≤ x by omega)
    have u2 := segR_up hlt hd hq
    rw [kp] at u1
    rw [kq] at u2
    obtain ⟨a1, a2⟩ := u1
    obtain ⟨a3, a4⟩ := u2
    exact ⟨Int.le_trans bp.1 a1, Int.le_trans a3 bq.2, Int.le_trans bp.1 a2, Int.le_trans a4 bq.2⟩
  · have u1 := segR_down hlt hd (show (ks.getD (i - 1) (0, 0)).1 ≤ x by omega)
    have u2 := segR_down hlt hd hq
    rw [kp] at u1
    rw [kq] at u2
    obtain ⟨a1, a2⟩ := u1
    obtain ⟨a3, a4⟩ := u2
    exact ⟨Int.le_trans bq.1 a3, Int.le_trans a1 bp.2, Int.le_trans bq.1 a4, Int.le_trans a2 bp.2⟩
end Go.Proofs.Ytcglpbchejkolaa
/- Earth: one cm's step of a line that goes up. -/
namespace Go.Proofs.Ytcglpbchejkolaa
open Go.RowKit
set_option linter.unusedSimpArgs false
set_option linter.unusedVariables false

theorem Rise.slope {gl gh B : Int} : ∀ {l : List Kn}, Rise gl gh B l → ∀ {i : Nat}, 0 < i → i < l.length → gl * ((l.getD i (0, 0)).1 - (l.getD (i - 1) (0, 0)).1) ≤ (l.getD i (0, 0)).2 - (l.getD (i - 1) (0, 0)).2 ∧ (l.getD i (0, 0)).2 - (l.getD (i - 1) (0, 0)).2 ≤ gh * ((l.getD i (0, 0)).1 - (l.getD (i - 1) (0, 0)).1)
  | [], h, i, h1, h2 => by cases h
  | [k], h, i, h1, h2 => by simp at h2; omega
  | (a, v) :: (a', v') :: l, h, i, h1, h2 => by
    cases h with
    | cons ha hB g1 g2 ht =>
      match i, h1, h2 with
      | 1, _, _ => exact ⟨g1, g2⟩
      | i + 2, _, h2 => exact ht.slope (i := i + 1) (by omega) (by simpa using h2)
theorem segR_step {p q : Kn} {gl gh z : Int} (h : p.1 < q.1) (h1 : gl * (q.1 - p.1) ≤ q.2 - p.2) (h2 : q.2 - p.2 ≤ gh * (q.1 - p.1)) :
    ((segR p q z).1 + gl ≤ (segR p q (z + 1)).1 ∧ (segR p q (z + 1)).1 ≤ (segR p q z).1 + gh) ∧ (segR p q z).2 + gl ≤ (segR p q (z + 1)).2 ∧ (segR p q (z + 1)).2 ≤ (segR p q z).2 + gh := by
  unfold segR
  have hL : 0 < q.1 - p.1 := by omega
  have e : (q.2 - p.2) * (z + 1 - p.1) = (q.2 - p.2) * (z - p.1) + (q.2 - p.2) := by rw [show z + 1 - p.1 = (z - p.1) + 1 by omega, Int.mul_add, Int.mul_one]
  rw [e]
  generalize (q.2 - p.2) * (z - p.1) = N at *
  generalize q.2 - p.2 = D at *
  generalize q.1 - p.1 = L at *
  have a1 := Int.ediv_le_ediv hL (show N + gl * L ≤ N + D by omega)
  have a2 := Int.ediv_le_ediv hL (show N + D ≤ N + gh * L by omega)
  have a3 := Int.ediv_le_ediv hL (show -(N + D) ≤ -N + -gl * L by rw [Int.neg_mul]; omega)
  have a4 := Int.ediv_le_ediv hL (show -N + -gh * L ≤ -(N + D) by rw [Int.neg_mul]; omega)
  rw [Int.add_mul_ediv_right _ _ (by omega)] at a1 a2 a3 a4
  simp only []
  omega
theorem Rise.step {gl gh B : Int} {l : List Kn} (h : Rise gl gh B l) (h0 : 0 ≤ gl) (hg : gl ≤ gh) (z : Int) : le2 (rangeP l z) (rangeP l (z + 1)) ∧ (rangeP l (z + 1)).1 ≤ (rangeP l z).1 + gh ∧ (rangeP l (z + 1)).2 ≤ (rangeP l z).2 + gh := by
  have ha := h.asc
  have hl : 0 < l.length := List.length_pos_iff.2 h.ne
  obtain ⟨i, hi, h1, h2⟩ := split_at ha (z + 1)
  by_cases e0 : i = 0
  · subst e0
    have := h2 0 (Nat.le_refl _) hl
    rw [val_low ha hl (y := z) (by omega), val_low ha hl this]
    exact ⟨⟨Int.le_refl _, Int.le_refl _⟩, by show _ ≤ _ + gh; omega, by show _ ≤ _ + gh; omega⟩
  have hp := h1 (i - 1) (by omega)
  by_cases e1 : i = l.length
  · rw [e1] at hp
    rw [val_high ha hl (y := z) (by omega), val_high ha hl (y := z + 1) (by omega)]
    exact ⟨⟨Int.le_refl _, Int.le_refl _⟩, by show _ ≤ _ + gh; omega, by show _ ≤ _ + gh; omega⟩
  have hq := h2 i (Nat.le_refl _) (by omega)
  have hlt := ha.lt (i := i - 1) (j := i) (by omega) (by omega)
  obtain ⟨s1, s2⟩ := h.slope (i := i) (by omega) (by omega)
  rw [val_mid ha (i := i) (y := z) (by omega) (by omega) (by omega) (by omega), val_mid ha (i := i) (y := z + 1) (by omega) (by omega) (by omega) (by omega)]
  obtain ⟨⟨b1, b2⟩, b3, b4⟩ := segR_step (z := z) hlt s1 s2
  exact ⟨⟨by omega, by omega⟩, b2, b4⟩
end Go.Proofs.Ytcglpbchejkolaa
/- Earth: the earth whose lines are a truth's: valid, and what its ranges do in one cm. -/
namespace Go.Proofs.Ytcglpbchejkolaa
open Go.RowKit
set_option linter.unusedSimpArgs false
set_option linter.unusedVariables false

theorem same_ab {u l : List Kn} (hu : Good u) (hl : Good l) (h1 : ∀ k ∈ u, ∃ k' ∈ l, k'.1 = k.1 ∧ k'.2 ≤ k.2) (h2 : ∀ k ∈ l, ∃ k' ∈ u, k'.1 = k.1 ∧ k.2 ≤ k'.2) (to : Int) : aboveV u l to = true := by
  rw [aboveV_iff hu hl]
  refine ⟨fun k hk => .inr ?_, fun k hk => .inr ?_⟩
  · obtain ⟨k', m, e, le⟩ := h1 k hk
    rw [← e, rangeP_knot hl.asc m]; exact le
  · obtain ⟨k', m, e, le⟩ := h2 k hk
    rw [← e, rangeP_knot hu.asc m]; exact le
theorem tf_over (g : Gr) : ∀ k ∈ tfV g, ∃ k' ∈ tpV g, k'.1 = k.1 ∧ k'.2 ≤ k.2 := fun k hk => by
  obtain ⟨x, hx, rfl⟩ := List.mem_map.1 hk
  exact ⟨(x.1, x.2.1), List.mem_map.2 ⟨x, hx, rfl⟩, rfl, (truthL_box g x hx).2.2.2.2.1⟩
theorem tp_under (g : Gr) : ∀ k ∈ tpV g, ∃ k' ∈ tfV g, k'.1 = k.1 ∧ k.2 ≤ k'.2 := fun k hk => by
  obtain ⟨x, hx, rfl⟩ := List.mem_map.1 hk
  exact ⟨(x.1, x.2.2), List.mem_map.2 ⟨x, hx, rfl⟩, rfl, (truthL_box g x hx).2.2.2.2.1⟩
theorem repV_in (g : Gr) (n : Int) : 1 ≤ (repV (tpV g) (tfV g) n).kind ∧ (repV (tpV g) (tfV g) n).kind ≤ 4 ∧ 0 ≤ (repV (tpV g) (tfV g) n).z ∧ (repV (tpV g) (tfV g) n).z ≤ bottomV g ∧ 0 ≤ (repV (tpV g) (tfV g) n).p ∧ (repV (tpV g) (tfV g) n).p ≤ 68719476736 := by
  have hB := bottomV_bd g
  have n0 := Int.emod_nonneg n (b := 1099511627776) (by decide)
  have n1 := Int.emod_lt_of_pos n (b := 1099511627776) (by decide)
  unfold repV
  rw [tp_end]
  generalize n % 1099511627776 = m at *
  have z0 := Int.emod_nonneg (m / 4) (b := bottomV g + 1) (by omega)
  have z1 := Int.emod_lt_of_pos (m / 4) (b := bottomV g + 1) (by omega)
  generalize m / 4 % (bottomV g + 1) = z at *
  have bp := range_box (tp_rise g).asc (List.length_pos_iff.2 (tp_rise g).ne) (fun k hk => (tp_box' g k hk).2.2) z
  have bf := range_box (tf_rise g).asc (List.length_pos_iff.2 (tf_rise g).ne) (fun k hk => (tf_box g k hk).2.2) z
  refine ⟨by show 1 ≤ 1 + m % 4; omega, by show 1 + m % 4 ≤ 4; omega, z0, by show z ≤ _; omega, ?_⟩
  simp only []
  split
  · omega
  · split
    · omega
    · split <;> omega
end Go.Proofs.Ytcglpbchejkolaa
/- Earth: lines compared everywhere: plain laws. -/
namespace Go.Proofs.Ytcglpbchejkolaa
open Go.RowKit
set_option linter.unusedSimpArgs false
set_option linter.unusedVariables false

theorem geP_iff {p q : Int × Int × Int} (p0 : 0 ≤ p.2.1) (p1 : p.2.1 < p.2.2) (q0 : 0 ≤ q.2.1) (q1 : q.2.1 < q.2.2) : geP p q = true ↔ (q.1 * q.2.2 + q.2.1) * p.2.2 ≤ (p.1 * p.2.2 + p.2.1) * q.2.2 := by
  obtain ⟨a, n, d⟩ := p
  obtain ⟨b, m, f⟩ := q
  simp only [] at p0 p1 q0 q1
  unfold geP
  simp only [Bool.or_eq_true, Bool.and_eq_true, decide_eq_true_eq, beq_iff_eq]
  have e1 : (b * f + m) * d = b * (d * f) + m * d := by rw [Int.add_mul, Int.mul_assoc, Int.mul_comm f d]
  have e2 : (a * d + n) * f = a * (d * f) + n * f := by rw [Int.add_mul, Int.mul_assoc]
  rw [e1, e2]
  have m0 : 0 ≤ m * d := Int.mul_nonneg q0 (by omega)
  have m1 : m * d < f * d := Int.mul_lt_mul_of_pos_right q1 (by omega)
  have n0 : 0 ≤ n * f := Int.mul_nonneg p0 (by omega)
  have n1 : n * f < d * f := Int.mul_lt_mul_of_pos_right p1 (by omega)
  have c : f * d = d * f := Int.mul_comm _ _
  have hdf : 0 ≤ d * f := Int.mul_nonneg (by omega) (by omega)
  rcases Int.lt_trichotomy b a with h | h | h
  · have := Int.mul_le_mul_of_nonneg_right (show b + 1 ≤ a by omega) hdf
    rw [Int.add_mul, Int.one_mul] at this
    exact ⟨fun _ => by omega, fun _ => .inl h⟩
  · subst h
    exact ⟨fun hh => by omega, fun hh => .inr ⟨rfl, by omega⟩⟩
  · have := Int.mul_le_mul_of_nonneg_right (show a + 1 ≤ b by omega) hdf
    rw [Int.add_mul, Int.one_mul] at this
    exact ⟨fun hh => by omega, fun hh => by omega⟩
/-- The value of a place is A / D. -/
def Is (t : Int × Int × Int) (A D : Int) : Prop := 0 < D ∧ 0 ≤ t.2.1 ∧ t.2.1 < t.2.2 ∧ (t.1 * t.2.2 + t.2.1) * D = A * t.2.2
theorem Is.ge {p q : Int × Int × Int} {A D B E : Int} (hp : Is p A D) (hq : Is q B E) : geP p q = true ↔ B * D ≤ A * E := by
  obtain ⟨d0, p0, p1, hp⟩ := hp
  obtain ⟨e0, q0, q1, hq⟩ := hq
  rw [geP_iff p0 p1 q0 q1]
  generalize p.1 * p.2.2 + p.2.1 = N at *
  generalize q.1 * q.2.2 + q.2.1 = M at *
  generalize p.2.2 = d at *
  generalize q.2.2 = f at *
  have k1 : M * d * (D * E) = B * D * (d * f) := by
    rw [show M * d * (D * E) = M * E * (D * d) by ac_rfl, hq]; ac_rfl
  have k2 : N * f * (D * E) = A * E * (d * f) := by
    rw [show N * f * (D * E) = N * D * (E * f) by ac_rfl, hp]; ac_rfl
  have p1 : 0 < D * E := Int.mul_pos d0 e0
  have p2 : 0 < d * f := Int.mul_pos (by omega) (by omega)
  constructor
  · intro h
    have := Int.mul_le_mul_of_nonneg_right h (Int.le_of_lt p1)
    rw [k1, k2] at this
    exact Int.le_of_mul_le_mul_right this p2
  · intro h
    have := Int.mul_le_mul_of_nonneg_right h (Int.le_of_lt p2)
    rw [← k1, ← k2] at this
    exact Int.le_of_mul_le_mul_right this p1
/-- What is at least another one has its ends at least there, too. -/
theorem geP_range {p q : Int × Int × Int} (hp : 0 ≤ p.2.1 ∧ p.2.1 < p.2.2) (hq : 0 ≤ q.2.1 ∧ q.2.1 < q.2.2) (h : geP p q = true) : q.1 ≤ p.1 ∧ q.1 + min q.2.1 1 ≤ p.1 + min p.2.1 1 := by
  unfold geP at h
  simp only [Bool.or_eq_true, Bool.and_eq_true, decide_eq_true_eq, beq_iff_eq] at h
  rcases h with h | ⟨h, h2⟩
  · omega
  · by_cases e : q.2.1 = 0
    · omega
    · have := Int.mul_pos (show 0 < q.2.1 by omega) (show 0 < p.2.2 by omega)
      have : 0 < p.2.1 := by
        rcases Int.lt_or_le 0 p.2.1 with h3 | h3
        · exact h3
        · have h4 : p.2.1 = 0 := by omega
          rw [h4, Int.zero_mul] at h2
          omega
      omega
/-! Values of a line, part by part, as fractions -/
theorem valP_low {ks : List Kn} (ha : Asc ks) (h0 : 0 < ks.length) {y : Int} (hy : y ≤ (ks.getD 0 (0, 0)).1) : valP ks y = ((ks.getD 0 (0, 0)).2, 0, 1) := by
  have hf := findV_at (ks := ks) (by intro e; rw [e] at h0; simp at h0) (x := y) (i := 0) (by omega) (fun k hk => by omega) (fun k _ h4 => by
    rcases Nat.eq_zero_or_pos k with h5 | h5
    · rw [h5]; exact hy
    · have := ha.lt (i := 0) (j := k) h5 h4; omega)
  have hf : findV ks y = (ks.getD 0 (0, 0), ks.getD 0 (0, 0)) := by rw [hf]; split <;> simp
  unfold valP partAt
  rw [hf, if_pos rfl]
theorem valP_high {ks : List Kn} (ha : Asc ks) (h0 : 0 < ks.length) {y : Int} (hy : (ks.getD (ks.length - 1) (0, 0)).1 ≤ y) : valP ks y = ((ks.getD (ks.length - 1) (0, 0)).2, 0, 1) := by
  by_cases e : (ks.getD (ks.length - 1) (0, 0)).1 = y
  · rw [← e, valP_knot ha (getD_mem (by omega) _)]
  have hf := findV_at (ks := ks) (by intro e; rw [e] at h0; simp at h0) (x := y) (i := ks.length) (by omega) (fun k hk => by
    rcases Nat.lt_or_ge k (ks.length - 1) with h5 | h5
    · have := ha.lt (i := k) (j := ks.length - 1) h5 (by omega); omega
    · rw [show k = ks.length - 1 by omega]; omega) (fun k h3 h4 => by omega)
  rw [if_neg (fun h => by omega), show min ks.length (ks.length - 1) = ks.length - 1 by omega] at hf
  unfold valP partAt
  rw [hf, if_pos rfl]
theorem Is.const (v x : Int) : Is (v, 0, 1) (v + 0 * x) 1 := by
  refine ⟨by decide, Int.le_refl _, by show (0 : Int) < 1; decide, ?_⟩
  simp
theorem Is_mid {ks : List Kn} (ha : Asc ks) {i : Nat} (h1 : 0 < i) (h2 : i < ks.length) {y : Int} (hy : (ks.getD (i - 1) (0, 0)).1 ≤ y) (hy2 : y ≤ (ks.getD i (0, 0)).1) :
    Is (valP ks y) ((ks.getD (i - 1) (0, 0)).2 * ((ks.getD i (0, 0)).1 - (ks.getD (i - 1) (0, 0)).1) - ((ks.getD i (0, 0)).2 - (ks.getD (i - 1) (0, 0)).2) * (ks.getD (i - 1) (0, 0)).1 + ((ks.getD i (0, 0)).2 - (ks.getD (i - 1) (0, 0)).2) * y) ((ks.getD i (0, 0)).1 - (ks.getD (i - 1) (0, 0)).1) := by
  have hlt := ha.lt (i := i - 1) (j := i) (by omega) h2
  have hp := getD_mem (l := ks) (i := i - 1) (by omega) (0, 0)
  have hq := getD_mem (l := ks) (i := i) h2 (0, 0)
  have hbefore : ∀ k < i, (ks.getD (i - 1) (0, 0)).1 < y → (ks.getD k (0, 0)).1 < y := fun k hk h => by
    rcases Nat.lt_or_ge k (i - 1) with h3 | h3
    · have := ha.lt (i := k) (j := i - 1) h3 (by omega); omega
    · rw [show k = i - 1 by omega]; exact h
  have hafter : ∀ k, i ≤ k → k < ks.length → y ≤ (ks.getD k (0, 0)).1 := fun k h3 h4 => by
    rcases Nat.lt_or_ge i k with h5 | h5
    · have := ha.lt (i := i) (j := k) h5 h4; omega
    · rw [show k = i by omega]; exact hy2
  by_cases e1 : (ks.getD (i - 1) (0, 0)).1 = y
  · rw [← e1, valP_knot ha hp]
    refine ⟨by omega, Int.le_refl _, by show (0 : Int) < 1; decide, ?_⟩
    simp only [Int.mul_one, Int.add_zero]
    omega
  by_cases e2 : (ks.getD i (0, 0)).1 = y
  · rw [← e2, valP_knot ha hq]
    refine ⟨by omega, Int.le_refl _, by show (0 : Int) < 1; decide, ?_⟩
    simp only [Int.mul_one, Int.add_zero]
    simp only [Int.mul_sub, Int.sub_mul]
    omega
  have hf := findV_at (ks := ks) (by intro e; rw [e] at h2; simp at h2) (x := y) (i := i) (by omega) (fun k hk => hbefore k hk (by omega)) hafter
  rw [if_neg (fun h => e2 h.2), show min i (ks.length - 1) = i by omega] at hf
  unfold valP partAt
  rw [hf]
  generalize ks.getD (i - 1) (0, 0) = p at *
  generalize ks.getD i (0, 0) = q at *
  rw [if_neg (fun h : p = q => by rw [h] at hlt; omega)]
  unfold segP
  have hL : 0 < q.1 - p.1 := by omega
  refine ⟨hL, Int.emod_nonneg _ (show q.1 - p.1 ≠ 0 by omega), Int.emod_lt_of_pos _ hL, ?_⟩
  simp only []
  refine congrArg (· * (q.1 - p.1)) ?_
  have e := Int.mul_ediv_add_emod ((q.2 - p.2) * (y - p.1)) (q.1 - p.1)
  have e3 : (q.2 - p.2) * (y - p.1) = (q.2 - p.2) * y - (q.2 - p.2) * p.1 := Int.mul_sub _ _ _
  rw [Int.add_mul, Int.mul_comm ((q.2 - p.2) * (y - p.1) / (q.1 - p.1)) (q.1 - p.1)]
  omega
/-- A part on which a line is straight. -/
def Aff (ks : List Kn) (a b : Int) : Prop := ∃ A M D : Int, ∀ x, a ≤ x → x ≤ b → Is (valP ks x) (A + M * x) D
theorem Aff.part {ks : List Kn} {a b a' b' : Int} (h : Aff ks a b) (h1 : a ≤ a') (h2 : b' ≤ b) : Aff ks a' b' := by
  obtain ⟨A, M, D, h⟩ := h
  exact ⟨A, M, D, fun x k1 k2 => h x (by omega) (by omega)⟩
theorem ge_between {u l : List Kn} {a b x : Int} (hu : Aff u a b) (hl : Aff l a b) (h1 : a ≤ x) (h2 : x ≤ b) (g1 : geP (valP u a) (valP l a) = true) (g2 : geP (valP u b) (valP l b) = true) : geP (valP u x) (valP l x) = true := by
  obtain ⟨A, M, D, hu⟩ := hu
  obtain ⟨B, N, E, hl⟩ := hl
  rw [(hu a (Int.le_refl _) (by omega)).ge (hl a (Int.le_refl _) (by omega))] at g1
  rw [(hu b (by omega) (Int.le_refl _)).ge (hl b (by omega) (Int.le_refl _))] at g2
  rw [(hu x h1 h2).ge (hl x h1 h2)]
  have e : ∀ y : Int, (A + M * y) * E - (B + N * y) * D = (A * E - B * D) + (M * E - N * D) * y := fun y => by
    rw [Int.add_mul, Int.add_mul, Int.sub_mul, show M * y * E = M * E * y by ac_rfl, show N * y * D = N * D * y by ac_rfl]; omega
  have ea := e a
  have eb := e b
  have ex := e x
  generalize A * E - B * D = F at *
  generalize M * E - N * D = S at *
  rcases Int.le_total 0 S with hs | hs
  · have := Int.mul_le_mul_of_nonneg_left h1 hs
    omega
  · have := Int.mul_le_mul_of_nonpos_left hs h2
    omega
/-- Within a part each place lies in a smaller one, between knots or the part's ends, on which the line is straight. -/
theorem pieceA {ks : List Kn} (ha : Asc ks) (h0 : 0 < ks.length) {u w x : Int} (hu : u ≤ x) (hw : x ≤ w) : ∃ a b, u ≤ a ∧ a ≤ x ∧ x ≤ b ∧ b ≤ w ∧ Aff ks a b ∧ (a = u ∨ ∃ k ∈ ks, k.1 = a) ∧ (b = w ∨ ∃ k ∈ ks, k.1 = b) := by
  obtain ⟨i, hi, h1, h2⟩ := split_at ha x
  by_cases e0 : i = 0
  · subst e0
    have hx := h2 0 (Nat.le_refl _) h0
    by_cases hb : (ks.getD 0 (0, 0)).1 ≤ w
    · exact ⟨u, (ks.getD 0 (0, 0)).1, Int.le_refl _, hu, hx, hb, ⟨_, _, _, fun y _ h5 => by rw [valP_low ha h0 h5]; exact Is.const _ _⟩, .inl rfl, .inr ⟨_, getD_mem h0 _, rfl⟩⟩
    · exact ⟨u, w, Int.le_refl _, hu, hw, Int.le_refl _, ⟨_, _, _, fun y _ h5 => by rw [valP_low ha h0 (by omega)]; exact Is.const _ _⟩, .inl rfl, .inl rfl⟩
  have hp := h1 (i - 1) (by omega)
  have lo : ∃ a, u ≤ a ∧ a ≤ x ∧ (ks.getD (i - 1) (0, 0)).1 ≤ a ∧ (a = u ∨ ∃ k ∈ ks, k.1 = a) := by
    by_cases h : u ≤ (ks.getD (i - 1) (0, 0)).1
    · exact ⟨_, h, by omega, Int.le_refl _, .inr ⟨_, getD_mem (by omega) _, rfl⟩⟩
    · exact ⟨u, Int.le_refl _, hu, by omega, .inl rfl⟩
  obtain ⟨a, a1, a2, a3, a4⟩ := lo
  by_cases e1 : i = ks.length
  · subst e1
    exact ⟨a, w, a1, a2, hw, Int.le_refl _, ⟨_, _, _, fun y h3 _ => by rw [valP_high ha h0 (by omega)]; exact Is.const _ _⟩, a4, .inl rfl⟩
  have hq := h2 i (Nat.le_refl _) (by omega)
  have hlt := ha.lt (i := i - 1) (j := i) (by omega) (by omega)
  have hi' : ∃ b, x ≤ b ∧ b ≤ w ∧ b ≤ (ks.getD i (0, 0)).1 ∧ (b = w ∨ ∃ k ∈ ks, k.1 = b) := by
    by_cases h : (ks.getD i (0, 0)).1 ≤ w
    · exact ⟨_, hq, h, Int.le_refl _, .inr ⟨_, getD_mem (by omega) _, rfl⟩⟩
    · exact ⟨w, hw, Int.le_refl _, by omega, .inl rfl⟩
  obtain ⟨b, b1, b2, b3, b4⟩ := hi'
  have hA : Aff ks a b := ⟨_, _, _, fun y h3 h4 => Is_mid ha (i := i) (y := y) (Nat.pos_of_ne_zero e0) (Nat.lt_of_le_of_ne hi e1) (Int.le_trans a3 h3) (Int.le_trans h4 b3)⟩
  exact ⟨a, b, a1, a2, b1, b2, hA, a4, b4⟩
/-- A line that is at least another one at a part's ends and at the knots of both is so in the part. -/
theorem ge_in {u l : List Kn} (hu : Asc u) (u0 : 0 < u.length) (hl : Asc l) (l0 : 0 < l.length) {lo hi x : Int} (h1 : lo ≤ x) (h2 : x ≤ hi) (g1 : geP (valP u lo) (valP l lo) = true) (g2 : geP (valP u hi) (valP l hi) = true) (g : ∀ k, k ∈ u ∨ k ∈ l → lo ≤ k.1 → k.1 ≤ hi → geP (valP u k.1) (valP l k.1) = true) : geP (valP u x) (valP l x) = true := by
  obtain ⟨a, b, a1, a2, b1, b2, hA, ea, eb⟩ := pieceA hu u0 h1 h2
  obtain ⟨a', b', a3, a4, b3, b4, hB, ea', eb'⟩ := pieceA hl l0 a2 b1
  have ga : geP (valP u a) (valP l a) = true := by
    rcases ea with rfl | ⟨k, hk, rfl⟩
    · exact g1
    · exact g k (.inl hk) a1 (by omega)
  have gb : geP (valP u b) (valP l b) = true := by
    rcases eb with rfl | ⟨k, hk, rfl⟩
    · exact g2
    · exact g k (.inl hk) (by omega) b2
  refine ge_between (hA.part a3 b4) hB a4 b3 ?_ ?_
  · rcases ea' with rfl | ⟨k, hk, rfl⟩
    · exact ga
    · exact g k (.inr hk) (by omega) (by omega)
  · rcases eb' with rfl | ⟨k, hk, rfl⟩
    · exact gb
    · exact g k (.inr hk) (by omega) (by omega)
theorem first_last {ks : List Kn} (ha : Asc ks) (h0 : 0 < ks.length) {k : Kn} (hk : k ∈ ks) : (ks.getD 0 (0, 0)).1 ≤ k.1 ∧ k.1 ≤ (ks.getD (ks.length - 1) (0, 0)).1 := by
  obtain ⟨i, hi, rfl⟩ := List.getElem_of_mem hk
  have e : ks[i] = ks.getD i (0, 0) := by rw [List.getD_eq_getElem?_getD, List.getElem?_eq_getElem hi]; rfl
  rw [e]
  constructor
  · rcases Nat.eq_zero_or_pos i with h | h
    · rw [h]; exact Int.le_refl _
    · exact Int.le_of_lt (ha.lt h hi)
  · rcases Nat.lt_or_ge i (ks.length - 1) with h | h
    · exact Int.le_of_lt (ha.lt h (by omega))
    · rw [show i = ks.length - 1 by omega]; exact Int.le_refl _
/-- .. at the knots of both: everywhere. -/
theorem ge_all {u l : List Kn} (hu : Asc u) (u0 : 0 < u.length) (hl : Asc l) (l0 : 0 < l.length) (g : ∀ k, k ∈ u ∨ k ∈ l → geP (valP u k.1) (valP l k.1) = true) (x : Int) : geP (valP u x) (valP l x) = true := by
  have mu := getD_mem u0 (0, 0)
  have ml := getD_mem l0 (0, 0)
  have nu := getD_mem (l := u) (i := u.length - 1) (by omega) (0, 0)
  have nl := getD_mem (l := l) (i := l.length - 1) (by omega) (0, 0)
  -- below the first knots
  have low : ∀ y, y ≤ (u.getD 0 (0, 0)).1 → y ≤ (l.getD 0 (0, 0)).1 → geP (valP u y) (valP l y) = true := fun y h1 h2 => by
    rcases Int.le_total (u.getD 0 (0, 0)).1 (l.getD 0 (0, 0)).1 with h | h
    · have := g _ (.inl mu)
      rw [valP_low hu u0 (Int.le_refl _), valP_low hl l0 h] at this
      rw [valP_low hu u0 h1, valP_low hl l0 h2]; exact this
    · have := g _ (.inr ml)
      rw [valP_low hu u0 h, valP_low hl l0 (Int.le_refl _)] at this
      rw [valP_low hu u0 h1, valP_low hl l0 h2]; exact this
  have high : ∀ y, (u.getD (u.length - 1) (0, 0)).1 ≤ y → (l.getD (l.length - 1) (0, 0)).1 ≤ y → geP (valP u y) (valP l y) = true := fun y h1 h2 => by
    rcases Int.le_total (u.getD (u.length - 1) (0, 0)).1 (l.getD (l.length - 1) (0, 0)).1 with h | h
    · have := g _ (.inr nl)
      rw [valP_high hu u0 h, valP_high hl l0 (Int.le_refl _)] at this
      rw [valP_high hu u0 h1, valP_high hl l0 h2]; exact this
    · have := g _ (.inl nu)
      rw [valP_high hu u0 (Int.le_refl _), valP_high hl l0 h] at this
      rw [valP_high hu u0 h1, valP_high hl l0 h2]; exact this
  have g1 := low (min x (min (u.getD 0 (0, 0)).1 (l.getD 0 (0, 0)).1)) (by omega) (by omega)
  have g2 := high (max x (max (u.getD (u.length - 1) (0, 0)).1 (l.getD (l.length - 1) (0, 0)).1)) (by omega) (by omega)
  exact ge_in hu u0 hl l0 (by omega) (by omega) g1 g2 fun k hk _ _ => g k hk
theorem Good.pos {ks : List Kn} (h : Good ks) : 0 < ks.length := List.length_pos_iff.2 h.ne
theorem above_all {u l : List Kn} (hu : Good u) (hl : Good l) (h : ab u l = true) (x : Int) : geP (valP u x) (valP l x) = true := by
  refine ge_all hu.asc hu.pos hl.asc hl.pos (fun k hk => ?_) x
  unfold ab aboveV at h
  rw [List.all_eq_true] at h
  have h2 := h k (List.mem_append.2 hk)
  have hb : k.1 ≤ 1099511627776 := by
    rcases hk with hk | hk
    · exact (hu.bd hk).2.1
    · exact (hl.bd hk).2.1
  rw [decide_eq_false (by omega), Bool.false_or] at h2
  exact h2
theorem Good.wf {ks : List Kn} (h : Good ks) (x : Int) : 0 ≤ (valP ks x).2.1 ∧ (valP ks x).2.1 < (valP ks x).2.2 := ⟨(h.val x).1, (h.val x).2.1⟩
theorem above_range {u l : List Kn} (hu : Good u) (hl : Good l) {x : Int} (h : geP (valP u x) (valP l x) = true) : le2 (rangeP l x) (rangeP u x) := geP_range (hu.wf _) (hl.wf _) h
end Go.Proofs.Ytcglpbchejkolaa
/- Earth: a truth that fits lies in the ranges: plain laws. -/
namespace Go.Proofs.Ytcglpbchejkolaa
open Go.RowKit
set_option linter.unusedSimpArgs false
set_option linter.unusedVariables false

theorem Rise.len_pos {gl gh B : Int} {l : List Kn} (h : Rise gl gh B l) : 0 < l.length := List.length_pos_iff.2 h.ne
theorem Rise.last {gl gh B : Int} {l : List Kn} (h : Rise gl gh B l) : (l.getD (l.length - 1) (0, 0)).1 = B := h.end
/-- One cm's step within a line: how much it rises at least, too. -/
theorem Rise.stepIn {gl gh B : Int} {l : List Kn} (h : Rise gl gh B l) {z : Int} (h1 : (l.getD 0 (0, 0)).1 ≤ z) (h2 : z + 1 ≤ B) : ((rangeP l z).1 + gl ≤ (rangeP l (z + 1)).1 ∧ (rangeP l (z + 1)).1 ≤ (rangeP l z).1 + gh) ∧ (rangeP l z).2 + gl ≤ (rangeP l (z + 1)).2 ∧ (rangeP l (z + 1)).2 ≤ (rangeP l z).2 + gh := by
  have ha := h.asc
  have hl := h.len_pos
  have he := h.last
  obtain ⟨i, hi, g1, g2⟩ := split_at ha (z + 1)
  by_cases e0 : i = 0
  · subst e0
    have := g2 0 (Nat.le_refl _) hl
    omega
  have hp := g1 (i - 1) (by omega)
  by_cases e1 : i = l.length
  · rw [e1, he] at hp
    omega
  have hq := g2 i (Nat.le_refl _) (by omega)
  have hlt := ha.lt (i := i - 1) (j := i) (by omega) (by omega)
  obtain ⟨s1, s2⟩ := h.slope (i := i) (by omega) (by omega)
  rw [val_mid ha (i := i) (y := z) (by omega) (by omega) (by omega) (by omega), val_mid ha (i := i) (y := z + 1) (by omega) (by omega) (by omega) (by omega)]
  exact segR_step (z := z) hlt s1 s2
/-- .. and from place to place. -/
theorem Rise.far {gl gh B : Int} {l : List Kn} (h : Rise gl gh B l) {x : Int} (h1 : (l.getD 0 (0, 0)).1 ≤ x) : ∀ (n : Nat), x + n ≤ B → ((rangeP l x).1 + gl * n ≤ (rangeP l (x + n)).1 ∧ (rangeP l (x + n)).1 ≤ (rangeP l x).1 + gh * n) ∧ (rangeP l x).2 + gl * n ≤ (rangeP l (x + n)).2 ∧ (rangeP l (x + n)).2 ≤ (rangeP l x).2 + gh * n
  | 0, _ => by simp
  | n + 1, hn => by
    have ih := h.far h1 n (by omega)
    have st := h.stepIn (z := x + n) (by omega) (by omega)
    rw [show x + ((n + 1 : Nat) : Int) = x + n + 1 by omega, show ((n + 1 : Nat) : Int) = (n : Int) + 1 by omega, Int.mul_add, Int.mul_add, Int.mul_one, Int.mul_one]
    omega
theorem Rise.far2 {gl gh B : Int} {l : List Kn} (h : Rise gl gh B l) {x y : Int} (h1 : (l.getD 0 (0, 0)).1 ≤ x) (h2 : x ≤ y) (h3 : y ≤ B) : ((rangeP l x).1 + gl * (y - x) ≤ (rangeP l y).1 ∧ (rangeP l y).1 ≤ (rangeP l x).1 + gh * (y - x)) ∧ (rangeP l x).2 + gl * (y - x) ≤ (rangeP l y).2 ∧ (rangeP l y).2 ≤ (rangeP l x).2 + gh * (y - x) := by
  have := h.far h1 (y - x).toNat (by omega)
  rw [show x + ((y - x).toNat : Int) = y by omega, show ((y - x).toNat : Int) = y - x by omega] at this
  exact this
theorem Rise.of_grows {gl gh B : Int} : ∀ {l : List Kn}, l ≠ [] → Asc l → growsV gl gh l = true → (∀ k ∈ l, k.1 ≤ B) → endV l = B → Rise gl gh B l
  | [], h, _, _, _, _ => absurd rfl h
  | [(a, v)], _, _, _, _, he => by
    have : a = B := he
    subst this; exact .one v
  | (a, v) :: (a', v') :: l, _, .cons hlt ht, hg, hb, he => by
    rw [growsV, Bool.and_eq_true, inV_iff] at hg
    exact .cons hlt (hb (a', v') (by simp)) hg.1.1 hg.1.2 (Rise.of_grows (by simp) ht hg.2 (fun k hk => hb k (by simp [hk])) (by
      unfold endV at he ⊢; simpa using he))
theorem Rise.grows {gl gh B : Int} : ∀ {l : List Kn}, Rise gl gh B l → growsV gl gh l = true
  | [], _ => rfl
  | [k], _ => rfl
  | k :: k' :: l, .cons ha hB h1 h2 ht => by
    rw [growsV, Bool.and_eq_true, inV_iff]
    exact ⟨⟨h1, h2⟩, ht.grows⟩
theorem Asc.le_end {l : List Kn} (ha : Asc l) (h0 : 0 < l.length) {k : Kn} (hk : k ∈ l) : k.1 ≤ endV l := (first_last ha h0 hk).2
/-! Lines over lines from 0 to a bottom -/
theorem spans_ge {u l : List Kn} {B : Int} (hu : Good u) (hl : Good l) (h : spansV u l B = true) {x : Int} (x0 : 0 ≤ x) (x1 : x ≤ B) : geP (valP u x) (valP l x) = true := by
  unfold spansV at h
  simp only [Bool.and_eq_true] at h
  refine ge_in hu.asc hu.pos hl.asc hl.pos x0 x1 h.1.1 h.1.2 fun k hk h1 h2 => ?_
  have h3 := h.2
  unfold aboveV at h3
  rw [List.all_eq_true] at h3
  have h4 := h3 k (List.mem_append.2 hk)
  rw [decide_eq_false (by omega), Bool.false_or] at h4
  exact h4
theorem spans_of {u l : List Kn} {B : Int} (h : ∀ x, geP (valP u x) (valP l x) = true) : spansV u l B = true := by
  unfold spansV aboveV
  rw [h 0, h B]
  simp only [Bool.true_and]
  rw [List.all_eq_true]
  intro k hk
  rw [h k.1, Bool.or_true]
/-- A truth that fits. -/
structure Fit (e : Ear) (tp tf : List Kn) : Prop where
  v : Valid e
  ltp : lineE tp = 0
  ltf : lineE tf = 0
  rp : Rise e.gl e.gh e.bottom tp
  rf : Rise e.gl e.gh e.bottom tf
  zp : (tp.getD 0 (0, 0)).1 = 0
  zf : (tf.getD 0 (0, 0)).1 = 0
  s1 : ∀ x, 0 ≤ x → x ≤ e.bottom → geP (valP tp x) (valP e.pl x) = true
  s2 : ∀ x, 0 ≤ x → x ≤ e.bottom → geP (valP e.ph x) (valP tp x) = true
  s3 : ∀ x, 0 ≤ x → x ≤ e.bottom → geP (valP tf x) (valP e.fl x) = true
  s4 : ∀ x, 0 ≤ x → x ≤ e.bottom → geP (valP e.fh x) (valP tf x) = true
  s5 : ∀ x, 0 ≤ x → x ≤ e.bottom → geP (valP tf x) (valP tp x) = true
  reps : ∀ r ∈ e.reps, trueV tp tf r = true
theorem truthV_ok {tp tf : List Kn} {b : Int} (h : truthV tp tf b = 0) : lineE tp = 0 ∧ lineE tf = 0 ∧ endsB tp b = true ∧ endsB tf b = true := by
  unfold truthV at h
  obtain ⟨h1, h⟩ := orE_zero h
  obtain ⟨h2, h⟩ := orE_zero h
  split at h
  · rename_i h3
    rw [Bool.and_eq_true] at h3
    exact ⟨h1, h2, h3.1, h3.2⟩
  · omega
theorem lineE_good {ks : List Kn} (h : lineE ks = 0) : Good ks := good (rightB_of h)
theorem fit {e : Ear} {tp tf : List Kn} (h : fitsV e tp tf = true) : Fit e tp tf := by
  obtain ⟨h1, h2, h3, h4, h5, h6, h7, h8, h9, h10⟩ := fitsV_iff.1 h
  have v := valid h1
  obtain ⟨lp, lf, ep, ef⟩ := truthV_ok h2
  have gp := lineE_good lp
  have gf := lineE_good lf
  rw [ends_iff] at ep ef
  exact {
    v := v
    ltp := lp
    ltf := lf
    rp := Rise.of_grows gp.ne gp.asc h3 (fun k hk => by have := gp.asc.le_end gp.pos hk; have h2 : endV tp = e.bottom := ep.2; omega) ep.2
    rf := Rise.of_grows gf.ne gf.asc h4 (fun k hk => by have := gf.asc.le_end gf.pos hk; have h2 : endV tf = e.bottom := ef.2; omega) ef.2
    zp := ep.1
    zf := ef.1
    s1 := fun x x0 x1 => spans_ge gp (lineE_good v.pl) h5 x0 x1
    s2 := fun x x0 x1 => spans_ge (lineE_good v.ph) gp h6 x0 x1
    s3 := fun x x0 x1 => spans_ge gf (lineE_good v.fl) h7 x0 x1
    s4 := fun x x0 x1 => spans_ge (lineE_good v.fh) gf h8 x0 x1
    s5 := fun x x0 x1 => spans_ge gf gp h9 x0 x1
    reps := List.all_eq_true.1 h10 }
/-! What points ask for and allow -/
theorem loP_le {gl gh B : Int} {l : List Kn} (h : Rise gl gh B l) (z0 : (l.getD 0 (0, 0)).1 = 0) {z : Int} (h0 : 0 ≤ z) (h1 : z ≤ B) {k : Kn} (k0 : 0 ≤ k.1) (k1 : k.1 ≤ B) (hk : k.2 ≤ (rangeP l k.1).1) : loP gl gh z k ≤ (rangeP l z).1 := by
  by_cases hz : z < k.1
  · rw [loP_lt hz]
    have := (h.far2 (x := z) (y := k.1) (by omega) (by omega) k1).1
    have e : gh * (z - k.1) = -(gh * (k.1 - z)) := by rw [show z - k.1 = -(k.1 - z) by omega, Int.mul_neg]
    omega
  · rw [loP_ge (by omega)]
    have := (h.far2 (x := k.1) (y := z) (by omega) (by omega) h1).1
    omega
theorem upP_ge2 {gl gh B : Int} {l : List Kn} (h : Rise gl gh B l) (z0 : (l.getD 0 (0, 0)).1 = 0) {z : Int} (h0 : 0 ≤ z) (h1 : z ≤ B) {k : Kn} (k0 : 0 ≤ k.1) (k1 : k.1 ≤ B) (hk : (rangeP l k.1).2 ≤ k.2) : (rangeP l z).2 ≤ upP gl gh z k := by
  by_cases hz : z < k.1
  · rw [upP_lt hz]
    have := (h.far2 (x := z) (y := k.1) (by omega) (by omega) k1).2
    have e : gl * (z - k.1) = -(gl * (k.1 - z)) := by rw [show z - k.1 = -(k.1 - z) by omega, Int.mul_neg]
    omega
  · rw [upP_ge (by omega)]
    have := (h.far2 (x := k.1) (y := z) (by omega) (by omega) h1).2
    omega
theorem loV_le {gl gh z c : Int} : ∀ (l : List Kn) (s : Int), (∀ k ∈ l, loP gl gh z k ≤ c) → s ≤ c → loV gl gh l z s ≤ c
  | [], s, _, h => h
  | k :: l, s, hl, h => by
    have h1 := hl k (by simp)
    exact loV_le l (max s (loP gl gh z k)) (fun x hx => hl x (by simp [hx])) (by omega)
theorem upV_ge {gl gh z c : Int} : ∀ (l : List Kn) (s : Int), (∀ k ∈ l, c ≤ upP gl gh z k) → c ≤ s → c ≤ upV gl gh l z s
  | [], s, _, h => h
  | k :: l, s, hl, h => by
    have h1 := hl k (by simp)
    exact upV_ge l (min s (upP gl gh z k)) (fun x hx => hl x (by simp [hx])) (by omega)
theorem points_mem {b : Int} {reps : List Rep} {l : List Kn} {kind : Int} {k : Kn} (h : k ∈ pointsV b reps l kind) : (k ∈ l ∧ k.1 ≤ b) ∨ ∃ r ∈ reps, r.kind = kind ∧ k = (r.z, r.p) := by
  unfold pointsV at h
  rcases List.mem_append.1 h with h | h
  · obtain ⟨h1, h2⟩ := List.mem_filter.1 h
    exact .inl ⟨h1, of_decide_eq_true h2⟩
  · obtain ⟨r, hr, rfl⟩ := List.mem_map.1 h
    obtain ⟨h1, h2⟩ := List.mem_filter.1 hr
    exact .inr ⟨r, h1, by simpa using h2, rfl⟩
theorem knot_le {u l : List Kn} (hu : Good u) (hl : Good l) {k : Kn} (hk : k ∈ l) (h : geP (valP u k.1) (valP l k.1) = true) : k.2 ≤ (rangeP u k.1).1 := by
  have := (above_range hu hl h).1
  rw [rangeP_knot hl.asc hk] at this
  exact this
theorem knot_ge {u l : List Kn} (hu : Good u) (hl : Good l) {k : Kn} (hk : k ∈ u) (h : geP (valP u k.1) (valP l k.1) = true) : (rangeP l k.1).2 ≤ k.2 := by
  have := (above_range hu hl h).2
  rw [rangeP_knot hu.asc hk] at this
  exact this
/-- The pressures of a truth that fits lie in the ranges. -/
theorem Fit.encl {e : Ear} {tp tf : List Kn} (h : Fit e tp tf) {z : Int} (z0 : 0 ≤ z) (z1 : z ≤ e.bottom) : (plV e z ≤ (rangeP tp z).1 ∧ (rangeP tp z).2 ≤ phV e z) ∧ flV e z ≤ (rangeP tf z).1 ∧ (rangeP tf z).2 ≤ fhV e z := by
  have gp := lineE_good h.ltp
  have gf := lineE_good h.ltf
  have npl := lineE_good h.v.pl
  have nph := lineE_good h.v.ph
  have nfl := lineE_good h.v.fl
  have nfh := lineE_good h.v.fh
  have a1 := above_range gp npl (h.s1 z z0 z1)
  have a2 := above_range nph gp (h.s2 z z0 z1)
  have a3 := above_range gf nfl (h.s3 z z0 z1)
  have a4 := above_range nfh gf (h.s4 z z0 z1)
  have a5 := above_range gf gp (h.s5 z z0 z1)
  have pos : 0 ≤ (rangeP tp z).1 := (gp.val z).2.2.2.1
  have l1 : loV e.gl e.gh (pointsV e.bottom e.reps e.pl 1) z (rangeP e.pl z).1 ≤ (rangeP tp z).1 := loV_le _ _ (fun k hk => by
    rcases points_mem hk with ⟨hk, hb⟩ | ⟨r, hr, hkind, rfl⟩
    · have := npl.bd hk
      exact loP_le h.rp h.zp z0 z1 this.1 hb (knot_le gp npl hk (h.s1 _ this.1 hb))
    · have hv := h.v.rep r hr
      have ht := h.reps r hr
      rw [true1 hkind] at ht
      exact loP_le h.rp h.zp z0 z1 hv.2.2.1 hv.2.2.2.1 (of_decide_eq_true ht)) a1.1
  have l2 : loV e.gl e.gh (pointsV e.bottom e.reps e.fl 3) z (rangeP e.fl z).1 ≤ (rangeP tf z).1 := loV_le _ _ (fun k hk => by
    rcases points_mem hk with ⟨hk, hb⟩ | ⟨r, hr, hkind, rfl⟩
    · have := nfl.bd hk
      exact loP_le h.rf h.zf z0 z1 this.1 hb (knot_le gf nfl hk (h.s3 _ this.1 hb))
    · have hv := h.v.rep r hr
      have ht := h.reps r hr
      rw [true3 hkind] at ht
      exact loP_le h.rf h.zf z0 z1 hv.2.2.1 hv.2.2.2.1 (of_decide_eq_true ht)) a3.1
  have u1 : (rangeP tp z).2 ≤ upV e.gl e.gh (pointsV e.bottom e.reps e.ph 2) z (rangeP e.ph z).2 := upV_ge _ _ (fun k hk => by
    rcases points_mem hk with ⟨hk, hb⟩ | ⟨r, hr, hkind, rfl⟩
    · have := nph.bd hk
      exact upP_ge2 h.rp h.zp z0 z1 this.1 hb (knot_ge nph gp hk (h.s2 _ this.1 hb))
    · have hv := h.v.rep r hr
      have ht := h.reps r hr
      rw [true2 (by omega) (by omega)] at ht
      exact upP_ge2 h.rp h.zp z0 z1 hv.2.2.1 hv.2.2.2.1 (of_decide_eq_true ht)) a2.2
  have u2 : (rangeP tf z).2 ≤ upV e.gl e.gh (pointsV e.bottom e.reps e.fh 4) z (rangeP e.fh z).2 := upV_ge _ _ (fun k hk => by
    rcases points_mem hk with ⟨hk, hb⟩ | ⟨r, hr, hkind, rfl⟩
    · have := nfh.bd hk
      exact upP_ge2 h.rf h.zf z0 z1 this.1 hb (knot_ge nfh gf hk (h.s4 _ this.1 hb))
    · have hv := h.v.rep r hr
      have ht := h.reps r hr
      rw [true4 (by omega)] at ht
      exact upP_ge2 h.rf h.zf z0 z1 hv.2.2.1 hv.2.2.2.1 (of_decide_eq_true ht)) a4.2
  obtain ⟨b1, b2⟩ := a5
  have P : plV e z ≤ (rangeP tp z).1 := by unfold plV; omega
  have F : (rangeP tf z).2 ≤ fhV e z := by unfold fhV; exact u2
  exact ⟨⟨P, by unfold phV; omega⟩, by unfold flV; omega, F⟩
/-! The earth and the truth of some numbers -/
/-- A line over another one with the same places. -/
def Dom (u l : List Kn) : Prop := (∀ k ∈ u, ∃ k' ∈ l, k'.1 = k.1 ∧ k'.2 ≤ k.2) ∧ ∀ k ∈ l, ∃ k' ∈ u, k'.1 = k.1 ∧ k.2 ≤ k'.2
theorem Dom.trans {u m l : List Kn} (h1 : Dom u m) (h2 : Dom m l) : Dom u l := by
  refine ⟨fun k hk => ?_, fun k hk => ?_⟩
  · obtain ⟨a, ha, e1, e2⟩ := h1.1 k hk
    obtain ⟨b, hb, e3, e4⟩ := h2.1 a ha
    exact ⟨b, hb, by omega, by omega⟩
  · obtain ⟨a, ha, e1, e2⟩ := h2.2 k hk
    obtain ⟨b, hb, e3, e4⟩ := h1.2 a ha
    exact ⟨b, hb, by omega, by omega⟩
theorem Dom.ab {u l : List Kn} (hu : Good u) (hl : Good l) (h : Dom u l) : ab u l = true := same_ab hu hl h.1 h.2 _
theorem Dom.ge {u l : List Kn} (hu : Good u) (hl : Good l) (h : Dom u l) (x : Int) : geP (valP u x) (valP l x) = true := above_all hu hl (h.ab hu hl) x
theorem Dom.cons {a b : Kn} {u l : List Kn} (h1 : b.1 = a.1) (h2 : b.2 ≤ a.2) (h : Dom u l) : Dom (a :: u) (b :: l) := by
  refine ⟨fun k hk => ?_, fun k hk => ?_⟩
  · rcases List.mem_cons.1 hk with rfl | hk
    · exact ⟨b, by simp, h1, h2⟩
    · obtain ⟨x, hx, e⟩ := h.1 k hk; exact ⟨x, by simp [hx], e⟩
  · rcases List.mem_cons.1 hk with rfl | hk
    · exact ⟨a, by simp, h1.symm, h2⟩
    · obtain ⟨x, hx, e⟩ := h.2 k hk; exact ⟨x, by simp [hx], e⟩
theorem Dom.nil : Dom [] [] := ⟨fun k hk => (nomatch hk), fun k hk => (nomatch hk)⟩
theorem shift_up (off : List Int) : ∀ (l : List Kn) (i : Int), Dom (shiftGo off true i l) l
  | [], i => Dom.nil
  | k :: l, i => by
    rw [shiftGo, if_pos rfl]
    have := Int.emod_nonneg (pickV off i) (b := 40000000) (by decide)
    exact Dom.cons rfl (by show k.2 ≤ k.2 + _; omega) (shift_up off l (i + 1))
theorem shift_down (off : List Int) : ∀ (l : List Kn) (i : Int), (∀ k ∈ l, 0 ≤ k.2) → Dom l (shiftGo off false i l)
  | [], i, _ => Dom.nil
  | k :: l, i, h => by
    rw [shiftGo, if_neg (by simp)]
    have := Int.emod_nonneg (pickV off i) (b := 40000000) (by decide)
    have := h k (by simp)
    exact Dom.cons rfl (by show max 0 (k.2 - _) ≤ k.2; omega) (shift_down off l (i + 1) fun x hx => h x (by simp [hx]))
theorem tf_tp (g : Gr) : Dom (tfV g) (tpV g) := ⟨tf_over g, tp_under g⟩
theorem tp_down (g : Gr) : Dom (tpV g) (knownV g).pl := shift_down _ _ _ fun k hk => (tp_box g k hk).2.2.1
theorem tp_upw (g : Gr) : Dom (knownV g).ph (tpV g) := shift_up _ _ _
theorem tf_down (g : Gr) : Dom (tfV g) (knownV g).fl := shift_down _ _ _ fun k hk => (tf_box g k hk).2.2.1
theorem tf_upw (g : Gr) : Dom (knownV g).fh (tfV g) := shift_up _ _ _
theorem known_valid (g : Gr) : Valid (knownV g) where
  b := by show 1 ≤ endV (tpV g) ∧ endV (tpV g) ≤ 1048576; rw [tp_end]; have := bottomV_bd g; omega
  g := by
    show 0 ≤ pickV g.off 1 % 2001 ∧ pickV g.off 1 % 2001 ≤ 30000 + pickV g.off 2 % 10001 ∧ 30000 + pickV g.off 2 % 10001 ≤ 40000
    omega
  pl := known_pl g
  ph := known_ph g
  fl := known_fl g
  fh := known_fh g
  ab1 := ((tp_upw g).trans (tp_down g)).ab (lineE_good (known_ph g)) (lineE_good (known_pl g))
  ab2 := ((tf_upw g).trans (tf_down g)).ab (lineE_good (known_fh g)) (lineE_good (known_fl g))
  ab3 := (((tf_upw g).trans (tf_tp g)).trans (tp_down g)).ab (lineE_good (known_fh g)) (lineE_good (known_pl g))
  reps := by
    show ((g.marks.take 8).map (repV (tpV g) (tfV g))).length ≤ 24
    rw [List.length_map, List.length_take]; omega
  rep := fun r hr => by
    obtain ⟨n, -, rfl⟩ := List.mem_map.1 (show r ∈ (g.marks.take 8).map (repV (tpV g) (tfV g)) from hr)
    have := repV_in g n
    show _ ∧ _ ∧ _ ∧ _ ≤ endV (tpV g) ∧ _
    rw [tp_end]; exact this
theorem rep_true (g : Gr) (n : Int) : trueV (tpV g) (tfV g) (repV (tpV g) (tfV g) n) = true := by
  have n0 := Int.emod_nonneg n (b := 1099511627776) (by decide)
  unfold repV
  generalize n % 1099511627776 = m at *
  generalize m / 4 % (endV (tpV g) + 1) = z at *
  have o0 := Int.emod_nonneg (m / 4096) (b := 1000000) (by decide)
  have bp := ((lineE_good (tp_line g)).val z).2.2.2.1
  have bf := ((lineE_good (tf_line g)).val z).2.2.2.1
  have bp : 0 ≤ (rangeP (tpV g) z).1 := bp
  have bf : 0 ≤ (rangeP (tfV g) z).1 := bf
  by_cases h0 : m % 4 = 0
  · rw [true1 (by show 1 + m % 4 = 1; omega)]
    refine decide_eq_true ?_
    simp only []
    rw [if_pos h0]
    omega
  by_cases h1 : m % 4 = 1
  · rw [true2 (by show 1 + m % 4 ≠ 1; omega) (by show 1 + m % 4 < 3; omega)]
    refine decide_eq_true ?_
    simp only []
    rw [if_neg h0, if_pos h1]
    omega
  by_cases h2 : m % 4 = 2
  · rw [true3 (by show 1 + m % 4 = 3; omega)]
    refine decide_eq_true ?_
    simp only []
    rw [if_neg h0, if_neg h1, if_pos h2]
    omega
  · rw [true4 (by show 4 ≤ 1 + m % 4; omega)]
    refine decide_eq_true ?_
    simp only []
    rw [if_neg h0, if_neg h1, if_neg h2]
    omega
theorem tp_first (g : Gr) : ((tpV g).getD 0 (0, 0)).1 = 0 := by unfold tpV truthL; rw [truthGo]; rfl
theorem tf_first (g : Gr) : ((tfV g).getD 0 (0, 0)).1 = 0 := by unfold tfV truthL; rw [truthGo]; rfl
theorem known_fits (g : Gr) : fitsV (knownV g) (tpV g) (tfV g) = true := by
  have hv := known_valid g
  have gg : pickV g.off 1 % 2001 ≤ 2000 ∧ 30000 ≤ 30000 + pickV g.off 2 % 10001 := by omega
  have gp := lineE_good (tp_line g)
  have gf := lineE_good (tf_line g)
  have he : (knownV g).bottom = bottomV g := tp_end g
  refine fitsV_iff.2 ⟨valid_iff.2 hv, ?_, ((tp_rise g).wide gg.1 gg.2).grows, ((tf_rise g).wide gg.1 gg.2).grows, spans_of ((tp_down g).ge gp (lineE_good hv.pl)), spans_of ((tp_upw g).ge (lineE_good hv.ph) gp), spans_of ((tf_down g).ge gf (lineE_good hv.fl)), spans_of ((tf_upw g).ge (lineE_good hv.fh) gf), spans_of ((tf_tp g).ge gf gp), ?_⟩
  · rw [truth_ends (tp_line g) (tf_line g), if_pos]
    rw [Bool.and_eq_true, ends_iff, ends_iff, he]
    exact ⟨⟨tp_first g, tp_end g⟩, tf_first g, (tf_rise g).end⟩
  · rw [List.all_eq_true]
    intro r hr
    obtain ⟨n, -, rfl⟩ := List.mem_map.1 (show r ∈ (g.marks.take 8).map (repV (tpV g) (tfV g)) from hr)
    exact rep_true g n
end Go.Proofs.Ytcglpbchejkolaa
