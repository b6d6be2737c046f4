/- The law HouseKnown: for every input the call returns true, and each argument reads afterwards as it read before. The frame is printed by frame.py. -/
import Derived.Test.YtbgofenplhdllaaKnown7
import Derived.Shelf.Bits.Mul64
import Derived.Shelf.Spec.BitsCarry
import Derived.TacticsInMore
import Derived.LoopIn
import Derived.OwnWalkIn
import Derived.WalkKit
import Derived.Handy
import Derived.Test.YtbgofenplhdllaaRows
import Derived.ShutString
import Derived.ChangeOld
/- House: what each function computes: flows, gradients, losses. -/
namespace Go.Proofs.Ytbgofenplhdllaa
set_option linter.unusedVariables false

/-! Segments and holes -/
structure Sg where
  l : Int
  r : Int
  a : Int
  g : Int
def segOf (r : List C) : Sg := ⟨(r.getD 0 (.i 0)).int, (r.getD 1 (.i 0)).int, (r.getD 2 (.i 0)).int, (r.getD 3 (.i 0)).int⟩
def segsOf (rows : List (List C)) : List Sg := rows.map segOf
def s_ (cs : List C) (i : Nat) : List Sg := segsOf (at_ cs i).rows
def fairV (s : Sg) : Bool := decide (1 ≤ s.l) && inV s.r 0 s.l && inV s.a 1 5000 && inV s.g 1 200
def longV : List Sg → Int
  | [] => 0
  | s :: l => s.l + longV l
def holeV (l : List Sg) : Int := if l.length = 0 then 6 else if 16 < l.length then 8 else if l.all fairV = true then (if 1048576 < longV l then 5 else 0) else 2
def segSh : Sh0 := .agg [.int, .int, .int, .int]
def mudSh : Sh0 := .agg [.int, .int]
def holeSh : Sh0 := .agg [.arr 89]
def sg_ (cs : List C) (i : Nat) : Sg := ⟨n_ cs i, n_ cs (i + 1), n_ cs (i + 2), n_ cs (i + 3)⟩
def ctFair : Ct := ctF [segSh] [.lf .bool] (fun _ => True) (fun cs => [.b (fairV (sg_ cs 0))])
def ctHole : Ct := ctF [holeSh] [.lf .int] (fun _ => True) (fun cs => [.i (holeV (s_ cs 0))])

/-! Numbers of two words -/
def longsSh : Sh0 := .lf (.arr 2)
def wideSh : Sh0 := .agg [.opq, .opq]
def wd (n : Int) : C := .s (.int .u64 n) []
def wideC (n : Int) : List C := [wd (n / 18446744073709551616 % 18446744073709551616), wd (n % 18446744073709551616)]
def u_ (cs : List C) (i : Nat) : Int := match (at_ cs i).loc with
  | .int .u64 n => n
  | _ => 0
def w_ (cs : List C) (i : Nat) : Int := u_ cs i * 18446744073709551616 + u_ cs (i + 1)
def wideOK (cs : List C) (i : Nat) : Prop := ∃ h l : Nat, h < 18446744073709551616 ∧ l < 18446744073709551616 ∧ at_ cs i = wd h ∧ at_ cs (i + 1) = wd l
def prodV (l : List Int) : Int := l.foldl (· * ·) 1
def ctProd : Ct := ctF [longsSh] [wideSh] (fun cs => ∀ k ∈ ints (at_ cs 0).rows, 0 ≤ k) (fun cs => wideC (prodV (ints (at_ cs 0).rows)))
def ctPlus : Ct := ctF [wideSh, wideSh] [wideSh] (fun cs => wideOK cs 0 ∧ wideOK cs 2) (fun cs => wideC (w_ cs 0 + w_ cs 2))
def ctLeast : Ct := ctF [wideSh, wideSh] [.lf .bool] (fun cs => wideOK cs 0 ∧ wideOK cs 2) (fun cs => [.b (decide (w_ cs 2 ≤ w_ cs 0))])

/-! Numbers by their digits to the base of a million -/
def bigV : List Int → Int
  | [] => 0
  | d :: l => d + 1000000 * bigV l
def digs (l : List Int) : Prop := ∀ d ∈ l, 0 ≤ d ∧ d < 1000000
def ctBigP : Ct := ⟨[longsSh], [.lf (.vec 2)], fun cs => (ints (at_ cs 0).rows).length ≤ 6 ∧ ∀ k ∈ ints (at_ cs 0).rows, 0 ≤ k ∧ k ≤ 1099511627776,
  fun cs rs => ∃ v rows, rs = [.s v rows] ∧ digs (ints rows) ∧ (ints rows).length ≤ 40 ∧ bigV (ints rows) = prodV (ints (at_ cs 0).rows), false⟩
def ctBigA : Ct := ⟨[longsSh, longsSh], [.lf (.vec 2)], fun cs => digs (ints (at_ cs 0).rows) ∧ digs (ints (at_ cs 1).rows) ∧ (ints (at_ cs 0).rows).length ≤ 40 ∧ (ints (at_ cs 1).rows).length ≤ 40,
  fun cs rs => ∃ v rows, rs = [.s v rows] ∧ digs (ints rows) ∧ (ints rows).length ≤ 41 ∧ bigV (ints rows) = bigV (ints (at_ cs 0).rows) + bigV (ints (at_ cs 1).rows), false⟩
def ctBigL : Ct := ctF [longsSh, longsSh] [.lf .bool] (fun cs => digs (ints (at_ cs 0).rows) ∧ digs (ints (at_ cs 1).rows) ∧ (ints (at_ cs 0).rows).length ≤ 41 ∧ (ints (at_ cs 1).rows).length ≤ 41) (fun cs => [.b (decide (bigV (ints (at_ cs 1).rows) ≤ bigV (ints (at_ cs 0).rows)))])

/-! Flows and gradients -/
def flowsV (area gap y visc g flow : Int) : Bool :=
  if flow = 0 then true else if g * gap ≤ y then false
  else decide (prodV [3, y, g * gap, g * gap, gap, area] + prodV [flow, visc, g * gap, g * gap] ≤ prodV [2, g * gap, g * gap, g * gap, gap, area] + prodV [y, y, y, gap, area])
def flowsP (area gap y visc g flow : Int) : Prop := (1 ≤ area ∧ area ≤ 5000) ∧ (1 ≤ gap ∧ gap ≤ 200) ∧ (0 ≤ y ∧ y ≤ 1000000) ∧ (1 ≤ visc ∧ visc ≤ 1000000) ∧ (0 ≤ g ∧ g ≤ 20000) ∧ 0 ≤ flow ∧ flow ≤ 1000000
def possV (s : Sg) (y visc flow : Int) : Bool := fairV s && decide (s.l ≤ 1048576) && inV y 0 1000000 && inV visc 1 1000000 && inV flow 0 1000000
def bsV (p : Int → Bool) : Nat → Int → Int → Int
  | 0, lo, _ => lo
  | n + 1, lo, hi => if lo < hi then (if p ((lo + hi) / 2) = true then bsV p n lo ((lo + hi) / 2) else bsV p n ((lo + hi) / 2 + 1) hi) else lo
def gradV (s : Sg) (y visc flow : Int) : Int × Bool :=
  if possV s y visc flow = true ∧ flowsV s.a s.g y visc 20000 flow = true then (bsV (fun g => flowsV s.a s.g y visc g flow) 15 0 20000, true) else (0, false)
def wr_ (n : Int) : Int := IntKind.i64.wrap n
def lossV (to long area gap y visc flow z : Int) : Int × Bool :=
  if (1 ≤ to ∧ inV flow 0 1000000 = true ∧ inV y 0 1000000 = true ∧ inV visc 1 1000000 = true ∧ holeV [⟨long, to, area, gap⟩] = 0 ∧ 0 ≤ z ∧ z ≤ to) ∧ (gradV ⟨long, to, area, gap⟩ y visc flow).2 = true then
    (wr_ ((gradV ⟨long, to, area, gap⟩ y visc flow).1 * (wr_ (wr_ (wr_ (z * long) + to) - 1)).tdiv to), true)
  else (0, false)
def lossC (cs : List C) : Int × Bool := lossV (n_ cs 3) (n_ cs 8) (n_ cs 9) (n_ cs 10) (n_ cs 11) (n_ cs 12) (n_ cs 13) (n_ cs 39)
def flowsC (cs : List C) : Bool := flowsV (n_ cs 2) (n_ cs 3) (n_ cs 4) (n_ cs 5) (n_ cs 6) (n_ cs 7)
def ctFlows : Ct := ctF [segSh, mudSh, .lf .int, .lf .int] [.lf .bool] (fun cs => flowsP (n_ cs 2) (n_ cs 3) (n_ cs 4) (n_ cs 5) (n_ cs 6) (n_ cs 7)) (fun cs => [.b (flowsC cs)])
def ctPoss : Ct := ctF [segSh, mudSh, .lf .int] [.lf .bool] (fun _ => True) (fun cs => [.b (possV (sg_ cs 0) (n_ cs 4) (n_ cs 5) (n_ cs 6))])
def ctFlowsX : Ct := ctF [segSh, mudSh, .lf .int, .lf .int] [.lf .bool] (fun _ => True) (fun cs => [.b (possV (sg_ cs 0) (n_ cs 4) (n_ cs 5) (n_ cs 7) && inV (n_ cs 6) 0 20000 && flowsC cs)])
def ctGrad : Ct := ctF [segSh, mudSh, .lf .int] [.lf .int, .lf .bool] (fun _ => True) (fun cs => [.i (gradV (sg_ cs 0) (n_ cs 4) (n_ cs 5) (n_ cs 6)).1, .b (gradV (sg_ cs 0) (n_ cs 4) (n_ cs 5) (n_ cs 6)).2])
def ctLoss : Ct := ctF [phaseSh, .lf .int] [.lf .int, .lf .bool] (fun _ => True) (fun cs => [.i (lossC cs).1, .b (lossC cs).2])
def tab5 : Tab where
  ct := fun f => match f with
    | 58 => some ctFair
    | 45 | 52 => some ctHole
    | 68 => some ctProd
    | 69 => some ctPlus
    | 70 => some ctLeast
    | 72 => some ctBigP
    | 73 => some ctBigA
    | 74 => some ctBigL
    | 62 | 65 => some ctFlows
    | 67 | 64 => some ctPoss
    | 59 => some ctFlowsX
    | 48 | 53 => some ctGrad
    | 25 | 26 => some ctLoss
    | f => tab.ct f
  inl := fun f => match f with
    | 66 => some withinI
    | f => tab.inl f
  sel := tab.sel
theorem up5_ok {f : Nat} (h : tab.ok f) (he : tab5.ct f = tab.ct f := by rfl) (hi : tab5.inl f = tab.inl f := by rfl) : tab5.ok f :=
  ⟨h.1, fun ct hc => h.2.1 ct (he ▸ hc), fun g hg => h.2.2.1 g (hi ▸ hg), h.2.2.2⟩
end Go.Proofs.Ytbgofenplhdllaa
/- House: contracts for HousePressures and HouseKnown. -/
namespace Go.Proofs.Ytbgofenplhdllaa
set_option linter.unusedVariables false

def ctLSafe : Ct := ctF [blowSh, .lf (.arr 4)] [.lf .bool] (fun _ => True) (fun cs => [.b (safeV (blowOf cs) == bools (at_ cs 2).rows)])
def tab6 : Tab where
  ct := fun f => match f with
    | 29 => some ctLSafe
    | f => match tab2.ct f with
      | some c => some c
      | none => tab5.ct f
  inl := tab5.inl
  sel := tab5.sel
theorem up6_ok {f : Nat} (h : tab2.ok f) (he : tab6.ct f = tab2.ct f := by rfl) (hi : tab6.inl f = tab2.inl f := by rfl) : tab6.ok f :=
  ⟨h.1, fun ct hc => h.2.1 ct (he ▸ hc), fun g hg => h.2.2.1 g (hi ▸ hg), h.2.2.2⟩
theorem up65_ok {f : Nat} (h : tab5.ok f) (he : tab6.ct f = tab5.ct f := by rfl) : tab6.ok f :=
  ⟨h.1, fun ct hc => h.2.1 ct (he ▸ hc), h.2.2.1, h.2.2.2⟩
end Go.Proofs.Ytbgofenplhdllaa
/- What is to be shown of each function, as the executor has it. Printed by trees.py. -/
namespace Go.Proofs.Ytbgofenplhdllaa
noncomputable def clsafe : Cx := tab6.only [14] (fun _ => []) [] 0 [] (fun _ => none)
def tlsafe : Tree :=
  (.call 14 [(.arr 4 (.var 0)), (.arr 35 (.var 1))] (.split (.cmp .ne (.len (.var 3)) (.len (.var 2))) (.ret [(.bool (.lit false))]) (.loop [.bool, .int] [(.bool (.lit false)), (.int (.lit 0))] (.split (.cmp .lt (.var 5) (.len (.var 3))) (.ob (.cmp .le (.lit 0) (.var 5)) (.ob (.cmp .lt (.var 5) (.len (.var 3))) (.ob (.cmp .lt (.var 5) (.len (.var 2))) (.split (.not (.beq (.of (.cell (.var 3) (.var 5) 0)) (.of (.cell (.var 2) (.var 5) 0)))) (.ret [(.bool (.lit false))]) (.back 0 [(.bool (.of (.var 4))), (.int (.add (.var 5) (.lit 1)))]))))) (.ret [(.bool (.lit true))])))))
noncomputable def clknown : Cx := tab6.only [30, 31, 29, 21, 20, 18, 9, 14, 32, 25, 27, 12] (fun _ => []) [] 0 [] (fun r => match r with
  | 50001 => some ([(30, true, [.bool])], [])
  | 50008 => some ([(106, true, [.bool])], [])
  | 50012 => some ([(147, true, [.bool]), (0, true, [.bool])], [])
  | _ => none)
def tlknown_1 : Tree :=
  (.call 21 [(.arr 4 (.var 8)), (.arr 35 (.var 9)), (.int (.lit 1))] (.arr [[(.int (.lit 1))], [(.int (.lit 0))], [(.int (.lit 1))]] (.call 20 [(.arr 3 (.var 10)), (.arr 3 (.var 11))] (.back 0 [(.bool (.not (.of (.var 12))))]))))
def tlknown_2 : Tree :=
  (.arr [[(.bool (.lit true))], [(.bool (.lit true))], [(.bool (.lit false))]] (.call 29 [(.arr 4 (.var 4)), (.arr 35 (.var 5)), (.arr 4 (.var 6))] (.split (.not (.of (.var 7))) (.back 0 [(.bool (.lit true))]) (.call 31 [] tlknown_1))))
def tlknown_3 : Tree :=
  (.arr [[(.bool (.lit false))], [(.bool (.lit false))], [(.bool (.lit false))]] (.call 29 [(.arr 4 (.var 0)), (.arr 35 (.var 1)), (.arr 4 (.var 2))] (.split (.not (.of (.var 3))) (.back 0 [(.bool (.lit true))]) (.call 31 [] tlknown_2))))
def tlknown_4 : Tree :=
  (.split (.not (.of (.var 27))) (.back 1 [(.bool (.lit true))]) (.ob (.cmp .lt (.lit 1) (.len (.var 12))) (.arr [[(.int (.lit 1))], [(.int (.lit 1))]] (.call 20 [(.arr 3 (.cell (.var 12) (.lit 1) 0)), (.arr 3 (.var 28))] (.back 1 [(.bool (.not (.of (.var 29))))])))))
def tlknown_5 : Tree :=
  (.split (.cmp .eq (.var 108) (.lit 4905005)) (.split (.cmp .eq (.var 67) (.lit 8001)) (.split (.of (.var 68)) (.call 12 [] (.back 2 [(.bool (.of (.var 109))), (.bool (.of (.var 109)))])) (.back 2 [(.bool (.lit false)), (.bool (.lit false))])) (.back 2 [(.bool (.lit false)), (.bool (.lit false))])) (.back 2 [(.bool (.lit false)), (.bool (.lit false))]))
def tlknown_6 : Tree :=
  (.call 27 [(.int (.var 69)), (.int (.var 70)), (.int (.var 71)), (.int (.var 72)), (.int (.var 73)), (.int (.var 74)), (.int (.var 75)), (.int (.var 76)), (.int (.var 77)), (.int (.var 78)), (.int (.var 79)), (.int (.var 80)), (.int (.var 81)), (.int (.var 82)), (.arr 2 (.var 83)), (.arr 133 (.var 84)), (.arr 135 (.var 85)), (.int (.var 86)), (.int (.var 87)), (.arr 137 (.var 88)), (.arr 137 (.var 89)), (.arr 139 (.var 90)), (.int (.var 91)), (.int (.var 92)), (.int (.var 93)), (.int (.var 94)), (.int (.var 95)), (.arr 89 (.var 96)), (.int (.var 97)), (.arr 141 (.var 98)), (.int (.var 99)), (.int (.var 100)), (.int (.var 101)), (.int (.var 102)), (.int (.var 103)), (.int (.var 104)), (.int (.var 105)), (.arr 2 (.var 106)), (.arr 2 (.var 107)), (.int (.lit 500))] tlknown_5)
def tlknown_7 : Tree :=
  (.join [.bool, .bool] (.split (.cmp .eq (.len (.var 27)) (.lit 10)) (.ob (.cmp .lt (.lit 4) (.len (.var 27))) (.split (.of (.cell (.var 27) (.lit 4) 0)) (.ob (.cmp .lt (.lit 6) (.len (.var 27))) (.split (.not (.of (.cell (.var 27) (.lit 6) 0))) (.ob (.cmp .lt (.lit 7) (.len (.var 27))) (.split (.of (.cell (.var 27) (.lit 7) 0)) (.call 32 [] tlknown_6) (.back 2 [(.bool (.lit false)), (.bool (.lit false))]))) (.back 2 [(.bool (.lit false)), (.bool (.lit false))]))) (.back 2 [(.bool (.lit false)), (.bool (.lit false))]))) (.back 2 [(.bool (.lit false)), (.bool (.lit false))])) (.ret [(.bool (.of (.var 70)))]))
def tlknown_8 : Tree :=
  (.call 25 [(.int (.var 28)), (.int (.var 29)), (.int (.var 30)), (.int (.var 31)), (.int (.var 32)), (.int (.var 33)), (.int (.var 34)), (.int (.var 35)), (.int (.var 36)), (.int (.var 37)), (.int (.var 38)), (.int (.var 39)), (.int (.var 40)), (.int (.var 41)), (.arr 2 (.var 42)), (.arr 133 (.var 43)), (.arr 135 (.var 44)), (.int (.var 45)), (.int (.var 46)), (.arr 137 (.var 47)), (.arr 137 (.var 48)), (.arr 139 (.var 49)), (.int (.var 50)), (.int (.var 51)), (.int (.var 52)), (.int (.var 53)), (.int (.var 54)), (.arr 89 (.var 55)), (.int (.var 56)), (.arr 141 (.var 57)), (.int (.var 58)), (.int (.var 59)), (.int (.var 60)), (.int (.var 61)), (.int (.var 62)), (.int (.var 63)), (.int (.var 64)), (.arr 2 (.var 65)), (.arr 2 (.var 66)), (.int (.lit 2000))] tlknown_7)
def tlknown_9 : Tree :=
  (.dfn .nil (.dfn .nil (.join [.bool] (.split (.of (.var 5)) (.back 1 [(.bool (.lit true))]) (.split (.of (.var 10)) (.back 1 [(.bool (.lit true))]) (.split (.cmp .ne (.var 13) (.lit 0)) (.back 1 [(.bool (.lit true))]) (.split (.cmp .ne (.var 18) (.lit 0)) (.back 1 [(.bool (.lit true))]) (.split (.cmp .ne (.var 23) (.lit 2)) (.back 1 [(.bool (.lit true))]) (.split (.cmp .ne (.len (.var 11)) (.lit 10)) (.back 1 [(.bool (.lit true))]) (.split (.cmp .ne (.len (.var 16)) (.lit 64)) (.back 1 [(.bool (.lit true))]) (.split (.cmp .ne (.len (.var 12)) (.lit 10)) (.back 1 [(.bool (.lit true))]) (.ob (.cmp .lt (.lit 0) (.len (.var 12))) (.arr [[(.int (.lit 2))], [(.int (.lit 3))]] (.call 20 [(.arr 3 (.cell (.var 12) (.lit 0) 0)), (.arr 3 (.var 26))] tlknown_4))))))))))) (.split (.of (.var 26)) (.ret [(.bool (.lit false))]) (.call 14 [(.arr 4 (.var 11)), (.arr 35 (.var 12))] (.call 32 [] tlknown_8))))))
def tlknown_10 : Tree :=
  (.call 9 [(.int (.lit 4)), (.int (.lit 1)), (.int (.lit 1))] (.dfn .nil (.dfn .nil (.call 9 [(.int (.lit 15)), (.int (.lit 1)), (.int (.lit 3))] (.dfn .nil (.dfn .nil (.call 9 [(.int (.lit 16)), (.int (.lit 1)), (.int (.lit 1))] tlknown_9)))))))
def tlknown_11 : Tree :=
  (.arr [[(.int (.lit 2))]] (.call 18 [(.arr 4 (.var 1)), (.arr 35 (.var 2)), (.arr 3 (.var 3))] (.call 30 [] (.arr [[(.int (.lit 0))]] (.call 18 [(.arr 4 (.var 6)), (.arr 35 (.var 7)), (.arr 3 (.var 8))] tlknown_10)))))
def tlknown : Tree :=
  (.join [.bool] (.call 30 [] tlknown_3) (.split (.of (.var 0)) (.ret [(.bool (.lit false))]) (.call 31 [] tlknown_11)))
end Go.Proofs.Ytbgofenplhdllaa
/- What is to be shown of each function, as the executor has it. Printed by trees.py. -/
namespace Go.Proofs.Ytbgofenplhdllaa
noncomputable def cfwithin : Cx := tab5.only [] (fun _ => []) [] 0 [] (fun _ => none)
def tfwithin : Tree :=
  (.split (.cmp .le (.var 1) (.var 0)) (.ret [(.bool (.cmp .le (.var 0) (.var 2)))]) (.ret [(.bool (.lit false))]))
noncomputable def cfair : Cx := tab5.only [66] (fun _ => []) [] 0 [] (fun _ => none)
def tfair : Tree :=
  (.split (.cmp .le (.lit 1) (.var 0)) (.split (.and (.cmp .le (.lit 0) (.var 1)) (.cmp .le (.var 1) (.var 0))) (.split (.and (.cmp .le (.lit 1) (.var 2)) (.cmp .le (.var 2) (.lit 5000))) (.ret [(.bool (.and (.cmp .le (.lit 1) (.var 3)) (.cmp .le (.var 3) (.lit 200))))]) (.ret [(.bool (.lit false))])) (.ret [(.bool (.lit false))])) (.ret [(.bool (.lit false))]))
noncomputable def chole : Cx := tab5.only [58] (fun _ => []) [] 0 [] (fun _ => none)
def thole : Tree :=
  (.split (.cmp .eq (.len (.var 0)) (.lit 0)) (.ret [(.int (.lit 6))]) (.split (.cmp .lt (.lit 16) (.len (.var 0))) (.ret [(.int (.lit 8))]) (.loop [.int, .int, .bool, .int] [(.int (.lit 0)), (.int (.lit 1048576)), (.bool (.lit false)), (.int (.lit 0))] (.split (.cmp .lt (.var 4) (.len (.var 0))) (.ob (.cmp .le (.lit 0) (.var 4)) (.ob (.cmp .lt (.var 4) (.len (.var 0))) (.call 58 [(.int (.cell (.var 0) (.var 4) 0)), (.int (.cell (.var 0) (.var 4) 1)), (.int (.cell (.var 0) (.var 4) 2)), (.int (.cell (.var 0) (.var 4) 3))] (.split (.not (.of (.var 5))) (.ret [(.int (.lit 2))]) (.split (.of (.var 3)) (.back 0 [(.int (.var 1)), (.int (.var 2)), (.bool (.lit true)), (.int (.add (.var 4) (.lit 1)))]) (.split (.not (.cmp .lt (.var 2) (.cell (.var 0) (.var 4) 0))) (.ob (.and (.cmp .le (.lit (-9223372036854775808)) (.sub (.var 2) (.cell (.var 0) (.var 4) 0))) (.cmp .le (.sub (.var 2) (.cell (.var 0) (.var 4) 0)) (.lit 9223372036854775807))) (.ob (.and (.cmp .le (.lit (-9223372036854775808)) (.sub (.var 2) (.cell (.var 0) (.var 4) 0))) (.cmp .le (.sub (.var 2) (.cell (.var 0) (.var 4) 0)) (.lit 9223372036854775807))) (.back 0 [(.int (.var 1)), (.int (.sub (.var 2) (.cell (.var 0) (.var 4) 0))), (.bool (.cmp .lt (.var 2) (.cell (.var 0) (.var 4) 0))), (.int (.add (.var 4) (.lit 1)))]))) (.back 0 [(.int (.var 1)), (.int (.var 2)), (.bool (.cmp .lt (.var 2) (.cell (.var 0) (.var 4) 0))), (.int (.add (.var 4) (.lit 1)))]))))))) (.split (.of (.var 3)) (.ret [(.int (.lit 5))]) (.ret [(.int (.lit 0))]))))))
noncomputable def cflows : Cx := tab5.only [68, 69, 70] (fun _ => []) [] 0 [] (fun r => match r with
  | 50006 => some ([(41, false, [.opq, .opq])], [.blk 3000000])
  | 50007 => some ([(8, true, [.bool])], [])
  | _ => none)
def tflows : Tree :=
  (.split (.cmp .eq (.var 7) (.lit 0)) (.ret [(.bool (.lit true))]) (.ob (.and (.cmp .le (.lit (-9223372036854775808)) (.mul (.var 6) (.var 3))) (.cmp .le (.mul (.var 6) (.var 3)) (.lit 9223372036854775807))) (.split (.cmp .le (.mul (.var 6) (.var 3)) (.var 4)) (.ret [(.bool (.lit false))]) (.join [Lk.opq, Lk.opq] (.both (.ob (.and (.cmp .le (.lit (-9223372036854775808)) (.mul (.var 6) (.var 3))) (.cmp .le (.mul (.var 6) (.var 3)) (.lit 9223372036854775807))) (.ob (.and (.cmp .le (.lit (-9223372036854775808)) (.mul (.var 6) (.var 3))) (.cmp .le (.mul (.var 6) (.var 3)) (.lit 9223372036854775807))) (.ob (.and (.cmp .le (.lit (-9223372036854775808)) (.mul (.var 6) (.var 3))) (.cmp .le (.mul (.var 6) (.var 3)) (.lit 9223372036854775807))) (.arr [[(.int (.lit 2))], [(.int (.mul (.var 6) (.var 3)))], [(.int (.mul (.var 6) (.var 3)))], [(.int (.mul (.var 6) (.var 3)))], [(.int (.var 3))], [(.int (.var 2))]] (.both (.call 68 [(.arr 2 (.var 8))] (.arr [[(.int (.var 4))], [(.int (.var 4))], [(.int (.var 4))], [(.int (.var 3))], [(.int (.var 2))]] (.call 68 [(.arr 2 (.var 11))] (.call 69 [(.clo 9), (.clo 10), (.clo 12), (.clo 13)] (.back 0 [(.clo 14), (.clo 15)]))))) (.arr [[(.int (.var 4))], [(.int (.var 4))], [(.int (.var 4))], [(.int (.var 3))], [(.int (.var 2))]] (.call 68 [(.arr 2 (.var 8))] (.call 68 [(.arr 2 (.var 9))] (.call 69 [(.clo 10), (.clo 11), (.clo 12), (.clo 13)] (.back 0 [(.clo 14), (.clo 15)])))))))))) (.arr [[(.int (.var 4))], [(.int (.var 4))], [(.int (.var 4))], [(.int (.var 3))], [(.int (.var 2))]] (.ob (.and (.cmp .le (.lit (-9223372036854775808)) (.mul (.var 6) (.var 3))) (.cmp .le (.mul (.var 6) (.var 3)) (.lit 9223372036854775807))) (.ob (.and (.cmp .le (.lit (-9223372036854775808)) (.mul (.var 6) (.var 3))) (.cmp .le (.mul (.var 6) (.var 3)) (.lit 9223372036854775807))) (.ob (.and (.cmp .le (.lit (-9223372036854775808)) (.mul (.var 6) (.var 3))) (.cmp .le (.mul (.var 6) (.var 3)) (.lit 9223372036854775807))) (.arr [[(.int (.lit 2))], [(.int (.mul (.var 6) (.var 3)))], [(.int (.mul (.var 6) (.var 3)))], [(.int (.mul (.var 6) (.var 3)))], [(.int (.var 3))], [(.int (.var 2))]] (.call 68 [(.arr 2 (.var 9))] (.call 68 [(.arr 2 (.var 8))] (.call 69 [(.clo 10), (.clo 11), (.clo 12), (.clo 13)] (.back 0 [(.clo 14), (.clo 15)])))))))))) (.join [.bool] (.both (.ob (.and (.cmp .le (.lit (-9223372036854775808)) (.mul (.var 6) (.var 3))) (.cmp .le (.mul (.var 6) (.var 3)) (.lit 9223372036854775807))) (.ob (.and (.cmp .le (.lit (-9223372036854775808)) (.mul (.var 6) (.var 3))) (.cmp .le (.mul (.var 6) (.var 3)) (.lit 9223372036854775807))) (.arr [[(.int (.lit 3))], [(.int (.var 4))], [(.int (.mul (.var 6) (.var 3)))], [(.int (.mul (.var 6) (.var 3)))], [(.int (.var 3))], [(.int (.var 2))]] (.both (.call 68 [(.arr 2 (.var 10))] (.ob (.and (.cmp .le (.lit (-9223372036854775808)) (.mul (.var 6) (.var 3))) (.cmp .le (.mul (.var 6) (.var 3)) (.lit 9223372036854775807))) (.ob (.and (.cmp .le (.lit (-9223372036854775808)) (.mul (.var 6) (.var 3))) (.cmp .le (.mul (.var 6) (.var 3)) (.lit 9223372036854775807))) (.arr [[(.int (.var 7))], [(.int (.var 5))], [(.int (.mul (.var 6) (.var 3)))], [(.int (.mul (.var 6) (.var 3)))]] (.call 68 [(.arr 2 (.var 13))] (.call 69 [(.clo 11), (.clo 12), (.clo 14), (.clo 15)] (.call 70 [(.clo 8), (.clo 9), (.clo 16), (.clo 17)] (.back 1 [(.bool (.of (.var 18)))])))))))) (.ob (.and (.cmp .le (.lit (-9223372036854775808)) (.mul (.var 6) (.var 3))) (.cmp .le (.mul (.var 6) (.var 3)) (.lit 9223372036854775807))) (.ob (.and (.cmp .le (.lit (-9223372036854775808)) (.mul (.var 6) (.var 3))) (.cmp .le (.mul (.var 6) (.var 3)) (.lit 9223372036854775807))) (.arr [[(.int (.var 7))], [(.int (.var 5))], [(.int (.mul (.var 6) (.var 3)))], [(.int (.mul (.var 6) (.var 3)))]] (.call 68 [(.arr 2 (.var 10))] (.call 68 [(.arr 2 (.var 11))] (.call 69 [(.clo 12), (.clo 13), (.clo 14), (.clo 15)] (.call 70 [(.clo 8), (.clo 9), (.clo 16), (.clo 17)] (.back 1 [(.bool (.of (.var 18)))])))))))))))) (.ob (.and (.cmp .le (.lit (-9223372036854775808)) (.mul (.var 6) (.var 3))) (.cmp .le (.mul (.var 6) (.var 3)) (.lit 9223372036854775807))) (.ob (.and (.cmp .le (.lit (-9223372036854775808)) (.mul (.var 6) (.var 3))) (.cmp .le (.mul (.var 6) (.var 3)) (.lit 9223372036854775807))) (.arr [[(.int (.var 7))], [(.int (.var 5))], [(.int (.mul (.var 6) (.var 3)))], [(.int (.mul (.var 6) (.var 3)))]] (.ob (.and (.cmp .le (.lit (-9223372036854775808)) (.mul (.var 6) (.var 3))) (.cmp .le (.mul (.var 6) (.var 3)) (.lit 9223372036854775807))) (.ob (.and (.cmp .le (.lit (-9223372036854775808)) (.mul (.var 6) (.var 3))) (.cmp .le (.mul (.var 6) (.var 3)) (.lit 9223372036854775807))) (.arr [[(.int (.lit 3))], [(.int (.var 4))], [(.int (.mul (.var 6) (.var 3)))], [(.int (.mul (.var 6) (.var 3)))], [(.int (.var 3))], [(.int (.var 2))]] (.call 68 [(.arr 2 (.var 11))] (.call 68 [(.arr 2 (.var 10))] (.call 69 [(.clo 12), (.clo 13), (.clo 14), (.clo 15)] (.call 70 [(.clo 8), (.clo 9), (.clo 16), (.clo 17)] (.back 1 [(.bool (.of (.var 18)))])))))))))))) (.ret [(.bool (.of (.var 10)))]))))))
noncomputable def flposs : List (Nat × Func) := [(75, Try.f75)]
theorem fxposs : ∀ p ∈ flposs, FnOK p := fns_cons ⟨Try.func75, ⟨_, Try.func75, by decide, rfl⟩⟩ (fns_nil)
noncomputable def cposs : Cx := tab5.only [58, 66] (fun _ => []) flposs 1 [] (fun _ => none)
def tposs : Tree :=
  (.call 58 [(.int (.var 0)), (.int (.var 1)), (.int (.var 2)), (.int (.var 3))] (.split (.of (.var 7)) (.split (.cmp .le (.var 0) (.lit 1048576)) (.split (.and (.cmp .le (.lit 0) (.var 4)) (.cmp .le (.var 4) (.lit 1000000))) (.split (.and (.cmp .le (.lit 1) (.var 5)) (.cmp .le (.var 5) (.lit 1000000))) (.ret [(.bool (.and (.cmp .le (.lit 0) (.var 6)) (.cmp .le (.var 6) (.lit 1000000))))]) (.ret [(.bool (.lit false))])) (.ret [(.bool (.lit false))])) (.ret [(.bool (.lit false))])) (.ret [(.bool (.lit false))])))
noncomputable def cflowsx : Cx := tab5.only [67, 66, 62] (fun _ => []) [] 0 [] (fun _ => none)
def tflowsx : Tree :=
  (.call 67 [(.int (.var 0)), (.int (.var 1)), (.int (.var 2)), (.int (.var 3)), (.int (.var 4)), (.int (.var 5)), (.int (.var 7))] (.split (.of (.var 8)) (.split (.and (.cmp .le (.lit 0) (.var 6)) (.cmp .le (.var 6) (.lit 20000))) (.call 62 [(.int (.var 0)), (.int (.var 1)), (.int (.var 2)), (.int (.var 3)), (.int (.var 4)), (.int (.var 5)), (.int (.var 6)), (.int (.var 7))] (.ret [(.bool (.of (.var 9)))])) (.ret [(.bool (.lit false))])) (.ret [(.bool (.lit false))])))
noncomputable def flgrad : List (Nat × Func) := [(60, Try.f60), (61, Try.f61)]
theorem fxgrad : ∀ p ∈ flgrad, FnOK p := fns_cons ⟨Try.func60, ⟨_, Try.func60, by decide, rfl⟩⟩ (fns_cons ⟨Try.func61, ⟨_, Try.func61, by decide, rfl⟩⟩ (fns_nil))
noncomputable def cgrad : Cx := tab5.only [59, 62] (fun _ => []) flgrad 2 [] (fun _ => none)
def tgrad : Tree :=
  (.call 59 [(.int (.var 0)), (.int (.var 1)), (.int (.var 2)), (.int (.var 3)), (.int (.var 4)), (.int (.var 5)), (.int (.lit 20000)), (.int (.var 6))] (.split (.not (.of (.var 7))) (.ret [(.int (.lit 0)), (.bool (.lit false))]) (.arr [] (.loop [.int, .int] [(.int (.lit 0)), (.int (.lit 20000))] (.split (.cmp .lt (.var 9) (.var 10)) (.ob (.and (.cmp .le (.lit (-9223372036854775808)) (.add (.var 9) (.var 10))) (.cmp .le (.add (.var 9) (.var 10)) (.lit 9223372036854775807))) (.ob (.and (.cmp .le (.lit (-9223372036854775808)) (.quo (.add (.var 9) (.var 10)) (.lit 2))) (.cmp .le (.quo (.add (.var 9) (.var 10)) (.lit 2)) (.lit 9223372036854775807))) (.ob (.and (.cmp .le (.lit (-9223372036854775808)) (.quo (.add (.var 9) (.var 10)) (.lit 2))) (.cmp .le (.quo (.add (.var 9) (.var 10)) (.lit 2)) (.lit 9223372036854775807))) (.call 62 [(.int (.var 0)), (.int (.var 1)), (.int (.var 2)), (.int (.var 3)), (.int (.var 4)), (.int (.var 5)), (.int (.quo (.add (.var 9) (.var 10)) (.lit 2))), (.int (.var 6))] (.split (.of (.var 11)) (.ob (.and (.cmp .le (.lit (-9223372036854775808)) (.quo (.add (.var 9) (.var 10)) (.lit 2))) (.cmp .le (.quo (.add (.var 9) (.var 10)) (.lit 2)) (.lit 9223372036854775807))) (.back 0 [(.int (.var 9)), (.int (.quo (.add (.var 9) (.var 10)) (.lit 2)))])) (.ob (.and (.cmp .le (.lit (-9223372036854775808)) (.add (.quo (.add (.var 9) (.var 10)) (.lit 2)) (.lit 1))) (.cmp .le (.add (.quo (.add (.var 9) (.var 10)) (.lit 2)) (.lit 1)) (.lit 9223372036854775807))) (.ob (.and (.cmp .le (.lit (-9223372036854775808)) (.add (.quo (.add (.var 9) (.var 10)) (.lit 2)) (.lit 1))) (.cmp .le (.add (.quo (.add (.var 9) (.var 10)) (.lit 2)) (.lit 1)) (.lit 9223372036854775807))) (.back 0 [(.int (.add (.quo (.add (.var 9) (.var 10)) (.lit 2)) (.lit 1))), (.int (.var 10))])))))))) (.ret [(.int (.var 9)), (.bool (.lit true))]))))))
noncomputable def flloss : List (Nat × Func) := [(44, Try.f44), (46, Try.f46), (49, Try.f49)]
theorem fxloss : ∀ p ∈ flloss, FnOK p := fns_cons ⟨Try.func44, ⟨_, Try.func44, by decide, rfl⟩⟩ (fns_cons ⟨Try.func46, ⟨_, Try.func46, by decide, rfl⟩⟩ (fns_cons ⟨Try.func49, ⟨_, Try.func49, by decide, rfl⟩⟩ (fns_nil)))
noncomputable def closs : Cx := tab5.only [47, 45, 48] (fun _ => []) flloss 3 [53, 57, 58, 63] (fun _ => none)
def tloss : Tree :=
  (.dfn .nil (.dfn .nil (.dfn .nil (.dfn .nil (.dfn .nil (.dfn .nil (.dfn .nil (.dfn .nil (.dfn .nil (.dfn .nil (.split (.cmp .lt (.var 3) (.lit 1)) (.ret [(.int (.lit 0)), (.bool (.lit false))]) (.split (.and (.cmp .le (.lit 0) (.var 13)) (.cmp .le (.var 13) (.lit 1000000))) (.split (.and (.cmp .le (.lit 0) (.var 11)) (.cmp .le (.var 11) (.lit 1000000))) (.split (.not (.and (.cmp .le (.lit 1) (.var 12)) (.cmp .le (.var 12) (.lit 1000000)))) (.ret [(.int (.lit 0)), (.bool (.lit false))]) (.dfn .nil (.arr [[(.int (.var 8)), (.int (.var 3)), (.int (.var 9)), (.int (.var 10))]] (.call 45 [(.arr 89 (.var 51))] (.split (.cmp .ne (.var 52) (.lit 0)) (.ret [(.int (.lit 0)), (.bool (.lit false))]) (.split (.not (.and (.cmp .le (.lit 0) (.var 39)) (.cmp .le (.var 39) (.var 3)))) (.ret [(.int (.lit 0)), (.bool (.lit false))]) (.call 48 [(.int (.var 8)), (.int (.var 3)), (.int (.var 9)), (.int (.var 10)), (.int (.var 11)), (.int (.var 12)), (.int (.var 13))] (.split (.not (.of (.var 54))) (.ret [(.int (.lit 0)), (.bool (.lit false))]) (.ob (.and (.cmp .le (.lit (-9223372036854775808)) (.quo (.wr (.sub (.wr (.add (.wr (.mul (.var 39) (.var 8))) (.var 3))) (.lit 1))) (.var 3))) (.cmp .le (.quo (.wr (.sub (.wr (.add (.wr (.mul (.var 39) (.var 8))) (.var 3))) (.lit 1))) (.var 3)) (.lit 9223372036854775807))) (.ret [(.int (.wr (.mul (.var 53) (.quo (.wr (.sub (.wr (.add (.wr (.mul (.var 39) (.var 8))) (.var 3))) (.lit 1))) (.var 3))))), (.bool (.lit true))])))))))))) (.ret [(.int (.lit 0)), (.bool (.lit false))])) (.ret [(.int (.lit 0)), (.bool (.lit false))])))))))))))))
end Go.Proofs.Ytbgofenplhdllaa
/- House: segments, holes, what numbers of a flow may be. -/
namespace Go.Proofs.Ytbgofenplhdllaa
open Go.RowKit
set_option linter.unusedSimpArgs false
set_option linter.unusedVariables false

theorem fwithin_ok : tab5.ok 66 := by
  refine Tab.of_inl rfl rfl ⟨_, Try.func66, by decide, rfl⟩ ?_
  refine Inl.of_ct (args := [.lf .int, .lf .int, .lf .int]) (r := .lf .bool) (pre := fun _ => True) (fn := fun cs => [.b (inV (n_ cs 0) (n_ cs 1) (n_ cs 2))]) (ct_ok (cx := cfwithin) (Tab.cx_ok all_nil) Try.func66 (bds := []) (T := tfwithin) (by kernel_rfl) ?_) ?_
  · unfold tfwithin
    simp only [VC, allC, List.map_cons, List.map_nil, List.length_cons, List.length_nil, List.getElem?_cons_zero, List.getElem?_cons_succ, List.cons.injEq, C.i.injEq, C.b.injEq, and_true, true_and, forall_const, kindsOf_nil, kindsOf_lf, kindsOf_agg, kindsOf_box, boxKinds_nil, boxKinds_lf, boxKinds_agg, boxKinds_box, List.append_nil, List.cons_append, List.nil_append, den_cmp_le, den_cmp_lt, den_cmp_eq, den_cmp_ne, den_cmp_le', den_cmp_lt', den_cmp_eq', den_cmp_ne', den_and, den_and', den_or, den_or', den_not, den_not', den_blit, den_of, ev_var, at_0, at_1, at_2, at_3, at_4, at_5, at_6, at_7, at_skip, c_int, c_bool, c_arr, c_cnt, c_vec, ev_nil, ev_join, ev_sub3, loc_s, int_i, bool_b, rows_s, cs_nil, cs_cons, E.den_lit, E.den_var, E.den_add, E.den_sub, E.den_mul, E.den_quo, E.den_rem, E.den_max, E.den_min, E.den_len, E.den_wr, E.den_cell, ctWithin, ctF, n_, inV]
    intro n _ _ a _ _ b _ _
    refine ⟨bds_nil _, ?_⟩
    simp only [B.den, Cmp.den, E.den_var, at_0, at_1, at_2, int_i]
    show (a ≤ n → decide (n ≤ b) = (decide (a ≤ n) && decide (n ≤ b))) ∧ (n < a → false = (decide (a ≤ n) && decide (n ≤ b)))
    exact ⟨fun h => by rw [decide_eq_true h, Bool.true_and], fun h => by rw [decide_eq_false (p := a ≤ n) (by omega), Bool.false_and]⟩
  · intro bd ρ l obs s hg hn ho
    unfold withinI at hg
    split at hg
    · rename_i n a b
      cases hg
      refine ⟨rfl, rfl, ho, trivial, rfl, rfl, ?_⟩
      simp [cs_, cellsOf, S0.cells, S0.cellsM, Lf.c, B.den, B.den_mkCmp hn, Cmp.den, inV, n_, at_0, at_1, at_2, int_i]
    · cases hg
theorem fairV_iff {s : Sg} : fairV s = true ↔ 1 ≤ s.l ∧ (0 ≤ s.r ∧ s.r ≤ s.l) ∧ (1 ≤ s.a ∧ s.a ≤ 5000) ∧ 1 ≤ s.g ∧ s.g ≤ 200 := by
  unfold fairV
  simp only [Bool.and_eq_true, inV_iff, decide_eq_true_eq, and_assoc]
theorem fair_no {s : Sg} (h : ¬ (1 ≤ s.l ∧ (0 ≤ s.r ∧ s.r ≤ s.l) ∧ (1 ≤ s.a ∧ s.a ≤ 5000) ∧ 1 ≤ s.g ∧ s.g ≤ 200)) : false = fairV s := by
  symm
  rw [Bool.eq_false_iff]
  exact fun hx => h (fairV_iff.1 hx)
theorem fair_ok : tab5.ok 58 := by
  refine Tab.of_ct rfl rfl ⟨_, Try.func58, by decide, rfl⟩ ?_ ctF_det
  refine ct_ok (cx := cfair) (Tab.cx_ok (all_cons fwithin_ok all_nil)) Try.func58 (bds := []) (T := tfair) (by kernel_rfl) ?_
  unfold tfair
  simp only [VC, allC, List.map_cons, List.map_nil, List.length_cons, List.length_nil, List.getElem?_cons_zero, List.getElem?_cons_succ, List.cons.injEq, C.i.injEq, C.b.injEq, and_true, true_and, forall_const, kindsOf_nil, kindsOf_lf, kindsOf_agg, kindsOf_box, boxKinds_nil, boxKinds_lf, boxKinds_agg, boxKinds_box, List.append_nil, List.cons_append, List.nil_append, den_cmp_le, den_cmp_lt, den_cmp_eq, den_cmp_ne, den_cmp_le', den_cmp_lt', den_cmp_eq', den_cmp_ne', den_and, den_and', den_or, den_or', den_not, den_not', den_blit, den_of, ev_var, at_0, at_1, at_2, at_3, at_4, at_5, at_6, at_7, at_skip, c_int, c_bool, c_arr, c_cnt, c_vec, ev_nil, ev_join, ev_sub3, loc_s, int_i, bool_b, rows_s, cs_nil, cs_cons, E.den_lit, E.den_var, E.den_add, E.den_sub, E.den_mul, E.den_quo, E.den_rem, E.den_max, E.den_min, E.den_len, E.den_wr, E.den_cell, Nat.reduceAdd, ctFair, ctF, segSh, sg_, n_]
  intro a _ _ b _ _ c _ _ d _ _
  refine ⟨bds_nil _, fun h1 => ⟨fun h2 => ⟨fun h3 => ?_, fun h3 => fair_no fun hx => ?_⟩, fun h2 => fair_no fun hx => ?_⟩, fun h1 => fair_no fun hx => ?_⟩
  · show (decide (1 ≤ d) && decide (d ≤ 200)) = fairV ⟨a, b, c, d⟩
    unfold fairV inV
    simp only [decide_eq_true h1, decide_eq_true h2.1, decide_eq_true h2.2, decide_eq_true h3.1, decide_eq_true h3.2, Bool.true_and]
  · have h4 : 1 ≤ c ∧ c ≤ 5000 := hx.2.2.1
    omega
  · have h4 : 0 ≤ b ∧ b ≤ a := hx.2.1
    omega
  · have h4 : 1 ≤ a := hx.1
    omega
theorem segs_len (rows : List (List C)) : (segsOf rows).length = rows.length := by simp [segsOf]
def sg0 : Sg := ⟨0, 0, 0, 0⟩
theorem sg_at (v : Value) (rows : List (List C)) (i : Nat) : (⟨((C.s v rows).at i 0).int, ((C.s v rows).at i 1).int, ((C.s v rows).at i 2).int, ((C.s v rows).at i 3).int⟩ : Sg) = (segsOf rows).getD i sg0 := by
  simp only [cell_at, segsOf, List.getD_eq_getElem?_getD, List.getElem?_map]
  cases rows[i]? <;> rfl
theorem sl_at (v : Value) (rows : List (List C)) (i : Nat) : ((C.s v rows).at i 0).int = ((segsOf rows).getD i sg0).l := by rw [← sg_at v rows i]
theorem sr_at (v : Value) (rows : List (List C)) (i : Nat) : ((C.s v rows).at i 1).int = ((segsOf rows).getD i sg0).r := by rw [← sg_at v rows i]
theorem sa_at (v : Value) (rows : List (List C)) (i : Nat) : ((C.s v rows).at i 2).int = ((segsOf rows).getD i sg0).a := by rw [← sg_at v rows i]
theorem sgg_at (v : Value) (rows : List (List C)) (i : Nat) : ((C.s v rows).at i 3).int = ((segsOf rows).getD i sg0).g := by rw [← sg_at v rows i]
theorem longV_app : ∀ (a b : List Sg), longV (a ++ b) = longV a + longV b
  | [], b => by simp [longV]
  | s :: a, b => by rw [List.cons_append, longV, longV, longV_app a b]; omega
theorem longV_take {l : List Sg} {i : Nat} (h : i < l.length) : longV (l.take (i + 1)) = longV (l.take i) + (l.getD i sg0).l := by
  rw [take_snoc h sg0, longV_app]; simp [longV]
theorem holeV_short {l : List Sg} (h : l.length = 0) : holeV l = 6 := by unfold holeV; rw [if_pos h]
theorem holeV_full {l : List Sg} (h : 16 < l.length) : holeV l = 8 := by unfold holeV; rw [if_neg (by omega), if_pos h]
theorem holeV_bad {l : List Sg} (h1 : l.length ≠ 0) (h2 : l.length ≤ 16) {s : Sg} (hs : s ∈ l) (h3 : fairV s = false) : holeV l = 2 := by
  unfold holeV
  rw [if_neg h1, if_neg (by omega), if_neg fun h => ?_]
  have := List.all_eq_true.1 h s hs
  rw [h3] at this; cases this
theorem holeV_good {l : List Sg} (h1 : l.length ≠ 0) (h2 : l.length ≤ 16) (hf : ∀ s ∈ l, fairV s = true) : holeV l = if 1048576 < longV l then 5 else 0 := by
  unfold holeV
  rw [if_neg h1, if_neg (by omega), if_pos (List.all_eq_true.2 hf)]
theorem all_take {l : List Sg} {i : Nat} (hi : i < l.length) (h : ∀ s ∈ l.take i, fairV s = true) (h2 : fairV (l.getD i sg0) = true) : ∀ s ∈ l.take (i + 1), fairV s = true := fun s hs => by
  rw [take_snoc hi sg0] at hs
  rcases List.mem_append.1 hs with hs | hs
  · exact h s hs
  · rw [List.mem_singleton] at hs; subst hs; exact h2
theorem hole_ok : tab5.ok 45 := by
  refine Tab.of_ct rfl rfl ⟨_, Try.func45, by decide, rfl⟩ ?_ ctF_det
  refine ct_ok (cx := chole) (Tab.cx_ok (all_cons fair_ok all_nil)) Try.func45 (bds := []) (T := thole) (by kernel_rfl) ?_
  have h1 : chole.ct 58 = some ctFair := rfl
  unfold thole
  simp only [VC, allC, List.map_cons, List.map_nil, List.length_cons, List.length_nil, List.getElem?_cons_zero, List.getElem?_cons_succ, List.cons.injEq, C.i.injEq, C.b.injEq, and_true, true_and, forall_const, kindsOf_nil, kindsOf_lf, kindsOf_agg, kindsOf_box, boxKinds_nil, boxKinds_lf, boxKinds_agg, boxKinds_box, List.append_nil, List.cons_append, List.nil_append, den_cmp_le, den_cmp_lt, den_cmp_eq, den_cmp_ne, den_cmp_le', den_cmp_lt', den_cmp_eq', den_cmp_ne', den_and, den_and', den_or, den_or', den_not, den_not', den_blit, den_of, ev_var, at_0, at_1, at_2, at_3, at_4, at_5, at_6, at_7, at_skip, c_int, c_bool, c_arr, c_cnt, c_vec, ev_nil, ev_join, ev_sub3, loc_s, int_i, bool_b, rows_s, cs_nil, cs_cons, E.den_lit, E.den_var, E.den_add, E.den_sub, E.den_mul, E.den_quo, E.den_rem, E.den_max, E.den_min, E.den_len, E.den_wr, E.den_cell, ev_cell, Nat.reduceAdd, h1, ctFair, ctHole, ctF, holeSh, segSh, sg_, s_, n_, sl_at, sr_at, sa_at, sgg_at]
  intro u r _ _ _
  rw [← segs_len r]
  generalize hL : segsOf r = l at *
  refine ⟨bds_nil _, fun h => (holeV_short (by omega)).symm, fun h0 => ⟨fun h => (holeV_full (by omega)).symm, fun h16 => ?_⟩⟩
  refine ⟨fun xs => match xs with | [_, .i room, .b lg, .i i] => 0 ≤ i ∧ i ≤ l.length ∧ (∀ s ∈ l.take i.toNat, fairV s = true) ∧ 0 ≤ room ∧ room ≤ 1048576 ∧ (lg = true → 1048576 < longV (l.take i.toNat)) ∧ (lg = false → room = 1048576 - longV (l.take i.toNat)) | _ => False, fun xs => match xs with | [_, _, _, .i i] => ((l.length : Int) - i).toNat | _ => 0, ⟨by omega, by omega, fun s hs => by simp at hs, by omega, by omega, fun h => (by cases h), fun _ => by simp [longV]⟩, ?_⟩
  rintro x _ _ room _ _ lg i _ _ ⟨i0, i1, hf, r0, r1, hg, hn⟩
  refine ⟨fun hlt => ⟨i0, hlt, ?_⟩, fun hge => ?_⟩
  · rintro t ht
    have ht : t = fairV (l.getD i.toNat sg0) := ht
    have hm := getD_mem (l := l) (i := i.toNat) (by omega) sg0
    have hlt2 := longV_take (l := l) (i := i.toNat) (by omega)
    have hmu : ((l.length : Int) - (i + 1)).toNat < ((l.length : Int) - i).toNat := by omega
    have e1 : (i + 1).toNat = i.toNat + 1 := by omega
    refine ⟨fun h => (holeV_bad (by omega) (by omega) hm (by rw [← ht, h])).symm, fun h => ?_⟩
    rw [h] at ht
    have hf' := all_take (by omega) hf ht.symm
    have hl1 := (fairV_iff.1 ht.symm).1
    refine ⟨fun hl => ⟨⟨by omega, by omega, by rw [e1]; exact hf', r0, r1, fun _ => by rw [e1, hlt2]; have := hg hl; omega, fun h => (by cases h)⟩, hmu⟩, fun hl => ⟨fun hle => ⟨⟨by omega, by omega⟩, ⟨by omega, by omega⟩, ⟨by omega, by omega, by rw [e1]; exact hf', by omega, by omega, ?_, ?_⟩, hmu⟩, fun hlt3 => ⟨⟨by omega, by omega, by rw [e1]; exact hf', r0, r1, ?_, ?_⟩, hmu⟩⟩⟩
    · intro hd
      have hd : decide (room < ((C.s u r).at i.toNat 0).int) = true := hd
      rw [sl_at, hL, decide_eq_true_eq] at hd
      omega
    · intro _
      have := hn hl
      rw [e1, hlt2]; omega
    · intro _
      have := hn hl
      rw [e1, hlt2]; omega
    · intro hd
      have hd : decide (room < ((C.s u r).at i.toNat 0).int) = false := hd
      rw [sl_at, hL, decide_eq_false_iff_not] at hd
      omega
  · rw [List.take_of_length_le (by omega)] at hf hg hn
    rw [holeV_good (by omega) (by omega) hf]
    exact ⟨fun hl => by rw [if_pos (hg hl)], fun hl => by rw [if_neg (by have := hn hl; omega)]⟩
end Go.Proofs.Ytbgofenplhdllaa
/- House: what numbers of a flow may be; gradients. -/
namespace Go.Proofs.Ytbgofenplhdllaa
open Go.RowKit
set_option linter.unusedSimpArgs false
set_option linter.unusedVariables false

def PossP (l r a g y v f : Int) : Prop := (1 ≤ l ∧ (0 ≤ r ∧ r ≤ l) ∧ (1 ≤ a ∧ a ≤ 5000) ∧ 1 ≤ g ∧ g ≤ 200) ∧ l ≤ 1048576 ∧ (0 ≤ y ∧ y ≤ 1000000) ∧ (1 ≤ v ∧ v ≤ 1000000) ∧ 0 ≤ f ∧ f ≤ 1000000
theorem poss_iff {l r a g y v f : Int} : possV ⟨l, r, a, g⟩ y v f = true ↔ PossP l r a g y v f := by
  unfold possV PossP
  simp only [Bool.and_eq_true, fairV_iff, inV_iff, decide_eq_true_eq, and_assoc]
theorem fair_iff {l r a g : Int} : fairV ⟨l, r, a, g⟩ = true ↔ 1 ≤ l ∧ (0 ≤ r ∧ r ≤ l) ∧ (1 ≤ a ∧ a ≤ 5000) ∧ 1 ≤ g ∧ g ≤ 200 := fairV_iff
theorem poss_no {l r a g y v f : Int} (h : ¬ PossP l r a g y v f) : false = possV ⟨l, r, a, g⟩ y v f := by
  symm
  rw [Bool.eq_false_iff]
  exact fun hx => h (poss_iff.1 hx)
theorem b_iff {b c : Bool} (h : b = true ↔ c = true) : b = c := by cases b <;> cases c <;> simp_all
theorem poss_last {l r a g y v f : Int} {t : Bool} (h : (1 ≤ l ∧ (0 ≤ r ∧ r ≤ l) ∧ (1 ≤ a ∧ a ≤ 5000) ∧ 1 ≤ g ∧ g ≤ 200) ∧ l ≤ 1048576 ∧ (0 ≤ y ∧ y ≤ 1000000) ∧ (1 ≤ v ∧ v ≤ 1000000)) (ht : t = true ↔ 0 ≤ f ∧ f ≤ 1000000) : t = possV ⟨l, r, a, g⟩ y v f :=
  b_iff (ht.trans (Iff.trans ⟨fun hf => ⟨h.1, h.2.1, h.2.2.1, h.2.2.2, hf⟩, fun hf => hf.2.2.2.2⟩ poss_iff.symm))
theorem poss_ok : tab5.ok 67 := by
  refine Tab.of_ct rfl rfl ⟨_, Try.func67, by decide, rfl⟩ ?_ ctF_det
  refine ct_ok (cx := cposs) (Tab.cx_ok (all_cons fair_ok (all_cons fwithin_ok all_nil)) fxposs) Try.func67 (bds := []) (T := tposs) (by kernel_rfl) ?_
  have h1 : cposs.ct 58 = some ctFair := rfl
  unfold tposs
  simp only [VC, allC, List.map_cons, List.map_nil, List.length_cons, List.length_nil, List.getElem?_cons_zero, List.getElem?_cons_succ, List.cons.injEq, C.i.injEq, C.b.injEq, and_true, true_and, forall_const, kindsOf_nil, kindsOf_lf, kindsOf_agg, kindsOf_box, boxKinds_nil, boxKinds_lf, boxKinds_agg, boxKinds_box, List.append_nil, List.cons_append, List.nil_append, den_cmp_le, den_cmp_lt, den_cmp_eq, den_cmp_ne, den_cmp_le', den_cmp_lt', den_cmp_eq', den_cmp_ne', den_and, den_and', den_or, den_or', den_not, den_not', den_blit, den_of, ev_var, at_0, at_1, at_2, at_3, at_4, at_5, at_6, at_7, at_skip, c_int, c_bool, c_arr, c_cnt, c_vec, ev_nil, ev_join, ev_sub3, loc_s, int_i, bool_b, rows_s, cs_nil, cs_cons, E.den_lit, E.den_var, E.den_add, E.den_sub, E.den_mul, E.den_quo, E.den_rem, E.den_max, E.den_min, E.den_len, E.den_wr, E.den_cell, Nat.reduceAdd, h1, ctFair, ctPoss, ctF, segSh, mudSh, sg_, n_]
  intro l _ _ r _ _ a _ _ g _ _ y _ _ v _ _ f _ _
  refine ⟨bds_nil _, ?_⟩
  rintro t rfl
  refine ⟨fun h => ?_, fun h => poss_no fun hx => ?_⟩
  · have hf := fair_iff.1 h
    refine ⟨fun h2 => ⟨fun h3 => ⟨fun h4 => ?_, fun h4 => poss_no fun hx => ?_⟩, fun h3 => poss_no fun hx => ?_⟩, fun h2 => poss_no fun hx => ?_⟩
    · exact poss_last ⟨hf, h2, h3, h4⟩ (by show (decide (0 ≤ f) && decide (f ≤ 1000000)) = true ↔ _; simp)
    · have := hx.2.2.2.1; omega
    · have := hx.2.2.1; omega
    · have := hx.2.1; omega
  · rw [fair_iff.2 hx.1] at h; cases h
/-! A search -/
def bsI (p : Int → Bool) (lo hi : Int) : Prop := 0 ≤ lo ∧ lo ≤ hi ∧ hi ≤ 20000 ∧ ∃ n : Nat, hi - lo < 2 ^ n ∧ bsV p n lo hi = bsV p 15 0 20000
theorem bsI_start (p : Int → Bool) : bsI p 0 20000 := ⟨by omega, by omega, by omega, 15, by decide, rfl⟩
theorem bsI_end {p : Int → Bool} {lo hi : Int} (h : bsI p lo hi) (hge : hi ≤ lo) : lo = bsV p 15 0 20000 := by
  obtain ⟨-, -, -, n, -, h⟩ := h
  rw [← h]
  cases n with
  | zero => rfl
  | succ n => unfold bsV; rw [if_neg (by omega)]
theorem bsI_step {p : Int → Bool} {lo hi : Int} (h : bsI p lo hi) (hlt : lo < hi) : ∃ m, (lo + hi).tdiv 2 = m ∧ lo ≤ m ∧ m < hi ∧ 0 ≤ lo ∧ hi ≤ 20000 ∧ (p m = true → bsI p lo m) ∧ (p m = false → bsI p (m + 1) hi) := by
  obtain ⟨h1, h2, h3, n, h4, h5⟩ := h
  have e : (lo + hi).tdiv 2 = (lo + hi) / 2 := Int.tdiv_eq_ediv_of_nonneg (by omega)
  refine ⟨(lo + hi) / 2, e, by omega, by omega, h1, h3, fun hp => ?_, fun hp => ?_⟩
  · cases n with
    | zero => simp at h4; omega
    | succ n =>
      rw [Int.pow_succ] at h4
      unfold bsV at h5
      rw [if_pos hlt, if_pos hp] at h5
      refine ⟨h1, by omega, by omega, n, ?_, h5⟩
      generalize (2 : Int) ^ n = P at *
      omega
  · cases n with
    | zero => simp at h4; omega
    | succ n =>
      rw [Int.pow_succ] at h4
      unfold bsV at h5
      rw [if_pos hlt, if_neg (by rw [hp]; simp)] at h5
      refine ⟨by omega, by omega, by omega, n, ?_, h5⟩
      generalize (2 : Int) ^ n = P at *
      omega
theorem grad_yes {s : Sg} {y v f : Int} (h : possV s y v f = true) (h2 : flowsV s.a s.g y v 20000 f = true) : gradV s y v f = (bsV (fun g => flowsV s.a s.g y v g f) 15 0 20000, true) := by unfold gradV; rw [if_pos ⟨h, h2⟩]
theorem grad_not {s : Sg} {y v f : Int} (h : ¬ (possV s y v f = true ∧ flowsV s.a s.g y v 20000 f = true)) : gradV s y v f = (0, false) := by unfold gradV; rw [if_neg h]
theorem flowsP_of {l r a g y v f t : Int} (h : PossP l r a g y v f) (ht : 0 ≤ t ∧ t ≤ 20000) : flowsP a g y v t f := ⟨h.1.2.2.1, h.1.2.2.2, h.2.2.1, h.2.2.2.1, ht, h.2.2.2.2⟩
theorem flowsx_ok (flows_ok : tab5.ok 62) : tab5.ok 59 := by
  refine Tab.of_ct rfl rfl ⟨_, Try.func59, by decide, rfl⟩ ?_ ctF_det
  refine ct_ok (cx := cflowsx) (Tab.cx_ok (all_cons poss_ok (all_cons fwithin_ok (all_cons flows_ok all_nil)))) Try.func59 (bds := []) (T := tflowsx) (by kernel_rfl) ?_
  have h1 : cflowsx.ct 67 = some ctPoss := rfl
  have h2 : cflowsx.ct 62 = some ctFlows := rfl
  unfold tflowsx
  simp only [VC, allC, List.map_cons, List.map_nil, List.length_cons, List.length_nil, List.getElem?_cons_zero, List.getElem?_cons_succ, List.cons.injEq, C.i.injEq, C.b.injEq, and_true, true_and, forall_const, kindsOf_nil, kindsOf_lf, kindsOf_agg, kindsOf_box, boxKinds_nil, boxKinds_lf, boxKinds_agg, boxKinds_box, List.append_nil, List.cons_append, List.nil_append, den_cmp_le, den_cmp_lt, den_cmp_eq, den_cmp_ne, den_cmp_le', den_cmp_lt', den_cmp_eq', den_cmp_ne', den_and, den_and', den_or, den_or', den_not, den_not', den_blit, den_of, ev_var, at_0, at_1, at_2, at_3, at_4, at_5, at_6, at_7, at_skip, c_int, c_bool, c_arr, c_cnt, c_vec, ev_nil, ev_join, ev_sub3, loc_s, int_i, bool_b, rows_s, cs_nil, cs_cons, E.den_lit, E.den_var, E.den_add, E.den_sub, E.den_mul, E.den_quo, E.den_rem, E.den_max, E.den_min, E.den_len, E.den_wr, E.den_cell, Nat.reduceAdd, h1, h2, ctPoss, ctFlows, ctFlowsX, ctF, segSh, mudSh, sg_, n_, flowsC]
  intro l _ _ r _ _ a _ _ g _ _ y _ _ v _ _ t _ _ f _ _
  refine ⟨bds_nil _, ?_⟩
  rintro b rfl
  refine ⟨fun hp => ⟨fun ht => ⟨flowsP_of (poss_iff.1 hp) ht, ?_⟩, fun ht => ?_⟩, fun hp => by rw [hp]; rfl⟩
  · rintro b rfl
    rw [hp, inV_iff.2 ht]; rfl
  · rw [show inV t 0 20000 = false by rw [Bool.eq_false_iff]; intro h; have := inV_iff.1 h; omega, hp]; rfl
theorem grad_ok (flows_ok : tab5.ok 62) : tab5.ok 48 := by
  refine Tab.of_ct rfl rfl ⟨_, Try.func48, by decide, rfl⟩ ?_ ctF_det
  refine ct_ok (cx := cgrad) (Tab.cx_ok (all_cons (flowsx_ok flows_ok) (all_cons flows_ok all_nil)) fxgrad) Try.func48 (bds := []) (T := tgrad) (by kernel_rfl) ?_
  have h1 : cgrad.ct 59 = some ctFlowsX := rfl
  have h2 : cgrad.ct 62 = some ctFlows := rfl
  unfold tgrad
  simp only [VC, allC, List.map_cons, List.map_nil, List.length_cons, List.length_nil, List.getElem?_cons_zero, List.getElem?_cons_succ, List.cons.injEq, C.i.injEq, C.b.injEq, and_true, true_and, forall_const, kindsOf_nil, kindsOf_lf, kindsOf_agg, kindsOf_box, boxKinds_nil, boxKinds_lf, boxKinds_agg, boxKinds_box, List.append_nil, List.cons_append, List.nil_append, den_cmp_le, den_cmp_lt, den_cmp_eq, den_cmp_ne, den_cmp_le', den_cmp_lt', den_cmp_eq', den_cmp_ne', den_and, den_and', den_or, den_or', den_not, den_not', den_blit, den_of, ev_var, at_0, at_1, at_2, at_3, at_4, at_5, at_6, at_7, at_skip, c_int, c_bool, c_arr, c_cnt, c_vec, ev_nil, ev_join, ev_sub3, loc_s, int_i, bool_b, rows_s, cs_nil, cs_cons, E.den_lit, E.den_var, E.den_add, E.den_sub, E.den_mul, E.den_quo, E.den_rem, E.den_max, E.den_min, E.den_len, E.den_wr, E.den_cell, Nat.reduceAdd, h1, h2, ctFlows, ctFlowsX, ctGrad, ctF, segSh, mudSh, sg_, n_, flowsC]
  intro l _ _ r _ _ a _ _ g _ _ y _ _ v _ _ f _ _
  refine ⟨bds_nil _, ?_⟩
  rintro b hb
  rw [show inV 20000 0 20000 = true from rfl, Bool.and_true] at hb
  refine ⟨fun h => ?_, fun h => ?_⟩
  · rw [grad_not (by rw [← Bool.and_eq_true, ← hb, h]; simp)]; exact ⟨rfl, rfl⟩
  · rw [h] at hb
    obtain ⟨hp, hf⟩ := Bool.and_eq_true_iff.1 hb.symm
    rw [grad_yes hp hf]
    refine ⟨fun xs => match xs with | [.i lo, .i hi] => bsI (fun t => flowsV a g y v t f) lo hi | _ => False, fun xs => match xs with | [.i lo, .i hi] => (hi - lo).toNat | _ => 0, bsI_start _, ?_⟩
    intro lo _ _ hi _ _ hI
    have hI : bsI (fun t => flowsV a g y v t f) lo hi := hI
    refine ⟨fun hlt => ?_, fun hge => ⟨bsI_end hI hge, rfl⟩⟩
    obtain ⟨m, e, m1, m2, m3, m4, k1, k2⟩ := bsI_step hI hlt
    rw [e]
    refine ⟨⟨by omega, by omega⟩, ⟨by omega, by omega⟩, ⟨by omega, by omega⟩, flowsP_of (poss_iff.1 hp) ⟨by omega, by omega⟩, ?_⟩
    rintro t rfl
    exact ⟨fun h => ⟨⟨by omega, by omega⟩, k1 h, (show (m - lo).toNat < (hi - lo).toNat by omega)⟩, fun h => ⟨⟨by omega, by omega⟩, ⟨by omega, by omega⟩, k2 h, (show (hi - (m + 1)).toNat < (hi - lo).toNat by omega)⟩⟩
end Go.Proofs.Ytbgofenplhdllaa
/- House: numbers of two words: products, sums, comparisons, walked. -/
namespace Go.Proofs.Ytbgofenplhdllaa
open Go.RowKit Go.Shelf
set_option linter.unusedSimpArgs false
set_option linter.unusedVariables false

def mul64_ren : Go.Shelf.Ren := ⟨fun | 264 => 76 | n => n, fun | 53 => 100 | 46 => 113 | n => n, fun | n => n⟩
theorem mul64_lay : Go.Proofs.Lays.n264 Try.prog mul64_ren := {
  mixed := by kernel_rfl
  f264 := Try.func76.trans (congrArg some (by kernel_rfl))
  t46 := Try.underlying113
  a46 := Try.isAgg113
  z46 := Try.sizeOf113
  v46 := Try.zeroValue113
  t53 := Try.underlying100
  a53 := Try.isAgg100
  z53 := Try.sizeOf100
  v53 := Try.zeroValue100 }
theorem mul64_calls (x y : Nat) (hx : x < 18446744073709551616) (hy : y < 18446744073709551616) (w : World) :
    Calls Try.prog 76 #[.int .u64 x, .int .u64 y] w fun e w' => e = .returned (.tuple #[.int .u64 ((x * y / 18446744073709551616 : Nat) : Int), .int .u64 ((x * y % 18446744073709551616 : Nat) : Int)]) ∧ w' = w :=
  Go.Proofs.Any.bits_Mul64 mul64_lay x y hx hy w
def add64_ren : Go.Shelf.Ren := ⟨fun | 25 => 77 | n => n, fun | 22 => 100 | n => n, fun | n => n⟩
theorem add64_lay : Go.Proofs.Lays7.n25 Try.prog add64_ren := {
  mixed := by kernel_rfl
  f25 := Try.func77.trans (congrArg some (by kernel_rfl))
  t22 := Try.underlying100
  a22 := Try.isAgg100
  z22 := Try.sizeOf100
  v22 := Try.zeroValue100
  i22 := by kernel_rfl }
theorem add64_run (x y : Nat) (w : World) :
    (callFunc 77 #[.int .u64 x, .int .u64 y, .int .u64 0]).run Try.prog w =
      .ok (.value (.tuple #[.int .u64 (((x + y) % 18446744073709551616 : Nat) : Int), .int .u64 (((x + y) / 18446744073709551616 : Nat) : Int)])) w :=
  Go.Proofs.Any7.bits_Add64 add64_lay x y 0 (by omega) w

theorem wide_step (h l x : Nat) : ((h * x % 18446744073709551616 + l * x / 18446744073709551616) % 18446744073709551616) * 18446744073709551616 + l * x % 18446744073709551616 = (h * 18446744073709551616 + l) * x % 340282366920938463463374607431768211456 := by
  rw [Nat.add_mul, Nat.mul_right_comm]
  generalize h * x = a
  generalize l * x = b
  omega
theorem plus_calls (a b c d : Nat) (w : World) :
    Calls Try.prog 69 #[.agg #[.int .u64 a, .int .u64 b], .agg #[.int .u64 c, .int .u64 d]] w fun e w' =>
      e = .returned (.agg #[.int .u64 (((a + c + (b + d) / 18446744073709551616) % 18446744073709551616 : Nat) : Int), .int .u64 (((b + d) % 18446744073709551616 : Nat) : Int)]) ∧ Below w.heap.size w w' := by
  go_enter Try.func69, Try.ntmps69
  go_wp2_with (simp only [add64_run])
  refine bodyPost_ret (v := .agg #[.int .u64 (((a + c + (b + d) / 18446744073709551616) % 18446744073709551616 : Nat) : Int), .int .u64 (((b + d) % 18446744073709551616 : Nat) : Int)]) ?_ rfl ?_
  · simp [results, Try.results69, go_sem, cell_put_same, IntKind.wrap_u64]
  · refine ⟨rfl, ?_⟩
    repeat' (first | with_reducible exact Below.refl _ _ | with_reducible refine bstep ?_ (by with_reducible assumption) | with_reducible refine balloc ?_ | with_reducible refine bdrew ?_ | with_reducible refine bdrewN ?_ _ | with_reducible refine bset ?_ (by go_size))
theorem least_calls (a b c d : Nat) (w : World) :
    Calls Try.prog 70 #[.agg #[.int .u64 a, .int .u64 b], .agg #[.int .u64 c, .int .u64 d]] w fun e w' =>
      e = .returned (.bool (decide (a = c ∧ b = d ∨ c < a ∨ a = c ∧ d < b))) ∧ Below w.heap.size w w' := by
  go_enter Try.func70, Try.ntmps70
  go_wp2
  · rename_i h1 h2
    refine bodyPost_ret (v := .bool true) (by simp [results, Try.results70, go_sem]) rfl ⟨?_, ?_⟩
    · rw [decide_eq_true]; omega
    · repeat' (first | with_reducible exact Below.refl _ _ | with_reducible refine bstep ?_ (by with_reducible assumption) | with_reducible refine balloc ?_ | with_reducible refine bdrew ?_ | with_reducible refine bdrewN ?_ _ | with_reducible refine bset ?_ (by go_size))
  · rename_i h1 h2
    refine bodyPost_ret (v := .bool (decide (d < b))) (by simp [results, Try.results70, go_sem]) rfl ⟨?_, ?_⟩
    · congr 2; rw [decide_eq_decide]; omega
    · repeat' (first | with_reducible exact Below.refl _ _ | with_reducible refine bstep ?_ (by with_reducible assumption) | with_reducible refine balloc ?_ | with_reducible refine bdrew ?_ | with_reducible refine bdrewN ?_ _ | with_reducible refine bset ?_ (by go_size))
  · rename_i h1 h2
    refine bodyPost_ret (v := .bool (decide (c < a))) (by simp [results, Try.results70, go_sem]) rfl ⟨?_, ?_⟩
    · congr 2; rw [decide_eq_decide]; omega
    · repeat' (first | with_reducible exact Below.refl _ _ | with_reducible refine bstep ?_ (by with_reducible assumption) | with_reducible refine balloc ?_ | with_reducible refine bdrew ?_ | with_reducible refine bdrewN ?_ _ | with_reducible refine bset ?_ (by go_size))
  · rename_i h1 h2
    refine bodyPost_ret (v := .bool true) (by simp [results, Try.results70, go_sem]) rfl ⟨?_, ?_⟩
    · rw [decide_eq_true]; omega
    · repeat' (first | with_reducible exact Below.refl _ _ | with_reducible refine bstep ?_ (by with_reducible assumption) | with_reducible refine balloc ?_ | with_reducible refine bdrew ?_ | with_reducible refine bdrewN ?_ _ | with_reducible refine bset ?_ (by go_size))
set_option maxHeartbeats 1000000 in
theorem product_calls (bs o cap : Nat) (l : List Nat) (hl : ∀ k ∈ l, k < 9223372036854775808) (w : World) (hn : (l.length : Int) ≤ 9223372036854775807)
    (hc : ∀ i, i < l.length → bs < w.heap.size ∧ w.cell? ⟨bs, o + i, none⟩ = some (.int .i64 ((l.getD i 0 : Nat) : Int))) (a : Option Addr) (ha : l ≠ [] → a = some ⟨bs, o, none⟩) :
    Calls Try.prog 68 #[.slice a l.length cap] w fun e w' =>
      ∃ h lo : Nat, h < 18446744073709551616 ∧ lo < 18446744073709551616 ∧ h * 18446744073709551616 + lo = l.foldl (· * ·) 1 % 340282366920938463463374607431768211456 ∧
        e = .returned (.agg #[.int .u64 h, .int .u64 lo]) ∧ Below w.heap.size w w' := by
  generalize hlen : l.length = n at *
  go_enter Try.func68, Try.ntmps68
  go_wp2
  go_loopw [11] (fun i wr => ∃ k h lo : Nat, k ≤ n ∧ i = .int .i64 k ∧ h < 18446744073709551616 ∧ lo < 18446744073709551616 ∧ h * 18446744073709551616 + lo = (l.take k).foldl (· * ·) 1 % 340282366920938463463374607431768211456 ∧
    Blk wr w.heap.size 102 #[.int .u64 0, .int .u64 0] ∧ Blk wr (w.heap.size + 1) 102 #[.int .u64 h, .int .u64 lo] ∧ Below w.heap.size w wr) (fun i _ => n - (intOf i).toNat)
  case atStart =>
    refine ⟨0, 0, 1, Nat.zero_le _, rfl, by omega, by omega, rfl, ?_, ?_, ?_⟩
    · exact (Blk.new w _ _).alloc _
    · exact Blk.new' (by simp)
    · repeat' (first | with_reducible exact Below.refl _ _ | with_reducible refine bstep ?_ (by with_reducible assumption) | with_reducible refine balloc ?_ | with_reducible refine bdrew ?_ | with_reducible refine bdrewN ?_ _ | with_reducible refine bset ?_ (by go_size))
  case round =>
    obtain ⟨k, h, lo, hk, rfl, hh, hlo, hp, B0, B1, hbw⟩ := hrel
    have d0 := B1.cell 0 (v := .int .u64 h) rfl
    have d1 := B1.cell 1 (v := .int .u64 lo) rfl
    have f0 := B1.froz 0
    have f1 := B1.froz 1
    have e0 := B0.cell 0 (v := .int .u64 0) rfl
    have e1 := B0.cell 1 (v := .int .u64 0) rfl
    have g0 := B0.froz 0
    have g1 := B0.froz 1
    have hz := B1.lt
    by_cases hlt : k < n
    · obtain rfl := ha (by intro e; subst e; simp at hlen; omega)
      obtain ⟨hbs, hcell⟩ := hc k hlt
      have hcell := (hbw.cell (p := ⟨bs, o + k, none⟩) hbs).trans hcell
      have hx := hl _ (getD_mem (l := l) (i := k) (by omega) 0)
      generalize hxx : l.getD k 0 = x at *
      have hb0 : (k : Int) < n := by omega
      have hm := mul64_calls lo x hlo (by omega)
      go_wp2_with (go_at_call 76; refine (hm _).mono ?_; rintro e w' ⟨rfl, rfl⟩)
      have q1 : IntKind.u64.wrap (IntKind.u64.wrap ((h : Int) * x) + (lo : Int) * x / 18446744073709551616) = (((h * x % 18446744073709551616 + lo * x / 18446744073709551616) % 18446744073709551616 : Nat) : Int) := by
        rw [← Int.natCast_mul, ← Int.natCast_mul, IntKind.wrap_u64, IntKind.wrap_u64]
        generalize h * x = p
        generalize lo * x = q
        omega
      have q2 : (lo : Int) * x % 18446744073709551616 = ((lo * x % 18446744073709551616 : Nat) : Int) := by rw [← Int.natCast_mul]; omega
      rw [q1, q2]
      refine ⟨⟨k + 1, (h * x % 18446744073709551616 + lo * x / 18446744073709551616) % 18446744073709551616, lo * x % 18446744073709551616, by omega, by congr 1, Nat.mod_lt _ (by omega), Nat.mod_lt _ (by omega), ?_, (B0.far (by simp) _).far (by simp) _, ?_, ?_⟩, ?_⟩
      · rw [wide_step, hp, take_snoc (by omega) 0, hxx, List.foldl_append, List.foldl_cons, List.foldl_nil, Nat.mod_mul_mod]
      · have := (B1.put 0 (.int .u64 (((h * x % 18446744073709551616 + lo * x / 18446744073709551616) % 18446744073709551616 : Nat) : Int))).put 1 (.int .u64 ((lo * x % 18446744073709551616 : Nat) : Int))
        simpa using this
      · repeat' (first | with_reducible exact Below.refl _ _ | with_reducible refine bstep ?_ (by with_reducible assumption) | with_reducible refine balloc ?_ | with_reducible refine bdrew ?_ | with_reducible refine bdrewN ?_ _ | with_reducible refine bset ?_ (by go_size))
      · simp [intOf]; omega
    · obtain rfl : k = n := by omega
      go_wp2
      refine bodyPost_ret (v := .agg #[.int .u64 h, .int .u64 lo]) (by simp [results, Try.results68, go_sem, cell_put_same, e0, e1]) rfl ?_
      refine ⟨h, lo, hh, hlo, ?_, rfl, ?_⟩
      · rw [hp, List.take_of_length_le (by omega)]
      · repeat' (first | with_reducible exact Below.refl _ _ | with_reducible refine bstep ?_ (by with_reducible assumption) | with_reducible refine balloc ?_ | with_reducible refine bdrew ?_ | with_reducible refine bdrewN ?_ _ | with_reducible refine bset ?_ (by go_size))

/-! As contracts -/
theorem small_s (v : Value) : ∀ n, (C.s v []).small n := fun n => by cases n <;> simp [C.small]
/-- What a []int64 holds. -/
theorem longs_rep {w : World} {Base : Nat → Nat → Prop} {u : Value} {c : C} (h : LRep Try.prog w Base (.arr 2) u c) :
    ∃ a cap b o, u = .slice a (ints c.rows).length cap ∧ ((ints c.rows).length : Int) ≤ 9223372036854775807 ∧ (ints c.rows ≠ [] → a = some ⟨b, o, none⟩) ∧ (∀ k ∈ ints c.rows, -9223372036854775808 ≤ k ∧ k ≤ 9223372036854775807) ∧
      ∀ i, i < (ints c.rows).length → b < w.heap.size ∧ w.cell? ⟨b, o + i, none⟩ = some (.int .i64 ((ints c.rows).getD i 0)) := by
  obtain ⟨hsm, hu, v, rows, rfl, d, S, hS, hA⟩ := h
  have hu : u = v := hu
  subst hu
  simp only [rows_s]
  have hi : ∀ k ∈ ints rows, -9223372036854775808 ≤ k ∧ k ≤ 9223372036854775807 := fun k hk => by
    obtain ⟨r, hr, rfl⟩ := List.mem_map.1 hk
    cases r with
    | nil => simp [C.int]
    | cons x r =>
      have := (hsm 2).2 _ hr x (by simp)
      cases x with
      | i n => exact this
      | b t => simp [C.int]
      | s v rows => simp [C.int]
  cases d with
  | zero => exact hA.elim
  | succ d =>
    obtain ⟨ks, hk, a, cap, rfl, hA⟩ := hA
    rw [show kinds Try.prog 2 = some [.int] by kernel_rfl] at hk
    cases hk
    rw [ints_len]
    by_cases hne : rows = []
    · subst hne
      exact ⟨a, cap, 0, 0, rfl, by simp, fun h => absurd rfl h, hi, fun i h => by simp at h⟩
    · obtain ⟨b', o, rfl, -, hr⟩ := hA hne
      refine ⟨_, cap, b', o, rfl, (hsm 1).1, fun _ => rfl, hi, fun i hi => ?_⟩
      obtain ⟨-, hc⟩ := hr i rows[i] (List.getElem?_eq_getElem hi)
      obtain ⟨hs, x, c, hx, hc1, n, rfl, rfl⟩ := hc 0 .int rfl
      have e : o + (i * [Lk.int].length + 0) = o + i := by simp
      rw [e] at hx
      refine ⟨(hS _ _ hs).1, ?_⟩
      rw [hx]
      congr 2
      have hri : (ints rows).getD i 0 = ((rows[i]).getD 0 (.i 0)).int := by
        simp only [ints, List.getD_eq_getElem?_getD, List.getElem?_map, List.getElem?_eq_getElem hi, Option.map_some, Option.getD_some]
      rw [hri, List.getD_eq_getElem?_getD, hc1]
      rfl
theorem prodV_nat (l : List Int) (h : ∀ k ∈ l, 0 ≤ k) : prodV l = (((l.map Int.toNat).foldl (· * ·) 1 : Nat) : Int) := by
  have key : ∀ (l : List Int) (n : Nat), (∀ k ∈ l, 0 ≤ k) → l.foldl (· * ·) (n : Int) = (((l.map Int.toNat).foldl (· * ·) n : Nat) : Int) := fun l => by
    induction l with
    | nil => intro n _; rfl
    | cons k l ih =>
      intro n hk
      have h0 := hk k (by simp)
      rw [List.foldl_cons, List.map_cons, List.foldl_cons, ← ih _ fun x hx => hk x (by simp [hx]), Int.natCast_mul, Int.toNat_of_nonneg h0]
  exact key l 1 h
/-- One struct of two words as a result. -/
theorem wide_res {w : World} {Base : Nat → Nat → Prop} {n : Nat} (h l : Int) : Res Try.prog w Base n [wideSh] (.agg #[.int .u64 h, .int .u64 l]) [wd h, wd l] := by
  refine ⟨[_], rfl, ⟨[wd h, wd l], [], rfl, ⟨[.int .u64 h, .int .u64 l], rfl, ⟨⟨small_s _, rfl, rfl⟩, ⟨small_s _, rfl, rfl⟩, trivial⟩⟩, rfl⟩, ?_, ?_⟩
  · simp [kindsOf, wideSh, Sh0.kinds, vecB]
  · simp [kindsOf, wideSh, Sh0.kinds, vecB]
theorem keeps_below {w w' : World} {F : Nat → Prop} (h : Below w.heap.size w w') (hF : ∀ i, F i → i < w.heap.size) : Keeps F w w' := ⟨h.os, h.tape, h.output, h.size, fun i hi => h.block i (hF i hi)⟩
theorem product_ok : tab5.ok 68 := by
  refine Tab.of_ct rfl rfl ⟨_, Try.func68, by decide, rfl⟩ ?_ ctF_det
  intro Base w vs cs hB hr hp
  cases vs with
  | nil => exact hr.elim
  | cons v0 vs =>
  obtain ⟨c1, c2, rfl, ⟨c, rfl, hr1⟩, h2⟩ := hr
  cases vs with
  | cons _ _ => exact h2.elim
  | nil =>
  have h2 : c2 = [] := h2
  subst h2
  obtain ⟨a, cap, b, o, rfl, hn, ha, hb, hc⟩ := longs_rep hr1
  have hp : ∀ k ∈ ints c.rows, 0 ≤ k := hp
  have hpost : ctProd.post [c] = fun rs => rs = wideC (prodV (ints c.rows)) := rfl
  show Calls _ _ _ w fun e w' => ∃ v rs outs, e = .returned v ∧ _ ∧ _ ∧ ctProd.post [c] _ ∧ _
  rw [hpost, prodV_nat _ hp]
  generalize ints c.rows = l at *
  have hl : (l.map Int.toNat).length = l.length := by simp
  have := product_calls b o cap (l.map Int.toNat) (fun k hk => by obtain ⟨x, hx, rfl⟩ := List.mem_map.1 hk; have := hb x hx; have := hp x hx; omega) w (by rw [hl]; exact hn) (fun i hi => by
    rw [hl] at hi
    obtain ⟨k1, k2⟩ := hc i hi
    refine ⟨k1, ?_⟩
    rw [k2]
    have := hp _ (getD_mem hi 0)
    simp only [List.getD_eq_getElem?_getD, List.getElem?_map, List.getElem?_eq_getElem hi, Option.map_some, Option.getD_some] at this ⊢
    rw [Int.toNat_of_nonneg this]) a (fun h => ha fun e => h (by rw [e]; rfl))
  rw [hl] at this
  refine Calls.mono this ?_
  rintro e w' ⟨h, lo, hh, hlo, he, rfl, hb⟩
  refine ⟨_, [wd h, wd lo], [], rfl, wide_res _ _, rfl, ?_, keeps_below hb fun i hi => hi.1⟩
  generalize (l.map Int.toNat).foldl (· * ·) 1 = N at *
  show [wd h, wd lo] = [wd _, wd _]
  rw [show ((N : Int) / 18446744073709551616 % 18446744073709551616) = (h : Int) by omega, show ((N : Int) % 18446744073709551616) = (lo : Int) by omega]
theorem opq2 {w : World} {O : Nat → Nat → Prop} : ∀ {us : List Value} {cs : List C}, LReps Try.prog w O [.opq, .opq] us cs → ∃ u0 u1, us = [u0, u1] ∧ cs = [.s u0 [], .s u1 []]
  | [], [], h => h.elim
  | [], _ :: _, h => h.elim
  | _ :: _, [], h => h.elim
  | [_], [_], h => h.2.elim
  | [_], _ :: _ :: _, h => h.2.elim
  | _ :: _ :: _, [_], h => h.2.elim
  | _ :: _ :: _ :: _, [_, _], h => h.2.2.elim
  | [_, _], _ :: _ :: _ :: _, h => h.2.2.elim
  | _ :: _ :: _ :: _, _ :: _ :: _ :: _, h => h.2.2.elim
  | [u0, u1], [_, _], ⟨⟨_, e0, _⟩, ⟨_, e1, _⟩, _⟩ => ⟨u0, u1, rfl, by rw [e0, e1]⟩
/-- Two structs of two words as arguments. -/
theorem wide_args {w : World} {Base : Nat → Nat → Prop} {vs : List Value} {cs : List C} (hr : Reps Try.prog w Base none [wideSh, wideSh] vs cs) (hp : wideOK cs 0 ∧ wideOK cs 2) :
    ∃ a b c d : Nat, a < 18446744073709551616 ∧ b < 18446744073709551616 ∧ c < 18446744073709551616 ∧ d < 18446744073709551616 ∧ cs = [wd a, wd b, wd c, wd d] ∧ vs = [.agg #[.int .u64 a, .int .u64 b], .agg #[.int .u64 c, .int .u64 d]] := by
  match vs, hr with
  | [], hr => exact hr.elim
  | [_], ⟨_, _, _, _, h2⟩ => exact h2.elim
  | _ :: _ :: _ :: _, ⟨_, _, _, _, _, _, _, _, h3⟩ => exact h3.elim
  | [v0, v1], ⟨c1, c2, hcs, ⟨us, hv0, h1⟩, c3, c4, hc2, ⟨us', hv1, h2⟩, h3⟩ =>
    have h3 : c4 = [] := h3
    subst h3 hv0 hv1 hc2
    obtain ⟨u0, u1, rfl, rfl⟩ := opq2 h1
    obtain ⟨u2, u3, rfl, rfl⟩ := opq2 h2
    subst hcs
    obtain ⟨⟨a, b, ha, hb, ea, eb⟩, c, d, hc, hd, ec, ed⟩ := hp
    have ea : C.s u0 [] = wd a := ea
    have eb : C.s u1 [] = wd b := eb
    have ec : C.s u2 [] = wd c := ec
    have ed : C.s u3 [] = wd d := ed
    have fa : u0 = .int .u64 a := by injection ea
    have fb : u1 = .int .u64 b := by injection eb
    have fc : u2 = .int .u64 c := by injection ec
    have fd : u3 = .int .u64 d := by injection ed
    subst fa fb fc fd
    exact ⟨a, b, c, d, ha, hb, hc, hd, rfl, rfl⟩
theorem plus_ok : tab5.ok 69 := by
  refine Tab.of_ct rfl rfl ⟨_, Try.func69, by decide, rfl⟩ ?_ ctF_det
  intro Base w vs cs hB hr hp
  obtain ⟨a, b, c, d, ha, hb, hc, hd, rfl, rfl⟩ := wide_args hr hp
  refine Calls.mono (plus_calls a b c d w) ?_
  rintro e w' ⟨rfl, hbl⟩
  refine ⟨_, [wd _, wd _], [], rfl, wide_res _ _, rfl, ?_, keeps_below hbl fun i hi => hi.1⟩
  show [wd _, wd _] = [wd ((((a : Int) * 18446744073709551616 + b) + ((c : Int) * 18446744073709551616 + d)) / 18446744073709551616 % 18446744073709551616), wd ((((a : Int) * 18446744073709551616 + b) + ((c : Int) * 18446744073709551616 + d)) % 18446744073709551616)]
  congr 2
  · omega
  · congr 1; omega
theorem least_ok : tab5.ok 70 := by
  refine Tab.of_ct rfl rfl ⟨_, Try.func70, by decide, rfl⟩ ?_ ctF_det
  intro Base w vs cs hB hr hp
  obtain ⟨a, b, c, d, ha, hb, hc, hd, rfl, rfl⟩ := wide_args hr hp
  refine Calls.mono (least_calls a b c d w) ?_
  rintro e w' ⟨rfl, hbl⟩
  refine ⟨_, [.b _], [], rfl, ⟨[_], rfl, ⟨[.b _], [], rfl, ⟨_, rfl, fun n => (by cases n <;> trivial), _, rfl, rfl⟩, rfl⟩, ?_, ?_⟩, rfl, ?_, keeps_below hbl fun i hi => hi.1⟩
  · simp [ctLeast, ctF, kindsOf, Sh0.kinds, vecB]
  · simp [ctLeast, ctF, kindsOf, Sh0.kinds, vecB]
  · show [C.b _] = [C.b (decide ((c : Int) * 18446744073709551616 + d ≤ (a : Int) * 18446744073709551616 + b))]
    congr 2
    rw [decide_eq_decide]
    omega
end Go.Proofs.Ytbgofenplhdllaa
/- House: is there a flow under a gradient: the program's answer. -/
namespace Go.Proofs.Ytbgofenplhdllaa
open Go.RowKit
set_option linter.unusedSimpArgs false
set_option linter.unusedVariables false

theorem c_clo (ρ : List C) (i : Nat) : (Lf.clo i).c ρ = at_ ρ i := rfl
/-- Two values are the words of a number. -/
def WD (v w : Value) (N : Int) : Prop := 0 ≤ N ∧ N < 340282366920938463463374607431768211456 ∧ v = .int .u64 (N / 18446744073709551616) ∧ w = .int .u64 (N % 18446744073709551616)
theorem wd_of {v w : Value} {N : Int} (h0 : 0 ≤ N) (h1 : N < 340282366920938463463374607431768211456) (h : [C.s v [], C.s w []] = wideC N) : WD v w N := by
  unfold wideC wd at h
  simp only [List.cons.injEq, C.s.injEq, and_true] at h
  exact ⟨h0, h1, by rw [h.1]; congr 1; omega, h.2⟩
theorem wd_ok {v w v' w' : Value} {N M : Int} (h : WD v w N) (h' : WD v' w' M) : (wideOK [C.s v [], C.s w [], C.s v' [], C.s w' []] 0 ∧ wideOK [C.s v [], C.s w [], C.s v' [], C.s w' []] 2) ∧ w_ [C.s v [], C.s w [], C.s v' [], C.s w' []] 0 = N ∧ w_ [C.s v [], C.s w [], C.s v' [], C.s w' []] 2 = M := by
  obtain ⟨a0, a1, rfl, rfl⟩ := h
  obtain ⟨b0, b1, rfl, rfl⟩ := h'
  refine ⟨⟨⟨(N / 18446744073709551616).toNat, (N % 18446744073709551616).toNat, by omega, by omega, ?_, ?_⟩, ⟨(M / 18446744073709551616).toNat, (M % 18446744073709551616).toNat, by omega, by omega, ?_, ?_⟩⟩, ?_, ?_⟩
  · show C.s (.int .u64 (N / 18446744073709551616)) [] = wd _
    rw [Int.toNat_of_nonneg (by omega)]; rfl
  · show C.s (.int .u64 (N % 18446744073709551616)) [] = wd _
    rw [Int.toNat_of_nonneg (by omega)]; rfl
  · show C.s (.int .u64 (M / 18446744073709551616)) [] = wd _
    rw [Int.toNat_of_nonneg (by omega)]; rfl
  · show C.s (.int .u64 (M % 18446744073709551616)) [] = wd _
    rw [Int.toNat_of_nonneg (by omega)]; rfl
  · show N / 18446744073709551616 * 18446744073709551616 + N % 18446744073709551616 = N
    omega
  · show M / 18446744073709551616 * 18446744073709551616 + M % 18446744073709551616 = M
    omega
/-- The numbers of a flow, in their ranges. -/
theorem flow_rng {a g y v t f : Int} (h : flowsP a g y v t f) : (0 ≤ t * g ∧ t * g ≤ 4000000) ∧
    (0 ≤ prodV [2, t * g, t * g, t * g, g, a] ∧ prodV [2, t * g, t * g, t * g, g, a] ≤ 128000000000000000000000000) ∧ (0 ≤ prodV [y, y, y, g, a] ∧ prodV [y, y, y, g, a] ≤ 1000000000000000000000000) ∧
    (0 ≤ prodV [3, y, t * g, t * g, g, a] ∧ prodV [3, y, t * g, t * g, g, a] ≤ 48000000000000000000000000) ∧ (0 ≤ prodV [f, v, t * g, t * g] ∧ prodV [f, v, t * g, t * g] ≤ 16000000000000000000000000) := by
  obtain ⟨ha, hg, hy, hv, ht, hf⟩ := h
  have hT := mul_bd ht.1 ht.2 (show 0 ≤ g by omega) hg.2
  generalize t * g = T at *
  have e1 : prodV [2, T, T, T, g, a] = 1 * 2 * T * T * T * g * a := rfl
  have e2 : prodV [y, y, y, g, a] = 1 * y * y * y * g * a := rfl
  have e3 : prodV [3, y, T, T, g, a] = 1 * 3 * y * T * T * g * a := rfl
  have e4 : prodV [f, v, T, T] = 1 * f * v * T * T := rfl
  have hT1 : T ≤ 4000000 := by omega
  have p1 := mul_bd (a := 1 * 2) (by omega) (show (1 * 2 : Int) ≤ 2 by omega) hT.1 hT1
  have p2 := mul_bd p1.1 p1.2 hT.1 hT1
  have p3 := mul_bd p2.1 p2.2 hT.1 hT1
  have p4 := mul_bd p3.1 p3.2 (show 0 ≤ g by omega) hg.2
  have p5 := mul_bd p4.1 p4.2 (show 0 ≤ a by omega) ha.2
  have q1 := mul_bd (a := 1) (by omega) (show (1 : Int) ≤ 1 by omega) hy.1 hy.2
  have q2 := mul_bd q1.1 q1.2 hy.1 hy.2
  have q3 := mul_bd q2.1 q2.2 hy.1 hy.2
  have q4 := mul_bd q3.1 q3.2 (show 0 ≤ g by omega) hg.2
  have q5 := mul_bd q4.1 q4.2 (show 0 ≤ a by omega) ha.2
  have r1 := mul_bd (a := 1 * 3) (by omega) (show (1 * 3 : Int) ≤ 3 by omega) hy.1 hy.2
  have r2 := mul_bd r1.1 r1.2 hT.1 hT1
  have r3 := mul_bd r2.1 r2.2 hT.1 hT1
  have r4 := mul_bd r3.1 r3.2 (show 0 ≤ g by omega) hg.2
  have r5 := mul_bd r4.1 r4.2 (show 0 ≤ a by omega) ha.2
  have s1 := mul_bd (a := 1) (by omega) (show (1 : Int) ≤ 1 by omega) hf.1 hf.2
  have s2 := mul_bd s1.1 s1.2 (show 0 ≤ v by omega) hv.2
  have s3 := mul_bd s2.1 s2.2 hT.1 hT1
  have s4 := mul_bd s3.1 s3.2 hT.1 hT1
  rw [e1, e2, e3, e4]
  exact ⟨⟨hT.1, hT1⟩, ⟨p5.1, Int.le_trans p5.2 (by decide)⟩, ⟨q5.1, Int.le_trans q5.2 (by decide)⟩, ⟨r5.1, Int.le_trans r5.2 (by decide)⟩, ⟨s4.1, Int.le_trans s4.2 (by decide)⟩⟩
theorem flows_zero {a g y v t f : Int} (h : f = 0) : true = flowsV a g y v t f := by unfold flowsV; rw [if_pos h]
theorem flows_low {a g y v t f : Int} (h : f ≠ 0) (h2 : t * g ≤ y) : false = flowsV a g y v t f := by unfold flowsV; rw [if_neg h, if_pos h2]
theorem flows_cmp {a g y v t f : Int} (h : f ≠ 0) (h2 : y < t * g) : decide (prodV [3, y, t * g, t * g, g, a] + prodV [f, v, t * g, t * g] ≤ prodV [2, t * g, t * g, t * g, g, a] + prodV [y, y, y, g, a]) = flowsV a g y v t f := by unfold flowsV; rw [if_neg h, if_neg (by omega)]
theorem flows_ok : tab5.ok 62 := by
  refine Tab.of_ct rfl rfl ⟨_, Try.func62, by decide, rfl⟩ ?_ ctF_det
  refine ct_ok (cx := cflows) (Tab.cx_ok (all_cons product_ok (all_cons plus_ok (all_cons least_ok all_nil)))) Try.func62 (bds := []) (T := tflows) (by kernel_rfl) ?_
  have h1 : cflows.ct 68 = some ctProd := rfl
  have h2 : cflows.ct 69 = some ctPlus := rfl
  have h3 : cflows.ct 70 = some ctLeast := rfl
  unfold tflows
  simp only [VC, allC, List.map_cons, List.map_nil, List.length_cons, List.length_nil, List.getElem?_cons_zero, List.getElem?_cons_succ, List.cons.injEq, C.i.injEq, C.b.injEq, and_true, true_and, forall_const, kindsOf_nil, kindsOf_lf, kindsOf_agg, kindsOf_box, boxKinds_nil, boxKinds_lf, boxKinds_agg, boxKinds_box, List.append_nil, List.cons_append, List.nil_append, den_cmp_le, den_cmp_lt, den_cmp_eq, den_cmp_ne, den_cmp_le', den_cmp_lt', den_cmp_eq', den_cmp_ne', den_and, den_and', den_or, den_or', den_not, den_not', den_blit, den_of, ev_var, at_0, at_1, at_2, at_3, at_4, at_5, at_6, at_7, at_skip, c_int, c_bool, c_arr, c_cnt, c_vec, ev_nil, ev_join, ev_sub3, loc_s, int_i, bool_b, rows_s, cs_nil, cs_cons, E.den_lit, E.den_var, E.den_add, E.den_sub, E.den_mul, E.den_quo, E.den_rem, E.den_max, E.den_min, E.den_len, E.den_wr, E.den_cell, Nat.reduceAdd, c_clo, h1, h2, h3, ctProd, ctPlus, ctLeast, ctFlows, ctF, segSh, mudSh, longsSh, wideSh, n_, flowsC]
  intro l _ _ r _ _ a _ _ g _ _ y _ _ v _ _ t _ _ f _ _ hp
  refine ⟨bds_nil _, fun hf0 => flows_zero hf0, fun hf0 => ?_⟩
  obtain ⟨hT, hA1, hA2, hB1, hB2⟩ := flow_rng hp
  obtain ⟨ha, hg, hy, hv, ht, hf⟩ := hp
  have hc : -9223372036854775808 ≤ t * g ∧ t * g ≤ 9223372036854775807 := ⟨by omega, by omega⟩
  refine ⟨hc, fun hlow => flows_low hf0 hlow, fun hgt => ?_⟩
  rw [← flows_cmp hf0 hgt]
  rw [show ints [[C.i 2], [C.i (t * g)], [C.i (t * g)], [C.i (t * g)], [C.i g], [C.i a]] = [2, t * g, t * g, t * g, g, a] from rfl, show ints [[C.i y], [C.i y], [C.i y], [C.i g], [C.i a]] = [y, y, y, g, a] from rfl,
    show ints [[C.i 3], [C.i y], [C.i (t * g)], [C.i (t * g)], [C.i g], [C.i a]] = [3, y, t * g, t * g, g, a] from rfl, show ints [[C.i f], [C.i v], [C.i (t * g)], [C.i (t * g)]] = [f, v, t * g, t * g] from rfl]
  generalize t * g = T at *
  have n1 : ∀ k ∈ [2, T, T, T, g, a], 0 ≤ k := by simp; omega
  have n2 : ∀ k ∈ [y, y, y, g, a], 0 ≤ k := by simp; omega
  have n3 : ∀ k ∈ [3, y, T, T, g, a], 0 ≤ k := by simp; omega
  have n4 : ∀ k ∈ [f, v, T, T], 0 ≤ k := by simp; omega
  generalize prodV [2, T, T, T, g, a] = A1 at *
  generalize prodV [y, y, y, g, a] = A2 at *
  generalize prodV [3, y, T, T, g, a] = B1 at *
  generalize prodV [f, v, T, T] = B2 at *
  have w1 : ∀ v0 v1 : Value, [C.s v0 [], C.s v1 []] = wideC A1 → WD v0 v1 A1 := fun _ _ h => wd_of (by omega) (by omega) h
  have w2 : ∀ v0 v1 : Value, [C.s v0 [], C.s v1 []] = wideC A2 → WD v0 v1 A2 := fun _ _ h => wd_of (by omega) (by omega) h
  have w3 : ∀ v0 v1 : Value, [C.s v0 [], C.s v1 []] = wideC B1 → WD v0 v1 B1 := fun _ _ h => wd_of (by omega) (by omega) h
  have w4 : ∀ v0 v1 : Value, [C.s v0 [], C.s v1 []] = wideC B2 → WD v0 v1 B2 := fun _ _ h => wd_of (by omega) (by omega) h
  refine ⟨fun xs => xs = wideC (A1 + A2), ?_, ?_⟩
  · refine ⟨⟨hc, hc, hc, ?_, ?_⟩, hc, hc, hc, ?_⟩ <;>
    · refine ⟨n1, fun v0 v1 e1 => ⟨n2, fun v2 v3 e2 => ?_⟩⟩
      obtain ⟨k1, k2, k3⟩ := wd_ok (w1 _ _ e1) (w2 _ _ e2)
      refine ⟨k1, fun v4 v5 e => ?_⟩
      rw [k2, k3] at e
      exact e
  · intro v0 v1 e0
    have w0 : WD v0 v1 (A1 + A2) := wd_of (by omega) (by omega) e0
    have fin : ∀ v4 v5 v7 v8 : Value, WD v4 v5 B1 → WD v7 v8 B2 → (wideOK [C.s v4 [], C.s v5 [], C.s v7 [], C.s v8 []] 0 ∧ wideOK [C.s v4 [], C.s v5 [], C.s v7 [], C.s v8 []] 2) ∧
        ∀ v9 v10 : Value, [C.s v9 [], C.s v10 []] = wideC (w_ [C.s v4 [], C.s v5 [], C.s v7 [], C.s v8 []] 0 + w_ [C.s v4 [], C.s v5 [], C.s v7 [], C.s v8 []] 2) →
          (wideOK [C.s v0 [], C.s v1 [], C.s v9 [], C.s v10 []] 0 ∧ wideOK [C.s v0 [], C.s v1 [], C.s v9 [], C.s v10 []] 2) ∧
          ∀ t1 : Bool, t1 = decide (w_ [C.s v0 [], C.s v1 [], C.s v9 [], C.s v10 []] 2 ≤ w_ [C.s v0 [], C.s v1 [], C.s v9 [], C.s v10 []] 0) → [C.b t1] = [C.b (decide (B1 + B2 ≤ A1 + A2))] := fun v4 v5 v7 v8 e3 e4 => by
      obtain ⟨k1, k2, k3⟩ := wd_ok e3 e4
      refine ⟨k1, fun v9 v10 e => ?_⟩
      rw [k2, k3] at e
      obtain ⟨j1, j2, j3⟩ := wd_ok w0 (wd_of (by omega) (by omega) e)
      refine ⟨j1, fun t1 h => ?_⟩
      rw [h, j2, j3]
    refine ⟨fun xs => xs = [.b (decide (B1 + B2 ≤ A1 + A2))], ?_, ?_⟩
    · refine ⟨⟨hc, hc, fun _ => ⟨?_, ?_⟩⟩, hc, hc, fun _ => ⟨hc, hc, fun _ => ?_⟩⟩
      · exact ⟨n3, fun v4 v5 e3 => ⟨hc, hc, fun _ => ⟨n4, fun v7 v8 e4 => fin _ _ _ _ (w3 _ _ e3) (w4 _ _ e4)⟩⟩⟩
      · exact ⟨hc, hc, fun _ => ⟨n3, fun v4 v5 e3 => ⟨n4, fun v7 v8 e4 => fin _ _ _ _ (w3 _ _ e3) (w4 _ _ e4)⟩⟩⟩
      · exact ⟨n3, fun v4 v5 e3 => ⟨n4, fun v7 v8 e4 => fin _ _ _ _ (w3 _ _ e3) (w4 _ _ e4)⟩⟩
    · intro t1 e
      have e : [C.b t1] = [C.b _] := e
      simpa using e
end Go.Proofs.Ytbgofenplhdllaa
/- House: the loss at a depth. -/
namespace Go.Proofs.Ytbgofenplhdllaa
open Go.RowKit
set_option linter.unusedSimpArgs false
set_option linter.unusedVariables false

theorem wrap_rng (n : Int) : -9223372036854775808 ≤ IntKind.i64.wrap n ∧ IntKind.i64.wrap n ≤ 9223372036854775807 := by
  simp [IntKind.wrap, IntKind.bits, IntKind.signed]
  omega
theorem tdiv_rng {x t : Int} (ht : 1 ≤ t) (h : -9223372036854775808 ≤ x ∧ x ≤ 9223372036854775807) : -9223372036854775808 ≤ x.tdiv t ∧ x.tdiv t ≤ 9223372036854775807 := by
  by_cases h0 : 0 ≤ x
  · rw [Int.tdiv_eq_ediv_of_nonneg h0]
    have h1 := Int.ediv_le_self t h0
    have h2 := Int.ediv_nonneg h0 (show 0 ≤ t by omega)
    omega
  · obtain ⟨y, rfl⟩ : ∃ y, x = -y := ⟨-x, by omega⟩
    rw [Int.neg_tdiv, Int.tdiv_eq_ediv_of_nonneg (by omega)]
    have h1 := Int.ediv_le_self t (show 0 ≤ y by omega)
    have h2 := Int.ediv_nonneg (show 0 ≤ y by omega) (show 0 ≤ t by omega)
    omega
def lossP (cs : List C) : Prop := 1 ≤ n_ cs 3 ∧ (0 ≤ n_ cs 13 ∧ n_ cs 13 ≤ 1000000) ∧ (0 ≤ n_ cs 11 ∧ n_ cs 11 ≤ 1000000) ∧ (1 ≤ n_ cs 12 ∧ n_ cs 12 ≤ 1000000) ∧ holeV [⟨n_ cs 8, n_ cs 3, n_ cs 9, n_ cs 10⟩] = 0 ∧ 0 ≤ n_ cs 39 ∧ n_ cs 39 ≤ n_ cs 3
def lossG (cs : List C) : Int × Bool := gradV ⟨n_ cs 8, n_ cs 3, n_ cs 9, n_ cs 10⟩ (n_ cs 11) (n_ cs 12) (n_ cs 13)
theorem loss_iff {cs : List C} : (1 ≤ n_ cs 3 ∧ inV (n_ cs 13) 0 1000000 = true ∧ inV (n_ cs 11) 0 1000000 = true ∧ inV (n_ cs 12) 1 1000000 = true ∧ holeV [⟨n_ cs 8, n_ cs 3, n_ cs 9, n_ cs 10⟩] = 0 ∧ 0 ≤ n_ cs 39 ∧ n_ cs 39 ≤ n_ cs 3) ↔ lossP cs := by
  unfold lossP
  rw [inV_iff, inV_iff, inV_iff]
theorem lossC_no {cs : List C} (h : ¬ (lossP cs ∧ (lossG cs).2 = true)) : lossC cs = (0, false) := by
  unfold lossC lossV
  rw [if_neg]
  rintro ⟨h1, h2⟩
  exact h ⟨loss_iff.1 h1, h2⟩
theorem lossC_yes {cs : List C} (h : lossP cs) (h2 : (lossG cs).2 = true) : lossC cs = (wr_ ((lossG cs).1 * (wr_ (wr_ (wr_ (n_ cs 39 * n_ cs 8) + n_ cs 3) - 1)).tdiv (n_ cs 3)), true) := by
  unfold lossC lossV
  rw [if_pos ⟨loss_iff.2 h, h2⟩]; rfl
theorem loss_no {cs : List C} (h : ¬ (lossP cs ∧ (lossG cs).2 = true)) : ctLoss.post cs [C.i 0, C.b false] := by
  show [C.i 0, C.b false] = [C.i (lossC cs).1, C.b (lossC cs).2]
  rw [lossC_no h]
theorem loss_yes {cs : List C} (h : lossP cs) (h2 : (lossG cs).2 = true) : ctLoss.post cs [C.i (wr_ ((lossG cs).1 * (wr_ (wr_ (wr_ (n_ cs 39 * n_ cs 8) + n_ cs 3) - 1)).tdiv (n_ cs 3))), C.b true] := by
  show [C.i _, C.b true] = [C.i (lossC cs).1, C.b (lossC cs).2]
  rw [lossC_yes h h2]
theorem loss_ok : tab5.ok 25 := by
  refine Tab.of_ct rfl rfl ⟨_, Try.func25, by decide, rfl⟩ ?_ ctF_det
  refine ct_ok (cx := closs) (Tab.cx_ok (all_cons (up5_ok within_ok) (all_cons hole_ok (all_cons (grad_ok flows_ok) all_nil))) fxloss) Try.func25 (bds := []) (T := tloss) (by kernel_rfl) ?_
  have h1 : closs.ct 45 = some ctHole := rfl
  have h2 : closs.ct 48 = some ctGrad := rfl
  unfold tloss
  refine allC_intro fun cs hcs _ => ?_
  have hl : cs.length = 40 := hcs.len
  refine ⟨bds_nil _, ?_⟩
  simp only [VC, allC, List.map_cons, List.map_nil, List.length_cons, List.length_nil, List.getElem?_cons_zero, List.getElem?_cons_succ, List.cons.injEq, C.i.injEq, C.b.injEq, and_true, true_and, forall_const, kindsOf_nil, kindsOf_lf, kindsOf_agg, kindsOf_box, boxKinds_nil, boxKinds_lf, boxKinds_agg, boxKinds_box, List.append_nil, List.cons_append, List.nil_append, den_cmp_le, den_cmp_lt, den_cmp_eq, den_cmp_ne, den_cmp_le', den_cmp_lt', den_cmp_eq', den_cmp_ne', den_and, den_and', den_or, den_or', den_not, den_not', den_blit, den_of, ev_var, at_0, at_1, at_2, at_3, at_4, at_5, at_6, at_7, at_skip, c_int, c_bool, c_arr, c_cnt, c_vec, ev_nil, ev_join, ev_sub3, loc_s, int_i, bool_b, rows_s, cs_nil, cs_cons, E.den_lit, E.den_var, E.den_add, E.den_sub, E.den_mul, E.den_quo, E.den_rem, E.den_max, E.den_min, E.den_len, E.den_wr, E.den_cell, h1, h2, ctHole, ctGrad, ctF, holeSh, segSh, mudSh, List.append_assoc]
  simp (disch := (rw [hl]; decide)) only [at_lt]
  have e51 : ∀ l, at_ (cs ++ l) 51 = at_ l 11 := fun l => at_end (by rw [hl])
  have e52 : ∀ l, at_ (cs ++ l) 52 = at_ l 12 := fun l => at_end (by rw [hl])
  have e53 : ∀ l, at_ (cs ++ l) 53 = at_ l 13 := fun l => at_end (by rw [hl])
  have e54 : ∀ l, at_ (cs ++ l) 54 = at_ l 14 := fun l => at_end (by rw [hl])
  simp only [e51, e52, e53, e54, at_skip, VC, allC, List.map_cons, List.map_nil, List.length_cons, List.length_nil, List.getElem?_cons_zero, List.getElem?_cons_succ, List.cons.injEq, C.i.injEq, C.b.injEq, and_true, true_and, forall_const, kindsOf_nil, kindsOf_lf, kindsOf_agg, kindsOf_box, boxKinds_nil, boxKinds_lf, boxKinds_agg, boxKinds_box, List.append_nil, List.cons_append, List.nil_append, den_cmp_le, den_cmp_lt, den_cmp_eq, den_cmp_ne, den_cmp_le', den_cmp_lt', den_cmp_eq', den_cmp_ne', den_and, den_and', den_or, den_or', den_not, den_not', den_blit, den_of, ev_var, at_0, at_1, at_2, at_3, at_4, at_5, at_6, at_7, at_skip, c_int, c_bool, c_arr, c_cnt, c_vec, ev_nil, ev_join, ev_sub3, loc_s, int_i, bool_b, rows_s, cs_nil, cs_cons, E.den_lit, E.den_var, E.den_add, E.den_sub, E.den_mul, E.den_quo, E.den_rem, E.den_max, E.den_min, E.den_len, E.den_wr, E.den_cell]
  have no : ¬ lossP cs → ctLoss.post cs [C.i 0, C.b false] := fun h => loss_no fun hx => h hx.1
  refine ⟨fun h => no fun hx => ?_, fun h3 => ⟨fun h13 => ⟨fun h11 => ⟨fun h => no fun hx => ?_, fun h12 => ?_⟩, fun h => no fun hx => ?_⟩, fun h => no fun hx => ?_⟩⟩
  · have : 1 ≤ (at_ cs 3).int := hx.1
    omega
  · have : 1 ≤ (at_ cs 12).int ∧ (at_ cs 12).int ≤ 1000000 := hx.2.2.2.1
    omega
  · intro v n _ _ hn
    have hn : n = holeV [⟨n_ cs 8, n_ cs 3, n_ cs 9, n_ cs 10⟩] := hn
    refine ⟨fun h => no fun hx => h (by rw [hn]; exact hx.2.2.2.2.1), fun h0 => ⟨fun h => no fun hx => ?_, fun h39 => ?_⟩⟩
    · have : 0 ≤ (at_ cs 39).int ∧ (at_ cs 39).int ≤ (at_ cs 3).int := hx.2.2.2.2.2
      omega
    · rintro g _ _ b ⟨hg, hb⟩
      have hg : g = (lossG cs).1 := hg
      have hb : b = (lossG cs).2 := hb
      have hP : lossP cs := ⟨h3, h13, h11, h12, by rw [← hn]; exact h0, h39⟩
      refine ⟨fun h => loss_no fun hx => ?_, fun h => ⟨tdiv_rng h3 (wrap_rng _), ?_⟩⟩
      · rw [hb, hx.2] at h; cases h
      · rw [hg]
        exact loss_yes hP (by rw [← hb]; exact h)
  · have : 0 ≤ (at_ cs 11).int ∧ (at_ cs 11).int ≤ 1000000 := hx.2.2.1
    omega
  · have : 0 ≤ (at_ cs 13).int ∧ (at_ cs 13).int ≤ 1000000 := hx.2.1
    omega
end Go.Proofs.Ytbgofenplhdllaa
/- What is to be shown of each function, as the executor has it. Printed by trees.py. -/
namespace Go.Proofs.Ytbgofenplhdllaa
noncomputable def flwild : List (Nat × Func) := [(33, Try.f33)]
theorem fxwild : ∀ p ∈ flwild, FnOK p := fns_cons ⟨Try.func33, ⟨_, Try.func33, by decide, rfl⟩⟩ (fns_nil)
noncomputable def cwild : Cx := tab2.only [] (fun r => match r with
  | 8 => [.blk 3]
  | 11 => [.blk 3]
  | _ => []) flwild 1 [] (fun _ => none)
def twild : Tree :=
  (.dfn .nil (.dfn .nil (.split (.cmp .lt (.min (.var 0) (.var 1)) (.lit 1)) (.dfn .nil (.dfn .nil (.ret [(.cnt 4 (.var 5)), (.cnt 35 (.var 6)), (.int (.lit 2))]))) (.split (.cmp .lt (.lit 15) (.max (.var 0) (.var 1))) (.dfn .nil (.dfn .nil (.ret [(.cnt 4 (.var 5)), (.cnt 35 (.var 6)), (.int (.lit 2))]))) (.split (.cmp .lt (.var 2) (.lit 0)) (.dfn .nil (.dfn .nil (.ret [(.cnt 4 (.var 5)), (.cnt 35 (.var 6)), (.int (.lit 2))]))) (.split (.cmp .lt (.lit 3) (.var 2)) (.dfn .nil (.dfn .nil (.ret [(.cnt 4 (.var 5)), (.cnt 35 (.var 6)), (.int (.lit 2))]))) (.ob (.and (.cmp .le (.lit (-9223372036854775808)) (.add (.var 0) (.lit 1))) (.cmp .le (.add (.var 0) (.lit 1)) (.lit 9223372036854775807))) (.ob (.and (.cmp .le (.lit (-9223372036854775808)) (.mul (.add (.var 0) (.lit 1)) (.add (.var 2) (.lit 1)))) (.cmp .le (.mul (.add (.var 0) (.lit 1)) (.add (.var 2) (.lit 1))) (.lit 9223372036854775807))) (.split (.cmp .lt (.lit 64) (.mul (.add (.var 0) (.lit 1)) (.add (.var 2) (.lit 1)))) (.dfn .nil (.dfn .nil (.ret [(.cnt 4 (.var 5)), (.cnt 35 (.var 6)), (.int (.lit 8))]))) (.arr [] (.dfn .nil (.dfn .nil (.ob (.and (.cmp .le (.lit (-9223372036854775808)) (.add (.var 0) (.lit 1))) (.cmp .le (.add (.var 0) (.lit 1)) (.lit 9223372036854775807))) (.loop [.int, (.vec 4), (.vec 35)] [(.int (.lit 0)), (.cnt 4 (.var 6)), (.cnt 35 (.var 7))] (.split (.cmp .lt (.var 8) (.add (.var 0) (.lit 1))) (.loop [.int, (.vec 4), (.vec 35)] [(.int (.lit 0)), (.cnt 4 (.var 9)), (.cnt 35 (.var 10))] (.split (.cmp .lt (.var 11) (.add (.var 2) (.lit 1))) (.ob (.and (.cmp .le (.lit (-9223372036854775808)) (.add (.var 8) (.var 1))) (.cmp .le (.add (.var 8) (.var 1)) (.lit 9223372036854775807))) (.ob (.and (.cmp .le (.lit (-9223372036854775808)) (.mul (.min (.var 0) (.add (.var 8) (.var 1))) (.add (.var 2) (.lit 1)))) (.cmp .le (.mul (.min (.var 0) (.add (.var 8) (.var 1))) (.add (.var 2) (.lit 1))) (.lit 9223372036854775807))) (.ob (.and (.cmp .le (.lit (-9223372036854775808)) (.add (.mul (.min (.var 0) (.add (.var 8) (.var 1))) (.add (.var 2) (.lit 1))) (.var 11))) (.cmp .le (.add (.mul (.min (.var 0) (.add (.var 8) (.var 1))) (.add (.var 2) (.lit 1))) (.var 11)) (.lit 9223372036854775807))) (.ob (.and (.cmp .le (.lit (-9223372036854775808)) (.add (.var 8) (.var 1))) (.cmp .le (.add (.var 8) (.var 1)) (.lit 9223372036854775807))) (.ob (.and (.cmp .le (.lit (-9223372036854775808)) (.mul (.min (.var 0) (.add (.var 8) (.var 1))) (.add (.var 2) (.lit 1)))) (.cmp .le (.mul (.min (.var 0) (.add (.var 8) (.var 1))) (.add (.var 2) (.lit 1))) (.lit 9223372036854775807))) (.ob (.and (.cmp .le (.lit (-9223372036854775808)) (.add (.mul (.min (.var 0) (.add (.var 8) (.var 1))) (.add (.var 2) (.lit 1))) (.add (.var 11) (.lit 1)))) (.cmp .le (.add (.mul (.min (.var 0) (.add (.var 8) (.var 1))) (.add (.var 2) (.lit 1))) (.add (.var 11) (.lit 1))) (.lit 9223372036854775807))) (.split (.cmp .eq (.var 11) (.var 2)) (.ob (.and (.cmp .le (.lit (-9223372036854775808)) (.mul (.min (.var 0) (.var 8)) (.add (.var 2) (.lit 1)))) (.cmp .le (.mul (.min (.var 0) (.var 8)) (.add (.var 2) (.lit 1))) (.lit 9223372036854775807))) (.ob (.and (.cmp .le (.lit (-9223372036854775808)) (.add (.mul (.min (.var 0) (.var 8)) (.add (.var 2) (.lit 1))) (.var 11))) (.cmp .le (.add (.mul (.min (.var 0) (.var 8)) (.add (.var 2) (.lit 1))) (.var 11)) (.lit 9223372036854775807))) (.ob (.and (.cmp .le (.lit (-9223372036854775808)) (.mul (.min (.var 0) (.var 8)) (.add (.var 2) (.lit 1)))) (.cmp .le (.mul (.min (.var 0) (.var 8)) (.add (.var 2) (.lit 1))) (.lit 9223372036854775807))) (.ob (.and (.cmp .le (.lit (-9223372036854775808)) (.add (.mul (.min (.var 0) (.var 8)) (.add (.var 2) (.lit 1))) (.var 11))) (.cmp .le (.add (.mul (.min (.var 0) (.var 8)) (.add (.var 2) (.lit 1))) (.var 11)) (.lit 9223372036854775807))) (.arr [[(.bool (.cmp .eq (.var 8) (.var 0)))]] (.ob (.cmp .le (.mul (.add (.len (.var 12)) (.len (.var 14))) (.lit 1)) (.lit 140737488355328)) (.cat (.var 12) (.var 14) (.ob (.and (.cmp .le (.lit (-9223372036854775808)) (.add (.mul (.min (.var 0) (.var 8)) (.add (.var 2) (.lit 1))) (.var 11))) (.cmp .le (.add (.mul (.min (.var 0) (.var 8)) (.add (.var 2) (.lit 1))) (.var 11)) (.lit 9223372036854775807))) (.ob (.and (.cmp .le (.lit (-9223372036854775808)) (.add (.mul (.min (.var 0) (.var 8)) (.add (.var 2) (.lit 1))) (.var 11))) (.cmp .le (.add (.mul (.min (.var 0) (.var 8)) (.add (.var 2) (.lit 1))) (.var 11)) (.lit 9223372036854775807))) (.arr [[(.int (.add (.mul (.min (.var 0) (.var 8)) (.add (.var 2) (.lit 1))) (.var 11)))], [(.int (.add (.mul (.min (.var 0) (.var 8)) (.add (.var 2) (.lit 1))) (.var 11)))]] (.dfn (.var 16) (.arr [[(.arr 3 (.var 17))]] (.ob (.cmp .le (.mul (.add (.len (.var 13)) (.len (.var 18))) (.lit 24)) (.lit 140737488355328)) (.cat (.var 13) (.var 18) (.back 1 [(.int (.add (.var 11) (.lit 1))), (.cnt 4 (.var 15)), (.cnt 35 (.var 19))]))))))))))))))) (.arr [[(.bool (.cmp .eq (.var 8) (.var 0)))]] (.ob (.cmp .le (.mul (.add (.len (.var 12)) (.len (.var 14))) (.lit 1)) (.lit 140737488355328)) (.cat (.var 12) (.var 14) (.ob (.and (.cmp .le (.lit (-9223372036854775808)) (.add (.mul (.min (.var 0) (.add (.var 8) (.var 1))) (.add (.var 2) (.lit 1))) (.var 11))) (.cmp .le (.add (.mul (.min (.var 0) (.add (.var 8) (.var 1))) (.add (.var 2) (.lit 1))) (.var 11)) (.lit 9223372036854775807))) (.ob (.and (.cmp .le (.lit (-9223372036854775808)) (.add (.mul (.min (.var 0) (.add (.var 8) (.var 1))) (.add (.var 2) (.lit 1))) (.add (.var 11) (.lit 1)))) (.cmp .le (.add (.mul (.min (.var 0) (.add (.var 8) (.var 1))) (.add (.var 2) (.lit 1))) (.add (.var 11) (.lit 1))) (.lit 9223372036854775807))) (.arr [[(.int (.add (.mul (.min (.var 0) (.add (.var 8) (.var 1))) (.add (.var 2) (.lit 1))) (.var 11)))], [(.int (.add (.mul (.min (.var 0) (.add (.var 8) (.var 1))) (.add (.var 2) (.lit 1))) (.add (.var 11) (.lit 1))))]] (.dfn (.var 16) (.arr [[(.arr 3 (.var 17))]] (.ob (.cmp .le (.mul (.add (.len (.var 13)) (.len (.var 18))) (.lit 24)) (.lit 140737488355328)) (.cat (.var 13) (.var 18) (.back 1 [(.int (.add (.var 11) (.lit 1))), (.cnt 4 (.var 15)), (.cnt 35 (.var 19))])))))))))))))))))) (.ob (.and (.cmp .le (.lit (-9223372036854775808)) (.add (.var 8) (.lit 1))) (.cmp .le (.add (.var 8) (.lit 1)) (.lit 9223372036854775807))) (.ob (.and (.cmp .le (.lit (-9223372036854775808)) (.add (.var 8) (.lit 1))) (.cmp .le (.add (.var 8) (.lit 1)) (.lit 9223372036854775807))) (.back 0 [(.int (.add (.var 8) (.lit 1))), (.cnt 4 (.var 12)), (.cnt 35 (.var 13))]))))) (.ret [(.cnt 4 (.var 9)), (.cnt 35 (.var 10)), (.int (.lit 0))]))))))))))))))))
noncomputable def csameints : Cx := tab2.only [] (fun _ => []) [] 0 [] (fun _ => none)
def tsameints : Tree :=
  (.loop [.bool, .int] [(.bool (.lit false)), (.int (.lit 0))] (.split (.cmp .lt (.var 3) (.len (.var 0))) (.split (.cmp .lt (.var 3) (.len (.var 1))) (.ob (.cmp .le (.lit 0) (.var 3)) (.ob (.cmp .lt (.var 3) (.len (.var 0))) (.ob (.cmp .lt (.var 3) (.len (.var 1))) (.split (.cmp .ne (.cell (.var 0) (.var 3) 0) (.cell (.var 1) (.var 3) 0)) (.ret [(.bool (.lit false))]) (.back 0 [(.bool (.of (.var 2))), (.int (.add (.var 3) (.lit 1)))]))))) (.ret [(.bool (.cmp .eq (.len (.var 0)) (.len (.var 1))))])) (.ret [(.bool (.cmp .eq (.len (.var 0)) (.len (.var 1))))])))
noncomputable def flway : List (Nat × Func) := [(40, Try.f40), (41, Try.f41), (42, Try.f42), (57, Try.f57)]
theorem fxway : ∀ p ∈ flway, FnOK p := fns_cons ⟨Try.func40, ⟨_, Try.func40, by decide, rfl⟩⟩ (fns_cons ⟨Try.func41, ⟨_, Try.func41, by decide, rfl⟩⟩ (fns_cons ⟨Try.func42, ⟨_, Try.func42, by decide, rfl⟩⟩ (fns_cons ⟨Try.func57, ⟨_, Try.func57, by decide, rfl⟩⟩ (fns_nil))))
noncomputable def cway : Cx := tab2.only [14] (fun _ => []) flway 4 [] (fun _ => none)
def tway : Tree :=
  (.dfn .nil (.call 14 [(.arr 4 (.var 0)), (.arr 35 (.var 1))] (.dfn .nil (.split (.cmp .lt (.var 2) (.lit 0)) (.dfn .nil (.ret [(.cnt 3 (.var 6))])) (.split (.cmp .le (.len (.var 4)) (.var 2)) (.dfn .nil (.ret [(.cnt 3 (.var 6))])) (.ob (.cmp .lt (.var 2) (.len (.var 4))) (.split (.not (.of (.cell (.var 4) (.var 2) 0))) (.dfn .nil (.ret [(.cnt 3 (.var 6))])) (.arr [[(.int (.var 2))]] (.loop [.int, (.vec 3), (.vec 3)] [(.int (.var 2)), (.cnt 3 (.var 3)), (.cnt 3 (.var 6))] (.ob (.cmp .le (.lit 0) (.var 7)) (.ob (.cmp .lt (.var 7) (.len (.var 1))) (.arr [] (.loop [.int, .int] [(.int (.lit 0)), (.int (.lit 0))] (.split (.cmp .lt (.var 12) (.len (.cell (.var 1) (.var 7) 0))) (.ob (.cmp .le (.lit 0) (.var 12)) (.ob (.cmp .lt (.var 12) (.len (.cell (.var 1) (.var 7) 0))) (.ob (.cmp .le (.lit 0) (.cell (.cell (.var 1) (.var 7) 0) (.var 12) 0)) (.ob (.cmp .lt (.cell (.cell (.var 1) (.var 7) 0) (.var 12) 0) (.len (.var 4))) (.split (.of (.cell (.var 4) (.cell (.cell (.var 1) (.var 7) 0) (.var 12) 0) 0)) (.ob (.cmp .lt (.var 12) (.len (.cell (.var 1) (.var 7) 0))) (.loop [.int, .int] [(.int (.lit 0)), (.int (.lit 0))] (.split (.cmp .lt (.var 14) (.len (.var 9))) (.ob (.cmp .le (.lit 0) (.var 14)) (.ob (.cmp .lt (.var 14) (.len (.var 9))) (.split (.cmp .eq (.cell (.cell (.var 1) (.var 7) 0) (.var 12) 0) (.cell (.var 9) (.var 14) 0)) (.arr [[(.int (.cell (.cell (.var 1) (.var 7) 0) (.var 12) 0))]] (.ob (.cmp .le (.mul (.add (.len (.var 9)) (.len (.var 15))) (.lit 8)) (.lit 140737488355328)) (.cat (.var 9) (.var 15) (.ret [(.cnt 3 (.var 16))])))) (.back 2 [(.int (.var 13)), (.int (.add (.var 14) (.lit 1)))])))) (.arr [[(.int (.cell (.cell (.var 1) (.var 7) 0) (.var 12) 0))]] (.ob (.cmp .le (.mul (.add (.len (.var 9)) (.len (.var 15))) (.lit 8)) (.lit 140737488355328)) (.cat (.var 9) (.var 15) (.back 0 [(.int (.cell (.cell (.var 1) (.var 7) 0) (.var 12) 0)), (.cnt 3 (.var 8)), (.cnt 3 (.var 16))]))))))) (.back 1 [(.int (.var 11)), (.int (.add (.var 12) (.lit 1)))])))))) (.ob (.lit false) (.loop [.int, .int] [(.int (.lit 0)), (.int (.lit 0))] (.split (.cmp .lt (.var 14) (.len (.var 9))) (.ob (.cmp .le (.lit 0) (.var 14)) (.ob (.cmp .lt (.var 14) (.len (.var 9))) (.split (.cmp .eq (.cell (.cell (.var 1) (.var 7) 0) (.lit (-1)) 0) (.cell (.var 9) (.var 14) 0)) (.arr [[(.int (.cell (.cell (.var 1) (.var 7) 0) (.lit (-1)) 0))]] (.ob (.cmp .le (.mul (.add (.len (.var 9)) (.len (.var 15))) (.lit 8)) (.lit 140737488355328)) (.cat (.var 9) (.var 15) (.ret [(.cnt 3 (.var 16))])))) (.back 2 [(.int (.var 13)), (.int (.add (.var 14) (.lit 1)))])))) (.arr [[(.int (.cell (.cell (.var 1) (.var 7) 0) (.lit (-1)) 0))]] (.ob (.cmp .le (.mul (.add (.len (.var 9)) (.len (.var 15))) (.lit 8)) (.lit 140737488355328)) (.cat (.var 9) (.var 15) (.back 0 [(.int (.cell (.cell (.var 1) (.var 7) 0) (.lit (-1)) 0)), (.cnt 3 (.var 8)), (.cnt 3 (.var 16))])))))))))))))))))))))
end Go.Proofs.Ytbgofenplhdllaa
/- House: lists compared. -/
namespace Go.Proofs.Ytbgofenplhdllaa
open Go.RowKit
set_option linter.unusedSimpArgs false
set_option linter.unusedVariables false

theorem take_next {α : Type} {a b : List α} {i : Nat} (d : α) (h : a.take i = b.take i) (ha : i < a.length) (hb : i < b.length) (he : a.getD i d = b.getD i d) : a.take (i + 1) = b.take (i + 1) := by
  rw [take_snoc ha d, take_snoc hb d, h, he]
theorem take_all {α : Type} {a b : List α} {i : Nat} (h : a.take i = b.take i) (hi : a.length ≤ i ∨ b.length ≤ i) : a = b ↔ a.length = b.length := by
  constructor
  · intro e; rw [e]
  · intro e
    rw [List.take_of_length_le (by omega), List.take_of_length_le (by omega)] at h
    exact h
theorem ne_at {α : Type} {a b : List α} {i : Nat} {d : α} (h : a.getD i d ≠ b.getD i d) : a ≠ b := fun e => h (by rw [e])
theorem beq_no {α : Type} [BEq α] [LawfulBEq α] {a b : α} (h : a ≠ b) : (a == b) = false := beq_eq_false_iff_ne.2 h
theorem beq_ok {α : Type} [BEq α] [LawfulBEq α] {a b : α} (h : a = b) : (a == b) = true := beq_iff_eq.2 h
theorem sameints_ok : tab2.ok 20 := by
  refine Tab.of_ct rfl rfl ⟨_, Try.func20, by decide, rfl⟩ ?_ ctF_det
  refine ct_ok (cx := csameints) (Tab.cx_ok all_nil) Try.func20 (bds := []) (T := tsameints) (by kernel_rfl) ?_
  unfold tsameints
  simp only [VC, allC, List.map_cons, List.map_nil, List.length_cons, List.length_nil, List.getElem?_cons_zero, List.getElem?_cons_succ, List.cons.injEq, C.i.injEq, C.b.injEq, and_true, true_and, forall_const, kindsOf_nil, kindsOf_lf, kindsOf_agg, kindsOf_box, boxKinds_nil, boxKinds_lf, boxKinds_agg, boxKinds_box, List.append_nil, List.cons_append, List.nil_append, den_cmp_le, den_cmp_lt, den_cmp_eq, den_cmp_ne, den_cmp_le', den_cmp_lt', den_cmp_eq', den_cmp_ne', den_and, den_and', den_or, den_or', den_not, den_not', den_blit, den_of, ev_var, at_0, at_1, at_2, at_3, at_4, at_5, at_6, at_7, at_skip, c_int, c_bool, c_arr, c_cnt, c_vec, ev_nil, ev_join, ev_sub3, loc_s, int_i, bool_b, rows_s, cs_nil, cs_cons, E.den_lit, E.den_var, E.den_add, E.den_sub, E.den_mul, E.den_quo, E.den_rem, E.den_max, E.den_min, E.den_len, E.den_wr, E.den_cell, ev_cell, int_at, ctSameInts, ctF, intsSh]
  intro v0 r0 d0 _ hs0 v1 r1 d1 _ hs1
  have e0 := ints_len r0
  have e1 := ints_len r1
  generalize ints r0 = a at *
  generalize ints r1 = b at *
  refine ⟨bds_nil _, fun xs => match xs with | [_, .i i] => 0 ≤ i ∧ i ≤ a.length ∧ i ≤ b.length ∧ a.take i.toNat = b.take i.toNat | _ => False, fun xs => match xs with | [_, .i i] => ((a.length : Int) - i).toNat | _ => 0, ⟨by omega, by omega, by omega, by simp⟩, ?_⟩
  rintro x i _ _ ⟨i0, i1, i2, h⟩
  have fin : (a.length ≤ i.toNat ∨ b.length ≤ i.toNat) → B.den [C.s v0 r0, C.s v1 r1, C.b x, C.i i] (.cmp .eq (.len (.var 0)) (.len (.var 1))) = (a == b) := fun hle => by
    rw [Bool.eq_iff_iff, beq_iff_eq, take_all h hle]
    simp only [den_cmp_eq, E.den_len, ev_var, at_0, at_1, rows_s]
    omega
  refine ⟨fun hl => ⟨fun hr => ⟨i0, hl, hr, fun hne => ?_, fun he => ⟨⟨by omega, by omega, by omega, ?_⟩, (show ((a.length : Int) - (i + 1)).toNat < ((a.length : Int) - i).toNat by omega)⟩⟩, fun hr => fin (by omega)⟩, fun hl => fin (by omega)⟩
  · exact (beq_no (ne_at hne)).symm
  · rw [show (i + 1).toNat = i.toNat + 1 by omega]; exact take_next 0 h (by omega) (by omega) he
end Go.Proofs.Ytbgofenplhdllaa
/- House: the wild well, both texts. -/
namespace Go.Proofs.Ytbgofenplhdllaa
open Go.RowKit
set_option linter.unusedSimpArgs false
set_option linter.unusedVariables false

theorem wildV_bad {l r t : Int} (h : ¬ (1 ≤ l ∧ l ≤ 15 ∧ 1 ≤ r ∧ r ≤ 15 ∧ 0 ≤ t ∧ t ≤ 3)) : wildV l r t = (⟨[], []⟩, 2) := by unfold wildV; rw [if_neg h]
theorem wildV_full {l r t : Int} (h : 1 ≤ l ∧ l ≤ 15 ∧ 1 ≤ r ∧ r ≤ 15 ∧ 0 ≤ t ∧ t ≤ 3) (h2 : 64 < (l + 1) * (t + 1)) : wildV l r t = (⟨[], []⟩, 8) := by unfold wildV; rw [if_pos h, if_pos h2]
theorem wildV_ok {l r t : Int} (h : 1 ≤ l ∧ l ≤ 15 ∧ 1 ≤ r ∧ r ≤ 15 ∧ 0 ≤ t ∧ t ≤ 3) (h2 : (l + 1) * (t + 1) ≤ 64) : wildV l r t = (wildB l.toNat r.toNat t.toNat, 0) := by unfold wildV; rw [if_pos h, if_neg (by omega)]
theorem wild_post {l r t : Int} {b : Blow} {e : Int} {cs : List C} (h : wildV l r t = (b, e)) (h1 : blowOf cs = b) : blowOf cs = (wildV l r t).1 ∧ e = (wildV l r t).2 := by rw [h]; exact ⟨h1, rfl⟩
theorem bools_snoc (rows : List (List C)) (x : Bool) : bools (rows ++ [[.b x]]) = bools rows ++ [x] := by simp [bools, C.bool]
theorem intss_snoc (rows : List (List C)) (v : Value) (x y : Int) : intss (rows ++ [[.s v [[.i x], [.i y]]]]) = intss rows ++ [[x, y]] := by simp [intss, ints, C.int, C.rows]
theorem wild_lost_take {L R T V c : Nat} (hV : V ≤ L) (hc : c ≤ T) : (wildB L R T).lost.take (ix T V c + 1) = (wildB L R T).lost.take (ix T V c) ++ [decide (V = L)] := by
  rw [take_snoc (by rw [wild_len]; exact ix_lt hV hc) false, wild_lost (ix_lt hV hc), ix_div hc]
theorem wild_moves_take {L R T V c : Nat} (hV : V ≤ L) (hc : c ≤ T) : (wildB L R T).moves.take (ix T V c + 1) = (wildB L R T).moves.take (ix T V c) ++ [if c = T then [(ix T V c : Int), (ix T V c : Int)] else [(ix T (min L (V + R)) c : Int), (ix T (min L (V + R)) (c + 1) : Int)]] := by
  rw [take_snoc (by rw [wild_mlen]; exact ix_lt hV hc) [], wild_moves (ix_lt hV hc)]
  unfold wildM
  rw [ix_mod hc, ix_div hc]
theorem ix_int (T V c : Nat) : ((ix T V c : Nat) : Int) = (V : Int) * ((T : Int) + 1) + c := by unfold ix; push_cast; rfl
theorem ix_next (T V : Nat) : ix T V (T + 1) = ix T (V + 1) 0 := by unfold ix; rw [Nat.add_mul]; omega
/-- A state of the two loops. -/
def WAt (L R T : Nat) (n : Nat) (lr mr : List (List C)) : Prop := bools lr = (wildB L R T).lost.take n ∧ intss mr = (wildB L R T).moves.take n
theorem WAt.len {L R T n : Nat} {lr mr : List (List C)} (h : WAt L R T n lr mr) (hN : (L + 1) * (T + 1) ≤ 64) : lr.length ≤ 64 ∧ mr.length ≤ 64 := by
  have h1 := bools_len lr
  have h2 := intss_len mr
  rw [h.1, List.length_take, wild_len] at h1
  rw [h.2, List.length_take, wild_mlen] at h2
  omega
theorem WAt.step {L R T V c : Nat} {lr mr : List (List C)} (h : WAt L R T (ix T V c) lr mr) (hV : V ≤ L) (hc : c ≤ T) {x : Bool} {v : Value} {p q : Int} (hx : x = decide (V = L))
    (hp : p = if c = T then (ix T V c : Int) else (ix T (min L (V + R)) c : Int)) (hq : q = if c = T then (ix T V c : Int) else (ix T (min L (V + R)) (c + 1) : Int)) : WAt L R T (ix T V (c + 1)) (lr ++ [[.b x]]) (mr ++ [[.s v [[.i p], [.i q]]]]) := by
  have e : ix T V (c + 1) = ix T V c + 1 := rfl
  refine ⟨?_, ?_⟩
  · rw [bools_snoc, h.1, e, wild_lost_take hV hc, hx]
  · rw [intss_snoc, h.2, e, wild_moves_take hV hc, hp, hq]
    split <;> rfl
theorem WAt.done {L R T : Nat} {lr mr : List (List C)} (h : WAt L R T (ix T (L + 1) 0) lr mr) (u v : Value) (cs : List C) : blowOf (.s u lr :: .s v mr :: cs) = wildB L R T := by
  have e : ix T (L + 1) 0 = (L + 1) * (T + 1) := by unfold ix; omega
  show Blow.mk (bools lr) (intss mr) = _
  rw [h.1, h.2, e, List.take_of_length_le (by rw [wild_len]; exact Nat.le_refl _), List.take_of_length_le (by rw [wild_mlen]; exact Nat.le_refl _)]
theorem wild_ok : tab2.ok 9 := by
  refine Tab.of_ct rfl rfl ⟨_, Try.func9, by decide, rfl⟩ ?_ (fun h => by cases h)
  refine ct_ok (cx := cwild) (Tab.cx_ok all_nil fxwild) Try.func9 (bds := []) (T := twild) (by kernel_rfl) ?_
  unfold twild
  simp only [VC, allC, List.map_cons, List.map_nil, List.length_cons, List.length_nil, List.getElem?_cons_zero, List.getElem?_cons_succ, List.cons.injEq, C.i.injEq, C.b.injEq, and_true, true_and, forall_const, kindsOf_nil, kindsOf_lf, kindsOf_agg, kindsOf_box, boxKinds_nil, boxKinds_lf, boxKinds_agg, boxKinds_box, List.append_nil, List.cons_append, List.nil_append, den_cmp_le, den_cmp_lt, den_cmp_eq, den_cmp_ne, den_cmp_le', den_cmp_lt', den_cmp_eq', den_cmp_ne', den_and, den_and', den_or, den_or', den_not, den_not', den_blit, den_of, ev_var, at_0, at_1, at_2, at_3, at_4, at_5, at_6, at_7, at_skip, c_int, c_bool, c_arr, c_cnt, c_vec, ev_nil, ev_join, ev_sub3, loc_s, int_i, bool_b, rows_s, cs_nil, cs_cons, E.den_lit, E.den_var, E.den_add, E.den_sub, E.den_mul, E.den_quo, E.den_rem, E.den_max, E.den_min, E.den_len, E.den_wr, E.den_cell, ctWild, n_]
  intro l l0 l1 r r0 r1 t t0 t1
  refine ⟨bds_nil _, fun h => wild_post (l := l) (r := r) (t := t) (wildV_bad (by omega)) rfl, fun h1 => ⟨fun h => wild_post (l := l) (r := r) (t := t) (wildV_bad (by omega)) rfl, fun h2 => ⟨fun h => wild_post (l := l) (r := r) (t := t) (wildV_bad (by omega)) rfl, fun h3 => ⟨fun h => wild_post (l := l) (r := r) (t := t) (wildV_bad (by omega)) rfl, fun h4 => ?_⟩⟩⟩⟩
  have hr : 1 ≤ l ∧ l ≤ 15 ∧ 1 ≤ r ∧ r ≤ 15 ∧ 0 ≤ t ∧ t ≤ 3 := by omega
  have hm := mul_bd (a := l + 1) (b := t + 1) (A := 16) (B := 4) (by omega) (by omega) (by omega) (by omega)
  refine ⟨by omega, by omega, fun h => wild_post (wildV_full hr h) rfl, fun h5 => ?_⟩
  obtain ⟨L, rfl⟩ : ∃ L : Nat, l = L := ⟨l.toNat, by omega⟩
  obtain ⟨R, rfl⟩ : ∃ R : Nat, r = R := ⟨r.toNat, by omega⟩
  obtain ⟨T, rfl⟩ : ∃ T : Nat, t = T := ⟨t.toNat, by omega⟩
  have hN : (L + 1) * (T + 1) ≤ 64 := by
    have : (((L + 1) * (T + 1) : Nat) : Int) ≤ 64 := by push_cast; exact h5
    omega
  rw [wildV_ok hr h5]
  simp only [Int.toNat_natCast]
  intro vc
  refine ⟨by omega, fun xs => match xs with | [.i v, .s _ lr, .s _ mr] => 0 ≤ v ∧ v ≤ L + 1 ∧ WAt L R T (ix T v.toNat 0) lr mr | _ => False, fun xs => match xs with | [.i v, _, _] => ((L : Int) + 1 - v).toNat | _ => 0, ⟨by omega, by omega, ⟨by simp [ix, bools], by simp [ix, intss]⟩⟩, ?_⟩
  rintro v _ _ u1 lr _ _ _ u2 mr _ _ _ ⟨v0, v1, hw⟩
  obtain ⟨V, rfl⟩ : ∃ V : Nat, v = V := ⟨v.toNat, by omega⟩
  simp only [Int.toNat_natCast] at hw
  refine ⟨fun hlt => ?_, fun hge => ?_⟩
  · refine ⟨fun xs => match xs with | [.i c, .s _ lr, .s _ mr] => 0 ≤ c ∧ c ≤ T + 1 ∧ WAt L R T (ix T V c.toNat) lr mr | _ => False, fun xs => match xs with | [.i c, _, _] => ((T : Int) + 1 - c).toNat | _ => 0, ⟨by omega, by omega, hw⟩, ?_⟩
    rintro c _ _ u3 lr2 _ _ _ u4 mr2 _ _ _ ⟨c0, c1, hw2⟩
    obtain ⟨K, rfl⟩ : ∃ K : Nat, c = K := ⟨c.toNat, by omega⟩
    simp only [Int.toNat_natCast] at hw2
    have hlen := hw2.len hN
    have m1 := mul_bd (a := min (L : Int) (V + R)) (b := (T : Int) + 1) (A := 15) (B := 4) (by omega) (by omega) (by omega) (by omega)
    have m2 := mul_bd (a := min (L : Int) V) (b := (T : Int) + 1) (A := 15) (B := 4) (by omega) (by omega) (by omega) (by omega)
    have x1 : ∀ k : Nat, ((ix T (min L (V + R)) k : Nat) : Int) = min (L : Int) (V + R) * ((T : Int) + 1) + k := fun k => by rw [ix_int, show ((min L (V + R) : Nat) : Int) = min (L : Int) (V + R) by omega]
    have x2 : ((ix T V K : Nat) : Int) = min (L : Int) V * ((T : Int) + 1) + K := by rw [ix_int, show min (L : Int) V = V by omega]
    have hnext : ((K : Int) + 1).toNat = K + 1 := by omega
    generalize min (L : Int) (V + R) * ((T : Int) + 1) = X at *
    generalize min (L : Int) V * ((T : Int) + 1) = Y at *
    refine ⟨fun hlt2 => ⟨by omega, by omega, by omega, by omega, by omega, by omega, fun hc => ?_, fun hc => ?_⟩, fun hge2 => ⟨by omega, by omega, ⟨by omega, by omega, ?_⟩, (show ((L : Int) + 1 - (V + 1)).toNat < ((L : Int) + 1 - V).toNat by omega)⟩⟩
    · refine ⟨by omega, by omega, by omega, by omega, by omega, fun v => ⟨by omega, by omega, fun v1 => ⟨by omega, fun v2 => ⟨⟨by omega, by omega, ?_⟩, (show ((T : Int) + 1 - (K + 1)).toNat < ((T : Int) + 1 - K).toNat by omega)⟩⟩⟩⟩
      rw [hnext]
      exact hw2.step (by omega) (by omega) (show ((V : Int) == (L : Int)) = decide (V = L) by rw [Bool.eq_iff_iff, beq_iff_eq, decide_eq_true_eq]; omega) (by rw [if_pos (by omega), x2]) (by rw [if_pos (by omega), x2])
    · refine ⟨by omega, fun v => ⟨by omega, by omega, fun v1 => ⟨by omega, fun v2 => ⟨⟨by omega, by omega, ?_⟩, (show ((T : Int) + 1 - (K + 1)).toNat < ((T : Int) + 1 - K).toNat by omega)⟩⟩⟩⟩
      rw [hnext]
      exact hw2.step (by omega) (by omega) (show ((V : Int) == (L : Int)) = decide (V = L) by rw [Bool.eq_iff_iff, beq_iff_eq, decide_eq_true_eq]; omega) (by rw [if_neg (by omega), x1]) (by rw [if_neg (by omega), x1]; push_cast; rfl)
    · have hK : K = T + 1 := by omega
      subst hK
      rw [show ((V : Int) + 1).toNat = V + 1 by omega, ← ix_next]; exact hw2
  · refine ⟨?_, trivial⟩
    have : V = L + 1 := by omega
    subst this
    exact hw.done _ _ _
end Go.Proofs.Ytbgofenplhdllaa
/- House: the ways, both texts. -/
namespace Go.Proofs.Ytbgofenplhdllaa
open Go.RowKit
set_option linter.unusedSimpArgs false
set_option linter.unusedVariables false

theorem nextW_at {S : List Bool} : ∀ {l : List Int} {k : Nat}, k < l.length → (∀ z ∈ l.take k, S.getD z.toNat false = false) → S.getD (l.getD k 0).toNat false = true → nextW S l = l.getD k 0
  | [], k, h, _, _ => by simp at h
  | x :: l, 0, _, _, h => by
    unfold nextW
    have h : S.getD x.toNat false = true := h
    rw [List.find?_cons_of_pos (by exact h)]; rfl
  | x :: l, k + 1, hk, hz, h => by
    have hx : S.getD x.toNat false = false := hz x (by simp)
    have ih := nextW_at (S := S) (l := l) (k := k) (by simpa using hk) (fun z hz' => hz z (by simp [hz'])) h
    unfold nextW at *
    rw [List.find?_cons_of_neg (by rw [hx]; simp)]
    exact ih
theorem leads_none {S : List Bool} {l : List Int} (h : ∀ z ∈ l, S.getD z.toNat false = false) : leads S l = false := by
  cases hl : leads S l with
  | false => rfl
  | true =>
    obtain ⟨z, hz, hs⟩ := List.any_eq_true.1 hl
    rw [h z hz] at hs; cases hs
/-- What the walk of a way knows. -/
structure WayIn (b : Blow) (i : Int) (n : Nat) (pre : List Int) (s : Int) : Prop where
  at' : WayAt b i pre s
  val : wayV b i = wayGo b.moves (safeV b) n pre s
  len : n + pre.length = b.lost.length + 1
theorem WayIn.pos {b : Blow} {i s : Int} {n : Nat} {pre : List Int} (h : WayIn b i n pre s) : ∃ m, n = m + 1 := ⟨n - 1, by have := h.at'.len; have := h.len; omega⟩
theorem WayIn.start {b : Blow} {i : Int} (h0 : 0 ≤ i) (h : (safeV b).getD i.toNat false = true) : WayIn b i (b.lost.length + 1) [] i := by
  obtain ⟨hc, hl⟩ := safeV_lt h
  have hlen : (safeV b).length = b.lost.length := by rw [safeV_ok hc, safeF_len]
  refine ⟨.start ⟨h0, by omega, h⟩, ?_, by simp⟩
  unfold wayV
  rw [if_pos ⟨h0, by omega, h⟩]
theorem WayIn.step {b : Blow} (hc : checkV b = 0) {i s : Int} {n : Nat} {pre : List Int} (h : WayIn b i n pre s) (hn : pre.contains s = false) : ∃ m, WayIn b i m (pre ++ [s]) (nextW (safeV b) (b.moves.getD s.toNat [])) := by
  obtain ⟨m, rfl⟩ := h.pos
  exact ⟨m, h.at'.step hc hn, by rw [h.val, wayGo_on hn], by have := h.len; simp; omega⟩
theorem WayIn.met {b : Blow} {i s : Int} {n : Nat} {pre : List Int} (h : WayIn b i n pre s) (hn : pre.contains s = true) : wayV b i = pre ++ [s] := by
  obtain ⟨m, rfl⟩ := h.pos
  rw [h.val, wayGo_met hn]
theorem contains_iff {l : List Int} {x : Int} : l.contains x = true ↔ x ∈ l := by rw [List.contains_eq_mem]; exact decide_eq_true_iff
theorem contains_no {l : List Int} {x : Int} (h : x ∉ l) : l.contains x = false := by
  cases hc : l.contains x with
  | false => rfl
  | true => exact absurd (contains_iff.1 hc) h
theorem ofInts_snoc (l : List Int) (x : Int) : ofInts l ++ [[.i x]] = ofInts (l ++ [x]) := by simp [ofInts]
theorem way_nil {b : Blow} {i : Int} (h : i < 0 ∨ ((safeV b).length : Int) ≤ i ∨ (safeV b).getD i.toNat false = false) : wayV b i = [] := by
  unfold wayV
  rw [if_neg]
  rintro ⟨h1, h2, h3⟩
  rcases h with h | h | h
  · omega
  · omega
  · rw [h] at h3; cases h3
theorem way_ok : tab2.ok 21 := by
  refine Tab.of_ct rfl rfl ⟨_, Try.func21, by decide, rfl⟩ ?_ (fun h => by cases h)
  refine ct_ok (cx := cway) (Tab.cx_ok (all_cons (up_ok safe_ok) all_nil) fxway) Try.func21 (bds := []) (T := tway) (by kernel_rfl) ?_
  have h1 : cway.ct 14 = some ctSafe := rfl
  unfold tway
  simp only [VC, allC, List.map_cons, List.map_nil, List.length_cons, List.length_nil, List.getElem?_cons_zero, List.getElem?_cons_succ, List.cons.injEq, C.i.injEq, C.b.injEq, and_true, true_and, forall_const, kindsOf_nil, kindsOf_lf, kindsOf_agg, kindsOf_box, boxKinds_nil, boxKinds_lf, boxKinds_agg, boxKinds_box, List.append_nil, List.cons_append, List.nil_append, den_cmp_le, den_cmp_lt, den_cmp_eq, den_cmp_ne, den_cmp_le', den_cmp_lt', den_cmp_eq', den_cmp_ne', den_and, den_and', den_or, den_or', den_not, den_not', den_blit, den_of, ev_var, at_0, at_1, at_2, at_3, at_4, at_5, at_6, at_7, at_skip, c_int, c_bool, c_arr, c_cnt, c_vec, ev_nil, ev_join, ev_sub3, loc_s, int_i, bool_b, rows_s, cs_nil, cs_cons, E.den_lit, E.den_var, E.den_add, E.den_sub, E.den_mul, E.den_quo, E.den_rem, E.den_max, E.den_min, E.den_len, E.den_wr, E.den_cell, ev_cell, rows_at_len, int_at, ints_at, bool_at, h1, ctSafe, ctWay, blowSh, intsSh, n_]
  intro v0 r0 d0 ty0 hs0 v1 r1 d1 ty1 hs1 i i0 i1; have e0 := bools_len r0; have e1 := intss_len r1; have hb : blowOf [C.s v0 r0, C.s v1 r1] = ⟨bools r0, intss r1⟩ := rfl; have hb3 : blowOf [C.s v0 r0, C.s v1 r1, C.i i] = ⟨bools r0, intss r1⟩ := rfl; rw [hb, hb3]; have a1 := fun i => ints_at v1 r1 i; generalize hM : intss r1 = M at *; generalize hL : bools r0 = L at *; generalize hB : Blow.mk L M = b at *; have bl : b.lost = L := by rw [← hB]
  have bm : b.moves = M := by rw [← hB]
  refine ⟨bds_nil _, ?_⟩
  rintro v4 r4 _ _ _ ⟨v4', e4⟩
  obtain ⟨-, rfl⟩ : v4 = v4' ∧ r4 = ofBools (safeV b) := by simpa using e4
  rw [ofBools_len, bools_of]
  have nilp : ∀ v : Value, wayV b i = [] → ∃ v', C.s v [] = C.s v' (ofInts (wayV b i)) := fun v h => ⟨v, by rw [h]; rfl⟩
  refine ⟨fun h => nilp _ (way_nil (.inl h)), fun h0 => ⟨fun h => nilp _ (way_nil (.inr (.inl h))), fun h2 => ⟨h2, fun h => nilp _ (way_nil (.inr (.inr h))), fun hsf => ?_⟩⟩⟩
  obtain ⟨hc, hlt⟩ := safeV_lt hsf
  obtain ⟨k1, k2, k3, -⟩ := check_all hc
  have kat := fun i => @check_at b hc i
  have hlen : (safeV b).length = b.lost.length := by rw [safeV_ok hc, safeF_len]
  have hwalk : ∀ {n pre s}, WayIn b i n pre s → leads (safeV b) (b.moves.getD s.toNat []) = true := fun {n pre s} h => by
    have := h.at'.s0.2.2
    rw [safeV_ok hc] at this ⊢
    exact (safeF_iff.1 this).2.1
  intro v6
  refine ⟨fun xs => match xs with | [.i s, _, .s _ rows] => ∃ n pre, rows = ofInts (pre ++ [s]) ∧ WayIn b i n pre s ∧ pre.contains s = false | _ => False, fun xs => match xs with | [_, _, .s _ rows] => b.lost.length + 1 - rows.length | _ => 0, ⟨_, [], rfl, .start (by omega) hsf, rfl⟩, ?_⟩
  rintro s _ _ v8 r8 _ _ _ v9 r9 _ _ _ ⟨n, pre, rfl, hw, hn⟩
  have hs := hw.at'.s0
  obtain ⟨m, hw2⟩ := hw.step hc hn
  have hlead := hwalk hw
  obtain ⟨-, -, hkk⟩ := kat s.toNat (by omega)
  rw [bm] at hlead hkk hw2
  have hl2 := hw2.at'.len
  simp only [List.length_append, List.length_cons, List.length_nil] at hl2
  rw [ofInts_len, ints_of']
  refine ⟨hs.1, by rw [bm, bl] at *; omega, ?_⟩
  generalize hml : M.getD s.toNat [] = l at *
  refine ⟨fun xs => match xs with | [_, .i k] => 0 ≤ k ∧ k ≤ l.length ∧ ∀ z ∈ l.take k.toNat, (safeV b).getD z.toNat false = false | _ => False, fun xs => match xs with | [_, .i k] => ((l.length : Int) - k).toNat | _ => 0, ⟨by omega, by omega, fun z hz => by simp at hz⟩, ?_⟩
  rintro y _ _ k _ _ ⟨k0, k1', hK⟩
  refine ⟨fun hlt' => ?_, fun hge' => ?_⟩
  · have hm := getD_mem (l := l) (i := k.toNat) (by omega) 0
    have hr := hkk _ hm
    refine ⟨k0, hlt', hr.1, by omega, fun hz => ⟨hlt', ?_⟩, fun hz => ⟨⟨by omega, by omega, fun z hz' => ?_⟩, (show ((l.length : Int) - (k + 1)).toNat < ((l.length : Int) - k).toNat by omega)⟩⟩
    · rw [nextW_at (by omega) hK hz] at hw2
      generalize l.getD k.toNat 0 = x at *
      generalize hout : pre ++ [s] = out at *
      have hol : out.length = pre.length + 1 := by rw [← hout]; simp
      refine ⟨fun xs => match xs with | [_, .i j] => 0 ≤ j ∧ j ≤ out.length ∧ ∀ z ∈ out.take j.toNat, z ≠ x | _ => False, fun xs => match xs with | [_, .i j] => ((out.length : Int) - j).toNat | _ => 0, ⟨by omega, by omega, fun z hz => by simp at hz⟩, ?_⟩
      rintro y' _ _ j _ _ ⟨j0, j1, hJ⟩
      refine ⟨fun hlj => ⟨j0, hlj, fun he => ⟨by omega, fun v => ⟨v, ?_⟩⟩, fun hne => ⟨⟨by omega, by omega, fun z hz' => ?_⟩, (show ((out.length : Int) - (j + 1)).toNat < ((out.length : Int) - j).toNat by omega)⟩⟩, fun hgj => ⟨by omega, fun v => ⟨⟨m, out, ofInts_snoc _ _, hw2, contains_no fun hmem => ?_⟩, ?_⟩⟩⟩
      · rw [hw2.met (contains_iff.2 (by rw [he]; exact getD_mem (by omega) 0)), ← ofInts_snoc]
      · rw [show (j + 1).toNat = j.toNat + 1 by omega, take_snoc (by omega) 0] at hz'
        rcases List.mem_append.1 hz' with h2 | h2
        · exact hJ z h2
        · rw [List.mem_singleton] at h2; subst h2; exact fun e => hne e.symm
      · rw [List.take_of_length_le (by omega)] at hJ
        exact hJ x hmem rfl
      · show b.lost.length + 1 - (ofInts out ++ [[C.i x]]).length < b.lost.length + 1 - (ofInts out).length
        rw [ofInts_snoc, ofInts_len, ofInts_len, List.length_append]; simp; omega
    · rw [show (k + 1).toNat = k.toNat + 1 by omega, take_snoc (by omega) 0] at hz'
      rcases List.mem_append.1 hz' with h2 | h2
      · exact hK z h2
      · rw [List.mem_singleton] at h2; subst h2; exact hz
  · rw [List.take_of_length_le (by omega)] at hK
    rw [leads_none hK] at hlead
    cases hlead
end Go.Proofs.Ytbgofenplhdllaa
/- House: HouseKnown, walked. -/
namespace Go.Proofs.Ytbgofenplhdllaa
open Go.RowKit
set_option linter.unusedSimpArgs false
set_option linter.unusedVariables false

theorem lsafe_ok : tab6.ok 29 := by
  refine Tab.of_ct rfl rfl ⟨_, Try.func29, by decide, rfl⟩ ?_ ctF_det
  refine ct_ok (cx := clsafe) (Tab.cx_ok (all_cons (up6_ok (up_ok safe_ok)) all_nil)) Try.func29 (bds := []) (T := tlsafe) (by kernel_rfl) ?_
  have h1 : clsafe.ct 14 = some ctSafe := rfl
  unfold tlsafe
  simp only [VC, allC, List.map_cons, List.map_nil, List.length_cons, List.length_nil, List.getElem?_cons_zero, List.getElem?_cons_succ, List.cons.injEq, C.i.injEq, C.b.injEq, and_true, true_and, forall_const, kindsOf_nil, kindsOf_lf, kindsOf_agg, kindsOf_box, boxKinds_nil, boxKinds_lf, boxKinds_agg, boxKinds_box, List.append_nil, List.cons_append, List.nil_append, den_cmp_le, den_cmp_lt, den_cmp_eq, den_cmp_ne, den_cmp_le', den_cmp_lt', den_cmp_eq', den_cmp_ne', den_and, den_and', den_or, den_or', den_not, den_not', den_blit, den_of, ev_var, at_0, at_1, at_2, at_3, at_4, at_5, at_6, at_7, at_skip, c_int, c_bool, c_arr, c_cnt, c_vec, ev_nil, ev_join, ev_sub3, loc_s, int_i, bool_b, rows_s, cs_nil, cs_cons, E.den_lit, E.den_var, E.den_add, E.den_sub, E.den_mul, E.den_quo, E.den_rem, E.den_max, E.den_min, E.den_len, E.den_wr, E.den_cell, ev_cell, bool_at, h1, ctSafe, ctLSafe, ctF, blowSh]
  intro u0 r0 _ _ _ u1 r1 _ _ _ u2 r2 _ _ _
  refine ⟨bds_nil _, ?_⟩
  rintro v3 r3 _ _ _ ⟨v, e⟩
  have e : C.s v3 r3 = C.s v (ofBools (safeV (blowOf [.s u0 r0, .s u1 r1]))) := by simpa using e
  injection e with e1 e2
  have e3 : bools r3 = safeV (blowOf [.s u0 r0, .s u1 r1]) := by rw [e2, bools_of]
  have e4 : safeV (blowOf [.s u0 r0, .s u1 r1, .s u2 r2]) = bools r3 := e3.symm
  rw [e4, ← bools_len r3, ← bools_len r2]
  have hden : ∀ (x : Bool) (i : Int), B.den [C.s u0 r0, C.s u1 r1, C.s u2 r2, C.s v3 r3, C.b x, C.i i] ((B.of ((E.var 3).cell (E.var 5) 0)).beq (B.of ((E.var 2).cell (E.var 5) 0))) = ((bools r3).getD i.toNat false == (bools r2).getD i.toNat false) := fun x i => by
    rw [← bool_at v3 r3, ← bool_at u2 r2]; rfl
  simp only [hden]
  clear hden e4 e3 e2
  generalize bools r3 = a at *
  generalize bools r2 = b at *
  refine ⟨fun hne => (beq_no fun e => hne (by rw [e])).symm, fun he => ?_⟩
  refine ⟨fun xs => match xs with | [_, .i i] => 0 ≤ i ∧ i ≤ a.length ∧ a.take i.toNat = b.take i.toNat | _ => False, fun xs => match xs with | [_, .i i] => ((a.length : Int) - i).toNat | _ => 0, ⟨by omega, by omega, by simp⟩, ?_⟩
  rintro x i _ _ ⟨i0, i1, h⟩
  refine ⟨fun hl => ⟨i0, hl, by omega, fun hf => ?_, fun ht => ⟨⟨by omega, by omega, ?_⟩, (show ((a.length : Int) - (i + 1)).toNat < ((a.length : Int) - i).toNat by omega)⟩⟩, fun hl => ?_⟩
  · exact (beq_no (ne_at (i := i.toNat) (d := false) fun e => by rw [e] at hf; simp at hf)).symm
  · rw [show (i + 1).toNat = i.toNat + 1 by omega]; exact take_next false h (by omega) (by omega) (by simpa using ht)
  · exact (beq_ok ((take_all (i := i.toNat) h (by omega)).2 (by omega))).symm
theorem way_known : wayV turnedB 1 = [1, 0, 1] := by kernel_rfl
theorem safe_shown : safeV shownB = [false, false, false] := by kernel_rfl
theorem safe_turned : safeV turnedB = [true, true, false] := by kernel_rfl
theorem chance_t : chanceV turnedB [2] = (0, false) := by kernel_rfl
theorem chance_s : chanceV shownB [0] = (0, false) := by kernel_rfl
theorem wild1_e : (wildV 4 1 1).2 = 0 := by kernel_rfl
theorem wild1_l : (wildV 4 1 1).1.lost.length = 10 ∧ (wildV 4 1 1).1.moves.length = 10 ∧ (wildV 4 1 1).1.moves.getD 0 [] = [2, 3] ∧ (wildV 4 1 1).1.moves.getD 1 [] = [1, 1] := ⟨by kernel_rfl, by kernel_rfl, by kernel_rfl, by kernel_rfl⟩
theorem wild1_s : (safeV (wildV 4 1 1).1).length = 10 ∧ (safeV (wildV 4 1 1).1).getD 4 false = true ∧ (safeV (wildV 4 1 1).1).getD 6 false = false ∧ (safeV (wildV 4 1 1).1).getD 7 false = true := ⟨by kernel_rfl, by kernel_rfl, by kernel_rfl, by kernel_rfl⟩
theorem wild2 : (wildV 15 1 3).2 = 0 ∧ (wildV 15 1 3).1.lost.length = 64 := ⟨by kernel_rfl, by kernel_rfl⟩
theorem wild3 : (wildV 16 1 1).2 = 2 := by kernel_rfl
theorem loss_known : lossV 3000 4000 300 50 100 10 1 2000 = (8001, true) := by kernel_rfl
theorem VC.joinI {cx : Cx} {R : List C → Prop} {ρ : List C} {Ls : List (List C → Prop)} {ks : List Lk} {ws t : Tree} (I : List C → Prop) (h1 : VC cx R ws ρ (Ls ++ [I])) (h2 : ∀ xs, CTy cx.P ks xs → I xs → VC cx R t (ρ ++ xs) (Ls ++ [I])) : VC cx R (.join ks ws t) ρ Ls := ⟨I, h1, allC_intro h2⟩
theorem VC.backI {cx : Cx} {R : List C → Prop} {ρ : List C} {Ls : List (List C → Prop)} {lvl : Nat} {vals : List Lf} {p : List C → Prop} (h : Ls[lvl]? = some p) (hp : p (cs_ ρ vals)) : VC cx R (.back lvl vals) ρ Ls := by simp only [VC, h]; exact hp
def isF (xs : List C) : Prop := xs = [.b false]
def isTT (xs : List C) : Prop := xs = [.b true, .b true]
section
variable {R : List C → Prop} {ρ : List C}
theorem at_new {cs l : List C} (n i j : Nat) (h : cs.length = n) (e : i = n + j) : at_ (cs ++ l) i = at_ l j := at_end (by rw [h]; exact e)
theorem known1 (hl : ρ.length = 10) (hb : blowOf [at_ ρ 8, at_ ρ 9] = turnedB) : VC clknown R tlknown_1 ρ [isF] := by
  unfold tlknown_1
  refine VC.callI (ct := ctWay) rfl trivial fun rs _ h => ?_
  obtain ⟨v, h⟩ := h
  have h : rs = [.s v (ofInts (wayV (blowOf [at_ ρ 8, at_ ρ 9]) 1))] := h
  rw [hb, way_known] at h
  subst h
  refine VC.arrI fun v11 => VC.callI (ct := ctSameInts) rfl trivial fun rs _ h => ?_
  rw [List.append_assoc] at h ⊢
  have h : rs = [.b (ints (at_ (ρ ++ [.s v (ofInts [1, 0, 1]), .s v11 [[.i 1], [.i 0], [.i 1]]]) 10).rows == ints (at_ (ρ ++ [.s v (ofInts [1, 0, 1]), .s v11 [[.i 1], [.i 0], [.i 1]]]) 11).rows)] := h
  rw [at_new 10 10 0 hl rfl, at_new 10 11 1 hl rfl] at h
  have h : rs = [.b true] := h
  subst h
  rw [List.append_assoc]
  refine VC.backI (p := isF) rfl ?_
  show [C.b (!(at_ (ρ ++ _) 12).bool)] = [C.b false]
  rw [at_new 10 12 2 hl rfl]
  rfl
theorem known2 (hl : ρ.length = 6) (hb : blowOf [at_ ρ 4, at_ ρ 5] = turnedB) : VC clknown R tlknown_2 ρ [isF] := by
  unfold tlknown_2
  refine VC.arrI fun v6 => VC.callI (ct := ctLSafe) rfl trivial fun rs _ h => ?_
  have h : rs = [.b (safeV (blowOf [at_ (ρ ++ [.s v6 [[.b true], [.b true], [.b false]]]) 4, at_ (ρ ++ [.s v6 [[.b true], [.b true], [.b false]]]) 5]) == bools (at_ (ρ ++ [.s v6 [[.b true], [.b true], [.b false]]]) 6).rows)] := h
  rw [at_lt (by omega), at_lt (by omega), at_new 6 6 0 hl rfl, hb, safe_turned] at h
  have h : rs = [.b true] := h
  subst h
  rw [List.append_assoc]
  refine VC.negI ?_ (VC.callI (ct := ctBlow turnedB) rfl trivial fun rs hrs hb3 => ?_)
  · show (!(at_ (ρ ++ _) 7).bool) = false
    rw [at_new 6 7 1 hl rfl]; rfl
  match rs, hrs with
  | [c8, c9], _ =>
  rw [List.append_assoc]
  refine known1 (by simp [hl]) ?_
  rw [at_new 6 8 2 hl rfl, at_new 6 9 3 hl rfl]
  exact hb3
theorem known3 (hl : ρ.length = 2) (hb : blowOf [at_ ρ 0, at_ ρ 1] = shownB) : VC clknown R tlknown_3 ρ [isF] := by
  unfold tlknown_3
  refine VC.arrI fun v6 => VC.callI (ct := ctLSafe) rfl trivial fun rs _ h => ?_
  have h : rs = [.b (safeV (blowOf [at_ (ρ ++ [.s v6 [[.b false], [.b false], [.b false]]]) 0, at_ (ρ ++ [.s v6 [[.b false], [.b false], [.b false]]]) 1]) == bools (at_ (ρ ++ [.s v6 [[.b false], [.b false], [.b false]]]) 2).rows)] := h
  rw [at_lt (by omega), at_lt (by omega), at_new 2 2 0 hl rfl, hb, safe_shown] at h
  have h : rs = [.b true] := h
  subst h
  rw [List.append_assoc]
  refine VC.negI ?_ (VC.callI (ct := ctBlow turnedB) rfl trivial fun rs hrs hb3 => ?_)
  · show (!(at_ (ρ ++ _) 3).bool) = false
    rw [at_new 2 3 1 hl rfl]; rfl
  match rs, hrs with
  | [c8, c9], _ =>
  rw [List.append_assoc]
  refine known2 (by simp [hl]) ?_
  rw [at_new 2 4 2 hl rfl, at_new 2 5 3 hl rfl]
  exact hb3
theorem known4 {I0 : List C → Prop} {w1 : Value} {q1 : List (List C)} (hl : ρ.length = 28) (e12 : at_ ρ 12 = .s w1 q1) (l1 : q1.length = 10) (m1 : ints ((C.s w1 q1).at 1 0).rows = [1, 1]) (e27 : at_ ρ 27 = .b true) : VC clknown R tlknown_4 ρ [I0, isF] := by
  unfold tlknown_4
  refine VC.negI ?_ (VC.obI ?_ (VC.arrI fun v28 => VC.callI (ct := ctSameInts) rfl trivial fun rs _ h => ?_))
  · show (!(at_ ρ 27).bool) = false
    rw [e27]; rfl
  · show decide ((1 : Int) < ((at_ ρ 12).rows.length : Int)) = true
    rw [e12]
    show decide ((1 : Int) < (q1.length : Int)) = true
    rw [l1]; rfl
  have h : rs = [.b (ints ((at_ (ρ ++ [.s v28 [[.i 1], [.i 1]]]) 12).at 1 0).rows == ints (at_ (ρ ++ [.s v28 [[.i 1], [.i 1]]]) 28).rows)] := h
  rw [at_lt (by omega), e12, m1, at_new 28 28 0 hl rfl] at h
  have h : rs = [.b true] := h
  subst h
  rw [List.append_assoc]
  refine VC.backI (p := isF) rfl ?_
  show [C.b (!(at_ (ρ ++ _) 29).bool)] = [C.b false]
  rw [at_new 28 29 1 hl rfl]
  rfl
theorem known5 {I0 I1 : List C → Prop} (hl : ρ.length = 109) (e108 : at_ ρ 108 = .i 4905005) (e67 : at_ ρ 67 = .i 8001) (e68 : at_ ρ 68 = .b true) : VC clknown R tlknown_5 ρ [I0, I1, isTT] := by
  unfold tlknown_5
  refine VC.posI ?_ (VC.posI ?_ (VC.posI ?_ (VC.callI (ct := ctAwake) rfl trivial fun rs _ h => ?_)))
  · show decide ((at_ ρ 108).int = 4905005) = true
    rw [e108]; rfl
  · show decide ((at_ ρ 67).int = 8001) = true
    rw [e67]; rfl
  · show (at_ ρ 68).bool = true
    rw [e68]; rfl
  have h : rs = [.b true] := h
  subst h
  refine VC.backI (p := isTT) rfl ?_
  show [C.b (at_ (ρ ++ _) 109).bool, C.b (at_ (ρ ++ _) 109).bool] = [C.b true, C.b true]
  rw [at_new 109 109 0 hl rfl]
  rfl
theorem static_seas2 {cs : List C} (h3 : n_ cs 3 = 3000) (h4 : n_ cs 4 = 1000) (h5 : n_ cs 5 = 9810) (h6 : n_ cs 6 = 12000) (h7 : n_ cs 7 = 5) : staticV cs 500 = 4905005 := by
  rw [static_of (fluids_iff.2 ⟨by omega, by omega, by omega, by omega, by omega⟩) (by omega), h4, h5, h6, h7]
  rfl
theorem known6 {I0 I1 : List C → Prop} (hl : ρ.length = 108) (h3 : n_ ρ 72 = 3000) (h4 : n_ ρ 73 = 1000) (h5 : n_ ρ 74 = 9810) (h6 : n_ ρ 75 = 12000) (h7 : n_ ρ 76 = 5) (e67 : at_ ρ 67 = .i 8001) (e68 : at_ ρ 68 = .b true) : VC clknown R tlknown_6 ρ [I0, I1, isTT] := by
  unfold tlknown_6
  refine VC.callI (ct := ctStatic) rfl trivial fun rs _ h => ?_
  have h : rs = [.i 4905005] := Eq.trans h (congrArg (fun z => [C.i z]) (static_seas2 h3 h4 h5 h6 h7))
  subst h
  exact known5 (by simp [hl]) (by rw [at_new 108 108 0 hl rfl]; rfl) (by rw [at_lt (by omega), e67]) (by rw [at_lt (by omega), e68])
theorem ofBools_at (v : Value) (S : List Bool) (i : Nat) : ((C.s v (ofBools S)).at i 0).bool = S.getD i false := by rw [bool_at, bools_of]
theorem known7 {I0 I1 : List C → Prop} {v27 : Value} {S : List Bool} (hl : ρ.length = 69) (e27 : at_ ρ 27 = .s v27 (ofBools S)) (s0 : S.length = 10) (s4 : S.getD 4 false = true) (s6 : S.getD 6 false = false) (s7 : S.getD 7 false = true) (e67 : at_ ρ 67 = .i 8001) (e68 : at_ ρ 68 = .b true) : VC clknown ((ctLaw []).post []) tlknown_7 ρ [I0, I1] := by
  unfold tlknown_7
  have hlen : ((at_ ρ 27).rows.length : Int) = 10 := by rw [e27]; show ((ofBools S).length : Int) = 10; rw [ofBools_len, s0]; rfl
  refine VC.joinI isTT ?_ ?_
  · refine VC.posI ?_ (VC.obI ?_ (VC.posI ?_ (VC.obI ?_ (VC.posI ?_ (VC.obI ?_ (VC.posI ?_ (VC.callI (ct := ctSeas) rfl trivial fun rs hrs h => ?_)))))))
    · show decide (((at_ ρ 27).rows.length : Int) = 10) = true
      rw [hlen]; rfl
    · show decide ((4 : Int) < ((at_ ρ 27).rows.length : Int)) = true
      rw [hlen]; rfl
    · show ((at_ ρ 27).at 4 0).bool = true
      rw [e27, ofBools_at, s4]
    · show decide ((6 : Int) < ((at_ ρ 27).rows.length : Int)) = true
      rw [hlen]; rfl
    · show (!((at_ ρ 27).at 6 0).bool) = true
      rw [e27, ofBools_at, s6]; rfl
    · show decide ((7 : Int) < ((at_ ρ 27).rows.length : Int)) = true
      rw [hlen]; rfl
    · show ((at_ ρ 27).at 7 0).bool = true
      rw [e27, ofBools_at, s7]
    obtain ⟨g3, g4, g5, g6, g7, -⟩ := h
    have hl3 : rs.length = 39 := CTy.len hrs
    have e : ∀ i j, i = 69 + j → n_ (ρ ++ rs) i = n_ rs j := fun i j e => by unfold n_; rw [at_new 69 i j hl e]
    exact known6 (by simp [hl, hl3]) (by rw [e 72 3 rfl, g3]) (by rw [e 73 4 rfl, g4]) (by rw [e 74 5 rfl, g5]) (by rw [e 75 6 rfl, g6]) (by rw [e 76 7 rfl, g7]) (by rw [at_lt (by omega), e67]) (by rw [at_lt (by omega), e68])
  · rintro xs _ rfl
    refine VC.retI ?_
    show [C.b (at_ (ρ ++ _) 70).bool] = [C.b true]
    rw [at_new 69 70 1 hl rfl]
    rfl
theorem known8 {I0 I1 : List C → Prop} {v27 : Value} {S : List Bool} (hl : ρ.length = 67) (e27 : at_ ρ 27 = .s v27 (ofBools S)) (s0 : S.length = 10) (s4 : S.getD 4 false = true) (s6 : S.getD 6 false = false) (s7 : S.getD 7 false = true)
    (h3 : n_ ρ 31 = 3000) (h8 : n_ ρ 36 = 4000) (h9 : n_ ρ 37 = 300) (h10 : n_ ρ 38 = 50) (h11 : n_ ρ 39 = 100) (h12 : n_ ρ 40 = 10) (h13 : n_ ρ 41 = 1) : VC clknown ((ctLaw []).post []) tlknown_8 ρ [I0, I1] := by
  unfold tlknown_8
  refine VC.callI (ct := ctLoss) rfl trivial fun rs _ h => ?_
  have h : rs = [.i (lossV (n_ ρ 31) (n_ ρ 36) (n_ ρ 37) (n_ ρ 38) (n_ ρ 39) (n_ ρ 40) (n_ ρ 41) 2000).1, .b (lossV (n_ ρ 31) (n_ ρ 36) (n_ ρ 37) (n_ ρ 38) (n_ ρ 39) (n_ ρ 40) (n_ ρ 41) 2000).2] := h
  rw [h3, h8, h9, h10, h11, h12, h13, loss_known] at h
  have h : rs = [.i 8001, .b true] := h
  subst h
  exact known7 (by simp [hl]) (by rw [at_lt (by omega), e27]) s0 s4 s6 s7 (by rw [at_new 67 67 0 hl rfl]; rfl) (by rw [at_new 67 68 1 hl rfl]; rfl)
theorem known9 {I0 : List C → Prop} {w0 w1 w2 : Value} {q0 q1 q2 : List (List C)} (hl : ρ.length = 24) (e5 : at_ ρ 5 = .b false) (e10 : at_ ρ 10 = .b false) (e11 : at_ ρ 11 = .s w0 q0) (e12 : at_ ρ 12 = .s w1 q1) (e13 : at_ ρ 13 = .i 0) (e16 : at_ ρ 16 = .s w2 q2) (e18 : at_ ρ 18 = .i 0) (e23 : at_ ρ 23 = .i 2)
    (hw : blowOf [.s w0 q0, .s w1 q1] = (wildV 4 1 1).1) (hq2 : bools q2 = (wildV 15 1 3).1.lost) : VC clknown ((ctLaw []).post []) tlknown_9 ρ [I0] := by
  have hq0 : bools q0 = (wildV 4 1 1).1.lost := by rw [← hw]; rfl
  have hq1 : intss q1 = (wildV 4 1 1).1.moves := by rw [← hw]; rfl
  have l0 : q0.length = 10 := by rw [← bools_len, hq0, wild1_l.1]
  have l1 : q1.length = 10 := by rw [← intss_len, hq1, wild1_l.2.1]
  have l2 : q2.length = 64 := by rw [← bools_len, hq2, wild2.2]
  have m0 : ints ((C.s w1 q1).at 0 0).rows = [2, 3] := by rw [ints_at, hq1, wild1_l.2.2.1]
  have m1 : ints ((C.s w1 q1).at 1 0).rows = [1, 1] := by rw [ints_at, hq1, wild1_l.2.2.2]
  unfold tlknown_9
  refine VC.dfnI (VC.dfnI ?_)
  rw [List.append_assoc]
  obtain ⟨ρ2, hρ2⟩ : ∃ ρ2, ρ ++ ([E.ev ρ E.nil] ++ [E.ev (ρ ++ [E.ev ρ E.nil]) E.nil]) = ρ2 := ⟨_, rfl⟩
  rw [hρ2]
  have hl2 : ρ2.length = 26 := by rw [← hρ2]; simp [hl]
  have f5 : at_ ρ2 5 = .b false := by rw [← hρ2, at_lt (by omega), e5]
  have f10 : at_ ρ2 10 = .b false := by rw [← hρ2, at_lt (by omega), e10]
  have f11 : at_ ρ2 11 = .s w0 q0 := by rw [← hρ2, at_lt (by omega), e11]
  have f12 : at_ ρ2 12 = .s w1 q1 := by rw [← hρ2, at_lt (by omega), e12]
  have f13 : at_ ρ2 13 = .i 0 := by rw [← hρ2, at_lt (by omega), e13]
  have f16 : at_ ρ2 16 = .s w2 q2 := by rw [← hρ2, at_lt (by omega), e16]
  have f18 : at_ ρ2 18 = .i 0 := by rw [← hρ2, at_lt (by omega), e18]
  have f23 : at_ ρ2 23 = .i 2 := by rw [← hρ2, at_lt (by omega), e23]
  clear hρ2
  refine VC.joinI isF ?_ ?_
  · refine VC.negI ?_ (VC.negI ?_ (VC.negI ?_ (VC.negI ?_ (VC.negI ?_ (VC.negI ?_ (VC.negI ?_ (VC.negI ?_ (VC.obI ?_ (VC.arrI fun v26 => VC.callI (ct := ctSameInts) rfl trivial fun rs _ h => ?_)))))))))
    · show (at_ ρ2 5).bool = false
      rw [f5]; rfl
    · show (at_ ρ2 10).bool = false
      rw [f10]; rfl
    · rw [den_cmp_ne', E.den_var, E.den_lit, f13]; rfl
    · rw [den_cmp_ne', E.den_var, E.den_lit, f18]; rfl
    · rw [den_cmp_ne', E.den_var, E.den_lit, f23]; rfl
    · rw [den_cmp_ne', E.den_len, E.den_lit, ev_var, f11, rows_s, l0]; rfl
    · rw [den_cmp_ne', E.den_len, E.den_lit, ev_var, f16, rows_s, l2]; rfl
    · rw [den_cmp_ne', E.den_len, E.den_lit, ev_var, f12, rows_s, l1]; rfl
    · show decide ((0 : Int) < ((at_ ρ2 12).rows.length : Int)) = true
      rw [f12, rows_s, l1]; rfl
    have h : rs = [.b (ints ((at_ (ρ2 ++ [.s v26 [[.i 2], [.i 3]]]) 12).at 0 0).rows == ints (at_ (ρ2 ++ [.s v26 [[.i 2], [.i 3]]]) 26).rows)] := h
    rw [at_lt (by omega), f12, m0, at_new 26 26 0 hl2 rfl] at h
    have h : rs = [.b true] := h
    subst h
    rw [List.append_assoc]
    exact known4 (by simp [hl2]) (by rw [at_lt (by omega), f12]) l1 m1 (by rw [at_new 26 27 1 hl2 rfl]; rfl)
  rintro xs _ rfl
  refine VC.negI ?_ (VC.callI (ct := ctSafe) rfl trivial fun rs _ h => ?_)
  · show (at_ (ρ2 ++ _) 26).bool = false
    rw [at_new 26 26 0 hl2 rfl]; rfl
  obtain ⟨v27, h⟩ := h
  have h : rs = [.s v27 (ofBools (safeV (blowOf [at_ (ρ2 ++ [.b false]) 11, at_ (ρ2 ++ [.b false]) 12])))] := h
  rw [at_lt (by omega), at_lt (by omega), f11, f12, hw] at h
  subst h
  rw [List.append_assoc]
  refine VC.callI (ct := ctSeas) rfl trivial fun rs hrs h => ?_
  obtain ⟨g3, g4, g5, g6, g7, g8, g9, g10, g11, g12, g13⟩ := h
  have hl3 : rs.length = 39 := CTy.len hrs
  have hl4 : (ρ2 ++ ([C.b false] ++ [C.s v27 (ofBools (safeV (wildV 4 1 1).1))])).length = 28 := by simp [hl2]
  have e : ∀ i j, i = 28 + j → n_ ((ρ2 ++ ([C.b false] ++ [C.s v27 (ofBools (safeV (wildV 4 1 1).1))])) ++ rs) i = n_ rs j := fun i j e => by unfold n_; rw [at_new 28 i j hl4 e]
  exact known8 (by simp [hl2, hl3]) (by rw [at_lt (by omega), at_new 26 27 1 hl2 rfl]; rfl) wild1_s.1 wild1_s.2.1 wild1_s.2.2.1 wild1_s.2.2.2 (by rw [e 31 3 rfl, g3]) (by rw [e 36 8 rfl, g8]) (by rw [e 37 9 rfl, g9]) (by rw [e 38 10 rfl, g10]) (by rw [e 39 11 rfl, g11]) (by rw [e 40 12 rfl, g12]) (by rw [e 41 13 rfl, g13])
theorem known10 {I0 : List C → Prop} (hl : ρ.length = 11) (e5 : at_ ρ 5 = .b false) (e10 : at_ ρ 10 = .b false) : VC clknown ((ctLaw []).post []) tlknown_10 ρ [I0] := by
  unfold tlknown_10
  refine VC.callI (ct := ctWild) rfl trivial fun rs hrs h => ?_
  match rs, hrs with
  | [c11, c12, c13], hrs =>
  obtain ⟨⟨-, w0, q0, d0, rfl, -⟩, ⟨-, w1, q1, d1, rfl, -⟩, -⟩ := hrs
  obtain ⟨hw0, e13⟩ := h
  have hw : blowOf [.s w0 q0, .s w1 q1] = (wildV 4 1 1).1 := hw0
  clear hw0
  have e13 : c13 = .i (wildV 4 1 1).2 := e13
  rw [wild1_e] at e13
  subst e13
  refine VC.dfnI (VC.dfnI (VC.callI (ct := ctWild) rfl trivial fun rs hrs h => ?_))
  match rs, hrs with
  | [c16, c17, c18], hrs =>
  obtain ⟨⟨-, w2, q2, d2, rfl, -⟩, ⟨-, w3, q3, d3, rfl, -⟩, -⟩ := hrs
  obtain ⟨hx0, e18⟩ := h
  have hx : blowOf [.s w2 q2, .s w3 q3] = (wildV 15 1 3).1 := hx0
  clear hx0
  have e18 : c18 = .i (wildV 15 1 3).2 := e18
  rw [wild2.1] at e18
  subst e18
  refine VC.dfnI (VC.dfnI (VC.callI (ct := ctWild) rfl trivial fun rs hrs h => ?_))
  match rs, hrs with
  | [c21, c22, c23], hrs =>
  obtain ⟨-, e23⟩ := h
  have e23 : c23 = .i (wildV 16 1 1).2 := e23
  rw [wild3] at e23
  subst e23
  simp only [List.append_assoc, List.cons_append, List.nil_append]
  refine known9 (w0 := w0) (w1 := w1) (w2 := w2) (q0 := q0) (q1 := q1) (q2 := q2) (by simp [hl]) (by rw [at_lt (by omega), e5]) (by rw [at_lt (by omega), e10]) ?_ ?_ ?_ ?_ ?_ ?_ hw (by rw [← hx]; rfl)
  · rw [at_new 11 11 0 hl rfl]; rfl
  · rw [at_new 11 12 1 hl rfl]; rfl
  · rw [at_new 11 13 2 hl rfl]; rfl
  · rw [at_new 11 16 5 hl rfl]; rfl
  · rw [at_new 11 18 7 hl rfl]; rfl
  · rw [at_new 11 23 12 hl rfl]; rfl
theorem known11 {I0 : List C → Prop} (hl : ρ.length = 3) (hb : blowOf [at_ ρ 1, at_ ρ 2] = turnedB) : VC clknown ((ctLaw []).post []) tlknown_11 ρ [I0] := by
  unfold tlknown_11
  refine VC.arrI fun v3 => VC.callI (ct := ctChance) rfl trivial fun rs _ h => ?_
  have h : rs = [.i (chanceV (blowOf [at_ (ρ ++ [.s v3 [[.i 2]]]) 1, at_ (ρ ++ [.s v3 [[.i 2]]]) 2]) (ints (at_ (ρ ++ [.s v3 [[.i 2]]]) 3).rows)).1, .b (chanceV (blowOf [at_ (ρ ++ [.s v3 [[.i 2]]]) 1, at_ (ρ ++ [.s v3 [[.i 2]]]) 2]) (ints (at_ (ρ ++ [.s v3 [[.i 2]]]) 3).rows)).2] := h
  rw [at_lt (by omega), at_lt (by omega), hb, at_new 3 3 0 hl rfl, show ints (at_ [C.s v3 [[.i 2]]] 0).rows = [2] from rfl, chance_t] at h
  subst h
  refine VC.callI (ct := ctBlow shownB) rfl trivial fun rs hrs hb2 => ?_
  match rs, hrs with
  | [c6, c7], _ =>
  have hb2 : blowOf [c6, c7] = shownB := hb2
  refine VC.arrI fun v8 => VC.callI (ct := ctChance) rfl trivial fun rs _ h => ?_
  simp only [List.append_assoc, List.cons_append, List.nil_append] at h ⊢
  have h : rs = [.i (chanceV (blowOf [at_ (ρ ++ [.s v3 [[.i 2]], .i 0, .b false, c6, c7, .s v8 [[.i 0]]]) 6, at_ (ρ ++ [.s v3 [[.i 2]], .i 0, .b false, c6, c7, .s v8 [[.i 0]]]) 7]) (ints (at_ (ρ ++ [.s v3 [[.i 2]], .i 0, .b false, c6, c7, .s v8 [[.i 0]]]) 8).rows)).1, .b (chanceV (blowOf [at_ (ρ ++ [.s v3 [[.i 2]], .i 0, .b false, c6, c7, .s v8 [[.i 0]]]) 6, at_ (ρ ++ [.s v3 [[.i 2]], .i 0, .b false, c6, c7, .s v8 [[.i 0]]]) 7]) (ints (at_ (ρ ++ [.s v3 [[.i 2]], .i 0, .b false, c6, c7, .s v8 [[.i 0]]]) 8).rows)).2] := h
  rw [at_new 3 6 3 hl rfl, at_new 3 7 4 hl rfl, at_new 3 8 5 hl rfl] at h
  have h : rs = [.i (chanceV (blowOf [c6, c7]) [0]).1, .b (chanceV (blowOf [c6, c7]) [0]).2] := h
  rw [hb2, chance_s] at h
  subst h
  simp only [List.append_assoc, List.cons_append, List.nil_append]
  refine known10 (by simp [hl]) ?_ ?_
  · rw [at_new 3 5 2 hl rfl]; rfl
  · rw [at_new 3 10 7 hl rfl]; rfl
end
theorem lknown_ok : CtOK Try.prog 8 (ctLaw []) := by
  refine ct_ok (cx := clknown) (Tab.cx_ok (all_cons (up6_ok (up_ok shown_ok)) (all_cons (up6_ok (up_ok turned_ok)) (all_cons lsafe_ok (all_cons (up6_ok way_ok) (all_cons (up6_ok sameints_ok) (all_cons (up6_ok (up_ok chance_ok)) (all_cons (up6_ok wild_ok) (all_cons (up6_ok (up_ok safe_ok)) (all_cons (up6_ok (up_ok seas_ok)) (all_cons (up65_ok loss_ok) (all_cons (up6_ok (up_ok static_ok)) (all_cons (up6_ok (up_ok awake_ok)) all_nil))))))))))))) Try.func8 (bds := []) (T := tlknown) (by kernel_rfl) ?_
  refine fun _ => ⟨bds_nil _, ?_⟩
  unfold tlknown
  refine VC.joinI isF ?_ ?_
  · refine VC.callI (ct := ctBlow shownB) rfl trivial fun rs hrs hb => ?_
    match rs, hrs with
    | [c0, c1], _ =>
    exact known3 rfl hb
  rintro xs _ rfl
  refine VC.negI rfl (VC.callI (ct := ctBlow turnedB) rfl trivial fun rs hrs hb => ?_)
  match rs, hrs with
  | [c1, c2], _ =>
  exact known11 rfl hb
end Go.Proofs.Ytbgofenplhdllaa
/- Arguments of any shape that the engine knows, opened: structs, and slices within slices. -/
namespace Go.Proofs.Ytbgofenplhdllaa
open Go.ChangeShapes Go.WideShapes Go.RowKit
set_option linter.unusedVariables false
def CellN (P : Program) (w : World) (n : Nat) (k : Lk) (u : Value) (c : C) : Prop := (∀ m, c.small m) ∧ match k with
  | .int => ∃ n, u = .int .i64 n ∧ c = .i n
  | .bool => ∃ t, u = .bool t ∧ c = .b t
  | .arr t => ∃ rows', c = .s u rows' ∧ ArrN P (fun b _ => b < w.heap.size) w n t u rows'
  | .vec _ | .opq => False
section
variable {H : Type} {enc : TypeId × Value → H} {P : Program} {w : World} {base : Nat} {spare : Nat → Bool} {held : Bool}
theorem CellN.rep {n : Nat} {k : Lk} {u : Value} {c : C} (h : CellN P w n k u c) : LRep P w (fun _ _ => False) k u c := by
  refine ⟨h.1, ?_⟩
  cases k with
  | int => exact h.2
  | bool => exact h.2
  | arr t =>
    obtain ⟨rows, rfl, hA⟩ := h.2
    exact ⟨rfl, u, rows, rfl, n, _, fun b o hb => ⟨hb, fun h => h⟩, hA⟩
  | vec t => exact h.2.elim
  | opq => exact h.2.elim
end
end Go.Proofs.Ytbgofenplhdllaa
/- The call of HouseKnown. -/
namespace Go.Proofs.Ytbgofenplhdllaa
open Go.RowKit
theorem walk_HouseKnown  (W : World)  :
    Calls Try.prog 8 #[] W fun e w' => e = .returned (.bool true) ∧ Below W.heap.size W w' := by
  exact law_walk lknown_ok rfl rfl
end Go.Proofs.Ytbgofenplhdllaa
namespace Go.Proofs.Ytbgofenplhdllaa.lawHouseKnown
open Go.ChangeShapes Go.WideShapes Go.ChangeAt Go.RowKit
set_option linter.unusedVariables false

set_option maxRecDepth 100000 in
theorem lifted (os : Os) (started : os.Started) (H : Type) (enc : TypeId × Value → H) :
    ReturnsInHanded {} Try.checked os 8 .any (Rows.houseKnownSpec.pre6 enc Try.prog Try.f8 Rows.houseKnownRow.domain false) (Rows.houseKnownSpec.post enc Try.prog Try.f8 false true false false) := by
  refine returnsInHanded_of_change (C := Try.checked) own started (by kernel_rfl) Try.func8
    (ChangeSpec.witness6 (enc := enc) (C := Try.checked) false ⟨#[], #[], []⟩ 8 (by kernel_rfl) (by kernel_rfl) (by kernel_rfl) (by kernel_rfl)) ?_
  intro W base args ds gs before hval0 hW hcnd _
  have hval : ∀ (j : Nat) t v, Try.f8.params[j]? = some t → args[j]? = some v → Value.okWide Try.prog W .any base t v := hval0
  have hW' := hW
  obtain ⟨p, q, hA0, hV, rfl, hfz, hnd⟩ := hW
  have hA : DataW.TrodAll enc Try.prog W 0 (fun _ => true) true Try.f8.params.toList args.toList ds p := hA0
  rw [Try.params8] at hA hval
  obtain ⟨hnil, rfl, rfl⟩ := trodAll_nil hA
  obtain rfl : args = #[] := by cases args; simp_all
  obtain ⟨rfl, rfl⟩ := trodVars_none hV
  clear hA0 hval0
  refine (walk_HouseKnown  W ).mono fun e W' ⟨he, bel⟩ => ?_
  subst he
  exact ⟨_, rfl, _, _, _, [], _, [], hW', trodAll_mk1 (shut_bool Try.underlying4 _), trodAll_mk0, rfl, bel.frame _, fun h => by cases h⟩

theorem over : Rows.houseKnownRow.holds Try.pinned (OpenSpec.ofChange Rows.houseKnownSpec) :=
  OpenClaim.holds_of_wide 8 Try.f8 rfl rfl rfl rfl rfl rfl rfl ⟨rfl, rfl, rfl, rfl, rfl⟩ rfl rfl rfl rfl rfl (by kernel_rfl) Try.func8 (by kernel_rfl)
    (of_decide_eq_true (by kernel_rfl)) (by unfold Func.isWrapper; first | (rw [if_pos (by decide +kernel)]; kernel_rfl) | (rw [if_neg (by decide +kernel)]; exact ⟨rfl, rfl⟩))
    (fun os started H enc _ => lifted os started H enc)

theorem proved : Rows.HouseKnownSaid := over
#print axioms proved
end Go.Proofs.Ytbgofenplhdllaa.lawHouseKnown
