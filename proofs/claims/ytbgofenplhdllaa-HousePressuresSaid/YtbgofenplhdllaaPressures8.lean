/- Texts laid into one: XS2 XS5 XS6 XT8 XT7 XBL XBN XBM XBO XBQ XBP XBR XBT Od WPressures. -/
import Derived.Test.YtbgofenplhdllaaPressures7
import Derived.Shelf.Bits.Mul64
import Derived.Shelf.Spec.BitsCarry
import Derived.TacticsInMore
import Derived.LoopIn
import Derived.OwnWalkIn
import Derived.WalkKit
import Derived.Handy
/- House: contracts, more of them: the wild well, ways, comparisons. -/
namespace Go.Proofs.Ytbgofenplhdllaa
set_option linter.unusedVariables false

def wildV (l r t : Int) : Blow × Int :=
  if 1 ≤ l ∧ l ≤ 15 ∧ 1 ≤ r ∧ r ≤ 15 ∧ 0 ≤ t ∧ t ≤ 3 then (if 64 < (l + 1) * (t + 1) then (⟨[], []⟩, 8) else (wildB l.toNat r.toNat t.toNat, 0)) else (⟨[], []⟩, 2)
def ctWild : Ct := ⟨[.lf .int, .lf .int, .lf .int], [.agg [.vec 4, .vec 35], .lf .int], fun _ => True, fun cs rs => blowOf rs = (wildV (n_ cs 0) (n_ cs 1) (n_ cs 2)).1 ∧ at_ rs 2 = .i (wildV (n_ cs 0) (n_ cs 1) (n_ cs 2)).2, false⟩
def ctSameLists : Ct := ctF [.lf (.arr 35), .lf (.arr 35)] [.lf .bool] (fun _ => True) (fun cs => [.b (intss (at_ cs 0).rows == intss (at_ cs 1).rows)])
def ctSameInts : Ct := ctF [intsSh, intsSh] [.lf .bool] (fun _ => True) (fun cs => [.b (ints (at_ cs 0).rows == ints (at_ cs 1).rows)])
def ctHas : Ct := ctF [intsSh, .lf .int] [.lf .bool] (fun _ => True) (fun cs => [.b ((ints (at_ cs 0).rows).contains (n_ cs 1))])
def ctWay : Ct := ⟨[blowSh, .lf .int], [.lf (.vec 3)], fun _ => True, fun cs rs => ∃ v, rs = [.s v (ofInts (wayV (blowOf cs) (n_ cs 2)))], false⟩
/-- A blow-out that is valid, of 1 to 12 states. -/
def ctBlowL : Ct := ⟨[intsSh], [.agg [.vec 4, .vec 35]], fun _ => True, fun _ rs => checkV (blowOf rs) = 0 ∧ (blowOf rs).lost.length ≤ 12, false⟩
def tab2 : Tab where
  ct := fun f => match f with
    | 9 | 10 => some ctWild
    | 11 => some ctSameLists
    | 20 => some ctSameInts
    | 24 => some ctHas
    | 21 | 22 => some ctWay
    | 23 => some ctBlowL
    | f => tab.ct f
  inl := tab.inl
  sel := tab.sel
theorem up_ok {f : Nat} (h : tab.ok f) (he : tab2.ct f = tab.ct f := by rfl) : tab2.ok f :=
  ⟨h.1, fun ct hc => h.2.1 ct (he ▸ hc), h.2.2.1, h.2.2.2⟩
end Go.Proofs.Ytbgofenplhdllaa
/- House: what each function computes: flows, gradients, losses. -/
namespace Go.Proofs.Ytbgofenplhdllaa
set_option linter.unusedVariables false

/-! Segments and holes -/
structure Sg where
  l : Int
  r : Int
  a : Int
  g : Int
def segOf (r : List C) : Sg := ⟨(r.getD 0 (.i 0)).int, (r.getD 1 (.i 0)).int, (r.getD 2 (.i 0)).int, (r.getD 3 (.i 0)).int⟩
def segsOf (rows : List (List C)) : List Sg := rows.map segOf
def s_ (cs : List C) (i : Nat) : List Sg := segsOf (at_ cs i).rows
def fairV (s : Sg) : Bool := decide (1 ≤ s.l) && inV s.r 0 s.l && inV s.a 1 5000 && inV s.g 1 200
def longV : List Sg → Int
  | [] => 0
  | s :: l => s.l + longV l
def holeV (l : List Sg) : Int := if l.length = 0 then 6 else if 16 < l.length then 8 else if l.all fairV = true then (if 1048576 < longV l then 5 else 0) else 2
def segSh : Sh0 := .agg [.int, .int, .int, .int]
def mudSh : Sh0 := .agg [.int, .int]
def holeSh : Sh0 := .agg [.arr 89]
def sg_ (cs : List C) (i : Nat) : Sg := ⟨n_ cs i, n_ cs (i + 1), n_ cs (i + 2), n_ cs (i + 3)⟩
def ctFair : Ct := ctF [segSh] [.lf .bool] (fun _ => True) (fun cs => [.b (fairV (sg_ cs 0))])
def ctHole : Ct := ctF [holeSh] [.lf .int] (fun _ => True) (fun cs => [.i (holeV (s_ cs 0))])

/-! Numbers of two words -/
def longsSh : Sh0 := .lf (.arr 2)
def wideSh : Sh0 := .agg [.opq, .opq]
def wd (n : Int) : C := .s (.int .u64 n) []
def wideC (n : Int) : List C := [wd (n / 18446744073709551616 % 18446744073709551616), wd (n % 18446744073709551616)]
def u_ (cs : List C) (i : Nat) : Int := match (at_ cs i).loc with
  | .int .u64 n => n
  | _ => 0
def w_ (cs : List C) (i : Nat) : Int := u_ cs i * 18446744073709551616 + u_ cs (i + 1)
def wideOK (cs : List C) (i : Nat) : Prop := ∃ h l : Nat, h < 18446744073709551616 ∧ l < 18446744073709551616 ∧ at_ cs i = wd h ∧ at_ cs (i + 1) = wd l
def prodV (l : List Int) : Int := l.foldl (· * ·) 1
def ctProd : Ct := ctF [longsSh] [wideSh] (fun cs => ∀ k ∈ ints (at_ cs 0).rows, 0 ≤ k) (fun cs => wideC (prodV (ints (at_ cs 0).rows)))
def ctPlus : Ct := ctF [wideSh, wideSh] [wideSh] (fun cs => wideOK cs 0 ∧ wideOK cs 2) (fun cs => wideC (w_ cs 0 + w_ cs 2))
def ctLeast : Ct := ctF [wideSh, wideSh] [.lf .bool] (fun cs => wideOK cs 0 ∧ wideOK cs 2) (fun cs => [.b (decide (w_ cs 2 ≤ w_ cs 0))])

/-! Numbers by their digits to the base of a million -/
def bigV : List Int → Int
  | [] => 0
  | d :: l => d + 1000000 * bigV l
def digs (l : List Int) : Prop := ∀ d ∈ l, 0 ≤ d ∧ d < 1000000
def ctBigP : Ct := ⟨[longsSh], [.lf (.vec 2)], fun cs => (ints (at_ cs 0).rows).length ≤ 6 ∧ ∀ k ∈ ints (at_ cs 0).rows, 0 ≤ k ∧ k ≤ 1099511627776,
  fun cs rs => ∃ v rows, rs = [.s v rows] ∧ digs (ints rows) ∧ (ints rows).length ≤ 40 ∧ bigV (ints rows) = prodV (ints (at_ cs 0).rows), false⟩
def ctBigA : Ct := ⟨[longsSh, longsSh], [.lf (.vec 2)], fun cs => digs (ints (at_ cs 0).rows) ∧ digs (ints (at_ cs 1).rows) ∧ (ints (at_ cs 0).rows).length ≤ 40 ∧ (ints (at_ cs 1).rows).length ≤ 40,
  fun cs rs => ∃ v rows, rs = [.s v rows] ∧ digs (ints rows) ∧ (ints rows).length ≤ 41 ∧ bigV (ints rows) = bigV (ints (at_ cs 0).rows) + bigV (ints (at_ cs 1).rows), false⟩
def ctBigL : Ct := ctF [longsSh, longsSh] [.lf .bool] (fun cs => digs (ints (at_ cs 0).rows) ∧ digs (ints (at_ cs 1).rows) ∧ (ints (at_ cs 0).rows).length ≤ 41 ∧ (ints (at_ cs 1).rows).length ≤ 41) (fun cs => [.b (decide (bigV (ints (at_ cs 1).rows) ≤ bigV (ints (at_ cs 0).rows)))])

/-! Flows and gradients -/
def flowsV (area gap y visc g flow : Int) : Bool :=
  if flow = 0 then true else if g * gap ≤ y then false
  else decide (prodV [3, y, g * gap, g * gap, gap, area] + prodV [flow, visc, g * gap, g * gap] ≤ prodV [2, g * gap, g * gap, g * gap, gap, area] + prodV [y, y, y, gap, area])
def flowsP (area gap y visc g flow : Int) : Prop := (1 ≤ area ∧ area ≤ 5000) ∧ (1 ≤ gap ∧ gap ≤ 200) ∧ (0 ≤ y ∧ y ≤ 1000000) ∧ (1 ≤ visc ∧ visc ≤ 1000000) ∧ (0 ≤ g ∧ g ≤ 20000) ∧ 0 ≤ flow ∧ flow ≤ 1000000
def possV (s : Sg) (y visc flow : Int) : Bool := fairV s && decide (s.l ≤ 1048576) && inV y 0 1000000 && inV visc 1 1000000 && inV flow 0 1000000
def bsV (p : Int → Bool) : Nat → Int → Int → Int
  | 0, lo, _ => lo
  | n + 1, lo, hi => if lo < hi then (if p ((lo + hi) / 2) = true then bsV p n lo ((lo + hi) / 2) else bsV p n ((lo + hi) / 2 + 1) hi) else lo
def gradV (s : Sg) (y visc flow : Int) : Int × Bool :=
  if possV s y visc flow = true ∧ flowsV s.a s.g y visc 20000 flow = true then (bsV (fun g => flowsV s.a s.g y visc g flow) 15 0 20000, true) else (0, false)
def wr_ (n : Int) : Int := IntKind.i64.wrap n
def lossV (to long area gap y visc flow z : Int) : Int × Bool :=
  if (1 ≤ to ∧ inV flow 0 1000000 = true ∧ inV y 0 1000000 = true ∧ inV visc 1 1000000 = true ∧ holeV [⟨long, to, area, gap⟩] = 0 ∧ 0 ≤ z ∧ z ≤ to) ∧ (gradV ⟨long, to, area, gap⟩ y visc flow).2 = true then
    (wr_ ((gradV ⟨long, to, area, gap⟩ y visc flow).1 * (wr_ (wr_ (wr_ (z * long) + to) - 1)).tdiv to), true)
  else (0, false)
def lossC (cs : List C) : Int × Bool := lossV (n_ cs 3) (n_ cs 8) (n_ cs 9) (n_ cs 10) (n_ cs 11) (n_ cs 12) (n_ cs 13) (n_ cs 39)
def flowsC (cs : List C) : Bool := flowsV (n_ cs 2) (n_ cs 3) (n_ cs 4) (n_ cs 5) (n_ cs 6) (n_ cs 7)
def ctFlows : Ct := ctF [segSh, mudSh, .lf .int, .lf .int] [.lf .bool] (fun cs => flowsP (n_ cs 2) (n_ cs 3) (n_ cs 4) (n_ cs 5) (n_ cs 6) (n_ cs 7)) (fun cs => [.b (flowsC cs)])
def ctPoss : Ct := ctF [segSh, mudSh, .lf .int] [.lf .bool] (fun _ => True) (fun cs => [.b (possV (sg_ cs 0) (n_ cs 4) (n_ cs 5) (n_ cs 6))])
def ctFlowsX : Ct := ctF [segSh, mudSh, .lf .int, .lf .int] [.lf .bool] (fun _ => True) (fun cs => [.b (possV (sg_ cs 0) (n_ cs 4) (n_ cs 5) (n_ cs 7) && inV (n_ cs 6) 0 20000 && flowsC cs)])
def ctGrad : Ct := ctF [segSh, mudSh, .lf .int] [.lf .int, .lf .bool] (fun _ => True) (fun cs => [.i (gradV (sg_ cs 0) (n_ cs 4) (n_ cs 5) (n_ cs 6)).1, .b (gradV (sg_ cs 0) (n_ cs 4) (n_ cs 5) (n_ cs 6)).2])
def ctLoss : Ct := ctF [phaseSh, .lf .int] [.lf .int, .lf .bool] (fun _ => True) (fun cs => [.i (lossC cs).1, .b (lossC cs).2])
def tab5 : Tab where
  ct := fun f => match f with
    | 58 => some ctFair
    | 45 | 52 => some ctHole
    | 68 => some ctProd
    | 69 => some ctPlus
    | 70 => some ctLeast
    | 72 => some ctBigP
    | 73 => some ctBigA
    | 74 => some ctBigL
    | 62 | 65 => some ctFlows
    | 67 | 64 => some ctPoss
    | 59 => some ctFlowsX
    | 48 | 53 => some ctGrad
    | 25 | 26 => some ctLoss
    | f => tab.ct f
  inl := fun f => match f with
    | 66 => some withinI
    | f => tab.inl f
  sel := tab.sel
theorem up5_ok {f : Nat} (h : tab.ok f) (he : tab5.ct f = tab.ct f := by rfl) (hi : tab5.inl f = tab.inl f := by rfl) : tab5.ok f :=
  ⟨h.1, fun ct hc => h.2.1 ct (he ▸ hc), fun g hg => h.2.2.1 g (hi ▸ hg), h.2.2.2⟩
end Go.Proofs.Ytbgofenplhdllaa
/- House: contracts for HousePressures and HouseKnown. -/
namespace Go.Proofs.Ytbgofenplhdllaa
set_option linter.unusedVariables false

def ctLSafe : Ct := ctF [blowSh, .lf (.arr 4)] [.lf .bool] (fun _ => True) (fun cs => [.b (safeV (blowOf cs) == bools (at_ cs 2).rows)])
def tab6 : Tab where
  ct := fun f => match f with
    | 29 => some ctLSafe
    | f => match tab2.ct f with
      | some c => some c
      | none => tab5.ct f
  inl := tab5.inl
  sel := tab5.sel
theorem up6_ok {f : Nat} (h : tab2.ok f) (he : tab6.ct f = tab2.ct f := by rfl) (hi : tab6.inl f = tab2.inl f := by rfl) : tab6.ok f :=
  ⟨h.1, fun ct hc => h.2.1 ct (he ▸ hc), fun g hg => h.2.2.1 g (hi ▸ hg), h.2.2.2⟩
theorem up65_ok {f : Nat} (h : tab5.ok f) (he : tab6.ct f = tab5.ct f := by rfl) : tab6.ok f :=
  ⟨h.1, fun ct hc => h.2.1 ct (he ▸ hc), h.2.2.1, h.2.2.2⟩
end Go.Proofs.Ytbgofenplhdllaa
/- What is to be shown of each function, as the executor has it. Printed by trees.py. -/
namespace Go.Proofs.Ytbgofenplhdllaa
noncomputable def clpress : Cx := tab6.only [27, 28, 25, 26, 12] (fun _ => []) [] 0 [] (fun r => match r with
  | 50003 => some ([(40, true, [.bool]), (4, true, [.bool])], [])
  | _ => none)
def tlpress : Tree :=
  (.call 25 [(.int (.var 0)), (.int (.var 1)), (.int (.var 2)), (.int (.var 3)), (.int (.var 4)), (.int (.var 5)), (.int (.var 6)), (.int (.var 7)), (.int (.var 8)), (.int (.var 9)), (.int (.var 10)), (.int (.var 11)), (.int (.var 12)), (.int (.var 13)), (.arr 2 (.var 14)), (.arr 133 (.var 15)), (.arr 135 (.var 16)), (.int (.var 17)), (.int (.var 18)), (.arr 137 (.var 19)), (.arr 137 (.var 20)), (.arr 139 (.var 21)), (.int (.var 22)), (.int (.var 23)), (.int (.var 24)), (.int (.var 25)), (.int (.var 26)), (.arr 89 (.var 27)), (.int (.var 28)), (.arr 141 (.var 29)), (.int (.var 30)), (.int (.var 31)), (.int (.var 32)), (.int (.var 33)), (.int (.var 34)), (.int (.var 35)), (.int (.var 36)), (.arr 2 (.var 37)), (.arr 2 (.var 38)), (.int (.var 39))] (.call 26 [(.int (.var 0)), (.int (.var 1)), (.int (.var 2)), (.int (.var 3)), (.int (.var 4)), (.int (.var 5)), (.int (.var 6)), (.int (.var 7)), (.int (.var 8)), (.int (.var 9)), (.int (.var 10)), (.int (.var 11)), (.int (.var 12)), (.int (.var 13)), (.arr 2 (.var 14)), (.arr 133 (.var 15)), (.arr 135 (.var 16)), (.int (.var 17)), (.int (.var 18)), (.arr 137 (.var 19)), (.arr 137 (.var 20)), (.arr 139 (.var 21)), (.int (.var 22)), (.int (.var 23)), (.int (.var 24)), (.int (.var 25)), (.int (.var 26)), (.arr 89 (.var 27)), (.int (.var 28)), (.arr 141 (.var 29)), (.int (.var 30)), (.int (.var 31)), (.int (.var 32)), (.int (.var 33)), (.int (.var 34)), (.int (.var 35)), (.int (.var 36)), (.arr 2 (.var 37)), (.arr 2 (.var 38)), (.int (.var 39))] (.join [.bool, .bool] (.call 27 [(.int (.var 0)), (.int (.var 1)), (.int (.var 2)), (.int (.var 3)), (.int (.var 4)), (.int (.var 5)), (.int (.var 6)), (.int (.var 7)), (.int (.var 8)), (.int (.var 9)), (.int (.var 10)), (.int (.var 11)), (.int (.var 12)), (.int (.var 13)), (.arr 2 (.var 14)), (.arr 133 (.var 15)), (.arr 135 (.var 16)), (.int (.var 17)), (.int (.var 18)), (.arr 137 (.var 19)), (.arr 137 (.var 20)), (.arr 139 (.var 21)), (.int (.var 22)), (.int (.var 23)), (.int (.var 24)), (.int (.var 25)), (.int (.var 26)), (.arr 89 (.var 27)), (.int (.var 28)), (.arr 141 (.var 29)), (.int (.var 30)), (.int (.var 31)), (.int (.var 32)), (.int (.var 33)), (.int (.var 34)), (.int (.var 35)), (.int (.var 36)), (.arr 2 (.var 37)), (.arr 2 (.var 38)), (.int (.var 39))] (.call 28 [(.int (.var 0)), (.int (.var 1)), (.int (.var 2)), (.int (.var 3)), (.int (.var 4)), (.int (.var 5)), (.int (.var 6)), (.int (.var 7)), (.int (.var 8)), (.int (.var 9)), (.int (.var 10)), (.int (.var 11)), (.int (.var 12)), (.int (.var 13)), (.arr 2 (.var 14)), (.arr 133 (.var 15)), (.arr 135 (.var 16)), (.int (.var 17)), (.int (.var 18)), (.arr 137 (.var 19)), (.arr 137 (.var 20)), (.arr 139 (.var 21)), (.int (.var 22)), (.int (.var 23)), (.int (.var 24)), (.int (.var 25)), (.int (.var 26)), (.arr 89 (.var 27)), (.int (.var 28)), (.arr 141 (.var 29)), (.int (.var 30)), (.int (.var 31)), (.int (.var 32)), (.int (.var 33)), (.int (.var 34)), (.int (.var 35)), (.int (.var 36)), (.arr 2 (.var 37)), (.arr 2 (.var 38)), (.int (.var 39))] (.split (.cmp .eq (.var 44) (.var 45)) (.split (.cmp .eq (.var 40) (.var 42)) (.split (.beq (.of (.var 41)) (.of (.var 43))) (.call 12 [] (.back 0 [(.bool (.of (.var 46))), (.bool (.of (.var 46)))])) (.back 0 [(.bool (.lit false)), (.bool (.lit false))])) (.back 0 [(.bool (.lit false)), (.bool (.lit false))])) (.back 0 [(.bool (.lit false)), (.bool (.lit false))])))) (.ret [(.bool (.of (.var 45)))]))))
end Go.Proofs.Ytbgofenplhdllaa
/- What is to be shown of each function, as the executor has it. Printed by trees.py. -/
namespace Go.Proofs.Ytbgofenplhdllaa
noncomputable def cfwithin : Cx := tab5.only [] (fun _ => []) [] 0 [] (fun _ => none)
def tfwithin : Tree :=
  (.split (.cmp .le (.var 1) (.var 0)) (.ret [(.bool (.cmp .le (.var 0) (.var 2)))]) (.ret [(.bool (.lit false))]))
noncomputable def cfair : Cx := tab5.only [66] (fun _ => []) [] 0 [] (fun _ => none)
def tfair : Tree :=
  (.split (.cmp .le (.lit 1) (.var 0)) (.split (.and (.cmp .le (.lit 0) (.var 1)) (.cmp .le (.var 1) (.var 0))) (.split (.and (.cmp .le (.lit 1) (.var 2)) (.cmp .le (.var 2) (.lit 5000))) (.ret [(.bool (.and (.cmp .le (.lit 1) (.var 3)) (.cmp .le (.var 3) (.lit 200))))]) (.ret [(.bool (.lit false))])) (.ret [(.bool (.lit false))])) (.ret [(.bool (.lit false))]))
noncomputable def chole : Cx := tab5.only [58] (fun _ => []) [] 0 [] (fun _ => none)
def thole : Tree :=
  (.split (.cmp .eq (.len (.var 0)) (.lit 0)) (.ret [(.int (.lit 6))]) (.split (.cmp .lt (.lit 16) (.len (.var 0))) (.ret [(.int (.lit 8))]) (.loop [.int, .int, .bool, .int] [(.int (.lit 0)), (.int (.lit 1048576)), (.bool (.lit false)), (.int (.lit 0))] (.split (.cmp .lt (.var 4) (.len (.var 0))) (.ob (.cmp .le (.lit 0) (.var 4)) (.ob (.cmp .lt (.var 4) (.len (.var 0))) (.call 58 [(.int (.cell (.var 0) (.var 4) 0)), (.int (.cell (.var 0) (.var 4) 1)), (.int (.cell (.var 0) (.var 4) 2)), (.int (.cell (.var 0) (.var 4) 3))] (.split (.not (.of (.var 5))) (.ret [(.int (.lit 2))]) (.split (.of (.var 3)) (.back 0 [(.int (.var 1)), (.int (.var 2)), (.bool (.lit true)), (.int (.add (.var 4) (.lit 1)))]) (.split (.not (.cmp .lt (.var 2) (.cell (.var 0) (.var 4) 0))) (.ob (.and (.cmp .le (.lit (-9223372036854775808)) (.sub (.var 2) (.cell (.var 0) (.var 4) 0))) (.cmp .le (.sub (.var 2) (.cell (.var 0) (.var 4) 0)) (.lit 9223372036854775807))) (.ob (.and (.cmp .le (.lit (-9223372036854775808)) (.sub (.var 2) (.cell (.var 0) (.var 4) 0))) (.cmp .le (.sub (.var 2) (.cell (.var 0) (.var 4) 0)) (.lit 9223372036854775807))) (.back 0 [(.int (.var 1)), (.int (.sub (.var 2) (.cell (.var 0) (.var 4) 0))), (.bool (.cmp .lt (.var 2) (.cell (.var 0) (.var 4) 0))), (.int (.add (.var 4) (.lit 1)))]))) (.back 0 [(.int (.var 1)), (.int (.var 2)), (.bool (.cmp .lt (.var 2) (.cell (.var 0) (.var 4) 0))), (.int (.add (.var 4) (.lit 1)))]))))))) (.split (.of (.var 3)) (.ret [(.int (.lit 5))]) (.ret [(.int (.lit 0))]))))))
noncomputable def crhole : Cx := tab5.only [] (fun _ => []) [] 0 [] (fun _ => none)
def trhole : Tree :=
  (.split (.cmp .eq (.len (.var 0)) (.lit 0)) (.ret [(.int (.lit 6))]) (.split (.cmp .lt (.lit 16) (.len (.var 0))) (.ret [(.int (.lit 8))]) (.loop [.int, .int, .int] [(.int (.lit 0)), (.int (.lit 0)), (.int (.lit 0))] (.split (.cmp .lt (.var 3) (.len (.var 0))) (.ob (.cmp .le (.lit 0) (.var 3)) (.ob (.cmp .lt (.var 3) (.len (.var 0))) (.split (.cmp .lt (.cell (.var 0) (.var 3) 0) (.lit 1)) (.ret [(.int (.lit 2))]) (.split (.cmp .lt (.cell (.var 0) (.var 3) 1) (.lit 0)) (.ret [(.int (.lit 2))]) (.split (.cmp .lt (.cell (.var 0) (.var 3) 0) (.cell (.var 0) (.var 3) 1)) (.ret [(.int (.lit 2))]) (.split (.cmp .lt (.cell (.var 0) (.var 3) 2) (.lit 1)) (.ret [(.int (.lit 2))]) (.split (.cmp .lt (.lit 5000) (.cell (.var 0) (.var 3) 2)) (.ret [(.int (.lit 2))]) (.split (.cmp .lt (.cell (.var 0) (.var 3) 3) (.lit 1)) (.ret [(.int (.lit 2))]) (.split (.cmp .lt (.lit 200) (.cell (.var 0) (.var 3) 3)) (.ret [(.int (.lit 2))]) (.ob (.and (.cmp .le (.lit (-9223372036854775808)) (.add (.var 2) (.min (.cell (.var 0) (.var 3) 0) (.lit 1048577)))) (.cmp .le (.add (.var 2) (.min (.cell (.var 0) (.var 3) 0) (.lit 1048577))) (.lit 9223372036854775807))) (.ob (.and (.cmp .le (.lit (-9223372036854775808)) (.add (.var 2) (.min (.cell (.var 0) (.var 3) 0) (.lit 1048577)))) (.cmp .le (.add (.var 2) (.min (.cell (.var 0) (.var 3) 0) (.lit 1048577))) (.lit 9223372036854775807))) (.back 0 [(.int (.var 1)), (.int (.add (.var 2) (.min (.cell (.var 0) (.var 3) 0) (.lit 1048577)))), (.int (.add (.var 3) (.lit 1)))])))))))))))) (.split (.cmp .lt (.lit 1048576) (.var 2)) (.ret [(.int (.lit 5))]) (.ret [(.int (.lit 0))]))))))
noncomputable def cflows : Cx := tab5.only [68, 69, 70] (fun _ => []) [] 0 [] (fun r => match r with
  | 50006 => some ([(41, false, [.opq, .opq])], [.blk 3000000])
  | 50007 => some ([(8, true, [.bool])], [])
  | _ => none)
def tflows : Tree :=
  (.split (.cmp .eq (.var 7) (.lit 0)) (.ret [(.bool (.lit true))]) (.ob (.and (.cmp .le (.lit (-9223372036854775808)) (.mul (.var 6) (.var 3))) (.cmp .le (.mul (.var 6) (.var 3)) (.lit 9223372036854775807))) (.split (.cmp .le (.mul (.var 6) (.var 3)) (.var 4)) (.ret [(.bool (.lit false))]) (.join [Lk.opq, Lk.opq] (.both (.ob (.and (.cmp .le (.lit (-9223372036854775808)) (.mul (.var 6) (.var 3))) (.cmp .le (.mul (.var 6) (.var 3)) (.lit 9223372036854775807))) (.ob (.and (.cmp .le (.lit (-9223372036854775808)) (.mul (.var 6) (.var 3))) (.cmp .le (.mul (.var 6) (.var 3)) (.lit 9223372036854775807))) (.ob (.and (.cmp .le (.lit (-9223372036854775808)) (.mul (.var 6) (.var 3))) (.cmp .le (.mul (.var 6) (.var 3)) (.lit 9223372036854775807))) (.arr [[(.int (.lit 2))], [(.int (.mul (.var 6) (.var 3)))], [(.int (.mul (.var 6) (.var 3)))], [(.int (.mul (.var 6) (.var 3)))], [(.int (.var 3))], [(.int (.var 2))]] (.both (.call 68 [(.arr 2 (.var 8))] (.arr [[(.int (.var 4))], [(.int (.var 4))], [(.int (.var 4))], [(.int (.var 3))], [(.int (.var 2))]] (.call 68 [(.arr 2 (.var 11))] (.call 69 [(.clo 9), (.clo 10), (.clo 12), (.clo 13)] (.back 0 [(.clo 14), (.clo 15)]))))) (.arr [[(.int (.var 4))], [(.int (.var 4))], [(.int (.var 4))], [(.int (.var 3))], [(.int (.var 2))]] (.call 68 [(.arr 2 (.var 8))] (.call 68 [(.arr 2 (.var 9))] (.call 69 [(.clo 10), (.clo 11), (.clo 12), (.clo 13)] (.back 0 [(.clo 14), (.clo 15)])))))))))) (.arr [[(.int (.var 4))], [(.int (.var 4))], [(.int (.var 4))], [(.int (.var 3))], [(.int (.var 2))]] (.ob (.and (.cmp .le (.lit (-9223372036854775808)) (.mul (.var 6) (.var 3))) (.cmp .le (.mul (.var 6) (.var 3)) (.lit 9223372036854775807))) (.ob (.and (.cmp .le (.lit (-9223372036854775808)) (.mul (.var 6) (.var 3))) (.cmp .le (.mul (.var 6) (.var 3)) (.lit 9223372036854775807))) (.ob (.and (.cmp .le (.lit (-9223372036854775808)) (.mul (.var 6) (.var 3))) (.cmp .le (.mul (.var 6) (.var 3)) (.lit 9223372036854775807))) (.arr [[(.int (.lit 2))], [(.int (.mul (.var 6) (.var 3)))], [(.int (.mul (.var 6) (.var 3)))], [(.int (.mul (.var 6) (.var 3)))], [(.int (.var 3))], [(.int (.var 2))]] (.call 68 [(.arr 2 (.var 9))] (.call 68 [(.arr 2 (.var 8))] (.call 69 [(.clo 10), (.clo 11), (.clo 12), (.clo 13)] (.back 0 [(.clo 14), (.clo 15)])))))))))) (.join [.bool] (.both (.ob (.and (.cmp .le (.lit (-9223372036854775808)) (.mul (.var 6) (.var 3))) (.cmp .le (.mul (.var 6) (.var 3)) (.lit 9223372036854775807))) (.ob (.and (.cmp .le (.lit (-9223372036854775808)) (.mul (.var 6) (.var 3))) (.cmp .le (.mul (.var 6) (.var 3)) (.lit 9223372036854775807))) (.arr [[(.int (.lit 3))], [(.int (.var 4))], [(.int (.mul (.var 6) (.var 3)))], [(.int (.mul (.var 6) (.var 3)))], [(.int (.var 3))], [(.int (.var 2))]] (.both (.call 68 [(.arr 2 (.var 10))] (.ob (.and (.cmp .le (.lit (-9223372036854775808)) (.mul (.var 6) (.var 3))) (.cmp .le (.mul (.var 6) (.var 3)) (.lit 9223372036854775807))) (.ob (.and (.cmp .le (.lit (-9223372036854775808)) (.mul (.var 6) (.var 3))) (.cmp .le (.mul (.var 6) (.var 3)) (.lit 9223372036854775807))) (.arr [[(.int (.var 7))], [(.int (.var 5))], [(.int (.mul (.var 6) (.var 3)))], [(.int (.mul (.var 6) (.var 3)))]] (.call 68 [(.arr 2 (.var 13))] (.call 69 [(.clo 11), (.clo 12), (.clo 14), (.clo 15)] (.call 70 [(.clo 8), (.clo 9), (.clo 16), (.clo 17)] (.back 1 [(.bool (.of (.var 18)))])))))))) (.ob (.and (.cmp .le (.lit (-9223372036854775808)) (.mul (.var 6) (.var 3))) (.cmp .le (.mul (.var 6) (.var 3)) (.lit 9223372036854775807))) (.ob (.and (.cmp .le (.lit (-9223372036854775808)) (.mul (.var 6) (.var 3))) (.cmp .le (.mul (.var 6) (.var 3)) (.lit 9223372036854775807))) (.arr [[(.int (.var 7))], [(.int (.var 5))], [(.int (.mul (.var 6) (.var 3)))], [(.int (.mul (.var 6) (.var 3)))]] (.call 68 [(.arr 2 (.var 10))] (.call 68 [(.arr 2 (.var 11))] (.call 69 [(.clo 12), (.clo 13), (.clo 14), (.clo 15)] (.call 70 [(.clo 8), (.clo 9), (.clo 16), (.clo 17)] (.back 1 [(.bool (.of (.var 18)))])))))))))))) (.ob (.and (.cmp .le (.lit (-9223372036854775808)) (.mul (.var 6) (.var 3))) (.cmp .le (.mul (.var 6) (.var 3)) (.lit 9223372036854775807))) (.ob (.and (.cmp .le (.lit (-9223372036854775808)) (.mul (.var 6) (.var 3))) (.cmp .le (.mul (.var 6) (.var 3)) (.lit 9223372036854775807))) (.arr [[(.int (.var 7))], [(.int (.var 5))], [(.int (.mul (.var 6) (.var 3)))], [(.int (.mul (.var 6) (.var 3)))]] (.ob (.and (.cmp .le (.lit (-9223372036854775808)) (.mul (.var 6) (.var 3))) (.cmp .le (.mul (.var 6) (.var 3)) (.lit 9223372036854775807))) (.ob (.and (.cmp .le (.lit (-9223372036854775808)) (.mul (.var 6) (.var 3))) (.cmp .le (.mul (.var 6) (.var 3)) (.lit 9223372036854775807))) (.arr [[(.int (.lit 3))], [(.int (.var 4))], [(.int (.mul (.var 6) (.var 3)))], [(.int (.mul (.var 6) (.var 3)))], [(.int (.var 3))], [(.int (.var 2))]] (.call 68 [(.arr 2 (.var 11))] (.call 68 [(.arr 2 (.var 10))] (.call 69 [(.clo 12), (.clo 13), (.clo 14), (.clo 15)] (.call 70 [(.clo 8), (.clo 9), (.clo 16), (.clo 17)] (.back 1 [(.bool (.of (.var 18)))])))))))))))) (.ret [(.bool (.of (.var 10)))]))))))
noncomputable def crflows : Cx := tab5.only [72, 73, 74] (fun _ => []) [] 0 [] (fun r => match r with
  | 50006 => some ([(10, true, [.vec 2])], [])
  | 50007 => some ([(11, true, [.vec 2])], [])
  | _ => none)
def trflows : Tree :=
  (.ob (.and (.cmp .le (.lit (-9223372036854775808)) (.mul (.var 6) (.var 3))) (.cmp .le (.mul (.var 6) (.var 3)) (.lit 9223372036854775807))) (.split (.cmp .eq (.var 7) (.lit 0)) (.ret [(.bool (.lit true))]) (.split (.cmp .le (.mul (.var 6) (.var 3)) (.var 4)) (.ret [(.bool (.lit false))]) (.join [(.vec 2)] (.both (.ob (.and (.cmp .le (.lit (-9223372036854775808)) (.mul (.var 6) (.var 3))) (.cmp .le (.mul (.var 6) (.var 3)) (.lit 9223372036854775807))) (.ob (.and (.cmp .le (.lit (-9223372036854775808)) (.mul (.var 6) (.var 3))) (.cmp .le (.mul (.var 6) (.var 3)) (.lit 9223372036854775807))) (.ob (.and (.cmp .le (.lit (-9223372036854775808)) (.mul (.var 6) (.var 3))) (.cmp .le (.mul (.var 6) (.var 3)) (.lit 9223372036854775807))) (.arr [[(.int (.lit 2))], [(.int (.mul (.var 6) (.var 3)))], [(.int (.mul (.var 6) (.var 3)))], [(.int (.mul (.var 6) (.var 3)))], [(.int (.var 3))], [(.int (.var 2))]] (.both (.call 72 [(.arr 2 (.var 8))] (.arr [[(.int (.var 4))], [(.int (.var 4))], [(.int (.var 4))], [(.int (.var 3))], [(.int (.var 2))]] (.call 72 [(.arr 2 (.var 10))] (.call 73 [(.arr 2 (.var 9)), (.arr 2 (.var 11))] (.back 0 [(.cnt 2 (.var 12))]))))) (.arr [[(.int (.var 4))], [(.int (.var 4))], [(.int (.var 4))], [(.int (.var 3))], [(.int (.var 2))]] (.call 72 [(.arr 2 (.var 8))] (.call 72 [(.arr 2 (.var 9))] (.call 73 [(.arr 2 (.var 10)), (.arr 2 (.var 11))] (.back 0 [(.cnt 2 (.var 12))])))))))))) (.arr [[(.int (.var 4))], [(.int (.var 4))], [(.int (.var 4))], [(.int (.var 3))], [(.int (.var 2))]] (.ob (.and (.cmp .le (.lit (-9223372036854775808)) (.mul (.var 6) (.var 3))) (.cmp .le (.mul (.var 6) (.var 3)) (.lit 9223372036854775807))) (.ob (.and (.cmp .le (.lit (-9223372036854775808)) (.mul (.var 6) (.var 3))) (.cmp .le (.mul (.var 6) (.var 3)) (.lit 9223372036854775807))) (.ob (.and (.cmp .le (.lit (-9223372036854775808)) (.mul (.var 6) (.var 3))) (.cmp .le (.mul (.var 6) (.var 3)) (.lit 9223372036854775807))) (.arr [[(.int (.lit 2))], [(.int (.mul (.var 6) (.var 3)))], [(.int (.mul (.var 6) (.var 3)))], [(.int (.mul (.var 6) (.var 3)))], [(.int (.var 3))], [(.int (.var 2))]] (.call 72 [(.arr 2 (.var 9))] (.call 72 [(.arr 2 (.var 8))] (.call 73 [(.arr 2 (.var 10)), (.arr 2 (.var 11))] (.back 0 [(.cnt 2 (.var 12))])))))))))) (.join [(.vec 2)] (.both (.ob (.and (.cmp .le (.lit (-9223372036854775808)) (.mul (.var 6) (.var 3))) (.cmp .le (.mul (.var 6) (.var 3)) (.lit 9223372036854775807))) (.ob (.and (.cmp .le (.lit (-9223372036854775808)) (.mul (.var 6) (.var 3))) (.cmp .le (.mul (.var 6) (.var 3)) (.lit 9223372036854775807))) (.arr [[(.int (.var 7))], [(.int (.var 5))], [(.int (.mul (.var 6) (.var 3)))], [(.int (.mul (.var 6) (.var 3)))]] (.both (.call 72 [(.arr 2 (.var 9))] (.ob (.and (.cmp .le (.lit (-9223372036854775808)) (.mul (.var 6) (.var 3))) (.cmp .le (.mul (.var 6) (.var 3)) (.lit 9223372036854775807))) (.ob (.and (.cmp .le (.lit (-9223372036854775808)) (.mul (.var 6) (.var 3))) (.cmp .le (.mul (.var 6) (.var 3)) (.lit 9223372036854775807))) (.arr [[(.int (.lit 3))], [(.int (.var 4))], [(.int (.mul (.var 6) (.var 3)))], [(.int (.mul (.var 6) (.var 3)))], [(.int (.var 3))], [(.int (.var 2))]] (.call 72 [(.arr 2 (.var 11))] (.call 73 [(.arr 2 (.var 10)), (.arr 2 (.var 12))] (.back 1 [(.cnt 2 (.var 13))]))))))) (.ob (.and (.cmp .le (.lit (-9223372036854775808)) (.mul (.var 6) (.var 3))) (.cmp .le (.mul (.var 6) (.var 3)) (.lit 9223372036854775807))) (.ob (.and (.cmp .le (.lit (-9223372036854775808)) (.mul (.var 6) (.var 3))) (.cmp .le (.mul (.var 6) (.var 3)) (.lit 9223372036854775807))) (.arr [[(.int (.lit 3))], [(.int (.var 4))], [(.int (.mul (.var 6) (.var 3)))], [(.int (.mul (.var 6) (.var 3)))], [(.int (.var 3))], [(.int (.var 2))]] (.call 72 [(.arr 2 (.var 9))] (.call 72 [(.arr 2 (.var 10))] (.call 73 [(.arr 2 (.var 11)), (.arr 2 (.var 12))] (.back 1 [(.cnt 2 (.var 13))]))))))))))) (.ob (.and (.cmp .le (.lit (-9223372036854775808)) (.mul (.var 6) (.var 3))) (.cmp .le (.mul (.var 6) (.var 3)) (.lit 9223372036854775807))) (.ob (.and (.cmp .le (.lit (-9223372036854775808)) (.mul (.var 6) (.var 3))) (.cmp .le (.mul (.var 6) (.var 3)) (.lit 9223372036854775807))) (.arr [[(.int (.lit 3))], [(.int (.var 4))], [(.int (.mul (.var 6) (.var 3)))], [(.int (.mul (.var 6) (.var 3)))], [(.int (.var 3))], [(.int (.var 2))]] (.ob (.and (.cmp .le (.lit (-9223372036854775808)) (.mul (.var 6) (.var 3))) (.cmp .le (.mul (.var 6) (.var 3)) (.lit 9223372036854775807))) (.ob (.and (.cmp .le (.lit (-9223372036854775808)) (.mul (.var 6) (.var 3))) (.cmp .le (.mul (.var 6) (.var 3)) (.lit 9223372036854775807))) (.arr [[(.int (.var 7))], [(.int (.var 5))], [(.int (.mul (.var 6) (.var 3)))], [(.int (.mul (.var 6) (.var 3)))]] (.call 72 [(.arr 2 (.var 10))] (.call 72 [(.arr 2 (.var 9))] (.call 73 [(.arr 2 (.var 11)), (.arr 2 (.var 12))] (.back 1 [(.cnt 2 (.var 13))]))))))))))) (.call 74 [(.arr 2 (.var 8)), (.arr 2 (.var 9))] (.ret [(.bool (.of (.var 10)))])))))))
noncomputable def flposs : List (Nat × Func) := [(75, Try.f75)]
theorem fxposs : ∀ p ∈ flposs, FnOK p := fns_cons ⟨Try.func75, ⟨_, Try.func75, by decide, rfl⟩⟩ (fns_nil)
noncomputable def cposs : Cx := tab5.only [58, 66] (fun _ => []) flposs 1 [] (fun _ => none)
def tposs : Tree :=
  (.call 58 [(.int (.var 0)), (.int (.var 1)), (.int (.var 2)), (.int (.var 3))] (.split (.of (.var 7)) (.split (.cmp .le (.var 0) (.lit 1048576)) (.split (.and (.cmp .le (.lit 0) (.var 4)) (.cmp .le (.var 4) (.lit 1000000))) (.split (.and (.cmp .le (.lit 1) (.var 5)) (.cmp .le (.var 5) (.lit 1000000))) (.ret [(.bool (.and (.cmp .le (.lit 0) (.var 6)) (.cmp .le (.var 6) (.lit 1000000))))]) (.ret [(.bool (.lit false))])) (.ret [(.bool (.lit false))])) (.ret [(.bool (.lit false))])) (.ret [(.bool (.lit false))])))
noncomputable def flrposs : List (Nat × Func) := [(71, Try.f71)]
theorem fxrposs : ∀ p ∈ flrposs, FnOK p := fns_cons ⟨Try.func71, ⟨_, Try.func71, by decide, rfl⟩⟩ (fns_nil)
noncomputable def crposs : Cx := tab5.only [] (fun _ => []) flrposs 1 [] (fun _ => none)
def trposs : Tree :=
  (.split (.cmp .le (.lit 1) (.var 0)) (.split (.cmp .le (.var 0) (.lit 1048576)) (.split (.cmp .le (.lit 0) (.var 1)) (.split (.cmp .le (.var 1) (.var 0)) (.split (.cmp .le (.lit 1) (.var 2)) (.split (.cmp .le (.var 2) (.lit 5000)) (.split (.cmp .le (.lit 1) (.var 3)) (.split (.cmp .le (.var 3) (.lit 200)) (.split (.cmp .le (.lit 0) (.var 4)) (.split (.cmp .le (.var 4) (.lit 1000000)) (.split (.cmp .le (.lit 1) (.var 5)) (.split (.cmp .le (.var 5) (.lit 1000000)) (.split (.cmp .le (.lit 0) (.var 6)) (.ret [(.bool (.cmp .le (.var 6) (.lit 1000000)))]) (.ret [(.bool (.lit false))])) (.ret [(.bool (.lit false))])) (.ret [(.bool (.lit false))])) (.ret [(.bool (.lit false))])) (.ret [(.bool (.lit false))])) (.ret [(.bool (.lit false))])) (.ret [(.bool (.lit false))])) (.ret [(.bool (.lit false))])) (.ret [(.bool (.lit false))])) (.ret [(.bool (.lit false))])) (.ret [(.bool (.lit false))])) (.ret [(.bool (.lit false))])) (.ret [(.bool (.lit false))]))
noncomputable def cflowsx : Cx := tab5.only [67, 66, 62] (fun _ => []) [] 0 [] (fun _ => none)
def tflowsx : Tree :=
  (.call 67 [(.int (.var 0)), (.int (.var 1)), (.int (.var 2)), (.int (.var 3)), (.int (.var 4)), (.int (.var 5)), (.int (.var 7))] (.split (.of (.var 8)) (.split (.and (.cmp .le (.lit 0) (.var 6)) (.cmp .le (.var 6) (.lit 20000))) (.call 62 [(.int (.var 0)), (.int (.var 1)), (.int (.var 2)), (.int (.var 3)), (.int (.var 4)), (.int (.var 5)), (.int (.var 6)), (.int (.var 7))] (.ret [(.bool (.of (.var 9)))])) (.ret [(.bool (.lit false))])) (.ret [(.bool (.lit false))])))
noncomputable def flgrad : List (Nat × Func) := [(60, Try.f60), (61, Try.f61)]
theorem fxgrad : ∀ p ∈ flgrad, FnOK p := fns_cons ⟨Try.func60, ⟨_, Try.func60, by decide, rfl⟩⟩ (fns_cons ⟨Try.func61, ⟨_, Try.func61, by decide, rfl⟩⟩ (fns_nil))
noncomputable def cgrad : Cx := tab5.only [59, 62] (fun _ => []) flgrad 2 [] (fun _ => none)
def tgrad : Tree :=
  (.call 59 [(.int (.var 0)), (.int (.var 1)), (.int (.var 2)), (.int (.var 3)), (.int (.var 4)), (.int (.var 5)), (.int (.lit 20000)), (.int (.var 6))] (.split (.not (.of (.var 7))) (.ret [(.int (.lit 0)), (.bool (.lit false))]) (.arr [] (.loop [.int, .int] [(.int (.lit 0)), (.int (.lit 20000))] (.split (.cmp .lt (.var 9) (.var 10)) (.ob (.and (.cmp .le (.lit (-9223372036854775808)) (.add (.var 9) (.var 10))) (.cmp .le (.add (.var 9) (.var 10)) (.lit 9223372036854775807))) (.ob (.and (.cmp .le (.lit (-9223372036854775808)) (.quo (.add (.var 9) (.var 10)) (.lit 2))) (.cmp .le (.quo (.add (.var 9) (.var 10)) (.lit 2)) (.lit 9223372036854775807))) (.ob (.and (.cmp .le (.lit (-9223372036854775808)) (.quo (.add (.var 9) (.var 10)) (.lit 2))) (.cmp .le (.quo (.add (.var 9) (.var 10)) (.lit 2)) (.lit 9223372036854775807))) (.call 62 [(.int (.var 0)), (.int (.var 1)), (.int (.var 2)), (.int (.var 3)), (.int (.var 4)), (.int (.var 5)), (.int (.quo (.add (.var 9) (.var 10)) (.lit 2))), (.int (.var 6))] (.split (.of (.var 11)) (.ob (.and (.cmp .le (.lit (-9223372036854775808)) (.quo (.add (.var 9) (.var 10)) (.lit 2))) (.cmp .le (.quo (.add (.var 9) (.var 10)) (.lit 2)) (.lit 9223372036854775807))) (.back 0 [(.int (.var 9)), (.int (.quo (.add (.var 9) (.var 10)) (.lit 2)))])) (.ob (.and (.cmp .le (.lit (-9223372036854775808)) (.add (.quo (.add (.var 9) (.var 10)) (.lit 2)) (.lit 1))) (.cmp .le (.add (.quo (.add (.var 9) (.var 10)) (.lit 2)) (.lit 1)) (.lit 9223372036854775807))) (.ob (.and (.cmp .le (.lit (-9223372036854775808)) (.add (.quo (.add (.var 9) (.var 10)) (.lit 2)) (.lit 1))) (.cmp .le (.add (.quo (.add (.var 9) (.var 10)) (.lit 2)) (.lit 1)) (.lit 9223372036854775807))) (.back 0 [(.int (.add (.quo (.add (.var 9) (.var 10)) (.lit 2)) (.lit 1))), (.int (.var 10))])))))))) (.ret [(.int (.var 9)), (.bool (.lit true))]))))))
noncomputable def crgrad : Cx := tab5.only [64, 65] (fun _ => []) [] 0 [] (fun _ => none)
def trgrad : Tree :=
  (.call 64 [(.int (.var 0)), (.int (.var 1)), (.int (.var 2)), (.int (.var 3)), (.int (.var 4)), (.int (.var 5)), (.int (.var 6))] (.split (.not (.of (.var 7))) (.ret [(.int (.lit 0)), (.bool (.lit false))]) (.call 65 [(.int (.var 0)), (.int (.var 1)), (.int (.var 2)), (.int (.var 3)), (.int (.var 4)), (.int (.var 5)), (.int (.lit 20000)), (.int (.var 6))] (.split (.not (.of (.var 8))) (.ret [(.int (.lit 0)), (.bool (.lit false))]) (.loop [.int, .int] [(.int (.lit 0)), (.int (.lit 20000))] (.split (.cmp .lt (.var 9) (.var 10)) (.ob (.and (.cmp .le (.lit (-9223372036854775808)) (.add (.var 9) (.var 10))) (.cmp .le (.add (.var 9) (.var 10)) (.lit 9223372036854775807))) (.ob (.and (.cmp .le (.lit (-9223372036854775808)) (.quo (.add (.var 9) (.var 10)) (.lit 2))) (.cmp .le (.quo (.add (.var 9) (.var 10)) (.lit 2)) (.lit 9223372036854775807))) (.ob (.and (.cmp .le (.lit (-9223372036854775808)) (.quo (.add (.var 9) (.var 10)) (.lit 2))) (.cmp .le (.quo (.add (.var 9) (.var 10)) (.lit 2)) (.lit 9223372036854775807))) (.call 65 [(.int (.var 0)), (.int (.var 1)), (.int (.var 2)), (.int (.var 3)), (.int (.var 4)), (.int (.var 5)), (.int (.quo (.add (.var 9) (.var 10)) (.lit 2))), (.int (.var 6))] (.split (.of (.var 11)) (.ob (.and (.cmp .le (.lit (-9223372036854775808)) (.quo (.add (.var 9) (.var 10)) (.lit 2))) (.cmp .le (.quo (.add (.var 9) (.var 10)) (.lit 2)) (.lit 9223372036854775807))) (.back 0 [(.int (.var 9)), (.int (.quo (.add (.var 9) (.var 10)) (.lit 2)))])) (.ob (.and (.cmp .le (.lit (-9223372036854775808)) (.add (.quo (.add (.var 9) (.var 10)) (.lit 2)) (.lit 1))) (.cmp .le (.add (.quo (.add (.var 9) (.var 10)) (.lit 2)) (.lit 1)) (.lit 9223372036854775807))) (.ob (.and (.cmp .le (.lit (-9223372036854775808)) (.add (.quo (.add (.var 9) (.var 10)) (.lit 2)) (.lit 1))) (.cmp .le (.add (.quo (.add (.var 9) (.var 10)) (.lit 2)) (.lit 1)) (.lit 9223372036854775807))) (.back 0 [(.int (.add (.quo (.add (.var 9) (.var 10)) (.lit 2)) (.lit 1))), (.int (.var 10))])))))))) (.ret [(.int (.var 9)), (.bool (.lit true))])))))))
noncomputable def flloss : List (Nat × Func) := [(44, Try.f44), (46, Try.f46), (49, Try.f49)]
theorem fxloss : ∀ p ∈ flloss, FnOK p := fns_cons ⟨Try.func44, ⟨_, Try.func44, by decide, rfl⟩⟩ (fns_cons ⟨Try.func46, ⟨_, Try.func46, by decide, rfl⟩⟩ (fns_cons ⟨Try.func49, ⟨_, Try.func49, by decide, rfl⟩⟩ (fns_nil)))
noncomputable def closs : Cx := tab5.only [47, 45, 48] (fun _ => []) flloss 3 [53, 57, 58, 63] (fun _ => none)
def tloss : Tree :=
  (.dfn .nil (.dfn .nil (.dfn .nil (.dfn .nil (.dfn .nil (.dfn .nil (.dfn .nil (.dfn .nil (.dfn .nil (.dfn .nil (.split (.cmp .lt (.var 3) (.lit 1)) (.ret [(.int (.lit 0)), (.bool (.lit false))]) (.split (.and (.cmp .le (.lit 0) (.var 13)) (.cmp .le (.var 13) (.lit 1000000))) (.split (.and (.cmp .le (.lit 0) (.var 11)) (.cmp .le (.var 11) (.lit 1000000))) (.split (.not (.and (.cmp .le (.lit 1) (.var 12)) (.cmp .le (.var 12) (.lit 1000000)))) (.ret [(.int (.lit 0)), (.bool (.lit false))]) (.dfn .nil (.arr [[(.int (.var 8)), (.int (.var 3)), (.int (.var 9)), (.int (.var 10))]] (.call 45 [(.arr 89 (.var 51))] (.split (.cmp .ne (.var 52) (.lit 0)) (.ret [(.int (.lit 0)), (.bool (.lit false))]) (.split (.not (.and (.cmp .le (.lit 0) (.var 39)) (.cmp .le (.var 39) (.var 3)))) (.ret [(.int (.lit 0)), (.bool (.lit false))]) (.call 48 [(.int (.var 8)), (.int (.var 3)), (.int (.var 9)), (.int (.var 10)), (.int (.var 11)), (.int (.var 12)), (.int (.var 13))] (.split (.not (.of (.var 54))) (.ret [(.int (.lit 0)), (.bool (.lit false))]) (.ob (.and (.cmp .le (.lit (-9223372036854775808)) (.quo (.wr (.sub (.wr (.add (.wr (.mul (.var 39) (.var 8))) (.var 3))) (.lit 1))) (.var 3))) (.cmp .le (.quo (.wr (.sub (.wr (.add (.wr (.mul (.var 39) (.var 8))) (.var 3))) (.lit 1))) (.var 3)) (.lit 9223372036854775807))) (.ret [(.int (.wr (.mul (.var 53) (.quo (.wr (.sub (.wr (.add (.wr (.mul (.var 39) (.var 8))) (.var 3))) (.lit 1))) (.var 3))))), (.bool (.lit true))])))))))))) (.ret [(.int (.lit 0)), (.bool (.lit false))])) (.ret [(.int (.lit 0)), (.bool (.lit false))])))))))))))))
noncomputable def flrloss : List (Nat × Func) := [(50, Try.f50), (51, Try.f51)]
theorem fxrloss : ∀ p ∈ flrloss, FnOK p := fns_cons ⟨Try.func50, ⟨_, Try.func50, by decide, rfl⟩⟩ (fns_cons ⟨Try.func51, ⟨_, Try.func51, by decide, rfl⟩⟩ (fns_nil))
noncomputable def crloss : Cx := tab5.only [63, 52, 53] (fun _ => []) flrloss 2 [52, 55, 56, 60] (fun _ => none)
def trloss : Tree :=
  (.dfn .nil (.arr [[(.int (.var 8)), (.int (.var 3)), (.int (.var 9)), (.int (.var 10))]] (.dfn .nil (.split (.and (.cmp .le (.lit 0) (.var 13)) (.cmp .le (.var 13) (.lit 1000000))) (.split (.and (.cmp .le (.lit 0) (.var 11)) (.cmp .le (.var 11) (.lit 1000000))) (.split (.not (.and (.cmp .le (.lit 1) (.var 12)) (.cmp .le (.var 12) (.lit 1000000)))) (.ret [(.int (.lit 0)), (.bool (.lit false))]) (.call 52 [(.arr 89 (.var 41))] (.split (.cmp .ne (.var 43) (.lit 0)) (.ret [(.int (.lit 0)), (.bool (.lit false))]) (.split (.cmp .lt (.var 3) (.lit 1)) (.ret [(.int (.lit 0)), (.bool (.lit false))]) (.split (.cmp .lt (.var 39) (.lit 0)) (.ret [(.int (.lit 0)), (.bool (.lit false))]) (.split (.cmp .lt (.var 3) (.var 39)) (.ret [(.int (.lit 0)), (.bool (.lit false))]) (.ob (.cmp .lt (.lit 0) (.len (.var 41))) (.call 53 [(.int (.cell (.var 41) (.lit 0) 0)), (.int (.cell (.var 41) (.lit 0) 1)), (.int (.cell (.var 41) (.lit 0) 2)), (.int (.cell (.var 41) (.lit 0) 3)), (.int (.var 11)), (.int (.var 12)), (.int (.var 13))] (.split (.not (.of (.var 45))) (.ret [(.int (.lit 0)), (.bool (.lit false))]) (.ob (.and (.cmp .le (.lit (-9223372036854775808)) (.quo (.wr (.sub (.wr (.add (.wr (.mul (.var 39) (.var 8))) (.var 3))) (.lit 1))) (.var 3))) (.cmp .le (.quo (.wr (.sub (.wr (.add (.wr (.mul (.var 39) (.var 8))) (.var 3))) (.lit 1))) (.var 3)) (.lit 9223372036854775807))) (.ret [(.int (.wr (.mul (.var 44) (.quo (.wr (.sub (.wr (.add (.wr (.mul (.var 39) (.var 8))) (.var 3))) (.lit 1))) (.var 3))))), (.bool (.lit true))]))))))))))) (.ret [(.int (.lit 0)), (.bool (.lit false))])) (.ret [(.int (.lit 0)), (.bool (.lit false))])))))
noncomputable def cbigp : Cx := tab5.only [] (fun _ => []) [] 0 [] (fun r => match r with
  | 50008 => some ([(23, true, [.bool])], [])
  | 90011 => some ([(5, true, [.int])], [])
  | _ => none)
def tbigp : Tree :=
  (.dfn .nil (.arr [[(.int (.lit 1))]] (.loop [(.vec 2), .int] [(.cnt 2 (.var 2)), (.int (.lit 0))] (.split (.cmp .lt (.var 4) (.len (.var 0))) (.arr [] (.loop [.int, (.vec 2), .int] [(.int (.lit 0)), (.cnt 2 (.var 5)), (.int (.lit 0))] (.join [.bool] (.split (.cmp .lt (.var 8) (.len (.var 3))) (.back 2 [(.bool (.lit true))]) (.back 2 [(.bool (.cmp .lt (.lit 0) (.var 6)))])) (.split (.of (.var 9)) (.join [.int] (.split (.cmp .lt (.var 8) (.len (.var 3))) (.ob (.cmp .le (.lit 0) (.var 8)) (.ob (.cmp .lt (.var 8) (.len (.var 3))) (.ob (.cmp .le (.lit 0) (.var 4)) (.ob (.cmp .lt (.var 4) (.len (.var 0))) (.ob (.and (.cmp .le (.lit (-9223372036854775808)) (.mul (.cell (.var 3) (.var 8) 0) (.cell (.var 0) (.var 4) 0))) (.cmp .le (.mul (.cell (.var 3) (.var 8) 0) (.cell (.var 0) (.var 4) 0)) (.lit 9223372036854775807))) (.ob (.and (.cmp .le (.lit (-9223372036854775808)) (.add (.var 6) (.mul (.cell (.var 3) (.var 8) 0) (.cell (.var 0) (.var 4) 0)))) (.cmp .le (.add (.var 6) (.mul (.cell (.var 3) (.var 8) 0) (.cell (.var 0) (.var 4) 0))) (.lit 9223372036854775807))) (.ob (.and (.cmp .le (.lit (-9223372036854775808)) (.add (.var 6) (.mul (.cell (.var 3) (.var 8) 0) (.cell (.var 0) (.var 4) 0)))) (.cmp .le (.add (.var 6) (.mul (.cell (.var 3) (.var 8) 0) (.cell (.var 0) (.var 4) 0))) (.lit 9223372036854775807))) (.back 3 [(.int (.add (.var 6) (.mul (.cell (.var 3) (.var 8) 0) (.cell (.var 0) (.var 4) 0))))])))))))) (.back 3 [(.int (.var 6))])) (.ob (.and (.cmp .le (.lit (-9223372036854775808)) (.rem (.var 10) (.lit 1000000))) (.cmp .le (.rem (.var 10) (.lit 1000000)) (.lit 9223372036854775807))) (.arr [[(.int (.rem (.var 10) (.lit 1000000)))]] (.ob (.cmp .le (.mul (.add (.len (.var 7)) (.len (.var 11))) (.lit 8)) (.lit 140737488355328)) (.cat (.var 7) (.var 11) (.ob (.and (.cmp .le (.lit (-9223372036854775808)) (.quo (.var 10) (.lit 1000000))) (.cmp .le (.quo (.var 10) (.lit 1000000)) (.lit 9223372036854775807))) (.ob (.and (.cmp .le (.lit (-9223372036854775808)) (.add (.var 8) (.lit 1))) (.cmp .le (.add (.var 8) (.lit 1)) (.lit 9223372036854775807))) (.ob (.and (.cmp .le (.lit (-9223372036854775808)) (.quo (.var 10) (.lit 1000000))) (.cmp .le (.quo (.var 10) (.lit 1000000)) (.lit 9223372036854775807))) (.ob (.and (.cmp .le (.lit (-9223372036854775808)) (.add (.var 8) (.lit 1))) (.cmp .le (.add (.var 8) (.lit 1)) (.lit 9223372036854775807))) (.back 1 [(.int (.quo (.var 10) (.lit 1000000))), (.cnt 2 (.var 12)), (.int (.add (.var 8) (.lit 1)))])))))))))) (.back 0 [(.cnt 2 (.var 7)), (.int (.add (.var 4) (.lit 1)))]))))) (.ret [(.cnt 2 (.var 3))])))))
noncomputable def cbiga : Cx := tab5.only [] (fun _ => []) [] 0 [] (fun r => match r with
  | 50004 => some ([(21, true, [.bool])], [])
  | 90007 => some ([(6, true, [.int])], [])
  | 90009 => some ([(6, true, [.int])], [])
  | _ => none)
def tbiga : Tree :=
  (.dfn .nil (.dfn .nil (.loop [(.vec 2), .int, .int] [(.cnt 2 (.var 3)), (.int (.lit 0)), (.int (.lit 0))] (.join [.bool] (.split (.cmp .lt (.var 6) (.len (.var 0))) (.back 1 [(.bool (.lit true))]) (.split (.cmp .lt (.var 6) (.len (.var 1))) (.back 1 [(.bool (.lit true))]) (.back 1 [(.bool (.cmp .lt (.lit 0) (.var 5)))]))) (.split (.of (.var 7)) (.join [.int] (.split (.cmp .lt (.var 6) (.len (.var 0))) (.ob (.cmp .le (.lit 0) (.var 6)) (.ob (.cmp .lt (.var 6) (.len (.var 0))) (.ob (.and (.cmp .le (.lit (-9223372036854775808)) (.add (.var 5) (.cell (.var 0) (.var 6) 0))) (.cmp .le (.add (.var 5) (.cell (.var 0) (.var 6) 0)) (.lit 9223372036854775807))) (.ob (.and (.cmp .le (.lit (-9223372036854775808)) (.add (.var 5) (.cell (.var 0) (.var 6) 0))) (.cmp .le (.add (.var 5) (.cell (.var 0) (.var 6) 0)) (.lit 9223372036854775807))) (.back 2 [(.int (.add (.var 5) (.cell (.var 0) (.var 6) 0)))]))))) (.back 2 [(.int (.var 5))])) (.join [.int] (.split (.cmp .lt (.var 6) (.len (.var 1))) (.ob (.cmp .le (.lit 0) (.var 6)) (.ob (.cmp .lt (.var 6) (.len (.var 1))) (.ob (.and (.cmp .le (.lit (-9223372036854775808)) (.add (.var 8) (.cell (.var 1) (.var 6) 0))) (.cmp .le (.add (.var 8) (.cell (.var 1) (.var 6) 0)) (.lit 9223372036854775807))) (.ob (.and (.cmp .le (.lit (-9223372036854775808)) (.add (.var 8) (.cell (.var 1) (.var 6) 0))) (.cmp .le (.add (.var 8) (.cell (.var 1) (.var 6) 0)) (.lit 9223372036854775807))) (.back 3 [(.int (.add (.var 8) (.cell (.var 1) (.var 6) 0)))]))))) (.back 3 [(.int (.var 8))])) (.ob (.and (.cmp .le (.lit (-9223372036854775808)) (.rem (.var 9) (.lit 1000000))) (.cmp .le (.rem (.var 9) (.lit 1000000)) (.lit 9223372036854775807))) (.arr [[(.int (.rem (.var 9) (.lit 1000000)))]] (.ob (.cmp .le (.mul (.add (.len (.var 4)) (.len (.var 10))) (.lit 8)) (.lit 140737488355328)) (.cat (.var 4) (.var 10) (.ob (.and (.cmp .le (.lit (-9223372036854775808)) (.quo (.var 9) (.lit 1000000))) (.cmp .le (.quo (.var 9) (.lit 1000000)) (.lit 9223372036854775807))) (.ob (.and (.cmp .le (.lit (-9223372036854775808)) (.add (.var 6) (.lit 1))) (.cmp .le (.add (.var 6) (.lit 1)) (.lit 9223372036854775807))) (.ob (.and (.cmp .le (.lit (-9223372036854775808)) (.quo (.var 9) (.lit 1000000))) (.cmp .le (.quo (.var 9) (.lit 1000000)) (.lit 9223372036854775807))) (.ob (.and (.cmp .le (.lit (-9223372036854775808)) (.add (.var 6) (.lit 1))) (.cmp .le (.add (.var 6) (.lit 1)) (.lit 9223372036854775807))) (.back 0 [(.cnt 2 (.var 11)), (.int (.quo (.var 9) (.lit 1000000))), (.int (.add (.var 6) (.lit 1)))]))))))))))) (.ret [(.cnt 2 (.var 4))]))))))
noncomputable def cbigl : Cx := tab5.only [] (fun _ => []) [] 0 [] (fun r => match r with
  | 90006 => some ([(6, true, [.int])], [])
  | 90008 => some ([(7, true, [.int])], [])
  | _ => none)
def tbigl : Tree :=
  (.loop [.bool, .int] [(.bool (.lit false)), (.int (.sub (.max (.len (.var 0)) (.len (.var 1))) (.lit 1)))] (.split (.cmp .le (.lit 0) (.var 3)) (.join [.int] (.split (.cmp .lt (.var 3) (.len (.var 0))) (.ob (.cmp .lt (.var 3) (.len (.var 0))) (.back 1 [(.int (.cell (.var 0) (.var 3) 0))])) (.back 1 [(.int (.lit 0))])) (.join [.int] (.split (.cmp .lt (.var 3) (.len (.var 1))) (.ob (.cmp .lt (.var 3) (.len (.var 1))) (.back 2 [(.int (.cell (.var 1) (.var 3) 0))])) (.back 2 [(.int (.lit 0))])) (.split (.cmp .ne (.var 4) (.var 5)) (.ret [(.bool (.cmp .lt (.var 5) (.var 4)))]) (.back 0 [(.bool (.of (.var 2))), (.int (.sub (.var 3) (.lit 1)))])))) (.ret [(.bool (.lit true))])))
end Go.Proofs.Ytbgofenplhdllaa
/- House: segments, holes, what numbers of a flow may be. -/
namespace Go.Proofs.Ytbgofenplhdllaa
open Go.RowKit
set_option linter.unusedSimpArgs false
set_option linter.unusedVariables false

theorem fwithin_ok : tab5.ok 66 := by
  refine Tab.of_inl rfl rfl ⟨_, Try.func66, by decide, rfl⟩ ?_
  refine Inl.of_ct (args := [.lf .int, .lf .int, .lf .int]) (r := .lf .bool) (pre := fun _ => True) (fn := fun cs => [.b (inV (n_ cs 0) (n_ cs 1) (n_ cs 2))]) (ct_ok (cx := cfwithin) (Tab.cx_ok all_nil) Try.func66 (bds := []) (T := tfwithin) (by kernel_rfl) ?_) ?_
  · unfold tfwithin
    simp only [VC, allC, List.map_cons, List.map_nil, List.length_cons, List.length_nil, List.getElem?_cons_zero, List.getElem?_cons_succ, List.cons.injEq, C.i.injEq, C.b.injEq, and_true, true_and, forall_const, kindsOf_nil, kindsOf_lf, kindsOf_agg, kindsOf_box, boxKinds_nil, boxKinds_lf, boxKinds_agg, boxKinds_box, List.append_nil, List.cons_append, List.nil_append, den_cmp_le, den_cmp_lt, den_cmp_eq, den_cmp_ne, den_cmp_le', den_cmp_lt', den_cmp_eq', den_cmp_ne', den_and, den_and', den_or, den_or', den_not, den_not', den_blit, den_of, ev_var, at_0, at_1, at_2, at_3, at_4, at_5, at_6, at_7, at_skip, c_int, c_bool, c_arr, c_cnt, c_vec, ev_nil, ev_join, ev_sub3, loc_s, int_i, bool_b, rows_s, cs_nil, cs_cons, E.den_lit, E.den_var, E.den_add, E.den_sub, E.den_mul, E.den_quo, E.den_rem, E.den_max, E.den_min, E.den_len, E.den_wr, E.den_cell, ctWithin, ctF, n_, inV]
    intro n _ _ a _ _ b _ _
    refine ⟨bds_nil _, ?_⟩
    simp only [B.den, Cmp.den, E.den_var, at_0, at_1, at_2, int_i]
    show (a ≤ n → decide (n ≤ b) = (decide (a ≤ n) && decide (n ≤ b))) ∧ (n < a → false = (decide (a ≤ n) && decide (n ≤ b)))
    exact ⟨fun h => by rw [decide_eq_true h, Bool.true_and], fun h => by rw [decide_eq_false (p := a ≤ n) (by omega), Bool.false_and]⟩
  · intro bd ρ l obs s hg hn ho
    unfold withinI at hg
    split at hg
    · rename_i n a b
      cases hg
      refine ⟨rfl, rfl, ho, trivial, rfl, rfl, ?_⟩
      simp [cs_, cellsOf, S0.cells, S0.cellsM, Lf.c, B.den, B.den_mkCmp hn, Cmp.den, inV, n_, at_0, at_1, at_2, int_i]
    · cases hg
theorem fairV_iff {s : Sg} : fairV s = true ↔ 1 ≤ s.l ∧ (0 ≤ s.r ∧ s.r ≤ s.l) ∧ (1 ≤ s.a ∧ s.a ≤ 5000) ∧ 1 ≤ s.g ∧ s.g ≤ 200 := by
  unfold fairV
  simp only [Bool.and_eq_true, inV_iff, decide_eq_true_eq, and_assoc]
theorem fair_no {s : Sg} (h : ¬ (1 ≤ s.l ∧ (0 ≤ s.r ∧ s.r ≤ s.l) ∧ (1 ≤ s.a ∧ s.a ≤ 5000) ∧ 1 ≤ s.g ∧ s.g ≤ 200)) : false = fairV s := by
  symm
  rw [Bool.eq_false_iff]
  exact fun hx => h (fairV_iff.1 hx)
theorem fair_ok : tab5.ok 58 := by
  refine Tab.of_ct rfl rfl ⟨_, Try.func58, by decide, rfl⟩ ?_ ctF_det
  refine ct_ok (cx := cfair) (Tab.cx_ok (all_cons fwithin_ok all_nil)) Try.func58 (bds := []) (T := tfair) (by kernel_rfl) ?_
  unfold tfair
  simp only [VC, allC, List.map_cons, List.map_nil, List.length_cons, List.length_nil, List.getElem?_cons_zero, List.getElem?_cons_succ, List.cons.injEq, C.i.injEq, C.b.injEq, and_true, true_and, forall_const, kindsOf_nil, kindsOf_lf, kindsOf_agg, kindsOf_box, boxKinds_nil, boxKinds_lf, boxKinds_agg, boxKinds_box, List.append_nil, List.cons_append, List.nil_append, den_cmp_le, den_cmp_lt, den_cmp_eq, den_cmp_ne, den_cmp_le', den_cmp_lt', den_cmp_eq', den_cmp_ne', den_and, den_and', den_or, den_or', den_not, den_not', den_blit, den_of, ev_var, at_0, at_1, at_2, at_3, at_4, at_5, at_6, at_7, at_skip, c_int, c_bool, c_arr, c_cnt, c_vec, ev_nil, ev_join, ev_sub3, loc_s, int_i, bool_b, rows_s, cs_nil, cs_cons, E.den_lit, E.den_var, E.den_add, E.den_sub, E.den_mul, E.den_quo, E.den_rem, E.den_max, E.den_min, E.den_len, E.den_wr, E.den_cell, Nat.reduceAdd, ctFair, ctF, segSh, sg_, n_]
  intro a _ _ b _ _ c _ _ d _ _
  refine ⟨bds_nil _, fun h1 => ⟨fun h2 => ⟨fun h3 => ?_, fun h3 => fair_no fun hx => ?_⟩, fun h2 => fair_no fun hx => ?_⟩, fun h1 => fair_no fun hx => ?_⟩
  · show (decide (1 ≤ d) && decide (d ≤ 200)) = fairV ⟨a, b, c, d⟩
    unfold fairV inV
    simp only [decide_eq_true h1, decide_eq_true h2.1, decide_eq_true h2.2, decide_eq_true h3.1, decide_eq_true h3.2, Bool.true_and]
  · have h4 : 1 ≤ c ∧ c ≤ 5000 := hx.2.2.1
    omega
  · have h4 : 0 ≤ b ∧ b ≤ a := hx.2.1
    omega
  · have h4 : 1 ≤ a := hx.1
    omega
theorem segs_len (rows : List (List C)) : (segsOf rows).length = rows.length := by simp [segsOf]
def sg0 : Sg := ⟨0, 0, 0, 0⟩
theorem sg_at (v : Value) (rows : List (List C)) (i : Nat) : (⟨((C.s v rows).at i 0).int, ((C.s v rows).at i 1).int, ((C.s v rows).at i 2).int, ((C.s v rows).at i 3).int⟩ : Sg) = (segsOf rows).getD i sg0 := by
  simp only [cell_at, segsOf, List.getD_eq_getElem?_getD, List.getElem?_map]
  cases rows[i]? <;> rfl
theorem sl_at (v : Value) (rows : List (List C)) (i : Nat) : ((C.s v rows).at i 0).int = ((segsOf rows).getD i sg0).l := by rw [← sg_at v rows i]
theorem sr_at (v : Value) (rows : List (List C)) (i : Nat) : ((C.s v rows).at i 1).int = ((segsOf rows).getD i sg0).r := by rw [← sg_at v rows i]
theorem sa_at (v : Value) (rows : List (List C)) (i : Nat) : ((C.s v rows).at i 2).int = ((segsOf rows).getD i sg0).a := by rw [← sg_at v rows i]
theorem sgg_at (v : Value) (rows : List (List C)) (i : Nat) : ((C.s v rows).at i 3).int = ((segsOf rows).getD i sg0).g := by rw [← sg_at v rows i]
theorem longV_app : ∀ (a b : List Sg), longV (a ++ b) = longV a + longV b
  | [], b => by simp [longV]
  | s :: a, b => by rw [List.cons_append, longV, longV, longV_app a b]; omega
theorem longV_take {l : List Sg} {i : Nat} (h : i < l.length) : longV (l.take (i + 1)) = longV (l.take i) + (l.getD i sg0).l := by
  rw [take_snoc h sg0, longV_app]; simp [longV]
theorem holeV_short {l : List Sg} (h : l.length = 0) : holeV l = 6 := by unfold holeV; rw [if_pos h]
theorem holeV_full {l : List Sg} (h : 16 < l.length) : holeV l = 8 := by unfold holeV; rw [if_neg (by omega), if_pos h]
theorem holeV_bad {l : List Sg} (h1 : l.length ≠ 0) (h2 : l.length ≤ 16) {s : Sg} (hs : s ∈ l) (h3 : fairV s = false) : holeV l = 2 := by
  unfold holeV
  rw [if_neg h1, if_neg (by omega), if_neg fun h => ?_]
  have := List.all_eq_true.1 h s hs
  rw [h3] at this; cases this
theorem holeV_good {l : List Sg} (h1 : l.length ≠ 0) (h2 : l.length ≤ 16) (hf : ∀ s ∈ l, fairV s = true) : holeV l = if 1048576 < longV l then 5 else 0 := by
  unfold holeV
  rw [if_neg h1, if_neg (by omega), if_pos (List.all_eq_true.2 hf)]
theorem all_take {l : List Sg} {i : Nat} (hi : i < l.length) (h : ∀ s ∈ l.take i, fairV s = true) (h2 : fairV (l.getD i sg0) = true) : ∀ s ∈ l.take (i + 1), fairV s = true := fun s hs => by
  rw [take_snoc hi sg0] at hs
  rcases List.mem_append.1 hs with hs | hs
  · exact h s hs
  · rw [List.mem_singleton] at hs; subst hs; exact h2
theorem hole_ok : tab5.ok 45 := by
  refine Tab.of_ct rfl rfl ⟨_, Try.func45, by decide, rfl⟩ ?_ ctF_det
  refine ct_ok (cx := chole) (Tab.cx_ok (all_cons fair_ok all_nil)) Try.func45 (bds := []) (T := thole) (by kernel_rfl) ?_
  have h1 : chole.ct 58 = some ctFair := rfl
  unfold thole
  simp only [VC, allC, List.map_cons, List.map_nil, List.length_cons, List.length_nil, List.getElem?_cons_zero, List.getElem?_cons_succ, List.cons.injEq, C.i.injEq, C.b.injEq, and_true, true_and, forall_const, kindsOf_nil, kindsOf_lf, kindsOf_agg, kindsOf_box, boxKinds_nil, boxKinds_lf, boxKinds_agg, boxKinds_box, List.append_nil, List.cons_append, List.nil_append, den_cmp_le, den_cmp_lt, den_cmp_eq, den_cmp_ne, den_cmp_le', den_cmp_lt', den_cmp_eq', den_cmp_ne', den_and, den_and', den_or, den_or', den_not, den_not', den_blit, den_of, ev_var, at_0, at_1, at_2, at_3, at_4, at_5, at_6, at_7, at_skip, c_int, c_bool, c_arr, c_cnt, c_vec, ev_nil, ev_join, ev_sub3, loc_s, int_i, bool_b, rows_s, cs_nil, cs_cons, E.den_lit, E.den_var, E.den_add, E.den_sub, E.den_mul, E.den_quo, E.den_rem, E.den_max, E.den_min, E.den_len, E.den_wr, E.den_cell, ev_cell, Nat.reduceAdd, h1, ctFair, ctHole, ctF, holeSh, segSh, sg_, s_, n_, sl_at, sr_at, sa_at, sgg_at]
  intro u r _ _ _
  rw [← segs_len r]
  generalize hL : segsOf r = l at *
  refine ⟨bds_nil _, fun h => (holeV_short (by omega)).symm, fun h0 => ⟨fun h => (holeV_full (by omega)).symm, fun h16 => ?_⟩⟩
  refine ⟨fun xs => match xs with | [_, .i room, .b lg, .i i] => 0 ≤ i ∧ i ≤ l.length ∧ (∀ s ∈ l.take i.toNat, fairV s = true) ∧ 0 ≤ room ∧ room ≤ 1048576 ∧ (lg = true → 1048576 < longV (l.take i.toNat)) ∧ (lg = false → room = 1048576 - longV (l.take i.toNat)) | _ => False, fun xs => match xs with | [_, _, _, .i i] => ((l.length : Int) - i).toNat | _ => 0, ⟨by omega, by omega, fun s hs => by simp at hs, by omega, by omega, fun h => (by cases h), fun _ => by simp [longV]⟩, ?_⟩
  rintro x _ _ room _ _ lg i _ _ ⟨i0, i1, hf, r0, r1, hg, hn⟩
  refine ⟨fun hlt => ⟨i0, hlt, ?_⟩, fun hge => ?_⟩
  · rintro t ht
    have ht : t = fairV (l.getD i.toNat sg0) := ht
    have hm := getD_mem (l := l) (i := i.toNat) (by omega) sg0
    have hlt2 := longV_take (l := l) (i := i.toNat) (by omega)
    have hmu : ((l.length : Int) - (i + 1)).toNat < ((l.length : Int) - i).toNat := by omega
    have e1 : (i + 1).toNat = i.toNat + 1 := by omega
    refine ⟨fun h => (holeV_bad (by omega) (by omega) hm (by rw [← ht, h])).symm, fun h => ?_⟩
    rw [h] at ht
    have hf' := all_take (by omega) hf ht.symm
    have hl1 := (fairV_iff.1 ht.symm).1
    refine ⟨fun hl => ⟨⟨by omega, by omega, by rw [e1]; exact hf', r0, r1, fun _ => by rw [e1, hlt2]; have := hg hl; omega, fun h => (by cases h)⟩, hmu⟩, fun hl => ⟨fun hle => ⟨⟨by omega, by omega⟩, ⟨by omega, by omega⟩, ⟨by omega, by omega, by rw [e1]; exact hf', by omega, by omega, ?_, ?_⟩, hmu⟩, fun hlt3 => ⟨⟨by omega, by omega, by rw [e1]; exact hf', r0, r1, ?_, ?_⟩, hmu⟩⟩⟩
    · intro hd
      have hd : decide (room < ((C.s u r).at i.toNat 0).int) = true := hd
      rw [sl_at, hL, decide_eq_true_eq] at hd
      omega
    · intro _
      have := hn hl
      rw [e1, hlt2]; omega
    · intro _
      have := hn hl
      rw [e1, hlt2]; omega
    · intro hd
      have hd : decide (room < ((C.s u r).at i.toNat 0).int) = false := hd
      rw [sl_at, hL, decide_eq_false_iff_not] at hd
      omega
  · rw [List.take_of_length_le (by omega)] at hf hg hn
    rw [holeV_good (by omega) (by omega) hf]
    exact ⟨fun hl => by rw [if_pos (hg hl)], fun hl => by rw [if_neg (by have := hn hl; omega)]⟩
theorem min_next {s L x : Int} (h0 : 0 ≤ s) (h1 : s ≤ L) (h2 : s = L ∨ 1048577 ≤ s) (hx : 1 ≤ x) : 0 ≤ s + min x 1048577 ∧ s + min x 1048577 ≤ L + x ∧ (s + min x 1048577 = L + x ∨ 1048577 ≤ s + min x 1048577) := by omega
theorem rhole_ok : tab5.ok 52 := by
  refine Tab.of_ct rfl rfl ⟨_, Try.func52, by decide, rfl⟩ ?_ ctF_det
  refine ct_ok (cx := crhole) (Tab.cx_ok all_nil) Try.func52 (bds := []) (T := trhole) (by kernel_rfl) ?_
  unfold trhole
  simp only [VC, allC, List.map_cons, List.map_nil, List.length_cons, List.length_nil, List.getElem?_cons_zero, List.getElem?_cons_succ, List.cons.injEq, C.i.injEq, C.b.injEq, and_true, true_and, forall_const, kindsOf_nil, kindsOf_lf, kindsOf_agg, kindsOf_box, boxKinds_nil, boxKinds_lf, boxKinds_agg, boxKinds_box, List.append_nil, List.cons_append, List.nil_append, den_cmp_le, den_cmp_lt, den_cmp_eq, den_cmp_ne, den_cmp_le', den_cmp_lt', den_cmp_eq', den_cmp_ne', den_and, den_and', den_or, den_or', den_not, den_not', den_blit, den_of, ev_var, at_0, at_1, at_2, at_3, at_4, at_5, at_6, at_7, at_skip, c_int, c_bool, c_arr, c_cnt, c_vec, ev_nil, ev_join, ev_sub3, loc_s, int_i, bool_b, rows_s, cs_nil, cs_cons, E.den_lit, E.den_var, E.den_add, E.den_sub, E.den_mul, E.den_quo, E.den_rem, E.den_max, E.den_min, E.den_len, E.den_wr, E.den_cell, ev_cell, Nat.reduceAdd, ctHole, ctF, holeSh, s_, n_, sl_at, sr_at, sa_at, sgg_at]
  intro u r _ _ _
  rw [← segs_len r]
  generalize hL : segsOf r = l at *
  refine ⟨bds_nil _, fun h => (holeV_short (by omega)).symm, fun h0 => ⟨fun h => (holeV_full (by omega)).symm, fun h16 => ?_⟩⟩
  refine ⟨fun xs => match xs with | [_, .i sum, .i i] => 0 ≤ i ∧ i ≤ l.length ∧ (∀ s ∈ l.take i.toNat, fairV s = true) ∧ (0 ≤ sum ∧ sum ≤ 1048577 * i) ∧ sum ≤ longV (l.take i.toNat) ∧ (sum = longV (l.take i.toNat) ∨ 1048577 ≤ sum) | _ => False, fun xs => match xs with | [_, _, .i i] => ((l.length : Int) - i).toNat | _ => 0, ⟨by omega, by omega, fun s hs => by simp at hs, by omega, by simp [longV], .inl (by simp [longV])⟩, ?_⟩
  rintro x _ _ sum _ _ i _ _ ⟨i0, i1, hf, ⟨s0, s1⟩, s2, s3⟩
  refine ⟨fun hlt => ?_, fun hge => ?_⟩
  · have hm := getD_mem (l := l) (i := i.toNat) (by omega) sg0
    have hlt2 := longV_take (l := l) (i := i.toNat) (by omega)
    have hmu : ((l.length : Int) - (i + 1)).toNat < ((l.length : Int) - i).toNat := by omega
    have e1 : (i + 1).toNat = i.toNat + 1 := by omega
    have bad : ¬ (1 ≤ (l.getD i.toNat sg0).l ∧ (0 ≤ (l.getD i.toNat sg0).r ∧ (l.getD i.toNat sg0).r ≤ (l.getD i.toNat sg0).l) ∧ (1 ≤ (l.getD i.toNat sg0).a ∧ (l.getD i.toNat sg0).a ≤ 5000) ∧ 1 ≤ (l.getD i.toNat sg0).g ∧ (l.getD i.toNat sg0).g ≤ 200) → 2 = holeV l := fun h => (holeV_bad (by omega) (by omega) hm (fair_no h).symm).symm
    have hall : (1 ≤ (l.getD i.toNat sg0).l ∧ (0 ≤ (l.getD i.toNat sg0).r ∧ (l.getD i.toNat sg0).r ≤ (l.getD i.toNat sg0).l) ∧ (1 ≤ (l.getD i.toNat sg0).a ∧ (l.getD i.toNat sg0).a ≤ 5000) ∧ 1 ≤ (l.getD i.toNat sg0).g ∧ (l.getD i.toNat sg0).g ≤ 200) → ∀ s ∈ l.take (i.toNat + 1), fairV s = true := fun h => all_take (by omega) hf (fairV_iff.2 h)
    generalize l.getD i.toNat sg0 = s at *
    refine ⟨i0, hlt, fun h => bad (by omega), fun g1 => ⟨fun h => bad (by omega), fun g2 => ⟨fun h => bad (by omega), fun g3 => ⟨fun h => bad (by omega), fun g4 => ⟨fun h => bad (by omega), fun g5 => ⟨fun h => bad (by omega), fun g6 => ⟨fun h => bad (by omega), fun g7 => ?_⟩⟩⟩⟩⟩⟩⟩
    obtain ⟨n0, n1, n2⟩ := min_next s0 s2 s3 g1
    exact ⟨⟨by omega, by omega⟩, ⟨by omega, by omega⟩, ⟨by omega, by omega, by rw [e1]; exact hall ⟨by omega, by omega, by omega, by omega⟩, ⟨by omega, by omega⟩, by rw [e1, hlt2]; exact n1, by rw [e1, hlt2]; exact n2⟩, hmu⟩
  · rw [List.take_of_length_le (by omega)] at hf s2 s3
    rw [holeV_good (by omega) (by omega) hf]
    exact ⟨fun hl => by rw [if_pos (by omega)], fun hl => by rw [if_neg (by omega)]⟩
end Go.Proofs.Ytbgofenplhdllaa
/- House: what numbers of a flow may be; gradients. -/
namespace Go.Proofs.Ytbgofenplhdllaa
open Go.RowKit
set_option linter.unusedSimpArgs false
set_option linter.unusedVariables false

def PossP (l r a g y v f : Int) : Prop := (1 ≤ l ∧ (0 ≤ r ∧ r ≤ l) ∧ (1 ≤ a ∧ a ≤ 5000) ∧ 1 ≤ g ∧ g ≤ 200) ∧ l ≤ 1048576 ∧ (0 ≤ y ∧ y ≤ 1000000) ∧ (1 ≤ v ∧ v ≤ 1000000) ∧ 0 ≤ f ∧ f ≤ 1000000
theorem poss_iff {l r a g y v f : Int} : possV ⟨l, r, a, g⟩ y v f = true ↔ PossP l r a g y v f := by
  unfold possV PossP
  simp only [Bool.and_eq_true, fairV_iff, inV_iff, decide_eq_true_eq, and_assoc]
theorem fair_iff {l r a g : Int} : fairV ⟨l, r, a, g⟩ = true ↔ 1 ≤ l ∧ (0 ≤ r ∧ r ≤ l) ∧ (1 ≤ a ∧ a ≤ 5000) ∧ 1 ≤ g ∧ g ≤ 200 := fairV_iff
theorem poss_no {l r a g y v f : Int} (h : ¬ PossP l r a g y v f) : false = possV ⟨l, r, a, g⟩ y v f := by
  symm
  rw [Bool.eq_false_iff]
  exact fun hx => h (poss_iff.1 hx)
theorem b_iff {b c : Bool} (h : b = true ↔ c = true) : b = c := by cases b <;> cases c <;> simp_all
theorem poss_last {l r a g y v f : Int} {t : Bool} (h : (1 ≤ l ∧ (0 ≤ r ∧ r ≤ l) ∧ (1 ≤ a ∧ a ≤ 5000) ∧ 1 ≤ g ∧ g ≤ 200) ∧ l ≤ 1048576 ∧ (0 ≤ y ∧ y ≤ 1000000) ∧ (1 ≤ v ∧ v ≤ 1000000)) (ht : t = true ↔ 0 ≤ f ∧ f ≤ 1000000) : t = possV ⟨l, r, a, g⟩ y v f :=
  b_iff (ht.trans (Iff.trans ⟨fun hf => ⟨h.1, h.2.1, h.2.2.1, h.2.2.2, hf⟩, fun hf => hf.2.2.2.2⟩ poss_iff.symm))
theorem poss_ok : tab5.ok 67 := by
  refine Tab.of_ct rfl rfl ⟨_, Try.func67, by decide, rfl⟩ ?_ ctF_det
  refine ct_ok (cx := cposs) (Tab.cx_ok (all_cons fair_ok (all_cons fwithin_ok all_nil)) fxposs) Try.func67 (bds := []) (T := tposs) (by kernel_rfl) ?_
  have h1 : cposs.ct 58 = some ctFair := rfl
  unfold tposs
  simp only [VC, allC, List.map_cons, List.map_nil, List.length_cons, List.length_nil, List.getElem?_cons_zero, List.getElem?_cons_succ, List.cons.injEq, C.i.injEq, C.b.injEq, and_true, true_and, forall_const, kindsOf_nil, kindsOf_lf, kindsOf_agg, kindsOf_box, boxKinds_nil, boxKinds_lf, boxKinds_agg, boxKinds_box, List.append_nil, List.cons_append, List.nil_append, den_cmp_le, den_cmp_lt, den_cmp_eq, den_cmp_ne, den_cmp_le', den_cmp_lt', den_cmp_eq', den_cmp_ne', den_and, den_and', den_or, den_or', den_not, den_not', den_blit, den_of, ev_var, at_0, at_1, at_2, at_3, at_4, at_5, at_6, at_7, at_skip, c_int, c_bool, c_arr, c_cnt, c_vec, ev_nil, ev_join, ev_sub3, loc_s, int_i, bool_b, rows_s, cs_nil, cs_cons, E.den_lit, E.den_var, E.den_add, E.den_sub, E.den_mul, E.den_quo, E.den_rem, E.den_max, E.den_min, E.den_len, E.den_wr, E.den_cell, Nat.reduceAdd, h1, ctFair, ctPoss, ctF, segSh, mudSh, sg_, n_]
  intro l _ _ r _ _ a _ _ g _ _ y _ _ v _ _ f _ _
  refine ⟨bds_nil _, ?_⟩
  rintro t rfl
  refine ⟨fun h => ?_, fun h => poss_no fun hx => ?_⟩
  · have hf := fair_iff.1 h
    refine ⟨fun h2 => ⟨fun h3 => ⟨fun h4 => ?_, fun h4 => poss_no fun hx => ?_⟩, fun h3 => poss_no fun hx => ?_⟩, fun h2 => poss_no fun hx => ?_⟩
    · exact poss_last ⟨hf, h2, h3, h4⟩ (by show (decide (0 ≤ f) && decide (f ≤ 1000000)) = true ↔ _; simp)
    · have := hx.2.2.2.1; omega
    · have := hx.2.2.1; omega
    · have := hx.2.1; omega
  · rw [fair_iff.2 hx.1] at h; cases h
theorem rposs_ok : tab5.ok 64 := by
  refine Tab.of_ct rfl rfl ⟨_, Try.func64, by decide, rfl⟩ ?_ ctF_det
  refine ct_ok (cx := crposs) (Tab.cx_ok all_nil fxrposs) Try.func64 (bds := []) (T := trposs) (by kernel_rfl) ?_
  unfold trposs
  simp only [VC, allC, List.map_cons, List.map_nil, List.length_cons, List.length_nil, List.getElem?_cons_zero, List.getElem?_cons_succ, List.cons.injEq, C.i.injEq, C.b.injEq, and_true, true_and, forall_const, kindsOf_nil, kindsOf_lf, kindsOf_agg, kindsOf_box, boxKinds_nil, boxKinds_lf, boxKinds_agg, boxKinds_box, List.append_nil, List.cons_append, List.nil_append, den_cmp_le, den_cmp_lt, den_cmp_eq, den_cmp_ne, den_cmp_le', den_cmp_lt', den_cmp_eq', den_cmp_ne', den_and, den_and', den_or, den_or', den_not, den_not', den_blit, den_of, ev_var, at_0, at_1, at_2, at_3, at_4, at_5, at_6, at_7, at_skip, c_int, c_bool, c_arr, c_cnt, c_vec, ev_nil, ev_join, ev_sub3, loc_s, int_i, bool_b, rows_s, cs_nil, cs_cons, E.den_lit, E.den_var, E.den_add, E.den_sub, E.den_mul, E.den_quo, E.den_rem, E.den_max, E.den_min, E.den_len, E.den_wr, E.den_cell, Nat.reduceAdd, ctPoss, ctF, segSh, mudSh, sg_, n_]
  intro l _ _ r _ _ a _ _ g _ _ y _ _ v _ _ f _ _
  refine ⟨bds_nil _, ?_⟩
  have no : ¬ ((1 ≤ l ∧ (0 ≤ r ∧ r ≤ l) ∧ (1 ≤ a ∧ a ≤ 5000) ∧ 1 ≤ g ∧ g ≤ 200) ∧ l ≤ 1048576 ∧ (0 ≤ y ∧ y ≤ 1000000) ∧ (1 ≤ v ∧ v ≤ 1000000) ∧ 0 ≤ f ∧ f ≤ 1000000) → false = possV ⟨l, r, a, g⟩ y v f := fun h => poss_no h
  refine ⟨fun g1 => ⟨fun g2 => ⟨fun g3 => ⟨fun g4 => ⟨fun g5 => ⟨fun g6 => ⟨fun g7 => ⟨fun g8 => ⟨fun g9 => ⟨fun g10 => ⟨fun g11 => ⟨fun g12 => ⟨fun g13 => ?_, fun h => no (by omega)⟩, fun h => no (by omega)⟩, fun h => no (by omega)⟩, fun h => no (by omega)⟩, fun h => no (by omega)⟩, fun h => no (by omega)⟩, fun h => no (by omega)⟩, fun h => no (by omega)⟩, fun h => no (by omega)⟩, fun h => no (by omega)⟩, fun h => no (by omega)⟩, fun h => no (by omega)⟩, fun h => no (by omega)⟩
  exact poss_last ⟨⟨by omega, by omega, by omega, by omega⟩, by omega, by omega, by omega⟩ (by show decide (f ≤ 1000000) = true ↔ _; simp; omega)
/-! A search -/
def bsI (p : Int → Bool) (lo hi : Int) : Prop := 0 ≤ lo ∧ lo ≤ hi ∧ hi ≤ 20000 ∧ ∃ n : Nat, hi - lo < 2 ^ n ∧ bsV p n lo hi = bsV p 15 0 20000
theorem bsI_start (p : Int → Bool) : bsI p 0 20000 := ⟨by omega, by omega, by omega, 15, by decide, rfl⟩
theorem bsI_end {p : Int → Bool} {lo hi : Int} (h : bsI p lo hi) (hge : hi ≤ lo) : lo = bsV p 15 0 20000 := by
  obtain ⟨-, -, -, n, -, h⟩ := h
  rw [← h]
  cases n with
  | zero => rfl
  | succ n => unfold bsV; rw [if_neg (by omega)]
theorem bsI_step {p : Int → Bool} {lo hi : Int} (h : bsI p lo hi) (hlt : lo < hi) : ∃ m, (lo + hi).tdiv 2 = m ∧ lo ≤ m ∧ m < hi ∧ 0 ≤ lo ∧ hi ≤ 20000 ∧ (p m = true → bsI p lo m) ∧ (p m = false → bsI p (m + 1) hi) := by
  obtain ⟨h1, h2, h3, n, h4, h5⟩ := h
  have e : (lo + hi).tdiv 2 = (lo + hi) / 2 := Int.tdiv_eq_ediv_of_nonneg (by omega)
  refine ⟨(lo + hi) / 2, e, by omega, by omega, h1, h3, fun hp => ?_, fun hp => ?_⟩
  · cases n with
    | zero => simp at h4; omega
    | succ n =>
      rw [Int.pow_succ] at h4
      unfold bsV at h5
      rw [if_pos hlt, if_pos hp] at h5
      refine ⟨h1, by omega, by omega, n, ?_, h5⟩
      generalize (2 : Int) ^ n = P at *
      omega
  · cases n with
    | zero => simp at h4; omega
    | succ n =>
      rw [Int.pow_succ] at h4
      unfold bsV at h5
      rw [if_pos hlt, if_neg (by rw [hp]; simp)] at h5
      refine ⟨by omega, by omega, by omega, n, ?_, h5⟩
      generalize (2 : Int) ^ n = P at *
      omega
theorem grad_yes {s : Sg} {y v f : Int} (h : possV s y v f = true) (h2 : flowsV s.a s.g y v 20000 f = true) : gradV s y v f = (bsV (fun g => flowsV s.a s.g y v g f) 15 0 20000, true) := by unfold gradV; rw [if_pos ⟨h, h2⟩]
theorem grad_not {s : Sg} {y v f : Int} (h : ¬ (possV s y v f = true ∧ flowsV s.a s.g y v 20000 f = true)) : gradV s y v f = (0, false) := by unfold gradV; rw [if_neg h]
theorem flowsP_of {l r a g y v f t : Int} (h : PossP l r a g y v f) (ht : 0 ≤ t ∧ t ≤ 20000) : flowsP a g y v t f := ⟨h.1.2.2.1, h.1.2.2.2, h.2.2.1, h.2.2.2.1, ht, h.2.2.2.2⟩
theorem flowsx_ok (flows_ok : tab5.ok 62) : tab5.ok 59 := by
  refine Tab.of_ct rfl rfl ⟨_, Try.func59, by decide, rfl⟩ ?_ ctF_det
  refine ct_ok (cx := cflowsx) (Tab.cx_ok (all_cons poss_ok (all_cons fwithin_ok (all_cons flows_ok all_nil)))) Try.func59 (bds := []) (T := tflowsx) (by kernel_rfl) ?_
  have h1 : cflowsx.ct 67 = some ctPoss := rfl
  have h2 : cflowsx.ct 62 = some ctFlows := rfl
  unfold tflowsx
  simp only [VC, allC, List.map_cons, List.map_nil, List.length_cons, List.length_nil, List.getElem?_cons_zero, List.getElem?_cons_succ, List.cons.injEq, C.i.injEq, C.b.injEq, and_true, true_and, forall_const, kindsOf_nil, kindsOf_lf, kindsOf_agg, kindsOf_box, boxKinds_nil, boxKinds_lf, boxKinds_agg, boxKinds_box, List.append_nil, List.cons_append, List.nil_append, den_cmp_le, den_cmp_lt, den_cmp_eq, den_cmp_ne, den_cmp_le', den_cmp_lt', den_cmp_eq', den_cmp_ne', den_and, den_and', den_or, den_or', den_not, den_not', den_blit, den_of, ev_var, at_0, at_1, at_2, at_3, at_4, at_5, at_6, at_7, at_skip, c_int, c_bool, c_arr, c_cnt, c_vec, ev_nil, ev_join, ev_sub3, loc_s, int_i, bool_b, rows_s, cs_nil, cs_cons, E.den_lit, E.den_var, E.den_add, E.den_sub, E.den_mul, E.den_quo, E.den_rem, E.den_max, E.den_min, E.den_len, E.den_wr, E.den_cell, Nat.reduceAdd, h1, h2, ctPoss, ctFlows, ctFlowsX, ctF, segSh, mudSh, sg_, n_, flowsC]
  intro l _ _ r _ _ a _ _ g _ _ y _ _ v _ _ t _ _ f _ _
  refine ⟨bds_nil _, ?_⟩
  rintro b rfl
  refine ⟨fun hp => ⟨fun ht => ⟨flowsP_of (poss_iff.1 hp) ht, ?_⟩, fun ht => ?_⟩, fun hp => by rw [hp]; rfl⟩
  · rintro b rfl
    rw [hp, inV_iff.2 ht]; rfl
  · rw [show inV t 0 20000 = false by rw [Bool.eq_false_iff]; intro h; have := inV_iff.1 h; omega, hp]; rfl
theorem grad_ok (flows_ok : tab5.ok 62) : tab5.ok 48 := by
  refine Tab.of_ct rfl rfl ⟨_, Try.func48, by decide, rfl⟩ ?_ ctF_det
  refine ct_ok (cx := cgrad) (Tab.cx_ok (all_cons (flowsx_ok flows_ok) (all_cons flows_ok all_nil)) fxgrad) Try.func48 (bds := []) (T := tgrad) (by kernel_rfl) ?_
  have h1 : cgrad.ct 59 = some ctFlowsX := rfl
  have h2 : cgrad.ct 62 = some ctFlows := rfl
  unfold tgrad
  simp only [VC, allC, List.map_cons, List.map_nil, List.length_cons, List.length_nil, List.getElem?_cons_zero, List.getElem?_cons_succ, List.cons.injEq, C.i.injEq, C.b.injEq, and_true, true_and, forall_const, kindsOf_nil, kindsOf_lf, kindsOf_agg, kindsOf_box, boxKinds_nil, boxKinds_lf, boxKinds_agg, boxKinds_box, List.append_nil, List.cons_append, List.nil_append, den_cmp_le, den_cmp_lt, den_cmp_eq, den_cmp_ne, den_cmp_le', den_cmp_lt', den_cmp_eq', den_cmp_ne', den_and, den_and', den_or, den_or', den_not, den_not', den_blit, den_of, ev_var, at_0, at_1, at_2, at_3, at_4, at_5, at_6, at_7, at_skip, c_int, c_bool, c_arr, c_cnt, c_vec, ev_nil, ev_join, ev_sub3, loc_s, int_i, bool_b, rows_s, cs_nil, cs_cons, E.den_lit, E.den_var, E.den_add, E.den_sub, E.den_mul, E.den_quo, E.den_rem, E.den_max, E.den_min, E.den_len, E.den_wr, E.den_cell, Nat.reduceAdd, h1, h2, ctFlows, ctFlowsX, ctGrad, ctF, segSh, mudSh, sg_, n_, flowsC]
  intro l _ _ r _ _ a _ _ g _ _ y _ _ v _ _ f _ _
  refine ⟨bds_nil _, ?_⟩
  rintro b hb
  rw [show inV 20000 0 20000 = true from rfl, Bool.and_true] at hb
  refine ⟨fun h => ?_, fun h => ?_⟩
  · rw [grad_not (by rw [← Bool.and_eq_true, ← hb, h]; simp)]; exact ⟨rfl, rfl⟩
  · rw [h] at hb
    obtain ⟨hp, hf⟩ := Bool.and_eq_true_iff.1 hb.symm
    rw [grad_yes hp hf]
    refine ⟨fun xs => match xs with | [.i lo, .i hi] => bsI (fun t => flowsV a g y v t f) lo hi | _ => False, fun xs => match xs with | [.i lo, .i hi] => (hi - lo).toNat | _ => 0, bsI_start _, ?_⟩
    intro lo _ _ hi _ _ hI
    have hI : bsI (fun t => flowsV a g y v t f) lo hi := hI
    refine ⟨fun hlt => ?_, fun hge => ⟨bsI_end hI hge, rfl⟩⟩
    obtain ⟨m, e, m1, m2, m3, m4, k1, k2⟩ := bsI_step hI hlt
    rw [e]
    refine ⟨⟨by omega, by omega⟩, ⟨by omega, by omega⟩, ⟨by omega, by omega⟩, flowsP_of (poss_iff.1 hp) ⟨by omega, by omega⟩, ?_⟩
    rintro t rfl
    exact ⟨fun h => ⟨⟨by omega, by omega⟩, k1 h, (show (m - lo).toNat < (hi - lo).toNat by omega)⟩, fun h => ⟨⟨by omega, by omega⟩, ⟨by omega, by omega⟩, k2 h, (show (hi - (m + 1)).toNat < (hi - lo).toNat by omega)⟩⟩
theorem rgrad_ok (rflows_ok : tab5.ok 65) : tab5.ok 53 := by
  refine Tab.of_ct rfl rfl ⟨_, Try.func53, by decide, rfl⟩ ?_ ctF_det
  refine ct_ok (cx := crgrad) (Tab.cx_ok (all_cons rposs_ok (all_cons rflows_ok all_nil))) Try.func53 (bds := []) (T := trgrad) (by kernel_rfl) ?_
  have h1 : crgrad.ct 64 = some ctPoss := rfl
  have h2 : crgrad.ct 65 = some ctFlows := rfl
  unfold trgrad
  simp only [VC, allC, List.map_cons, List.map_nil, List.length_cons, List.length_nil, List.getElem?_cons_zero, List.getElem?_cons_succ, List.cons.injEq, C.i.injEq, C.b.injEq, and_true, true_and, forall_const, kindsOf_nil, kindsOf_lf, kindsOf_agg, kindsOf_box, boxKinds_nil, boxKinds_lf, boxKinds_agg, boxKinds_box, List.append_nil, List.cons_append, List.nil_append, den_cmp_le, den_cmp_lt, den_cmp_eq, den_cmp_ne, den_cmp_le', den_cmp_lt', den_cmp_eq', den_cmp_ne', den_and, den_and', den_or, den_or', den_not, den_not', den_blit, den_of, ev_var, at_0, at_1, at_2, at_3, at_4, at_5, at_6, at_7, at_skip, c_int, c_bool, c_arr, c_cnt, c_vec, ev_nil, ev_join, ev_sub3, loc_s, int_i, bool_b, rows_s, cs_nil, cs_cons, E.den_lit, E.den_var, E.den_add, E.den_sub, E.den_mul, E.den_quo, E.den_rem, E.den_max, E.den_min, E.den_len, E.den_wr, E.den_cell, Nat.reduceAdd, h1, h2, ctFlows, ctPoss, ctGrad, ctF, segSh, mudSh, sg_, n_, flowsC]
  intro l _ _ r _ _ a _ _ g _ _ y _ _ v _ _ f _ _
  refine ⟨bds_nil _, ?_⟩
  rintro b rfl
  refine ⟨fun h => ?_, fun hp => ⟨flowsP_of (poss_iff.1 hp) ⟨by omega, by omega⟩, ?_⟩⟩
  · rw [grad_not (by rw [h]; simp)]; exact ⟨rfl, rfl⟩
  · rintro b rfl
    refine ⟨fun h => ?_, fun hf => ?_⟩
    · rw [grad_not fun hx => by rw [hx.2] at h; cases h]; exact ⟨rfl, rfl⟩
    rw [grad_yes hp hf]
    refine ⟨fun xs => match xs with | [.i lo, .i hi] => bsI (fun t => flowsV a g y v t f) lo hi | _ => False, fun xs => match xs with | [.i lo, .i hi] => (hi - lo).toNat | _ => 0, bsI_start _, ?_⟩
    intro lo _ _ hi _ _ hI
    have hI : bsI (fun t => flowsV a g y v t f) lo hi := hI
    refine ⟨fun hlt => ?_, fun hge => ⟨bsI_end hI hge, rfl⟩⟩
    obtain ⟨m, e, m1, m2, m3, m4, k1, k2⟩ := bsI_step hI hlt
    rw [e]
    refine ⟨⟨by omega, by omega⟩, ⟨by omega, by omega⟩, ⟨by omega, by omega⟩, flowsP_of (poss_iff.1 hp) ⟨by omega, by omega⟩, ?_⟩
    rintro t rfl
    exact ⟨fun h => ⟨⟨by omega, by omega⟩, k1 h, (show (m - lo).toNat < (hi - lo).toNat by omega)⟩, fun h => ⟨⟨by omega, by omega⟩, ⟨by omega, by omega⟩, k2 h, (show (hi - (m + 1)).toNat < (hi - lo).toNat by omega)⟩⟩
end Go.Proofs.Ytbgofenplhdllaa
/- House: numbers of two words: products, sums, comparisons, walked. -/
namespace Go.Proofs.Ytbgofenplhdllaa
open Go.RowKit Go.Shelf
set_option linter.unusedSimpArgs false
set_option linter.unusedVariables false

def mul64_ren : Go.Shelf.Ren := ⟨fun | 264 => 76 | n => n, fun | 53 => 100 | 46 => 113 | n => n, fun | n => n⟩
theorem mul64_lay : Go.Proofs.Lays.n264 Try.prog mul64_ren := {
  mixed := by kernel_rfl
  f264 := Try.func76.trans (congrArg some (by kernel_rfl))
  t46 := Try.underlying113
  a46 := Try.isAgg113
  z46 := Try.sizeOf113
  v46 := Try.zeroValue113
  t53 := Try.underlying100
  a53 := Try.isAgg100
  z53 := Try.sizeOf100
  v53 := Try.zeroValue100 }
theorem mul64_calls (x y : Nat) (hx : x < 18446744073709551616) (hy : y < 18446744073709551616) (w : World) :
    Calls Try.prog 76 #[.int .u64 x, .int .u64 y] w fun e w' => e = .returned (.tuple #[.int .u64 ((x * y / 18446744073709551616 : Nat) : Int), .int .u64 ((x * y % 18446744073709551616 : Nat) : Int)]) ∧ w' = w :=
  Go.Proofs.Any.bits_Mul64 mul64_lay x y hx hy w
def add64_ren : Go.Shelf.Ren := ⟨fun | 25 => 77 | n => n, fun | 22 => 100 | n => n, fun | n => n⟩
theorem add64_lay : Go.Proofs.Lays7.n25 Try.prog add64_ren := {
  mixed := by kernel_rfl
  f25 := Try.func77.trans (congrArg some (by kernel_rfl))
  t22 := Try.underlying100
  a22 := Try.isAgg100
  z22 := Try.sizeOf100
  v22 := Try.zeroValue100
  i22 := by kernel_rfl }
theorem add64_run (x y : Nat) (w : World) :
    (callFunc 77 #[.int .u64 x, .int .u64 y, .int .u64 0]).run Try.prog w =
      .ok (.value (.tuple #[.int .u64 (((x + y) % 18446744073709551616 : Nat) : Int), .int .u64 (((x + y) / 18446744073709551616 : Nat) : Int)])) w :=
  Go.Proofs.Any7.bits_Add64 add64_lay x y 0 (by omega) w

theorem wide_step (h l x : Nat) : ((h * x % 18446744073709551616 + l * x / 18446744073709551616) % 18446744073709551616) * 18446744073709551616 + l * x % 18446744073709551616 = (h * 18446744073709551616 + l) * x % 340282366920938463463374607431768211456 := by
  rw [Nat.add_mul, Nat.mul_right_comm]
  generalize h * x = a
  generalize l * x = b
  omega
theorem plus_calls (a b c d : Nat) (w : World) :
    Calls Try.prog 69 #[.agg #[.int .u64 a, .int .u64 b], .agg #[.int .u64 c, .int .u64 d]] w fun e w' =>
      e = .returned (.agg #[.int .u64 (((a + c + (b + d) / 18446744073709551616) % 18446744073709551616 : Nat) : Int), .int .u64 (((b + d) % 18446744073709551616 : Nat) : Int)]) ∧ Below w.heap.size w w' := by
  go_enter Try.func69, Try.ntmps69
  go_wp2_with (simp only [add64_run])
  refine bodyPost_ret (v := .agg #[.int .u64 (((a + c + (b + d) / 18446744073709551616) % 18446744073709551616 : Nat) : Int), .int .u64 (((b + d) % 18446744073709551616 : Nat) : Int)]) ?_ rfl ?_
  · simp [results, Try.results69, go_sem, cell_put_same, IntKind.wrap_u64]
  · refine ⟨rfl, ?_⟩
    repeat' (first | with_reducible exact Below.refl _ _ | with_reducible refine bstep ?_ (by with_reducible assumption) | with_reducible refine balloc ?_ | with_reducible refine bdrew ?_ | with_reducible refine bdrewN ?_ _ | with_reducible refine bset ?_ (by go_size))
theorem least_calls (a b c d : Nat) (w : World) :
    Calls Try.prog 70 #[.agg #[.int .u64 a, .int .u64 b], .agg #[.int .u64 c, .int .u64 d]] w fun e w' =>
      e = .returned (.bool (decide (a = c ∧ b = d ∨ c < a ∨ a = c ∧ d < b))) ∧ Below w.heap.size w w' := by
  go_enter Try.func70, Try.ntmps70
  go_wp2
  · rename_i h1 h2
    refine bodyPost_ret (v := .bool true) (by simp [results, Try.results70, go_sem]) rfl ⟨?_, ?_⟩
    · rw [decide_eq_true]; omega
    · repeat' (first | with_reducible exact Below.refl _ _ | with_reducible refine bstep ?_ (by with_reducible assumption) | with_reducible refine balloc ?_ | with_reducible refine bdrew ?_ | with_reducible refine bdrewN ?_ _ | with_reducible refine bset ?_ (by go_size))
  · rename_i h1 h2
    refine bodyPost_ret (v := .bool (decide (d < b))) (by simp [results, Try.results70, go_sem]) rfl ⟨?_, ?_⟩
    · congr 2; rw [decide_eq_decide]; omega
    · repeat' (first | with_reducible exact Below.refl _ _ | with_reducible refine bstep ?_ (by with_reducible assumption) | with_reducible refine balloc ?_ | with_reducible refine bdrew ?_ | with_reducible refine bdrewN ?_ _ | with_reducible refine bset ?_ (by go_size))
  · rename_i h1 h2
    refine bodyPost_ret (v := .bool (decide (c < a))) (by simp [results, Try.results70, go_sem]) rfl ⟨?_, ?_⟩
    · congr 2; rw [decide_eq_decide]; omega
    · repeat' (first | with_reducible exact Below.refl _ _ | with_reducible refine bstep ?_ (by with_reducible assumption) | with_reducible refine balloc ?_ | with_reducible refine bdrew ?_ | with_reducible refine bdrewN ?_ _ | with_reducible refine bset ?_ (by go_size))
  · rename_i h1 h2
    refine bodyPost_ret (v := .bool true) (by simp [results, Try.results70, go_sem]) rfl ⟨?_, ?_⟩
    · rw [decide_eq_true]; omega
    · repeat' (first | with_reducible exact Below.refl _ _ | with_reducible refine bstep ?_ (by with_reducible assumption) | with_reducible refine balloc ?_ | with_reducible refine bdrew ?_ | with_reducible refine bdrewN ?_ _ | with_reducible refine bset ?_ (by go_size))
set_option maxHeartbeats 1000000 in
theorem product_calls (bs o cap : Nat) (l : List Nat) (hl : ∀ k ∈ l, k < 9223372036854775808) (w : World) (hn : (l.length : Int) ≤ 9223372036854775807)
    (hc : ∀ i, i < l.length → bs < w.heap.size ∧ w.cell? ⟨bs, o + i, none⟩ = some (.int .i64 ((l.getD i 0 : Nat) : Int))) (a : Option Addr) (ha : l ≠ [] → a = some ⟨bs, o, none⟩) :
    Calls Try.prog 68 #[.slice a l.length cap] w fun e w' =>
      ∃ h lo : Nat, h < 18446744073709551616 ∧ lo < 18446744073709551616 ∧ h * 18446744073709551616 + lo = l.foldl (· * ·) 1 % 340282366920938463463374607431768211456 ∧
        e = .returned (.agg #[.int .u64 h, .int .u64 lo]) ∧ Below w.heap.size w w' := by
  generalize hlen : l.length = n at *
  go_enter Try.func68, Try.ntmps68
  go_wp2
  go_loopw [11] (fun i wr => ∃ k h lo : Nat, k ≤ n ∧ i = .int .i64 k ∧ h < 18446744073709551616 ∧ lo < 18446744073709551616 ∧ h * 18446744073709551616 + lo = (l.take k).foldl (· * ·) 1 % 340282366920938463463374607431768211456 ∧
    Blk wr w.heap.size 102 #[.int .u64 0, .int .u64 0] ∧ Blk wr (w.heap.size + 1) 102 #[.int .u64 h, .int .u64 lo] ∧ Below w.heap.size w wr) (fun i _ => n - (intOf i).toNat)
  case atStart =>
    refine ⟨0, 0, 1, Nat.zero_le _, rfl, by omega, by omega, rfl, ?_, ?_, ?_⟩
    · exact (Blk.new w _ _).alloc _
    · exact Blk.new' (by simp)
    · repeat' (first | with_reducible exact Below.refl _ _ | with_reducible refine bstep ?_ (by with_reducible assumption) | with_reducible refine balloc ?_ | with_reducible refine bdrew ?_ | with_reducible refine bdrewN ?_ _ | with_reducible refine bset ?_ (by go_size))
  case round =>
    obtain ⟨k, h, lo, hk, rfl, hh, hlo, hp, B0, B1, hbw⟩ := hrel
    have d0 := B1.cell 0 (v := .int .u64 h) rfl
    have d1 := B1.cell 1 (v := .int .u64 lo) rfl
    have f0 := B1.froz 0
    have f1 := B1.froz 1
    have e0 := B0.cell 0 (v := .int .u64 0) rfl
    have e1 := B0.cell 1 (v := .int .u64 0) rfl
    have g0 := B0.froz 0
    have g1 := B0.froz 1
    have hz := B1.lt
    by_cases hlt : k < n
    · obtain rfl := ha (by intro e; subst e; simp at hlen; omega)
      obtain ⟨hbs, hcell⟩ := hc k hlt
      have hcell := (hbw.cell (p := ⟨bs, o + k, none⟩) hbs).trans hcell
      have hx := hl _ (getD_mem (l := l) (i := k) (by omega) 0)
      generalize hxx : l.getD k 0 = x at *
      have hb0 : (k : Int) < n := by omega
      have hm := mul64_calls lo x hlo (by omega)
      go_wp2_with (go_at_call 76; refine (hm _).mono ?_; rintro e w' ⟨rfl, rfl⟩)
      have q1 : IntKind.u64.wrap (IntKind.u64.wrap ((h : Int) * x) + (lo : Int) * x / 18446744073709551616) = (((h * x % 18446744073709551616 + lo * x / 18446744073709551616) % 18446744073709551616 : Nat) : Int) := by
        rw [← Int.natCast_mul, ← Int.natCast_mul, IntKind.wrap_u64, IntKind.wrap_u64]
        generalize h * x = p
        generalize lo * x = q
        omega
      have q2 : (lo : Int) * x % 18446744073709551616 = ((lo * x % 18446744073709551616 : Nat) : Int) := by rw [← Int.natCast_mul]; omega
      rw [q1, q2]
      refine ⟨⟨k + 1, (h * x % 18446744073709551616 + lo * x / 18446744073709551616) % 18446744073709551616, lo * x % 18446744073709551616, by omega, by congr 1, Nat.mod_lt _ (by omega), Nat.mod_lt _ (by omega), ?_, (B0.far (by simp) _).far (by simp) _, ?_, ?_⟩, ?_⟩
      · rw [wide_step, hp, take_snoc (by omega) 0, hxx, List.foldl_append, List.foldl_cons, List.foldl_nil, Nat.mod_mul_mod]
      · have := (B1.put 0 (.int .u64 (((h * x % 18446744073709551616 + lo * x / 18446744073709551616) % 18446744073709551616 : Nat) : Int))).put 1 (.int .u64 ((lo * x % 18446744073709551616 : Nat) : Int))
        simpa using this
      · repeat' (first | with_reducible exact Below.refl _ _ | with_reducible refine bstep ?_ (by with_reducible assumption) | with_reducible refine balloc ?_ | with_reducible refine bdrew ?_ | with_reducible refine bdrewN ?_ _ | with_reducible refine bset ?_ (by go_size))
      · simp [intOf]; omega
    · obtain rfl : k = n := by omega
      go_wp2
      refine bodyPost_ret (v := .agg #[.int .u64 h, .int .u64 lo]) (by simp [results, Try.results68, go_sem, cell_put_same, e0, e1]) rfl ?_
      refine ⟨h, lo, hh, hlo, ?_, rfl, ?_⟩
      · rw [hp, List.take_of_length_le (by omega)]
      · repeat' (first | with_reducible exact Below.refl _ _ | with_reducible refine bstep ?_ (by with_reducible assumption) | with_reducible refine balloc ?_ | with_reducible refine bdrew ?_ | with_reducible refine bdrewN ?_ _ | with_reducible refine bset ?_ (by go_size))

/-! As contracts -/
theorem small_s (v : Value) : ∀ n, (C.s v []).small n := fun n => by cases n <;> simp [C.small]
/-- What a []int64 holds. -/
theorem longs_rep {w : World} {Base : Nat → Nat → Prop} {u : Value} {c : C} (h : LRep Try.prog w Base (.arr 2) u c) :
    ∃ a cap b o, u = .slice a (ints c.rows).length cap ∧ ((ints c.rows).length : Int) ≤ 9223372036854775807 ∧ (ints c.rows ≠ [] → a = some ⟨b, o, none⟩) ∧ (∀ k ∈ ints c.rows, -9223372036854775808 ≤ k ∧ k ≤ 9223372036854775807) ∧
      ∀ i, i < (ints c.rows).length → b < w.heap.size ∧ w.cell? ⟨b, o + i, none⟩ = some (.int .i64 ((ints c.rows).getD i 0)) := by
  obtain ⟨hsm, hu, v, rows, rfl, d, S, hS, hA⟩ := h
  have hu : u = v := hu
  subst hu
  simp only [rows_s]
  have hi : ∀ k ∈ ints rows, -9223372036854775808 ≤ k ∧ k ≤ 9223372036854775807 := fun k hk => by
    obtain ⟨r, hr, rfl⟩ := List.mem_map.1 hk
    cases r with
    | nil => simp [C.int]
    | cons x r =>
      have := (hsm 2).2 _ hr x (by simp)
      cases x with
      | i n => exact this
      | b t => simp [C.int]
      | s v rows => simp [C.int]
  cases d with
  | zero => exact hA.elim
  | succ d =>
    obtain ⟨ks, hk, a, cap, rfl, hA⟩ := hA
    rw [show kinds Try.prog 2 = some [.int] by kernel_rfl] at hk
    cases hk
    rw [ints_len]
    by_cases hne : rows = []
    · subst hne
      exact ⟨a, cap, 0, 0, rfl, by simp, fun h => absurd rfl h, hi, fun i h => by simp at h⟩
    · obtain ⟨b', o, rfl, -, hr⟩ := hA hne
      refine ⟨_, cap, b', o, rfl, (hsm 1).1, fun _ => rfl, hi, fun i hi => ?_⟩
      obtain ⟨-, hc⟩ := hr i rows[i] (List.getElem?_eq_getElem hi)
      obtain ⟨hs, x, c, hx, hc1, n, rfl, rfl⟩ := hc 0 .int rfl
      have e : o + (i * [Lk.int].length + 0) = o + i := by simp
      rw [e] at hx
      refine ⟨(hS _ _ hs).1, ?_⟩
      rw [hx]
      congr 2
      have hri : (ints rows).getD i 0 = ((rows[i]).getD 0 (.i 0)).int := by
        simp only [ints, List.getD_eq_getElem?_getD, List.getElem?_map, List.getElem?_eq_getElem hi, Option.map_some, Option.getD_some]
      rw [hri, List.getD_eq_getElem?_getD, hc1]
      rfl
theorem prodV_nat (l : List Int) (h : ∀ k ∈ l, 0 ≤ k) : prodV l = (((l.map Int.toNat).foldl (· * ·) 1 : Nat) : Int) := by
  have key : ∀ (l : List Int) (n : Nat), (∀ k ∈ l, 0 ≤ k) → l.foldl (· * ·) (n : Int) = (((l.map Int.toNat).foldl (· * ·) n : Nat) : Int) := fun l => by
    induction l with
    | nil => intro n _; rfl
    | cons k l ih =>
      intro n hk
      have h0 := hk k (by simp)
      rw [List.foldl_cons, List.map_cons, List.foldl_cons, ← ih _ fun x hx => hk x (by simp [hx]), Int.natCast_mul, Int.toNat_of_nonneg h0]
  exact key l 1 h
/-- One struct of two words as a result. -/
theorem wide_res {w : World} {Base : Nat → Nat → Prop} {n : Nat} (h l : Int) : Res Try.prog w Base n [wideSh] (.agg #[.int .u64 h, .int .u64 l]) [wd h, wd l] := by
  refine ⟨[_], rfl, ⟨[wd h, wd l], [], rfl, ⟨[.int .u64 h, .int .u64 l], rfl, ⟨⟨small_s _, rfl, rfl⟩, ⟨small_s _, rfl, rfl⟩, trivial⟩⟩, rfl⟩, ?_, ?_⟩
  · simp [kindsOf, wideSh, Sh0.kinds, vecB]
  · simp [kindsOf, wideSh, Sh0.kinds, vecB]
theorem keeps_below {w w' : World} {F : Nat → Prop} (h : Below w.heap.size w w') (hF : ∀ i, F i → i < w.heap.size) : Keeps F w w' := ⟨h.os, h.tape, h.output, h.size, fun i hi => h.block i (hF i hi)⟩
theorem product_ok : tab5.ok 68 := by
  refine Tab.of_ct rfl rfl ⟨_, Try.func68, by decide, rfl⟩ ?_ ctF_det
  intro Base w vs cs hB hr hp
  cases vs with
  | nil => exact hr.elim
  | cons v0 vs =>
  obtain ⟨c1, c2, rfl, ⟨c, rfl, hr1⟩, h2⟩ := hr
  cases vs with
  | cons _ _ => exact h2.elim
  | nil =>
  have h2 : c2 = [] := h2
  subst h2
  obtain ⟨a, cap, b, o, rfl, hn, ha, hb, hc⟩ := longs_rep hr1
  have hp : ∀ k ∈ ints c.rows, 0 ≤ k := hp
  have hpost : ctProd.post [c] = fun rs => rs = wideC (prodV (ints c.rows)) := rfl
  show Calls _ _ _ w fun e w' => ∃ v rs outs, e = .returned v ∧ _ ∧ _ ∧ ctProd.post [c] _ ∧ _
  rw [hpost, prodV_nat _ hp]
  generalize ints c.rows = l at *
  have hl : (l.map Int.toNat).length = l.length := by simp
  have := product_calls b o cap (l.map Int.toNat) (fun k hk => by obtain ⟨x, hx, rfl⟩ := List.mem_map.1 hk; have := hb x hx; have := hp x hx; omega) w (by rw [hl]; exact hn) (fun i hi => by
    rw [hl] at hi
    obtain ⟨k1, k2⟩ := hc i hi
    refine ⟨k1, ?_⟩
    rw [k2]
    have := hp _ (getD_mem hi 0)
    simp only [List.getD_eq_getElem?_getD, List.getElem?_map, List.getElem?_eq_getElem hi, Option.map_some, Option.getD_some] at this ⊢
    rw [Int.toNat_of_nonneg this]) a (fun h => ha fun e => h (by rw [e]; rfl))
  rw [hl] at this
  refine Calls.mono this ?_
  rintro e w' ⟨h, lo, hh, hlo, he, rfl, hb⟩
  refine ⟨_, [wd h, wd lo], [], rfl, wide_res _ _, rfl, ?_, keeps_below hb fun i hi => hi.1⟩
  generalize (l.map Int.toNat).foldl (· * ·) 1 = N at *
  show [wd h, wd lo] = [wd _, wd _]
  rw [show ((N : Int) / 18446744073709551616 % 18446744073709551616) = (h : Int) by omega, show ((N : Int) % 18446744073709551616) = (lo : Int) by omega]
theorem opq2 {w : World} {O : Nat → Nat → Prop} : ∀ {us : List Value} {cs : List C}, LReps Try.prog w O [.opq, .opq] us cs → ∃ u0 u1, us = [u0, u1] ∧ cs = [.s u0 [], .s u1 []]
  | [], [], h => h.elim
  | [], _ :: _, h => h.elim
  | _ :: _, [], h => h.elim
  | [_], [_], h => h.2.elim
  | [_], _ :: _ :: _, h => h.2.elim
  | _ :: _ :: _, [_], h => h.2.elim
  | _ :: _ :: _ :: _, [_, _], h => h.2.2.elim
  | [_, _], _ :: _ :: _ :: _, h => h.2.2.elim
  | _ :: _ :: _ :: _, _ :: _ :: _ :: _, h => h.2.2.elim
  | [u0, u1], [_, _], ⟨⟨_, e0, _⟩, ⟨_, e1, _⟩, _⟩ => ⟨u0, u1, rfl, by rw [e0, e1]⟩
/-- Two structs of two words as arguments. -/
theorem wide_args {w : World} {Base : Nat → Nat → Prop} {vs : List Value} {cs : List C} (hr : Reps Try.prog w Base none [wideSh, wideSh] vs cs) (hp : wideOK cs 0 ∧ wideOK cs 2) :
    ∃ a b c d : Nat, a < 18446744073709551616 ∧ b < 18446744073709551616 ∧ c < 18446744073709551616 ∧ d < 18446744073709551616 ∧ cs = [wd a, wd b, wd c, wd d] ∧ vs = [.agg #[.int .u64 a, .int .u64 b], .agg #[.int .u64 c, .int .u64 d]] := by
  match vs, hr with
  | [], hr => exact hr.elim
  | [_], ⟨_, _, _, _, h2⟩ => exact h2.elim
  | _ :: _ :: _ :: _, ⟨_, _, _, _, _, _, _, _, h3⟩ => exact h3.elim
  | [v0, v1], ⟨c1, c2, hcs, ⟨us, hv0, h1⟩, c3, c4, hc2, ⟨us', hv1, h2⟩, h3⟩ =>
    have h3 : c4 = [] := h3
    subst h3 hv0 hv1 hc2
    obtain ⟨u0, u1, rfl, rfl⟩ := opq2 h1
    obtain ⟨u2, u3, rfl, rfl⟩ := opq2 h2
    subst hcs
    obtain ⟨⟨a, b, ha, hb, ea, eb⟩, c, d, hc, hd, ec, ed⟩ := hp
    have ea : C.s u0 [] = wd a := ea
    have eb : C.s u1 [] = wd b := eb
    have ec : C.s u2 [] = wd c := ec
    have ed : C.s u3 [] = wd d := ed
    have fa : u0 = .int .u64 a := by injection ea
    have fb : u1 = .int .u64 b := by injection eb
    have fc : u2 = .int .u64 c := by injection ec
    have fd : u3 = .int .u64 d := by injection ed
    subst fa fb fc fd
    exact ⟨a, b, c, d, ha, hb, hc, hd, rfl, rfl⟩
theorem plus_ok : tab5.ok 69 := by
  refine Tab.of_ct rfl rfl ⟨_, Try.func69, by decide, rfl⟩ ?_ ctF_det
  intro Base w vs cs hB hr hp
  obtain ⟨a, b, c, d, ha, hb, hc, hd, rfl, rfl⟩ := wide_args hr hp
  refine Calls.mono (plus_calls a b c d w) ?_
  rintro e w' ⟨rfl, hbl⟩
  refine ⟨_, [wd _, wd _], [], rfl, wide_res _ _, rfl, ?_, keeps_below hbl fun i hi => hi.1⟩
  show [wd _, wd _] = [wd ((((a : Int) * 18446744073709551616 + b) + ((c : Int) * 18446744073709551616 + d)) / 18446744073709551616 % 18446744073709551616), wd ((((a : Int) * 18446744073709551616 + b) + ((c : Int) * 18446744073709551616 + d)) % 18446744073709551616)]
  congr 2
  · omega
  · congr 1; omega
theorem least_ok : tab5.ok 70 := by
  refine Tab.of_ct rfl rfl ⟨_, Try.func70, by decide, rfl⟩ ?_ ctF_det
  intro Base w vs cs hB hr hp
  obtain ⟨a, b, c, d, ha, hb, hc, hd, rfl, rfl⟩ := wide_args hr hp
  refine Calls.mono (least_calls a b c d w) ?_
  rintro e w' ⟨rfl, hbl⟩
  refine ⟨_, [.b _], [], rfl, ⟨[_], rfl, ⟨[.b _], [], rfl, ⟨_, rfl, fun n => (by cases n <;> trivial), _, rfl, rfl⟩, rfl⟩, ?_, ?_⟩, rfl, ?_, keeps_below hbl fun i hi => hi.1⟩
  · simp [ctLeast, ctF, kindsOf, Sh0.kinds, vecB]
  · simp [ctLeast, ctF, kindsOf, Sh0.kinds, vecB]
  · show [C.b _] = [C.b (decide ((c : Int) * 18446744073709551616 + d ≤ (a : Int) * 18446744073709551616 + b))]
    congr 2
    rw [decide_eq_decide]
    omega
end Go.Proofs.Ytbgofenplhdllaa
/- House: is there a flow under a gradient: the program's answer. -/
namespace Go.Proofs.Ytbgofenplhdllaa
open Go.RowKit
set_option linter.unusedSimpArgs false
set_option linter.unusedVariables false

theorem c_clo (ρ : List C) (i : Nat) : (Lf.clo i).c ρ = at_ ρ i := rfl
/-- Two values are the words of a number. -/
def WD (v w : Value) (N : Int) : Prop := 0 ≤ N ∧ N < 340282366920938463463374607431768211456 ∧ v = .int .u64 (N / 18446744073709551616) ∧ w = .int .u64 (N % 18446744073709551616)
theorem wd_of {v w : Value} {N : Int} (h0 : 0 ≤ N) (h1 : N < 340282366920938463463374607431768211456) (h : [C.s v [], C.s w []] = wideC N) : WD v w N := by
  unfold wideC wd at h
  simp only [List.cons.injEq, C.s.injEq, and_true] at h
  exact ⟨h0, h1, by rw [h.1]; congr 1; omega, h.2⟩
theorem wd_ok {v w v' w' : Value} {N M : Int} (h : WD v w N) (h' : WD v' w' M) : (wideOK [C.s v [], C.s w [], C.s v' [], C.s w' []] 0 ∧ wideOK [C.s v [], C.s w [], C.s v' [], C.s w' []] 2) ∧ w_ [C.s v [], C.s w [], C.s v' [], C.s w' []] 0 = N ∧ w_ [C.s v [], C.s w [], C.s v' [], C.s w' []] 2 = M := by
  obtain ⟨a0, a1, rfl, rfl⟩ := h
  obtain ⟨b0, b1, rfl, rfl⟩ := h'
  refine ⟨⟨⟨(N / 18446744073709551616).toNat, (N % 18446744073709551616).toNat, by omega, by omega, ?_, ?_⟩, ⟨(M / 18446744073709551616).toNat, (M % 18446744073709551616).toNat, by omega, by omega, ?_, ?_⟩⟩, ?_, ?_⟩
  · show C.s (.int .u64 (N / 18446744073709551616)) [] = wd _
    rw [Int.toNat_of_nonneg (by omega)]; rfl
  · show C.s (.int .u64 (N % 18446744073709551616)) [] = wd _
    rw [Int.toNat_of_nonneg (by omega)]; rfl
  · show C.s (.int .u64 (M / 18446744073709551616)) [] = wd _
    rw [Int.toNat_of_nonneg (by omega)]; rfl
  · show C.s (.int .u64 (M % 18446744073709551616)) [] = wd _
    rw [Int.toNat_of_nonneg (by omega)]; rfl
  · show N / 18446744073709551616 * 18446744073709551616 + N % 18446744073709551616 = N
    omega
  · show M / 18446744073709551616 * 18446744073709551616 + M % 18446744073709551616 = M
    omega
/-- The numbers of a flow, in their ranges. -/
theorem flow_rng {a g y v t f : Int} (h : flowsP a g y v t f) : (0 ≤ t * g ∧ t * g ≤ 4000000) ∧
    (0 ≤ prodV [2, t * g, t * g, t * g, g, a] ∧ prodV [2, t * g, t * g, t * g, g, a] ≤ 128000000000000000000000000) ∧ (0 ≤ prodV [y, y, y, g, a] ∧ prodV [y, y, y, g, a] ≤ 1000000000000000000000000) ∧
    (0 ≤ prodV [3, y, t * g, t * g, g, a] ∧ prodV [3, y, t * g, t * g, g, a] ≤ 48000000000000000000000000) ∧ (0 ≤ prodV [f, v, t * g, t * g] ∧ prodV [f, v, t * g, t * g] ≤ 16000000000000000000000000) := by
  obtain ⟨ha, hg, hy, hv, ht, hf⟩ := h
  have hT := mul_bd ht.1 ht.2 (show 0 ≤ g by omega) hg.2
  generalize t * g = T at *
  have e1 : prodV [2, T, T, T, g, a] = 1 * 2 * T * T * T * g * a := rfl
  have e2 : prodV [y, y, y, g, a] = 1 * y * y * y * g * a := rfl
  have e3 : prodV [3, y, T, T, g, a] = 1 * 3 * y * T * T * g * a := rfl
  have e4 : prodV [f, v, T, T] = 1 * f * v * T * T := rfl
  have hT1 : T ≤ 4000000 := by omega
  have p1 := mul_bd (a := 1 * 2) (by omega) (show (1 * 2 : Int) ≤ 2 by omega) hT.1 hT1
  have p2 := mul_bd p1.1 p1.2 hT.1 hT1
  have p3 := mul_bd p2.1 p2.2 hT.1 hT1
  have p4 := mul_bd p3.1 p3.2 (show 0 ≤ g by omega) hg.2
  have p5 := mul_bd p4.1 p4.2 (show 0 ≤ a by omega) ha.2
  have q1 := mul_bd (a := 1) (by omega) (show (1 : Int) ≤ 1 by omega) hy.1 hy.2
  have q2 := mul_bd q1.1 q1.2 hy.1 hy.2
  have q3 := mul_bd q2.1 q2.2 hy.1 hy.2
  have q4 := mul_bd q3.1 q3.2 (show 0 ≤ g by omega) hg.2
  have q5 := mul_bd q4.1 q4.2 (show 0 ≤ a by omega) ha.2
  have r1 := mul_bd (a := 1 * 3) (by omega) (show (1 * 3 : Int) ≤ 3 by omega) hy.1 hy.2
  have r2 := mul_bd r1.1 r1.2 hT.1 hT1
  have r3 := mul_bd r2.1 r2.2 hT.1 hT1
  have r4 := mul_bd r3.1 r3.2 (show 0 ≤ g by omega) hg.2
  have r5 := mul_bd r4.1 r4.2 (show 0 ≤ a by omega) ha.2
  have s1 := mul_bd (a := 1) (by omega) (show (1 : Int) ≤ 1 by omega) hf.1 hf.2
  have s2 := mul_bd s1.1 s1.2 (show 0 ≤ v by omega) hv.2
  have s3 := mul_bd s2.1 s2.2 hT.1 hT1
  have s4 := mul_bd s3.1 s3.2 hT.1 hT1
  rw [e1, e2, e3, e4]
  exact ⟨⟨hT.1, hT1⟩, ⟨p5.1, Int.le_trans p5.2 (by decide)⟩, ⟨q5.1, Int.le_trans q5.2 (by decide)⟩, ⟨r5.1, Int.le_trans r5.2 (by decide)⟩, ⟨s4.1, Int.le_trans s4.2 (by decide)⟩⟩
theorem flows_zero {a g y v t f : Int} (h : f = 0) : true = flowsV a g y v t f := by unfold flowsV; rw [if_pos h]
theorem flows_low {a g y v t f : Int} (h : f ≠ 0) (h2 : t * g ≤ y) : false = flowsV a g y v t f := by unfold flowsV; rw [if_neg h, if_pos h2]
theorem flows_cmp {a g y v t f : Int} (h : f ≠ 0) (h2 : y < t * g) : decide (prodV [3, y, t * g, t * g, g, a] + prodV [f, v, t * g, t * g] ≤ prodV [2, t * g, t * g, t * g, g, a] + prodV [y, y, y, g, a]) = flowsV a g y v t f := by unfold flowsV; rw [if_neg h, if_neg (by omega)]
theorem flows_ok : tab5.ok 62 := by
  refine Tab.of_ct rfl rfl ⟨_, Try.func62, by decide, rfl⟩ ?_ ctF_det
  refine ct_ok (cx := cflows) (Tab.cx_ok (all_cons product_ok (all_cons plus_ok (all_cons least_ok all_nil)))) Try.func62 (bds := []) (T := tflows) (by kernel_rfl) ?_
  have h1 : cflows.ct 68 = some ctProd := rfl
  have h2 : cflows.ct 69 = some ctPlus := rfl
  have h3 : cflows.ct 70 = some ctLeast := rfl
  unfold tflows
  simp only [VC, allC, List.map_cons, List.map_nil, List.length_cons, List.length_nil, List.getElem?_cons_zero, List.getElem?_cons_succ, List.cons.injEq, C.i.injEq, C.b.injEq, and_true, true_and, forall_const, kindsOf_nil, kindsOf_lf, kindsOf_agg, kindsOf_box, boxKinds_nil, boxKinds_lf, boxKinds_agg, boxKinds_box, List.append_nil, List.cons_append, List.nil_append, den_cmp_le, den_cmp_lt, den_cmp_eq, den_cmp_ne, den_cmp_le', den_cmp_lt', den_cmp_eq', den_cmp_ne', den_and, den_and', den_or, den_or', den_not, den_not', den_blit, den_of, ev_var, at_0, at_1, at_2, at_3, at_4, at_5, at_6, at_7, at_skip, c_int, c_bool, c_arr, c_cnt, c_vec, ev_nil, ev_join, ev_sub3, loc_s, int_i, bool_b, rows_s, cs_nil, cs_cons, E.den_lit, E.den_var, E.den_add, E.den_sub, E.den_mul, E.den_quo, E.den_rem, E.den_max, E.den_min, E.den_len, E.den_wr, E.den_cell, Nat.reduceAdd, c_clo, h1, h2, h3, ctProd, ctPlus, ctLeast, ctFlows, ctF, segSh, mudSh, longsSh, wideSh, n_, flowsC]
  intro l _ _ r _ _ a _ _ g _ _ y _ _ v _ _ t _ _ f _ _ hp
  refine ⟨bds_nil _, fun hf0 => flows_zero hf0, fun hf0 => ?_⟩
  obtain ⟨hT, hA1, hA2, hB1, hB2⟩ := flow_rng hp
  obtain ⟨ha, hg, hy, hv, ht, hf⟩ := hp
  have hc : -9223372036854775808 ≤ t * g ∧ t * g ≤ 9223372036854775807 := ⟨by omega, by omega⟩
  refine ⟨hc, fun hlow => flows_low hf0 hlow, fun hgt => ?_⟩
  rw [← flows_cmp hf0 hgt]
  rw [show ints [[C.i 2], [C.i (t * g)], [C.i (t * g)], [C.i (t * g)], [C.i g], [C.i a]] = [2, t * g, t * g, t * g, g, a] from rfl, show ints [[C.i y], [C.i y], [C.i y], [C.i g], [C.i a]] = [y, y, y, g, a] from rfl,
    show ints [[C.i 3], [C.i y], [C.i (t * g)], [C.i (t * g)], [C.i g], [C.i a]] = [3, y, t * g, t * g, g, a] from rfl, show ints [[C.i f], [C.i v], [C.i (t * g)], [C.i (t * g)]] = [f, v, t * g, t * g] from rfl]
  generalize t * g = T at *
  have n1 : ∀ k ∈ [2, T, T, T, g, a], 0 ≤ k := by simp; omega
  have n2 : ∀ k ∈ [y, y, y, g, a], 0 ≤ k := by simp; omega
  have n3 : ∀ k ∈ [3, y, T, T, g, a], 0 ≤ k := by simp; omega
  have n4 : ∀ k ∈ [f, v, T, T], 0 ≤ k := by simp; omega
  generalize prodV [2, T, T, T, g, a] = A1 at *
  generalize prodV [y, y, y, g, a] = A2 at *
  generalize prodV [3, y, T, T, g, a] = B1 at *
  generalize prodV [f, v, T, T] = B2 at *
  have w1 : ∀ v0 v1 : Value, [C.s v0 [], C.s v1 []] = wideC A1 → WD v0 v1 A1 := fun _ _ h => wd_of (by omega) (by omega) h
  have w2 : ∀ v0 v1 : Value, [C.s v0 [], C.s v1 []] = wideC A2 → WD v0 v1 A2 := fun _ _ h => wd_of (by omega) (by omega) h
  have w3 : ∀ v0 v1 : Value, [C.s v0 [], C.s v1 []] = wideC B1 → WD v0 v1 B1 := fun _ _ h => wd_of (by omega) (by omega) h
  have w4 : ∀ v0 v1 : Value, [C.s v0 [], C.s v1 []] = wideC B2 → WD v0 v1 B2 := fun _ _ h => wd_of (by omega) (by omega) h
  refine ⟨fun xs => xs = wideC (A1 + A2), ?_, ?_⟩
  · refine ⟨⟨hc, hc, hc, ?_, ?_⟩, hc, hc, hc, ?_⟩ <;>
    · refine ⟨n1, fun v0 v1 e1 => ⟨n2, fun v2 v3 e2 => ?_⟩⟩
      obtain ⟨k1, k2, k3⟩ := wd_ok (w1 _ _ e1) (w2 _ _ e2)
      refine ⟨k1, fun v4 v5 e => ?_⟩
      rw [k2, k3] at e
      exact e
  · intro v0 v1 e0
    have w0 : WD v0 v1 (A1 + A2) := wd_of (by omega) (by omega) e0
    have fin : ∀ v4 v5 v7 v8 : Value, WD v4 v5 B1 → WD v7 v8 B2 → (wideOK [C.s v4 [], C.s v5 [], C.s v7 [], C.s v8 []] 0 ∧ wideOK [C.s v4 [], C.s v5 [], C.s v7 [], C.s v8 []] 2) ∧
        ∀ v9 v10 : Value, [C.s v9 [], C.s v10 []] = wideC (w_ [C.s v4 [], C.s v5 [], C.s v7 [], C.s v8 []] 0 + w_ [C.s v4 [], C.s v5 [], C.s v7 [], C.s v8 []] 2) →
          (wideOK [C.s v0 [], C.s v1 [], C.s v9 [], C.s v10 []] 0 ∧ wideOK [C.s v0 [], C.s v1 [], C.s v9 [], C.s v10 []] 2) ∧
          ∀ t1 : Bool, t1 = decide (w_ [C.s v0 [], C.s v1 [], C.s v9 [], C.s v10 []] 2 ≤ w_ [C.s v0 [], C.s v1 [], C.s v9 [], C.s v10 []] 0) → [C.b t1] = [C.b (decide (B1 + B2 ≤ A1 + A2))] := fun v4 v5 v7 v8 e3 e4 => by
      obtain ⟨k1, k2, k3⟩ := wd_ok e3 e4
      refine ⟨k1, fun v9 v10 e => ?_⟩
      rw [k2, k3] at e
      obtain ⟨j1, j2, j3⟩ := wd_ok w0 (wd_of (by omega) (by omega) e)
      refine ⟨j1, fun t1 h => ?_⟩
      rw [h, j2, j3]
    refine ⟨fun xs => xs = [.b (decide (B1 + B2 ≤ A1 + A2))], ?_, ?_⟩
    · refine ⟨⟨hc, hc, fun _ => ⟨?_, ?_⟩⟩, hc, hc, fun _ => ⟨hc, hc, fun _ => ?_⟩⟩
      · exact ⟨n3, fun v4 v5 e3 => ⟨hc, hc, fun _ => ⟨n4, fun v7 v8 e4 => fin _ _ _ _ (w3 _ _ e3) (w4 _ _ e4)⟩⟩⟩
      · exact ⟨hc, hc, fun _ => ⟨n3, fun v4 v5 e3 => ⟨n4, fun v7 v8 e4 => fin _ _ _ _ (w3 _ _ e3) (w4 _ _ e4)⟩⟩⟩
      · exact ⟨n3, fun v4 v5 e3 => ⟨n4, fun v7 v8 e4 => fin _ _ _ _ (w3 _ _ e3) (w4 _ _ e4)⟩⟩
    · intro t1 e
      have e : [C.b t1] = [C.b _] := e
      simpa using e
end Go.Proofs.Ytbgofenplhdllaa
/- House: the document's great numbers: products, sums, comparisons. -/
namespace Go.Proofs.Ytbgofenplhdllaa
open Go.RowKit
set_option linter.unusedSimpArgs false
set_option linter.unusedVariables false

/-! Digits -/
def MM (k : Nat) : Int := (1000000 : Int) ^ k
theorem MM_zero : MM 0 = 1 := rfl
theorem MM_succ (k : Nat) : MM (k + 1) = MM k * 1000000 := Int.pow_succ ..
theorem MM_pos (k : Nat) : 1 ≤ MM k := by
  induction k with
  | zero => exact Int.le_refl _
  | succ k ih => rw [MM_succ]; omega
theorem bigV_snoc : ∀ (l : List Int) (d : Int), bigV (l ++ [d]) = bigV l + MM l.length * d
  | [], d => by simp [bigV, MM_zero]
  | x :: l, d => by
    rw [List.cons_append, bigV, bigV, bigV_snoc l d, List.length_cons, MM_succ, Int.mul_add, Int.mul_comm (MM l.length) 1000000, Int.mul_assoc]; omega
theorem drop_big (l : List Int) (k : Nat) : bigV (l.drop k) = l.getD k 0 + 1000000 * bigV (l.drop (k + 1)) := by
  by_cases h : k < l.length
  · rw [drop_cons h 0, bigV]
  · rw [List.drop_eq_nil_of_le (by omega), List.drop_eq_nil_of_le (by omega), List.getD_eq_getElem?_getD, List.getElem?_eq_none (by omega)]; rfl
theorem bigV_split : ∀ (k : Nat) (l : List Int), bigV l = bigV (l.take k) + MM k * bigV (l.drop k)
  | 0, l => by simp [bigV, MM_zero]
  | k + 1, [] => by simp [bigV]
  | k + 1, d :: l => by
    rw [List.take_succ_cons, List.drop_succ_cons, bigV, bigV, bigV_split k l, MM_succ, Int.mul_add, Int.mul_comm (MM k) 1000000, Int.mul_assoc]; omega
theorem bigV_low : ∀ (k : Nat) (l : List Int), digs l → l.length ≤ k → 0 ≤ bigV l ∧ bigV l < MM k
  | k, [], _, _ => by have := MM_pos k; simp only [bigV]; omega
  | 0, _ :: _, _, h => by simp at h
  | k + 1, d :: l, hd, h => by
    have h1 := bigV_low k l (fun x hx => hd x (by simp [hx])) (by simpa using h)
    have h2 := hd d (by simp)
    rw [bigV, MM_succ]; omega
theorem digs_at {l : List Int} (h : digs l) (k : Nat) : 0 ≤ l.getD k 0 ∧ l.getD k 0 ≤ 999999 := by
  by_cases hk : k < l.length
  · have := h _ (getD_mem hk 0); omega
  · rw [List.getD_eq_getElem?_getD, List.getElem?_eq_none (by omega)]; exact ⟨by decide, by decide⟩
theorem digs_snoc {l : List Int} (h : digs l) {d : Int} (hd : 0 ≤ d ∧ d < 1000000) : digs (l ++ [d]) := fun x hx => by
  rcases List.mem_append.1 hx with hx | hx
  · exact h x hx
  · rw [List.mem_singleton] at hx; subst hx; exact hd
theorem big_step {P s d c X : Int} (h : s = d + 1000000 * c) : P * d + P * 1000000 * (c + X) = P * (s + 1000000 * X) := by
  subst h
  rw [Int.mul_assoc, ← Int.mul_add]
  congr 1; omega
theorem ints_snoc (rows : List (List C)) (d : Int) : ints (rows ++ [[.i d]]) = ints rows ++ [d] := by simp [ints, C.int]
theorem tm {s : Int} (h : 0 ≤ s) : s.tmod 1000000 = s % 1000000 ∧ s.tdiv 1000000 = s / 1000000 := ⟨Int.tmod_eq_emod_of_nonneg h, Int.tdiv_eq_ediv_of_nonneg h⟩

/-! The sum -/
structure AddI (x y out : List Int) (c k : Int) : Prop where
  len : k = out.length
  c0 : 0 ≤ c
  c1 : c ≤ 1
  k0 : k ≤ 40 ∨ (k = 41 ∧ c = 0)
  dg : digs out
  val : bigV out + MM k.toNat * (c + bigV (x.drop k.toNat) + bigV (y.drop k.toNat)) = bigV x + bigV y
theorem AddI.start (x y : List Int) : AddI x y [] 0 0 := by
  refine ⟨rfl, by omega, by omega, by omega, fun d hd => (by cases hd), ?_⟩
  show 0 + MM 0 * (0 + bigV (x.drop 0) + bigV (y.drop 0)) = _
  rw [MM_zero, List.drop_zero, List.drop_zero]; omega
theorem AddI.step {x y out : List Int} {c k s : Int} (h : AddI x y out c k) (hx : digs x) (hy : digs y) (lx : x.length ≤ 40) (ly : y.length ≤ 40) (hg : k < x.length ∨ k < y.length ∨ 0 < c) (hs : s = c + x.getD k.toNat 0 + y.getD k.toNat 0) :
    0 ≤ s ∧ s ≤ 1999999 ∧ k ≤ 40 ∧ AddI x y (out ++ [s % 1000000]) (s / 1000000) (k + 1) := by
  obtain ⟨h1, h2, h3, h4, h5, h6⟩ := h
  have a1 := digs_at hx k.toNat
  have a2 := digs_at hy k.toNat
  have hk : k ≤ 40 := by omega
  have e1 : (k + 1).toNat = k.toNat + 1 := by omega
  have e2 : k = 40 → s ≤ 1 := fun e => by
    subst e
    rw [hs, List.getD_eq_getElem?_getD, List.getElem?_eq_none (by omega), List.getD_eq_getElem?_getD, List.getElem?_eq_none (by omega)]
    show c + 0 + 0 ≤ 1
    omega
  refine ⟨by omega, by omega, hk, ⟨by simp; omega, by omega, by omega, by omega, digs_snoc h5 (by omega), ?_⟩⟩
  have hn : out.length = k.toNat := by omega
  rw [bigV_snoc, hn, e1, MM_succ, ← h6, drop_big x k.toNat, drop_big y k.toNat]
  have := big_step (P := MM k.toNat) (s := s) (d := s % 1000000) (c := s / 1000000) (X := bigV (x.drop (k.toNat + 1)) + bigV (y.drop (k.toNat + 1))) (by omega)
  rw [Int.add_assoc, Int.add_assoc (s / 1000000), this]
  congr 2
  omega
theorem AddI.fin {x y out : List Int} {c k : Int} (h : AddI x y out c k) (hg : x.length ≤ k ∧ y.length ≤ k ∧ c ≤ 0) : digs out ∧ out.length ≤ 41 ∧ bigV out = bigV x + bigV y := by
  obtain ⟨h1, h2, h3, h4, h5, h6⟩ := h
  refine ⟨h5, by omega, ?_⟩
  rw [List.drop_eq_nil_of_le (by omega), List.drop_eq_nil_of_le (by omega)] at h6
  rw [← h6, show c = 0 by omega]
  simp [bigV]
theorem getD_none {l : List Int} {k : Int} (h : (l.length : Int) ≤ k) : l.getD k.toNat 0 = 0 := by
  rw [List.getD_eq_getElem?_getD, List.getElem?_eq_none (by omega)]; rfl
theorem biga_ok : tab5.ok 73 := by
  refine Tab.of_ct rfl rfl ⟨_, Try.func73, by decide, rfl⟩ ?_ (fun h => by cases h)
  refine ct_ok (cx := cbiga) (Tab.cx_ok all_nil) Try.func73 (bds := []) (T := tbiga) (by kernel_rfl) ?_
  unfold tbiga
  simp only [VC, allC, List.map_cons, List.map_nil, List.length_cons, List.length_nil, List.getElem?_cons_zero, List.getElem?_cons_succ, List.cons.injEq, C.i.injEq, C.b.injEq, and_true, true_and, forall_const, kindsOf_nil, kindsOf_lf, kindsOf_agg, kindsOf_box, boxKinds_nil, boxKinds_lf, boxKinds_agg, boxKinds_box, List.append_nil, List.cons_append, List.nil_append, den_cmp_le, den_cmp_lt, den_cmp_eq, den_cmp_ne, den_cmp_le', den_cmp_lt', den_cmp_eq', den_cmp_ne', den_and, den_and', den_or, den_or', den_not, den_not', den_blit, den_of, ev_var, at_0, at_1, at_2, at_3, at_4, at_5, at_6, at_7, at_skip, c_int, c_bool, c_arr, c_cnt, c_vec, ev_nil, ev_join, ev_sub3, loc_s, int_i, bool_b, rows_s, cs_nil, cs_cons, E.den_lit, E.den_var, E.den_add, E.den_sub, E.den_mul, E.den_quo, E.den_rem, E.den_max, E.den_min, E.den_len, E.den_wr, E.den_cell, Nat.reduceAdd, ev_cell, int_at, ctBigA, longsSh]
  intro u0 r0 _ _ _ u1 r1 _ _ _ hp
  refine ⟨bds_nil _, ?_⟩
  obtain ⟨hx, hy, lx, ly⟩ := hp
  rw [← ints_len r0, ← ints_len r1]
  generalize ints r0 = x at *
  generalize ints r1 = y at *
  refine ⟨fun xs => match xs with | [.s _ rows, .i c, .i k] => AddI x y (ints rows) c k | _ => False, fun xs => match xs with | [_, _, .i k] => (42 - k).toNat | _ => 0, AddI.start x y, ?_⟩
  intro v rows _ _ _ c _ _ k _ _ hI
  have hI : AddI x y (ints rows) c k := hI
  refine ⟨fun xs => match xs with | [.b g] => (g = true → k < x.length ∨ k < y.length ∨ 0 < c) ∧ (g = false → x.length ≤ k ∧ y.length ≤ k ∧ c ≤ 0) | _ => False, ⟨fun h => ⟨fun _ => .inl h, fun h => (by cases h)⟩, fun h => ⟨fun h2 => ⟨fun _ => .inr (.inl h2), fun h => (by cases h)⟩, fun h2 => ⟨fun h3 => ?_, fun h3 => ?_⟩⟩⟩, ?_⟩
  · have h3 : decide (0 < c) = true := h3
    exact .inr (.inr (of_decide_eq_true h3))
  · have h3 : decide (0 < c) = false := h3
    have := of_decide_eq_false h3
    exact ⟨h, h2, by omega⟩
  rintro g ⟨g1, g2⟩
  refine ⟨fun hg => ?_, fun hg => ⟨v, rows, rfl, hI.fin (g2 hg)⟩⟩
  obtain ⟨s0, s1, s2, hN⟩ := hI.step hx hy lx ly (g1 hg) rfl
  have a1 := digs_at hx k.toNat
  have a2 := digs_at hy k.toNat
  have hk : k = (ints rows).length := hI.len
  have c0 := hI.c0
  have c1 := hI.c1
  refine ⟨fun xs => xs = [.i (c + x.getD k.toNat 0)], ⟨fun h => ⟨by omega, h, ⟨by omega, by omega⟩, ⟨by omega, by omega⟩, rfl⟩, fun h => by rw [getD_none h, Int.add_zero]⟩, ?_⟩
  rintro s1 _ _ e
  have e : s1 = c + x.getD k.toNat 0 := by simpa using e
  subst e
  refine ⟨fun xs => xs = [.i (c + x.getD k.toNat 0 + y.getD k.toNat 0)], ⟨fun h => ⟨by omega, h, ⟨by omega, by omega⟩, ⟨by omega, by omega⟩, rfl⟩, fun h => by rw [getD_none h, Int.add_zero]⟩, ?_⟩
  rintro s2 _ _ e
  have e : s2 = c + x.getD k.toNat 0 + y.getD k.toNat 0 := by simpa using e
  rw [← e] at hN s0 s1
  obtain ⟨t1, t2⟩ := tm (s := s2) (by omega)
  rw [t1, t2]
  have hr : (rows.length : Int) = k := by rw [hk, ints_len]
  refine ⟨⟨by omega, by omega⟩, by omega, fun w => ⟨⟨by omega, by omega⟩, ⟨by omega, by omega⟩, ⟨by omega, by omega⟩, ⟨by omega, by omega⟩, ?_, ?_⟩⟩
  · show AddI x y (ints (rows ++ [[.i (s2 % 1000000)]])) _ _
    rw [ints_snoc]; exact hN
  · show (42 - (k + 1)).toNat < (42 - k).toNat
    omega

/-! The product -/
structure MulI (n : Int) (x out : List Int) (c k : Int) : Prop where
  len : k = out.length
  c0 : 0 ≤ c
  bd : (k ≤ x.length ∧ c ≤ 1099511627776) ∨ (k = x.length + 1 ∧ c ≤ 1099511) ∨ (k = x.length + 2 ∧ c ≤ 1) ∨ (k = x.length + 3 ∧ c ≤ 0)
  dg : digs out
  val : bigV out + MM k.toNat * (c + n * bigV (x.drop k.toNat)) = n * bigV x
theorem MulI.start (n : Int) (x : List Int) : MulI n x [] 0 0 := by
  refine ⟨rfl, by omega, by omega, fun d hd => (by cases hd), ?_⟩
  show 0 + MM 0 * (0 + n * bigV (x.drop 0)) = _
  rw [MM_zero, List.drop_zero]; omega
theorem MulI.step {n : Int} {x out : List Int} {c k s : Int} (h : MulI n x out c k) (hx : digs x) (hn : 0 ≤ n ∧ n ≤ 1099511627776) (hg : k < x.length ∨ 0 < c) (hs : s = c + x.getD k.toNat 0 * n) :
    0 ≤ s ∧ s ≤ 1099511627776000000 ∧ k ≤ x.length + 2 ∧ 0 ≤ x.getD k.toNat 0 * n ∧ x.getD k.toNat 0 * n ≤ 1099510528264372224 ∧ MulI n x (out ++ [s % 1000000]) (s / 1000000) (k + 1) := by
  obtain ⟨h1, h2, h3, h5, h6⟩ := h
  have a1 := digs_at hx k.toNat
  have m1 := mul_bd a1.1 a1.2 hn.1 hn.2
  have e1 : (k + 1).toNat = k.toNat + 1 := by omega
  have e2 : (x.length : Int) ≤ k → s = c := fun e => by
    rw [hs, List.getD_eq_getElem?_getD, List.getElem?_eq_none (by omega)]
    show c + 0 * n = c
    omega
  have hv : s = c + n * x.getD k.toNat 0 := by rw [hs, Int.mul_comm]
  generalize hq : x.getD k.toNat 0 * n = q at *
  refine ⟨by omega, by omega, by omega, by omega, by omega, ⟨by simp; omega, by omega, by omega, digs_snoc h5 (by omega), ?_⟩⟩
  have hk : out.length = k.toNat := by omega
  rw [bigV_snoc, hk, e1, MM_succ, ← h6, drop_big x k.toNat]
  have := big_step (P := MM k.toNat) (s := s) (d := s % 1000000) (c := s / 1000000) (X := n * bigV (x.drop (k.toNat + 1))) (by omega)
  rw [Int.add_assoc, this, Int.mul_add n, hv, ← Int.add_assoc, ← Int.mul_assoc n 1000000, Int.mul_comm n 1000000, Int.mul_assoc 1000000]
theorem MulI.fin {n : Int} {x out : List Int} {c k : Int} (h : MulI n x out c k) (hg : x.length ≤ k ∧ c ≤ 0) : digs out ∧ out.length ≤ x.length + 3 ∧ bigV out = n * bigV x := by
  obtain ⟨h1, h2, h3, h5, h6⟩ := h
  refine ⟨h5, by omega, ?_⟩
  rw [List.drop_eq_nil_of_le (by omega)] at h6
  rw [← h6, show c = 0 by omega]
  simp [bigV]
theorem prodV_take {l : List Int} {i : Nat} (h : i < l.length) : prodV (l.take (i + 1)) = l.getD i 0 * prodV (l.take i) := by
  unfold prodV
  rw [take_snoc h 0, List.foldl_append, List.foldl_cons, List.foldl_nil, Int.mul_comm]
theorem bigp_ok : tab5.ok 72 := by
  refine Tab.of_ct rfl rfl ⟨_, Try.func72, by decide, rfl⟩ ?_ (fun h => by cases h)
  refine ct_ok (cx := cbigp) (Tab.cx_ok all_nil) Try.func72 (bds := []) (T := tbigp) (by kernel_rfl) ?_
  unfold tbigp
  simp only [VC, allC, List.map_cons, List.map_nil, List.length_cons, List.length_nil, List.getElem?_cons_zero, List.getElem?_cons_succ, List.cons.injEq, C.i.injEq, C.b.injEq, and_true, true_and, forall_const, kindsOf_nil, kindsOf_lf, kindsOf_agg, kindsOf_box, boxKinds_nil, boxKinds_lf, boxKinds_agg, boxKinds_box, List.append_nil, List.cons_append, List.nil_append, den_cmp_le, den_cmp_lt, den_cmp_eq, den_cmp_ne, den_cmp_le', den_cmp_lt', den_cmp_eq', den_cmp_ne', den_and, den_and', den_or, den_or', den_not, den_not', den_blit, den_of, ev_var, at_0, at_1, at_2, at_3, at_4, at_5, at_6, at_7, at_skip, c_int, c_bool, c_arr, c_cnt, c_vec, ev_nil, ev_join, ev_sub3, loc_s, int_i, bool_b, rows_s, cs_nil, cs_cons, E.den_lit, E.den_var, E.den_add, E.den_sub, E.den_mul, E.den_quo, E.den_rem, E.den_max, E.den_min, E.den_len, E.den_wr, E.den_cell, Nat.reduceAdd, ev_cell, int_at, ctBigP, longsSh]
  intro u0 r0 _ _ _ hp
  refine ⟨bds_nil _, ?_⟩
  obtain ⟨hl, hb⟩ := hp
  rw [← ints_len r0]
  generalize ints r0 = l at *
  intro v0
  refine ⟨fun xs => match xs with | [.s _ rows, .i i] => digs (ints rows) ∧ 0 ≤ i ∧ i ≤ l.length ∧ ((ints rows).length : Int) ≤ 1 + 3 * i ∧ bigV (ints rows) = prodV (l.take i.toNat) | _ => False, fun xs => match xs with | [_, .i i] => ((l.length : Int) - i).toNat | _ => 0, ⟨?_, by omega, by omega, by simp [ints], rfl⟩, ?_⟩
  · intro d hd
    simp [ints, C.int] at hd
    omega
  rintro v1 rows1 _ _ _ i _ _ ⟨o1, o2, o3, o4, o5⟩
  refine ⟨fun hlt => ?_, fun hge => ⟨v1, rows1, rfl, o1, by omega, by rw [o5, List.take_of_length_le (by omega)]⟩⟩
  intro v2
  have hm := hb _ (getD_mem (l := l) (i := i.toNat) (by omega) 0)
  have hpt := prodV_take (l := l) (i := i.toNat) (by omega)
  rw [← o5] at hpt
  have hmu : ((l.length : Int) - (i + 1)).toNat < ((l.length : Int) - i).toNat := by omega
  have ei : (i + 1).toNat = i.toNat + 1 := by omega
  rw [← ints_len rows1]
  generalize l.getD i.toNat 0 = n at *
  generalize hX : ints rows1 = x at *
  refine ⟨fun xs => match xs with | [.i c, .s _ rows, .i k] => MulI n x (ints rows) c k | _ => False, fun xs => match xs with | [_, _, .i k] => ((x.length : Int) + 4 - k).toNat | _ => 0, MulI.start n x, ?_⟩
  intro c _ _ v rows _ _ _ k _ _ hI
  have hI : MulI n x (ints rows) c k := hI
  refine ⟨fun xs => match xs with | [.b g] => (g = true → k < x.length ∨ 0 < c) ∧ (g = false → x.length ≤ k ∧ c ≤ 0) | _ => False, ⟨fun h => ⟨fun _ => .inl h, fun h => (by cases h)⟩, fun h => ⟨fun h3 => ?_, fun h3 => ?_⟩⟩, ?_⟩
  · have h3 : decide (0 < c) = true := h3
    exact .inr (of_decide_eq_true h3)
  · have h3 : decide (0 < c) = false := h3
    have := of_decide_eq_false h3
    exact ⟨h, by omega⟩
  rintro g ⟨g1, g2⟩
  refine ⟨fun hg => ?_, fun hg => ?_⟩
  · obtain ⟨s0, s1, s2, s3, s4, hN⟩ := hI.step o1 hm (g1 hg) rfl
    have hk : k = (ints rows).length := hI.len
    have c0 := hI.c0
    have c1 := hI.bd
    refine ⟨fun xs => xs = [.i (c + x.getD k.toNat 0 * n)], ⟨fun h => ⟨by omega, h, o2, hlt, ⟨by omega, by omega⟩, ⟨by omega, by omega⟩, ⟨by omega, by omega⟩, rfl⟩, fun h => by rw [getD_none h, Int.zero_mul, Int.add_zero]⟩, ?_⟩
    rintro s _ _ e
    have e : s = c + x.getD k.toNat 0 * n := by simpa using e
    rw [← e] at hN s0 s1
    obtain ⟨t1, t2⟩ := tm (s := s) (by omega)
    rw [t1, t2]
    have hr : (rows.length : Int) = k := by rw [hk, ints_len]
    refine ⟨⟨by omega, by omega⟩, by omega, fun w => ⟨⟨by omega, by omega⟩, ⟨by omega, by omega⟩, ⟨by omega, by omega⟩, ⟨by omega, by omega⟩, ?_, ?_⟩⟩
    · show MulI n x (ints (rows ++ [[.i (s % 1000000)]])) _ _
      rw [ints_snoc]; exact hN
    · show ((x.length : Int) + 4 - (k + 1)).toNat < ((x.length : Int) + 4 - k).toNat
      omega
  · obtain ⟨f1, f2, f3⟩ := hI.fin (g2 hg)
    exact ⟨⟨f1, by omega, by omega, by omega, by rw [ei, hpt, f3]⟩, hmu⟩

/-! Which is greater -/
theorem big_cmp {k : Nat} {x y : List Int} (hx : digs x) (hy : digs y) (h : bigV (x.drop (k + 1)) = bigV (y.drop (k + 1))) (hne : x.getD k 0 ≠ y.getD k 0) : decide (y.getD k 0 < x.getD k 0) = decide (bigV y ≤ bigV x) := by
  have e1 := bigV_split k x
  have e2 := bigV_split k y
  rw [drop_big x k] at e1
  rw [drop_big y k, ← h] at e2
  have l1 := bigV_low k (x.take k) (fun d hd => hx d (List.mem_of_mem_take hd)) (by simp; omega)
  have l2 := bigV_low k (y.take k) (fun d hd => hy d (List.mem_of_mem_take hd)) (by simp; omega)
  generalize x.getD k 0 = a at *
  generalize y.getD k 0 = b at *
  generalize bigV (x.drop (k + 1)) = H at *
  generalize bigV (x.take k) = A at *
  generalize bigV (y.take k) = B at *
  generalize MM k = P at *
  rw [e1, e2, decide_eq_decide, Int.mul_add, Int.mul_add]
  generalize P * (1000000 * H) = Z at *
  constructor
  · intro hlt
    have : P * (b + 1) ≤ P * a := Int.mul_le_mul_of_nonneg_left (by omega) (by omega)
    rw [Int.mul_add, Int.mul_one] at this
    omega
  · intro hle
    by_cases hlt : b < a
    · exact hlt
    · have : P * (a + 1) ≤ P * b := Int.mul_le_mul_of_nonneg_left (by omega) (by omega)
      rw [Int.mul_add, Int.mul_one] at this
      omega
theorem bigl_ok : tab5.ok 74 := by
  refine Tab.of_ct rfl rfl ⟨_, Try.func74, by decide, rfl⟩ ?_ ctF_det
  refine ct_ok (cx := cbigl) (Tab.cx_ok all_nil) Try.func74 (bds := []) (T := tbigl) (by kernel_rfl) ?_
  unfold tbigl
  simp only [VC, allC, List.map_cons, List.map_nil, List.length_cons, List.length_nil, List.getElem?_cons_zero, List.getElem?_cons_succ, List.cons.injEq, C.i.injEq, C.b.injEq, and_true, true_and, forall_const, kindsOf_nil, kindsOf_lf, kindsOf_agg, kindsOf_box, boxKinds_nil, boxKinds_lf, boxKinds_agg, boxKinds_box, List.append_nil, List.cons_append, List.nil_append, den_cmp_le, den_cmp_lt, den_cmp_eq, den_cmp_ne, den_cmp_le', den_cmp_lt', den_cmp_eq', den_cmp_ne', den_and, den_and', den_or, den_or', den_not, den_not', den_blit, den_of, ev_var, at_0, at_1, at_2, at_3, at_4, at_5, at_6, at_7, at_skip, c_int, c_bool, c_arr, c_cnt, c_vec, ev_nil, ev_join, ev_sub3, loc_s, int_i, bool_b, rows_s, cs_nil, cs_cons, E.den_lit, E.den_var, E.den_add, E.den_sub, E.den_mul, E.den_quo, E.den_rem, E.den_max, E.den_min, E.den_len, E.den_wr, E.den_cell, Nat.reduceAdd, ev_cell, int_at, ctBigL, ctF, longsSh]
  intro u0 r0 _ _ _ u1 r1 _ _ _ hp
  refine ⟨bds_nil _, ?_⟩
  obtain ⟨hx, hy, lx, ly⟩ := hp
  rw [← ints_len r0, ← ints_len r1]
  refine ⟨fun xs => match xs with | [_, .i k] => -1 ≤ k ∧ k ≤ 40 ∧ bigV ((ints r0).drop (k + 1).toNat) = bigV ((ints r1).drop (k + 1).toNat) | _ => False, fun xs => match xs with | [_, .i k] => (k + 1).toNat | _ => 0, ⟨by omega, by omega, ?_⟩, ?_⟩
  · rw [List.drop_eq_nil_of_le (by omega), List.drop_eq_nil_of_le (by omega)]
  rintro t k _ _ ⟨k1, k2, hI⟩
  refine ⟨fun h0 => ?_, fun h0 => ?_⟩
  · rw [show (k + 1).toNat = k.toNat + 1 by omega] at hI
    refine ⟨fun xs => xs = [.i ((ints r0).getD k.toNat 0)], ⟨fun h => ⟨h, rfl⟩, fun h => by rw [getD_none h]⟩, ?_⟩
    rintro a _ _ e
    have e : a = (ints r0).getD k.toNat 0 := by simpa using e
    subst e
    refine ⟨fun xs => xs = [.i ((ints r1).getD k.toNat 0)], ⟨fun h => ⟨h, rfl⟩, fun h => by rw [getD_none h]⟩, ?_⟩
    rintro b _ _ e
    have e : b = (ints r1).getD k.toNat 0 := by simpa using e
    subst e
    refine ⟨fun hne => ?_, fun he => ⟨⟨by omega, by omega, ?_⟩, ?_⟩⟩
    · show decide ((ints r1).getD k.toNat 0 < (ints r0).getD k.toNat 0) = decide (bigV (ints r1) ≤ bigV (ints r0))
      exact big_cmp hx hy hI hne
    · rw [show (k - 1 + 1).toNat = k.toNat by omega, drop_big (ints r0), drop_big (ints r1), hI, he]
    · show (k - 1 + 1).toNat < (k + 1).toNat
      omega
  · rw [show (k + 1).toNat = 0 by omega, List.drop_zero, List.drop_zero] at hI
    show true = decide (bigV (ints r1) ≤ bigV (ints r0))
    rw [hI]
    simp
end Go.Proofs.Ytbgofenplhdllaa
/- House: the loss at a depth. -/
namespace Go.Proofs.Ytbgofenplhdllaa
open Go.RowKit
set_option linter.unusedSimpArgs false
set_option linter.unusedVariables false

theorem wrap_rng (n : Int) : -9223372036854775808 ≤ IntKind.i64.wrap n ∧ IntKind.i64.wrap n ≤ 9223372036854775807 := by
  simp [IntKind.wrap, IntKind.bits, IntKind.signed]
  omega
theorem tdiv_rng {x t : Int} (ht : 1 ≤ t) (h : -9223372036854775808 ≤ x ∧ x ≤ 9223372036854775807) : -9223372036854775808 ≤ x.tdiv t ∧ x.tdiv t ≤ 9223372036854775807 := by
  by_cases h0 : 0 ≤ x
  · rw [Int.tdiv_eq_ediv_of_nonneg h0]
    have h1 := Int.ediv_le_self t h0
    have h2 := Int.ediv_nonneg h0 (show 0 ≤ t by omega)
    omega
  · obtain ⟨y, rfl⟩ : ∃ y, x = -y := ⟨-x, by omega⟩
    rw [Int.neg_tdiv, Int.tdiv_eq_ediv_of_nonneg (by omega)]
    have h1 := Int.ediv_le_self t (show 0 ≤ y by omega)
    have h2 := Int.ediv_nonneg (show 0 ≤ y by omega) (show 0 ≤ t by omega)
    omega
def lossP (cs : List C) : Prop := 1 ≤ n_ cs 3 ∧ (0 ≤ n_ cs 13 ∧ n_ cs 13 ≤ 1000000) ∧ (0 ≤ n_ cs 11 ∧ n_ cs 11 ≤ 1000000) ∧ (1 ≤ n_ cs 12 ∧ n_ cs 12 ≤ 1000000) ∧ holeV [⟨n_ cs 8, n_ cs 3, n_ cs 9, n_ cs 10⟩] = 0 ∧ 0 ≤ n_ cs 39 ∧ n_ cs 39 ≤ n_ cs 3
def lossG (cs : List C) : Int × Bool := gradV ⟨n_ cs 8, n_ cs 3, n_ cs 9, n_ cs 10⟩ (n_ cs 11) (n_ cs 12) (n_ cs 13)
theorem loss_iff {cs : List C} : (1 ≤ n_ cs 3 ∧ inV (n_ cs 13) 0 1000000 = true ∧ inV (n_ cs 11) 0 1000000 = true ∧ inV (n_ cs 12) 1 1000000 = true ∧ holeV [⟨n_ cs 8, n_ cs 3, n_ cs 9, n_ cs 10⟩] = 0 ∧ 0 ≤ n_ cs 39 ∧ n_ cs 39 ≤ n_ cs 3) ↔ lossP cs := by
  unfold lossP
  rw [inV_iff, inV_iff, inV_iff]
theorem lossC_no {cs : List C} (h : ¬ (lossP cs ∧ (lossG cs).2 = true)) : lossC cs = (0, false) := by
  unfold lossC lossV
  rw [if_neg]
  rintro ⟨h1, h2⟩
  exact h ⟨loss_iff.1 h1, h2⟩
theorem lossC_yes {cs : List C} (h : lossP cs) (h2 : (lossG cs).2 = true) : lossC cs = (wr_ ((lossG cs).1 * (wr_ (wr_ (wr_ (n_ cs 39 * n_ cs 8) + n_ cs 3) - 1)).tdiv (n_ cs 3)), true) := by
  unfold lossC lossV
  rw [if_pos ⟨loss_iff.2 h, h2⟩]; rfl
theorem loss_no {cs : List C} (h : ¬ (lossP cs ∧ (lossG cs).2 = true)) : ctLoss.post cs [C.i 0, C.b false] := by
  show [C.i 0, C.b false] = [C.i (lossC cs).1, C.b (lossC cs).2]
  rw [lossC_no h]
theorem loss_yes {cs : List C} (h : lossP cs) (h2 : (lossG cs).2 = true) : ctLoss.post cs [C.i (wr_ ((lossG cs).1 * (wr_ (wr_ (wr_ (n_ cs 39 * n_ cs 8) + n_ cs 3) - 1)).tdiv (n_ cs 3))), C.b true] := by
  show [C.i _, C.b true] = [C.i (lossC cs).1, C.b (lossC cs).2]
  rw [lossC_yes h h2]
theorem loss_ok : tab5.ok 25 := by
  refine Tab.of_ct rfl rfl ⟨_, Try.func25, by decide, rfl⟩ ?_ ctF_det
  refine ct_ok (cx := closs) (Tab.cx_ok (all_cons (up5_ok within_ok) (all_cons hole_ok (all_cons (grad_ok flows_ok) all_nil))) fxloss) Try.func25 (bds := []) (T := tloss) (by kernel_rfl) ?_
  have h1 : closs.ct 45 = some ctHole := rfl
  have h2 : closs.ct 48 = some ctGrad := rfl
  unfold tloss
  refine allC_intro fun cs hcs _ => ?_
  have hl : cs.length = 40 := hcs.len
  refine ⟨bds_nil _, ?_⟩
  simp only [VC, allC, List.map_cons, List.map_nil, List.length_cons, List.length_nil, List.getElem?_cons_zero, List.getElem?_cons_succ, List.cons.injEq, C.i.injEq, C.b.injEq, and_true, true_and, forall_const, kindsOf_nil, kindsOf_lf, kindsOf_agg, kindsOf_box, boxKinds_nil, boxKinds_lf, boxKinds_agg, boxKinds_box, List.append_nil, List.cons_append, List.nil_append, den_cmp_le, den_cmp_lt, den_cmp_eq, den_cmp_ne, den_cmp_le', den_cmp_lt', den_cmp_eq', den_cmp_ne', den_and, den_and', den_or, den_or', den_not, den_not', den_blit, den_of, ev_var, at_0, at_1, at_2, at_3, at_4, at_5, at_6, at_7, at_skip, c_int, c_bool, c_arr, c_cnt, c_vec, ev_nil, ev_join, ev_sub3, loc_s, int_i, bool_b, rows_s, cs_nil, cs_cons, E.den_lit, E.den_var, E.den_add, E.den_sub, E.den_mul, E.den_quo, E.den_rem, E.den_max, E.den_min, E.den_len, E.den_wr, E.den_cell, h1, h2, ctHole, ctGrad, ctF, holeSh, segSh, mudSh, List.append_assoc]
  simp (disch := (rw [hl]; decide)) only [at_lt]
  have e51 : ∀ l, at_ (cs ++ l) 51 = at_ l 11 := fun l => at_end (by rw [hl])
  have e52 : ∀ l, at_ (cs ++ l) 52 = at_ l 12 := fun l => at_end (by rw [hl])
  have e53 : ∀ l, at_ (cs ++ l) 53 = at_ l 13 := fun l => at_end (by rw [hl])
  have e54 : ∀ l, at_ (cs ++ l) 54 = at_ l 14 := fun l => at_end (by rw [hl])
  simp only [e51, e52, e53, e54, at_skip, VC, allC, List.map_cons, List.map_nil, List.length_cons, List.length_nil, List.getElem?_cons_zero, List.getElem?_cons_succ, List.cons.injEq, C.i.injEq, C.b.injEq, and_true, true_and, forall_const, kindsOf_nil, kindsOf_lf, kindsOf_agg, kindsOf_box, boxKinds_nil, boxKinds_lf, boxKinds_agg, boxKinds_box, List.append_nil, List.cons_append, List.nil_append, den_cmp_le, den_cmp_lt, den_cmp_eq, den_cmp_ne, den_cmp_le', den_cmp_lt', den_cmp_eq', den_cmp_ne', den_and, den_and', den_or, den_or', den_not, den_not', den_blit, den_of, ev_var, at_0, at_1, at_2, at_3, at_4, at_5, at_6, at_7, at_skip, c_int, c_bool, c_arr, c_cnt, c_vec, ev_nil, ev_join, ev_sub3, loc_s, int_i, bool_b, rows_s, cs_nil, cs_cons, E.den_lit, E.den_var, E.den_add, E.den_sub, E.den_mul, E.den_quo, E.den_rem, E.den_max, E.den_min, E.den_len, E.den_wr, E.den_cell]
  have no : ¬ lossP cs → ctLoss.post cs [C.i 0, C.b false] := fun h => loss_no fun hx => h hx.1
  refine ⟨fun h => no fun hx => ?_, fun h3 => ⟨fun h13 => ⟨fun h11 => ⟨fun h => no fun hx => ?_, fun h12 => ?_⟩, fun h => no fun hx => ?_⟩, fun h => no fun hx => ?_⟩⟩
  · have : 1 ≤ (at_ cs 3).int := hx.1
    omega
  · have : 1 ≤ (at_ cs 12).int ∧ (at_ cs 12).int ≤ 1000000 := hx.2.2.2.1
    omega
  · intro v n _ _ hn
    have hn : n = holeV [⟨n_ cs 8, n_ cs 3, n_ cs 9, n_ cs 10⟩] := hn
    refine ⟨fun h => no fun hx => h (by rw [hn]; exact hx.2.2.2.2.1), fun h0 => ⟨fun h => no fun hx => ?_, fun h39 => ?_⟩⟩
    · have : 0 ≤ (at_ cs 39).int ∧ (at_ cs 39).int ≤ (at_ cs 3).int := hx.2.2.2.2.2
      omega
    · rintro g _ _ b ⟨hg, hb⟩
      have hg : g = (lossG cs).1 := hg
      have hb : b = (lossG cs).2 := hb
      have hP : lossP cs := ⟨h3, h13, h11, h12, by rw [← hn]; exact h0, h39⟩
      refine ⟨fun h => loss_no fun hx => ?_, fun h => ⟨tdiv_rng h3 (wrap_rng _), ?_⟩⟩
      · rw [hb, hx.2] at h; cases h
      · rw [hg]
        exact loss_yes hP (by rw [← hb]; exact h)
  · have : 0 ≤ (at_ cs 11).int ∧ (at_ cs 11).int ≤ 1000000 := hx.2.2.1
    omega
  · have : 0 ≤ (at_ cs 13).int ∧ (at_ cs 13).int ≤ 1000000 := hx.2.1
    omega
end Go.Proofs.Ytbgofenplhdllaa
/- House: the document's flows and loss. -/
namespace Go.Proofs.Ytbgofenplhdllaa
open Go.RowKit
set_option linter.unusedSimpArgs false
set_option linter.unusedVariables false

theorem big_of {v : Value} {rows : List (List C)} {N : Int} {lim : Nat} (h : ∃ v1 rows1, C.s v rows = C.s v1 rows1 ∧ digs (ints rows1) ∧ (ints rows1).length ≤ lim ∧ bigV (ints rows1) = N) : digs (ints rows) ∧ (ints rows).length ≤ lim ∧ bigV (ints rows) = N := by
  obtain ⟨v1, rows1, e, h⟩ := h
  injection e with e1 e2
  rw [e2]; exact h
theorem rflows_ok : tab5.ok 65 := by
  refine Tab.of_ct rfl rfl ⟨_, Try.func65, by decide, rfl⟩ ?_ ctF_det
  refine ct_ok (cx := crflows) (Tab.cx_ok (all_cons bigp_ok (all_cons biga_ok (all_cons bigl_ok all_nil)))) Try.func65 (bds := []) (T := trflows) (by kernel_rfl) ?_
  have h1 : crflows.ct 72 = some ctBigP := rfl
  have h2 : crflows.ct 73 = some ctBigA := rfl
  have h3 : crflows.ct 74 = some ctBigL := rfl
  unfold trflows
  simp only [VC, allC, List.map_cons, List.map_nil, List.length_cons, List.length_nil, List.getElem?_cons_zero, List.getElem?_cons_succ, List.cons.injEq, C.i.injEq, C.b.injEq, and_true, true_and, forall_const, kindsOf_nil, kindsOf_lf, kindsOf_agg, kindsOf_box, boxKinds_nil, boxKinds_lf, boxKinds_agg, boxKinds_box, List.append_nil, List.cons_append, List.nil_append, den_cmp_le, den_cmp_lt, den_cmp_eq, den_cmp_ne, den_cmp_le', den_cmp_lt', den_cmp_eq', den_cmp_ne', den_and, den_and', den_or, den_or', den_not, den_not', den_blit, den_of, ev_var, at_0, at_1, at_2, at_3, at_4, at_5, at_6, at_7, at_skip, c_int, c_bool, c_arr, c_cnt, c_vec, ev_nil, ev_join, ev_sub3, loc_s, int_i, bool_b, rows_s, cs_nil, cs_cons, E.den_lit, E.den_var, E.den_add, E.den_sub, E.den_mul, E.den_quo, E.den_rem, E.den_max, E.den_min, E.den_len, E.den_wr, E.den_cell, Nat.reduceAdd, h1, h2, h3, ctBigP, ctBigA, ctBigL, ctFlows, ctF, segSh, mudSh, longsSh, n_, flowsC]
  intro l _ _ r _ _ a _ _ g _ _ y _ _ v _ _ t _ _ f _ _ hp
  refine ⟨bds_nil _, ?_⟩
  obtain ⟨hT, hA1, hA2, hB1, hB2⟩ := flow_rng hp
  obtain ⟨ha, hg, hy, hv, ht, hf⟩ := hp
  have hc : -9223372036854775808 ≤ t * g ∧ t * g ≤ 9223372036854775807 := ⟨by omega, by omega⟩
  refine ⟨hc, fun hf0 => flows_zero hf0, fun hf0 => ⟨fun hlow => flows_low hf0 hlow, fun hgt => ?_⟩⟩
  rw [← flows_cmp hf0 hgt]
  rw [show ints [[C.i 2], [C.i (t * g)], [C.i (t * g)], [C.i (t * g)], [C.i g], [C.i a]] = [2, t * g, t * g, t * g, g, a] from rfl, show ints [[C.i y], [C.i y], [C.i y], [C.i g], [C.i a]] = [y, y, y, g, a] from rfl,
    show ints [[C.i 3], [C.i y], [C.i (t * g)], [C.i (t * g)], [C.i g], [C.i a]] = [3, y, t * g, t * g, g, a] from rfl, show ints [[C.i f], [C.i v], [C.i (t * g)], [C.i (t * g)]] = [f, v, t * g, t * g] from rfl]
  generalize t * g = T at *
  have n1 : [2, T, T, T, g, a].length ≤ 6 ∧ ∀ k ∈ [2, T, T, T, g, a], 0 ≤ k ∧ k ≤ 1099511627776 := ⟨by simp, by simp; omega⟩
  have n2 : [y, y, y, g, a].length ≤ 6 ∧ ∀ k ∈ [y, y, y, g, a], 0 ≤ k ∧ k ≤ 1099511627776 := ⟨by simp, by simp; omega⟩
  have n3 : [3, y, T, T, g, a].length ≤ 6 ∧ ∀ k ∈ [3, y, T, T, g, a], 0 ≤ k ∧ k ≤ 1099511627776 := ⟨by simp, by simp; omega⟩
  have n4 : [f, v, T, T].length ≤ 6 ∧ ∀ k ∈ [f, v, T, T], 0 ≤ k ∧ k ≤ 1099511627776 := ⟨by simp, by simp; omega⟩
  generalize prodV [2, T, T, T, g, a] = A1 at *
  generalize prodV [y, y, y, g, a] = A2 at *
  generalize prodV [3, y, T, T, g, a] = B1 at *
  generalize prodV [f, v, T, T] = B2 at *
  refine ⟨fun xs => match xs with | [.s _ rows] => digs (ints rows) ∧ (ints rows).length ≤ 41 ∧ bigV (ints rows) = A1 + A2 | _ => False, ?_, ?_⟩
  · refine ⟨⟨hc, hc, hc, ?_, ?_⟩, hc, hc, hc, ?_⟩ <;>
    · refine ⟨n1, fun v0 r0 d0 _ _ e1 => ⟨n2, fun v2 r2 d2 _ _ e2 => ?_⟩⟩
      obtain ⟨p1, p2, p3⟩ := big_of e1
      obtain ⟨q1, q2, q3⟩ := big_of e2
      refine ⟨⟨p1, q1, p2, q2⟩, fun v4 r4 d4 _ _ e => ?_⟩
      obtain ⟨s1, s2, s3⟩ := big_of e
      exact ⟨s1, s2, by rw [s3, p3, q3]⟩
  · rintro v0 r0 d0 _ _ ⟨j1, j2, j3⟩
    refine ⟨fun xs => match xs with | [.s _ rows] => digs (ints rows) ∧ (ints rows).length ≤ 41 ∧ bigV (ints rows) = B2 + B1 | _ => False, ?_, ?_⟩
    · refine ⟨⟨hc, hc, ⟨n4, fun v1 r1 d1 _ _ e1 => ⟨hc, hc, n3, fun v2 r2 d2 _ _ e2 => ?_⟩⟩, hc, hc, n4, fun v1 r1 d1 _ _ e1 => ⟨n3, fun v2 r2 d2 _ _ e2 => ?_⟩⟩, hc, hc, hc, hc, n4, fun v1 r1 d1 _ _ e1 => ⟨n3, fun v2 r2 d2 _ _ e2 => ?_⟩⟩ <;>
      · obtain ⟨p1, p2, p3⟩ := big_of e1
        obtain ⟨q1, q2, q3⟩ := big_of e2
        refine ⟨⟨p1, q1, p2, q2⟩, fun v4 r4 d4 _ _ e => ?_⟩
        obtain ⟨s1, s2, s3⟩ := big_of e
        exact ⟨s1, s2, by rw [s3, p3, q3]⟩
    · rintro v1 r1 d1 _ _ ⟨k1, k2, k3⟩
      refine ⟨⟨j1, k1, j2, k2⟩, fun t1 h => ?_⟩
      have h : t1 = decide (bigV (ints r1) ≤ bigV (ints r0)) := h
      rw [h, j3, k3, Int.add_comm B2 B1]
theorem rloss_ok : tab5.ok 26 := by
  refine Tab.of_ct rfl rfl ⟨_, Try.func26, by decide, rfl⟩ ?_ ctF_det
  refine ct_ok (cx := crloss) (Tab.cx_ok (all_cons (up5_ok between_ok) (all_cons rhole_ok (all_cons (rgrad_ok rflows_ok) all_nil))) fxrloss) Try.func26 (bds := []) (T := trloss) (by kernel_rfl) ?_
  have h1 : crloss.ct 52 = some ctHole := rfl
  have h2 : crloss.ct 53 = some ctGrad := rfl
  unfold trloss
  refine allC_intro fun cs hcs _ => ?_
  have hl : cs.length = 40 := hcs.len
  refine ⟨bds_nil _, ?_⟩
  simp only [VC, allC, List.map_cons, List.map_nil, List.length_cons, List.length_nil, List.getElem?_cons_zero, List.getElem?_cons_succ, List.cons.injEq, C.i.injEq, C.b.injEq, and_true, true_and, forall_const, kindsOf_nil, kindsOf_lf, kindsOf_agg, kindsOf_box, boxKinds_nil, boxKinds_lf, boxKinds_agg, boxKinds_box, List.append_nil, List.cons_append, List.nil_append, den_cmp_le, den_cmp_lt, den_cmp_eq, den_cmp_ne, den_cmp_le', den_cmp_lt', den_cmp_eq', den_cmp_ne', den_and, den_and', den_or, den_or', den_not, den_not', den_blit, den_of, ev_var, at_0, at_1, at_2, at_3, at_4, at_5, at_6, at_7, at_skip, c_int, c_bool, c_arr, c_cnt, c_vec, ev_nil, ev_join, ev_sub3, loc_s, int_i, bool_b, rows_s, cs_nil, cs_cons, E.den_lit, E.den_var, E.den_add, E.den_sub, E.den_mul, E.den_quo, E.den_rem, E.den_max, E.den_min, E.den_len, E.den_wr, E.den_cell, ev_cell, h1, h2, ctHole, ctGrad, ctF, holeSh, segSh, mudSh, List.append_assoc]
  simp (disch := (rw [hl]; decide)) only [at_lt]
  have e41 : ∀ l, at_ (cs ++ l) 41 = at_ l 1 := fun l => at_end (by rw [hl])
  have e43 : ∀ l, at_ (cs ++ l) 43 = at_ l 3 := fun l => at_end (by rw [hl])
  have e44 : ∀ l, at_ (cs ++ l) 44 = at_ l 4 := fun l => at_end (by rw [hl])
  have e45 : ∀ l, at_ (cs ++ l) 45 = at_ l 5 := fun l => at_end (by rw [hl])
  simp only [e41, e43, e44, e45, at_skip, VC, allC, List.map_cons, List.map_nil, List.length_cons, List.length_nil, List.getElem?_cons_zero, List.getElem?_cons_succ, List.cons.injEq, C.i.injEq, C.b.injEq, and_true, true_and, forall_const, kindsOf_nil, kindsOf_lf, kindsOf_agg, kindsOf_box, boxKinds_nil, boxKinds_lf, boxKinds_agg, boxKinds_box, List.append_nil, List.cons_append, List.nil_append, den_cmp_le, den_cmp_lt, den_cmp_eq, den_cmp_ne, den_cmp_le', den_cmp_lt', den_cmp_eq', den_cmp_ne', den_and, den_and', den_or, den_or', den_not, den_not', den_blit, den_of, ev_var, at_0, at_1, at_2, at_3, at_4, at_5, at_6, at_7, at_skip, c_int, c_bool, c_arr, c_cnt, c_vec, ev_nil, ev_join, ev_sub3, loc_s, int_i, bool_b, rows_s, cs_nil, cs_cons, E.den_lit, E.den_var, E.den_add, E.den_sub, E.den_mul, E.den_quo, E.den_rem, E.den_max, E.den_min, E.den_len, E.den_wr, E.den_cell]
  have no : ¬ lossP cs → ctLoss.post cs [C.i 0, C.b false] := fun h => loss_no fun hx => h hx.1
  intro v
  refine ⟨fun h13 => ⟨fun h11 => ⟨fun h => no fun hx => ?_, fun h12 => ?_⟩, fun h => no fun hx => ?_⟩, fun h => no fun hx => ?_⟩
  · have : 1 ≤ (at_ cs 12).int ∧ (at_ cs 12).int ≤ 1000000 := hx.2.2.2.1
    omega
  · intro n _ _ hn
    have hn : n = holeV [⟨n_ cs 8, n_ cs 3, n_ cs 9, n_ cs 10⟩] := hn
    refine ⟨fun h => no fun hx => h (by rw [hn]; exact hx.2.2.2.2.1), fun h0 => ⟨fun h => no fun hx => ?_, fun h3 => ⟨fun h => no fun hx => ?_, fun h39 => ⟨fun h => no fun hx => ?_, fun h40 => ⟨by omega, ?_⟩⟩⟩⟩⟩
    · have : 1 ≤ (at_ cs 3).int := hx.1
      omega
    · have : 0 ≤ (at_ cs 39).int ∧ (at_ cs 39).int ≤ (at_ cs 3).int := hx.2.2.2.2.2
      omega
    · have : 0 ≤ (at_ cs 39).int ∧ (at_ cs 39).int ≤ (at_ cs 3).int := hx.2.2.2.2.2
      omega
    · rintro g _ _ b ⟨hg, hb⟩
      have hg : g = (lossG cs).1 := hg
      have hb : b = (lossG cs).2 := hb
      have hP : lossP cs := ⟨h3, h13, h11, h12, by rw [← hn]; exact h0, h39, h40⟩
      refine ⟨fun h => loss_no fun hx => ?_, fun h => ⟨tdiv_rng h3 (wrap_rng _), ?_⟩⟩
      · rw [hb, hx.2] at h; cases h
      · rw [hg]
        exact loss_yes hP (by rw [← hb]; exact h)
  · have : 0 ≤ (at_ cs 11).int ∧ (at_ cs 11).int ≤ 1000000 := hx.2.2.1
    omega
  · have : 0 ≤ (at_ cs 13).int ∧ (at_ cs 13).int ≤ 1000000 := hx.2.1
    omega
end Go.Proofs.Ytbgofenplhdllaa
/- House: HousePressures, walked. -/
namespace Go.Proofs.Ytbgofenplhdllaa
open Go.RowKit
set_option linter.unusedSimpArgs false
set_option linter.unusedVariables false

theorem lpress_ok : CtOK Try.prog 7 (ctLaw [phaseSh, .lf .int]) := by
  refine ct_ok (cx := clpress) (Tab.cx_ok (all_cons (up6_ok (up_ok static_ok)) (all_cons (up6_ok (up_ok rstatic_ok)) (all_cons (up65_ok loss_ok) (all_cons (up65_ok rloss_ok) (all_cons (up6_ok (up_ok awake_ok)) all_nil)))))) Try.func7 (bds := []) (T := tlpress) (by kernel_rfl) ?_
  have h1 : clpress.ct 27 = some ctStatic := rfl
  have h2 : clpress.ct 28 = some ctStatic := rfl
  have h3 : clpress.ct 25 = some ctLoss := rfl
  have h4 : clpress.ct 26 = some ctLoss := rfl
  have h5 : clpress.ct 12 = some ctAwake := rfl
  unfold tlpress
  refine allC_intro fun cs hcs _ => ?_
  have hl : cs.length = 40 := hcs.len
  refine ⟨bds_nil _, ?_⟩
  simp only [VC, allC, List.map_cons, List.map_nil, List.length_cons, List.length_nil, List.getElem?_cons_zero, List.getElem?_cons_succ, List.cons.injEq, C.i.injEq, C.b.injEq, and_true, true_and, forall_const, kindsOf_nil, kindsOf_lf, kindsOf_agg, kindsOf_box, boxKinds_nil, boxKinds_lf, boxKinds_agg, boxKinds_box, List.append_nil, List.cons_append, List.nil_append, den_cmp_le, den_cmp_lt, den_cmp_eq, den_cmp_ne, den_cmp_le', den_cmp_lt', den_cmp_eq', den_cmp_ne', den_and, den_and', den_or, den_or', den_not, den_not', den_blit, den_of, ev_var, at_0, at_1, at_2, at_3, at_4, at_5, at_6, at_7, at_skip, c_int, c_bool, c_arr, c_cnt, c_vec, ev_nil, ev_join, ev_sub3, loc_s, int_i, bool_b, rows_s, cs_nil, cs_cons, E.den_lit, E.den_var, E.den_add, E.den_sub, E.den_mul, E.den_quo, E.den_rem, E.den_max, E.den_min, E.den_len, E.den_wr, E.den_cell, h1, h2, h3, h4, h5, ctStatic, ctLoss, ctAwake, ctF, phaseSh, phaseKs, List.append_assoc]
  simp (disch := (rw [hl]; decide)) only [at_lt]
  have e40 : ∀ l, at_ (cs ++ l) 40 = at_ l 0 := fun l => at_end (by rw [hl])
  have e41 : ∀ l, at_ (cs ++ l) 41 = at_ l 1 := fun l => at_end (by rw [hl])
  have e42 : ∀ l, at_ (cs ++ l) 42 = at_ l 2 := fun l => at_end (by rw [hl])
  have e43 : ∀ l, at_ (cs ++ l) 43 = at_ l 3 := fun l => at_end (by rw [hl])
  have e44 : ∀ l, at_ (cs ++ l) 44 = at_ l 4 := fun l => at_end (by rw [hl])
  have e45 : ∀ l, at_ (cs ++ l) 45 = at_ l 5 := fun l => at_end (by rw [hl])
  have e46 : ∀ l, at_ (cs ++ l) 46 = at_ l 6 := fun l => at_end (by rw [hl])
  simp only [e40, e41, e42, e43, e44, e45, e46, at_skip, VC, allC, List.map_cons, List.map_nil, List.length_cons, List.length_nil, List.getElem?_cons_zero, List.getElem?_cons_succ, List.cons.injEq, C.i.injEq, C.b.injEq, and_true, true_and, forall_const, kindsOf_nil, kindsOf_lf, kindsOf_agg, kindsOf_box, boxKinds_nil, boxKinds_lf, boxKinds_agg, boxKinds_box, List.append_nil, List.cons_append, List.nil_append, den_cmp_le, den_cmp_lt, den_cmp_eq, den_cmp_ne, den_cmp_le', den_cmp_lt', den_cmp_eq', den_cmp_ne', den_and, den_and', den_or, den_or', den_not, den_not', den_blit, den_of, ev_var, at_0, at_1, at_2, at_3, at_4, at_5, at_6, at_7, at_skip, c_int, c_bool, c_arr, c_cnt, c_vec, ev_nil, ev_join, ev_sub3, loc_s, int_i, bool_b, rows_s, cs_nil, cs_cons, E.den_lit, E.den_var, E.den_add, E.den_sub, E.den_mul, E.den_quo, E.den_rem, E.den_max, E.den_min, E.den_len, E.den_wr, E.den_cell]
  intro n _ _ b h
  obtain ⟨rfl, rfl⟩ : n = (lossC cs).1 ∧ b = (lossC cs).2 := h
  intro n _ _ b h
  obtain ⟨rfl, rfl⟩ : n = (lossC cs).1 ∧ b = (lossC cs).2 := h
  refine ⟨fun xs => xs = [.b true, .b true], ?_, ?_⟩
  · intro s _ _ h
    have h : s = staticV cs (n_ cs 39) := h
    intro s' _ _ h'
    have h' : s' = staticV cs (n_ cs 39) := h'
    refine ⟨fun _ => ⟨fun _ => ⟨fun _ t ht => by rw [ht], fun hb => ?_⟩, fun hn => absurd rfl hn⟩, fun hn => absurd (h.trans h'.symm) hn⟩
    have hb : ((at_ (cs ++ [C.i (lossC cs).1, C.b (lossC cs).2, C.i (lossC cs).1, C.b (lossC cs).2, C.i s, C.i s']) 41).bool == (at_ (cs ++ [C.i (lossC cs).1, C.b (lossC cs).2, C.i (lossC cs).1, C.b (lossC cs).2, C.i s, C.i s']) 43).bool) = false := hb
    rw [e41, e43] at hb
    simp [at_, C.bool] at hb
  · intro t t1 h
    have h : [C.b t, C.b t1] = [C.b true, C.b true] := h
    simp at h
    show [C.b t1] = [C.b true]
    rw [h.2]
end Go.Proofs.Ytbgofenplhdllaa
/- Arguments of any shape that the engine knows, opened: structs, and slices within slices. -/
namespace Go.Proofs.Ytbgofenplhdllaa
open Go.ChangeShapes Go.WideShapes Go.RowKit
set_option linter.unusedVariables false
/-- A type of integers, truth values and slices, without arrays. -/
def flatB (P : Program) : Nat → TypeId → Bool
  | 0, _ => false
  | d + 1, t => match P.underlying t with
    | some (.int .i64) => true
    | some .bool => true
    | some (.slice _) => true
    | some (.struct fs) => fs.toList.all fun f => flatB P d f.type
    | _ => false
/-- What a slice of this kind holds is known, to depth n. -/
def deepB (P : Program) : Nat → Lk → Bool
  | _, .int => true
  | _, .bool => true
  | n + 1, .arr e => match kinds P e with
    | some ks => ks.all (deepB P n) && (P.cellsOf e == ks.length) && flatB P 6 e
    | none => false
  | _, _ => false
def CellN (P : Program) (w : World) (n : Nat) (k : Lk) (u : Value) (c : C) : Prop := (∀ m, c.small m) ∧ match k with
  | .int => ∃ n, u = .int .i64 n ∧ c = .i n
  | .bool => ∃ t, u = .bool t ∧ c = .b t
  | .arr t => ∃ rows', c = .s u rows' ∧ ArrN P (fun b _ => b < w.heap.size) w n t u rows'
  | .vec _ | .opq => False
def kStep (P : Program) (d : Nat) (acc : Option (List Lk)) (f : Field) : Option (List Lk) := match acc, kindsF P d f.type with
  | some l, some m => if l.length = f.offset then some (l ++ m) else none
  | _, _ => none
theorem kStep_none {P : Program} {d : Nat} : ∀ {fs : List Field}, fs.foldl (kStep P d) none = none
  | [] => rfl
  | f :: fs => by rw [List.foldl_cons]; exact kStep_none
theorem kStep_at {P : Program} {d : Nat} : ∀ {fs : List Field} {a ks : List Lk}, fs.foldl (kStep P d) (some a) = some ks → ∀ (j : Nat) (k : Lk), ks[j]? = some k →
    a[j]? = some k ∨ ∃ f ∈ fs, ∃ m, kindsF P d f.type = some m ∧ f.offset ≤ j ∧ m[j - f.offset]? = some k
  | [], a, ks, h, j, k, hj => by cases h; exact .inl hj
  | f :: fs, a, ks, h, j, k, hj => by
    rw [List.foldl_cons] at h
    cases hm : kindsF P d f.type with
    | none => rw [show kStep P d (some a) f = none by simp [kStep, hm], kStep_none] at h; cases h
    | some m =>
      by_cases hl : a.length = f.offset
      · rw [show kStep P d (some a) f = some (a ++ m) by simp [kStep, hm, hl]] at h
        rcases kStep_at h j k hj with h1 | ⟨g, hg, m', h2⟩
        · by_cases hja : j < a.length
          · rw [List.getElem?_append_left hja] at h1; exact .inl h1
          · rw [List.getElem?_append_right (by omega), hl] at h1
            exact .inr ⟨f, List.mem_cons_self .., m, hm, by omega, h1⟩
        · exact .inr ⟨g, List.mem_cons_of_mem _ hg, m', h2⟩
      · rw [show kStep P d (some a) f = none by simp [kStep, hm, hl], kStep_none] at h; cases h
theorem kinds_F {P : Program} {t : TypeId} {ks : List Lk} (h : kinds P t = some ks) : kindsF P 6 t = some ks := by
  unfold kinds at h
  split at h
  · rename_i l hl
    split at h
    · cases h; exact hl
    · cases h
  · cases h
section
variable {H : Type} {enc : TypeId × Value → H} {P : Program} {w : World} {base : Nat} {spare : Nat → Bool} {held : Bool}
theorem small_int {n : Int} (h : -9223372036854775808 ≤ n ∧ n ≤ 9223372036854775807) : ∀ m, (C.i n).small m := fun m => by cases m <;> exact h
theorem cells_deep : ∀ (fuel n d : Nat) (t : TypeId) (ks : List Lk) (cs : List Value) (x : DataW H × List MemPlace), kindsF P d t = some ks → flatB P d t = true →
    DataW.trod enc P w base spare held fuel t cs = some x → ∀ (j : Nat) (k : Lk), ks[j]? = some k → deepB P n k = true → ∃ u c, cs[j]? = some u ∧ CellN P w n k u c := by
  intro fuel
  induction fuel with
  | zero => intro n d t ks cs x _ _ hx; simp [DataW.trod] at hx
  | succ fuel ih =>
    intro n d t ks cs x hk hfl hx j k hj hall
    cases d with
    | zero => simp [kindsF] at hk
    | succ d =>
      unfold flatB at hfl
      cases hu : P.underlying t with
      | none => rw [hu] at hfl; cases hfl
      | some ty =>
      rw [hu] at hfl
      unfold kindsF at hk
      rw [hu] at hk
      match ty, hu, hfl, hk with
      | .int .i64, hu, hfl, hk =>
        cases hk
        obtain ⟨z, rfl, -, hwf⟩ := DataW.trod_int hu hx
        match j, hj with
        | 0, hj => cases hj; exact ⟨_, .i z, rfl, small_int (wf_bd hwf), z, rfl, rfl⟩
      | .bool, hu, hfl, hk =>
        cases hk
        obtain ⟨z, rfl, -⟩ := DataW.trod_bool hu hx
        match j, hj with
        | 0, hj => cases hj; exact ⟨_, .b z, rfl, fun m => by cases m <;> trivial, z, rfl, rfl⟩
      | .slice e, hu, hfl, hk =>
        cases hk
        match j, hj with
        | 0, hj =>
        cases hj
        cases n with
        | zero => simp [deepB] at hall
        | succ n =>
        have hd : deepB P (n + 1) (.arr e) = true := hall
        unfold deepB at hd
        cases hke : kinds P e with
        | none => rw [hke] at hd; cases hd
        | some kse =>
        rw [hke] at hd
        simp only [Bool.and_eq_true, beq_iff_eq] at hd
        obtain ⟨⟨hd1, hd2⟩, hd3⟩ := hd
        rcases DataW.trod_slice hu hx with ⟨rfl, -⟩ | ⟨a, len, cap, elems, rest, m, hm, rfl, -, -, hl, hc, hlen, hel, -, -⟩
        · refine ⟨_, .s (.slice none 0 0) [], rfl, fun m => ?_, [], rfl, kse, hke, none, 0, rfl, fun h => absurd rfl h⟩
          cases m with
          | zero => trivial
          | succ m => exact ⟨by simp, fun r hr => by cases hr⟩
        · cases hm
          have each : ∀ i, i < len → ∀ (j : Nat) (k : Lk), kse[j]? = some k → ∃ u c, w.cell? (a.add (i * kse.length + j)) = some u ∧ CellN P w n k u c := by
            intro i hi j k hj
            have h1 := hel i hi
            rw [List.getElem?_eq_getElem (by omega), hd2] at h1
            obtain ⟨cs', h2, h3⟩ := Option.bind_eq_some_iff.1 h1
            obtain ⟨_, hlen', hcell⟩ := World.cells?_some h2
            obtain ⟨u, c, h4, h5⟩ := ih n 6 e kse cs' _ (kinds_F hke) hd3 h3 j k hj (List.all_eq_true.1 hd1 k (List.mem_of_getElem? hj))
            refine ⟨u, c, ?_, h5⟩
            have hjl : j < kse.length := by
              rcases Nat.lt_or_ge j kse.length with h | h
              · exact h
              · rw [List.getElem?_eq_none h] at hj; cases hj
            rw [← h4, ← hcell j hjl, Go.Deep.add_add]
          have each2 : ∀ i j, ∃ c : C, i < len → ∀ k, kse[j]? = some k → ∃ u, w.cell? (a.add (i * kse.length + j)) = some u ∧ CellN P w n k u c := by
            intro i j
            by_cases hi : i < len
            · cases hj : kse[j]? with
              | none => exact ⟨.i 0, fun _ k h => by cases h⟩
              | some k =>
                obtain ⟨u, c, h1, h2⟩ := each i hi j k hj
                exact ⟨c, fun _ k' h => by cases h; exact ⟨u, h1, h2⟩⟩
            · exact ⟨.i 0, fun h => absurd h hi⟩
          let f : Nat → Nat → C := fun i j => (each2 i j).choose
          have hf : ∀ i j, i < len → ∀ k, kse[j]? = some k → ∃ u, w.cell? (a.add (i * kse.length + j)) = some u ∧ CellN P w n k u (f i j) := fun i j => (each2 i j).choose_spec
          let rows : List (List C) := (List.range len).map fun i => (List.range kse.length).map fun j => f i j
          have hrl : rows.length = len := by simp [rows]
          refine ⟨_, .s (.slice (some a) len cap) rows, rfl, fun q => ?_, rows, rfl, kse, hke, some a, cap, by rw [hrl], fun hne => ?_⟩
          · cases q with
            | zero => trivial
            | succ q =>
              refine ⟨by rw [hrl]; unfold maxLen at hc; omega, fun r hr c hcr => ?_⟩
              obtain ⟨i, hi, rfl⟩ := List.mem_map.1 hr
              obtain ⟨j, hj, rfl⟩ := List.mem_map.1 hcr
              rw [List.mem_range] at hi hj
              obtain ⟨u, -, h⟩ := hf i j hi _ (List.getElem?_eq_getElem hj)
              exact h.1 q
          · have hpos : 0 < len := by
              rcases Nat.eq_zero_or_pos len with h | h
              · exact absurd (List.eq_nil_of_length_eq_zero (by rw [hrl]; exact h)) hne
              · exact h
            have hk0 : 0 < kse.length := Nat.pos_of_ne_zero (kinds_size hke).2
            obtain ⟨u0, h0, -⟩ := hf 0 0 hpos _ (List.getElem?_eq_getElem hk0)
            obtain ⟨b, o, s⟩ := a
            have hs : s = none := by simpa [Addr.add] using World.cell?_spot h0
            subst hs
            have hblk : b < w.heap.size := by
              have := World.block_lt_of_cell? _ _ h0
              simpa [Addr.add] using this
            refine ⟨b, o, rfl, by rw [hrl]; exact hl, fun i r hi => ?_⟩
            have hi' : i < len := by
              rcases Nat.lt_or_ge i len with h | h
              · exact h
              · rw [List.getElem?_eq_none (by rw [hrl]; exact h)] at hi; cases hi
            have hr : r = (List.range kse.length).map fun j => f i j := by
              simp only [rows, List.getElem?_map, List.getElem?_range hi', Option.map_some] at hi
              exact (Option.some.inj hi).symm
            subst hr
            refine ⟨by simp, fun j k hj => ⟨hblk, ?_⟩⟩
            have hjl : j < kse.length := by
              rcases Nat.lt_or_ge j kse.length with h | h
              · exact h
              · rw [List.getElem?_eq_none h] at hj; cases hj
            obtain ⟨u, h1, h2⟩ := hf i j hi' k hj
            refine ⟨u, f i j, by rw [← Go.WideShapes.add_plain]; exact h1, by simp [List.getElem?_range hjl], ?_⟩
            exact h2.2
      | .struct fs, hu, hfl, hk =>
        obtain ⟨xs, m, hm, -, -, hxl, hf⟩ := DataW.trod_struct hu hx
        cases hm
        have hk' : fs.toList.foldl (kStep P d) (some []) = some ks := hk
        rcases kStep_at hk' j k hj with h | ⟨f, hfm, m', hm', ho, hmj⟩
        · simp at h
        · obtain ⟨i, hi⟩ := List.mem_iff_getElem?.1 hfm
          have hi' : fs[i]? = some f := by rw [← hi]; simp
          have hil : i < xs.length := by
            rw [hxl]
            rcases Nat.lt_or_ge i fs.size with h | h
            · exact h
            · rw [Array.getElem?_eq_none h] at hi'; cases hi'
          have hg := hf i f hi'
          rw [List.getElem?_eq_getElem hil] at hg
          obtain ⟨u, c, h1, h2⟩ := ih n d f.type m' _ _ hm' (List.all_eq_true.1 hfl f hfm) hg (j - f.offset) k hmj hall
          refine ⟨u, c, ?_, h2⟩
          rw [List.getElem?_take] at h1
          split at h1
          · rw [List.getElem?_drop] at h1
            rw [← h1]; congr 1; omega
          · cases h1
theorem CellN.rep {n : Nat} {k : Lk} {u : Value} {c : C} (h : CellN P w n k u c) : LRep P w (fun _ _ => False) k u c := by
  refine ⟨h.1, ?_⟩
  cases k with
  | int => exact h.2
  | bool => exact h.2
  | arr t =>
    obtain ⟨rows, rfl, hA⟩ := h.2
    exact ⟨rfl, u, rows, rfl, n, _, fun b o hb => ⟨hb, fun h => h⟩, hA⟩
  | vec t => exact h.2.elim
  | opq => exact h.2.elim
theorem lreps_of : ∀ {ks : List Lk} {us : List Value} {n : Nat}, us.length = ks.length → (∀ (j : Nat) (k : Lk), ks[j]? = some k → ∃ u c, us[j]? = some u ∧ CellN P w n k u c) → ∃ rs, LReps P w (fun _ _ => False) ks us rs
  | [], [], _, _, _ => ⟨[], trivial⟩
  | k :: ks, u :: us, n, hl, h => by
    obtain ⟨u', c, hu, hc⟩ := h 0 k rfl
    cases hu
    obtain ⟨rs, hr⟩ := lreps_of (ks := ks) (us := us) (n := n) (by simpa using hl) fun j k hj => h (j + 1) k hj
    exact ⟨c :: rs, hc.rep, hr⟩
  | [], _ :: _, _, hl, _ => by simp at hl
  | _ :: _, [], _, hl, _ => by simp at hl
/-- A struct of integers, truth values and slices among the arguments. -/
theorem open_agg {r : Reach} {b0 n : Nat} {t : TypeId} {fs : Array Field} {v : Value} {d : DataW H} {p : List MemPlace} {ks : List Lk} (hu : P.underlying t = some (.struct fs)) (hk : kindsF P 6 t = some ks) (hfl : flatB P 6 t = true)
    (hd : ks.all (deepB P n) = true) (hc : P.cellsOf t = ks.length) (hv : Value.okWide P w r b0 t v) (hx : DataW.Trod enc P w base spare held t v d p) :
    ∃ us : List Value, v = .agg us.toArray ∧ ∃ rs, LReps P w (fun _ _ => False) ks us rs := by
  obtain ⟨cs, rfl, hsz⟩ := okWide_struct hu hv
  obtain ⟨fuel, hf⟩ := hx
  have hf : DataW.trod enc P w base spare held fuel t cs.toList = some (d, p) := hf
  obtain ⟨-, -, -, -, hlen, -, -⟩ := DataW.trod_struct hu hf
  exact ⟨cs.toList, by simp, lreps_of (n := n) (hlen.trans hc) fun j k hj => cells_deep fuel n 6 t ks _ _ hk hfl hf j k hj (List.all_eq_true.1 hd k (List.mem_of_getElem? hj))⟩
end
theorem rep_struct {W : World} {O : Nat → Nat → Prop} {ss : List Sh0} {vs : List Value} {cs rs : List C} {us : List Value} {ks : List Lk} {old : Option Nat} (h : LReps Try.prog W O ks us rs) (hr : Reps Try.prog W O old ss vs cs) :
    Reps Try.prog W O old (.agg ks :: ss) (.agg us.toArray :: vs) (rs ++ cs) :=
  ⟨rs, _, rfl, ⟨us, rfl, h⟩, hr⟩
end Go.Proofs.Ytbgofenplhdllaa
/- The call of HousePressures. -/
namespace Go.Proofs.Ytbgofenplhdllaa
open Go.RowKit
theorem walk_HousePressures (V0 : Value) (a1 : Int) (W : World) (h0 : ∃ us : List Value, V0 = .agg us.toArray ∧ ∃ rs, LReps Try.prog W (fun _ _ => False) phaseKs us rs) (h1 : -9223372036854775808 ≤ a1 ∧ a1 ≤ 9223372036854775807) :
    Calls Try.prog 7 #[V0, .int .i64 a1] W fun e w' => e = .returned (.bool true) ∧ Below W.heap.size W w' := by
  obtain ⟨us0, rfl, rs0, h0⟩ := h0
  exact law_walk lpress_ok rfl (rep_struct h0 (rep_lf h1 rfl))
end Go.Proofs.Ytbgofenplhdllaa
