/- Texts laid into one: XS XS2 XS3 S T XS4 X12 A C B D N G Mp Hd Hs X8. -/
import Derived.Test.YtlbgcjpkegpmlaaKnown5
import Derived.Below
import Derived.Test.YtlbgcjpkegpmlaaProg
import Derived.WalkKit
import Derived.WalkLawsBesides
import Derived.Lib.Hide
import Derived.Deep.QuietTactic
import Derived.BigQuiet
import Derived.Handy
import Derived.Deep.LoopGhost
import Derived.Deep.RegionHeld3
import Derived.Deep.OwnRows
import Derived.KernelRfl
import Derived.Maps.Keyed
import Derived.Maps.Range
import Derived.Carry
/- What each function of the program computes: the table. -/
namespace Go.Proofs.Ytlbgcjpkegpmlaa
set_option linter.unusedVariables false

def withinI : Inl := fun bd l => match l with
  | [.lf (.int n), .lf (.int a), .lf (.int b)] => some (rngL bd (cellsOf [] l), .lf (.bool (.and (B.mkCmp bd .le a n) (B.mkCmp bd .le n b))))
  | _ => none
def fairI : Inl := fun bd l => match l with
  | [.agg [.int lo, .int hi], .lf (.int a), .lf (.int b)] => some (rngL bd (cellsOf [] l), .lf (.bool (.and (B.mkCmp bd .le a lo) (.and (B.mkCmp bd .le lo hi) (B.mkCmp bd .le hi b)))))
  | _ => none
def ctWithin : Ct := ctF [.lf .int, .lf .int, .lf .int] [.lf .bool] (fun _ => True) (fun cs => match cs with | [.i n, .i a, .i b] => [.b (decide (a ≤ n) && decide (n ≤ b))] | _ => [])
def ctFair : Ct := ctF [.agg [.int, .int], .lf .int, .lf .int] [.lf .bool] (fun _ => True) (fun cs => match cs with | [.i lo, .i hi, .i a, .i b] => [.b (decide (a ≤ lo) && (decide (lo ≤ hi) && decide (hi ≤ b)))] | _ => [])
def ctFloor : Ct := ctF [.lf .int, .lf .int] [.lf .int] (fun cs => match cs with | [.i _, .i b] => 0 < b | _ => False) (fun cs => match cs with | [.i a, .i b] => [.i (a / b)] | _ => [])

def ShutOK (pl ph cl ch gl gh we de ar : Int) : Prop :=
  0 ≤ pl ∧ pl ≤ ph ∧ ph ≤ 68719476736 ∧ 0 ≤ cl ∧ cl ≤ ch ∧ ch ≤ 68719476736 ∧ 1 ≤ we ∧ we ≤ 40000 ∧ 1 ≤ de ∧ de ≤ 1048576 ∧ 1 ≤ ar ∧ ar ≤ 5000 ∧ ar ≤ gl ∧ gl ≤ gh ∧ gh ≤ 1073741824
instance {pl ph cl ch gl gh we de ar : Int} : Decidable (ShutOK pl ph cl ch gl gh we de ar) := by unfold ShutOK; infer_instance
def shutE (pl ph cl ch gl gh we de ar : Int) : Int := if ShutOK pl ph cl ch gl gh we de ar then (if cl < ph then 11 else 0) else 2
def kindW (lo hi : Int) : Int := if hi ≤ 3500 then 1 else if 9000 ≤ lo then 3 else if 3500 < lo ∧ hi < 9000 then 2 else 4
def identL (pl ph cl ch gl gh we de ar : Int) : List C :=
  if shutE pl ph cl ch gl gh we de ar = 0 then
    let hl := gl / ar
    let hh := (gh + ar - 1) / ar
    let wl := we + (pl - ch) / hl
    let wh := we - (cl - ph) / hh
    [.i (pl + we * de), .i (ph + we * de), .i hl, .i hh, .i wl, .i wh, .i (kindW wl wh), .i 0]
  else [.i 0, .i 0, .i 0, .i 0, .i 0, .i 0, .i 0, .i (shutE pl ph cl ch gl gh we de ar)]
def shutSh : Sh0 := .agg [.int, .int, .int, .int, .int, .int, .int, .int, .int]
def ingSh : Sh0 := .agg [.int, .int, .int, .int, .int, .int, .int]
def ctShut : Ct := ctF [shutSh] [.lf .int] (fun _ => True) (fun cs => match cs with | [.i a, .i b, .i c, .i d, .i e, .i f, .i g, .i h, .i i] => [.i (shutE a b c d e f g h i)] | _ => [])
def ctIdent : Ct := ctF [shutSh] [ingSh, .lf .int] (fun _ => True) (fun cs => match cs with | [.i a, .i b, .i c, .i d, .i e, .i f, .i g, .i h, .i i] => identL a b c d e f g h i | _ => [])
def ctAwake : Ct := ctF [] [.lf .bool] (fun _ => True) (fun _ => [.b true])

/-! The ring of numbers -/
def ringSh : Sh0 := .box 99 [.arr 3, .int]
def ctMod : Ct := ctF [.lf .int, .lf .int] [.lf .int] (fun cs => match cs with | [.i _, .i m] => 1 ≤ m ∧ m ≤ 4611686018427387904 | _ => False) (fun cs => match cs with | [.i n, .i m] => [.i (n % m)] | _ => [])
def ctNewRing : Ct := ctF [.lf (.arr 3)] [ringSh] (fun _ => True) (fun cs => match cs with | [c] => [c, .i 0] | _ => [])
def ctNext : Ct := ⟨[ringSh, .lf .int], [.lf .int], fun cs => match cs with | [.s _ _, .i at_, .i n] => 0 ≤ at_ ∧ at_ ≤ 1000000 ∧ 1 ≤ n | _ => False,
  fun cs rs => match cs, rs with | [.s v rows, .i at_, .i n], [.i x, .s v' rows', .i at'] => 0 ≤ x ∧ x < n ∧ v' = v ∧ rows' = rows ∧ at' = at_ + 1 | _, _ => False, false⟩
def atPre (n : Int) (cs : List C) : Prop := match cs with | [.s _ _, .i at_] => 0 ≤ at_ ∧ at_ ≤ n | _ => False
def ctKickOf : Ct := ⟨[ringSh], [.agg [.int, .int]], atPre 100000,
  fun cs rs => match cs, rs with | [.s v rows, .i at_], [.i a, .i b, .s v' rows', .i at'] => 0 ≤ a ∧ a ≤ 9998 ∧ 0 ≤ b ∧ b ≤ 299 ∧ v' = v ∧ rows' = rows ∧ at' = at_ + 4 | _, _ => False, false⟩
def ShutGood (pl ph cl ch gl gh we de ar : Int) : Prop :=
  9000 ≤ we ∧ we < 21000 ∧ 1 ≤ de ∧ de ≤ 400000 ∧ 1 ≤ ar ∧ ar ≤ 500 ∧ 0 ≤ pl ∧ pl < 1048576 ∧ pl ≤ ph ∧ ph ≤ pl + 524288 ∧ ph ≤ cl ∧ cl ≤ ph + 209715200 ∧ cl ≤ ch ∧ ch ≤ cl + 524288 ∧ ar ≤ gl ∧ gl < ar + 1048576 ∧ gl ≤ gh ∧ gh ≤ gl + 32768
def ctShutOf : Ct := ⟨[ringSh], [shutSh], atPre 100000,
  fun cs rs => match rs with | [.i a, .i b, .i c, .i d, .i e, .i f, .i g, .i h, .i i, .s _ _, .i _] => ShutGood a b c d e f g h i | _ => False, false⟩
def ctLWithin : Ct := ctF [.agg [.int, .int], .lf .int] [.agg [.int, .int]] (fun cs => match cs with | [.i lo, .i hi, .i _] => 0 ≤ lo ∧ lo ≤ hi ∧ hi ≤ 1099511627776 | _ => False)
  (fun cs => match cs with | [.i lo, .i hi, .i n] => [.i (lo + n % (hi - lo + 1)), .i (lo + n % (hi - lo + 1))] | _ => [])
def inI : Inl := fun bd l => match l with
  | [.agg [.int a, .int b], .agg [.int c, .int d]] => some (rngL bd (cellsOf [] l), .lf (.bool (.and (B.mkCmp bd .le c a) (B.mkCmp bd .le b d))))
  | _ => none
def ctIn : Ct := ctF [.agg [.int, .int], .agg [.int, .int]] [.lf .bool] (fun _ => True) (fun cs => match cs with | [.i a, .i b, .i c, .i d] => [.b (decide (c ≤ a) && decide (b ≤ d))] | _ => [])

/-! Kicks and sensors -/
def KOk (r g : Int) : Prop := 0 ≤ r ∧ r ≤ 16777216 ∧ 0 ≤ g ∧ g ≤ 4096
instance {r g : Int} : Decidable (KOk r g) := by unfold KOk; infer_instance
def kickE (r g : Int) : Int := if KOk r g then 0 else 2
def kicksE (rl rh gl gh : Int) : Int := if rl ≤ rh ∧ gl ≤ gh ∧ KOk rl gl ∧ KOk rh gh then 0 else 2
def SOk (pe de no st lo li ho : Int) : Prop := 1 ≤ pe ∧ pe ≤ 60 ∧ 0 ≤ de ∧ de ≤ 600 ∧ 0 ≤ no ∧ no ≤ 15 ∧ 1 ≤ st ∧ st ≤ 1048576 ∧ 0 ≤ lo ∧ lo ≤ 5 ∧ 1 ≤ li ∧ li ≤ 1099511627776 ∧ 1 ≤ ho ∧ ho ≤ 8
instance {pe de no st lo li ho : Int} : Decidable (SOk pe de no st lo li ho) := by unfold SOk; infer_instance
def sensE (ch pe de no st lo li ho : Int) : Int := if ch = 1 ∨ ch = 2 then (if SOk pe de no st lo li ho then 0 else 2) else 4
def sensRow (r : List C) : Int := sensE (r.getD 0 (.i 0)).int (r.getD 1 (.i 0)).int (r.getD 2 (.i 0)).int (r.getD 3 (.i 0)).int (r.getD 4 (.i 0)).int (r.getD 5 (.i 0)).int (r.getD 6 (.i 0)).int (r.getD 7 (.i 0)).int
def firstE : List (List C) → Int
  | [] => 0
  | r :: l => if sensRow r = 0 then firstE l else sensRow r
def sensorsE (rows : List (List C)) : Int := if rows.length = 0 then 6 else if 4 < rows.length then 8 else firstE rows
def flowV (r g n : Int) : Int := if KOk r g ∧ 0 ≤ n ∧ n ≤ 20000 then r + n * g else 0
def gainV (r g n : Int) : Int := if KOk r g ∧ 0 ≤ n ∧ n ≤ 20000 then n * r + g * (n * (n - 1) / 2) else 0
def saysV (ch r g n : Int) : Int := if ch = 1 then gainV r g n else flowV r g n
def valueV (ch pe de no st lo li ho r g n e : Int) : Int := if sensE ch pe de no st lo li ho = 0 ∧ KOk r g ∧ -no ≤ e ∧ e ≤ no ∧ n ≤ 20000 then saysV ch r g n + e * st else 0
def kickSh : Sh0 := .agg [.int, .int]
def kicksSh : Sh0 := .agg [.int, .int, .int, .int]
def sensSh : Sh0 := .agg [.int, .int, .int, .int, .int, .int, .int, .int]
def ctKick : Ct := ctF [kickSh] [.lf .int] (fun _ => True) (fun cs => match cs with | [.i r, .i g] => [.i (kickE r g)] | _ => [])
def ctLeast : Ct := ctF [kicksSh] [kickSh] (fun _ => True) (fun cs => match cs with | [.i a, .i _, .i c, .i _] => [.i a, .i c] | _ => [])
def ctKicks : Ct := ctF [kicksSh] [.lf .int] (fun _ => True) (fun cs => match cs with | [.i a, .i b, .i c, .i d] => [.i (kicksE a b c d)] | _ => [])
def ctSens : Ct := ctF [sensSh] [.lf .int] (fun _ => True) (fun cs => match cs with | [.i a, .i b, .i c, .i d, .i e, .i f, .i g, .i h] => [.i (sensE a b c d e f g h)] | _ => [])
def ctSensors : Ct := ctF [.lf (.arr 23)] [.lf .int] (fun _ => True) (fun cs => match cs with | [.s _ rows] => [.i (sensorsE rows)] | _ => [])
def ctFlow : Ct := ctF [kickSh, .lf .int] [.lf .int] (fun _ => True) (fun cs => match cs with | [.i r, .i g, .i n] => [.i (flowV r g n)] | _ => [])
def ctGain : Ct := ctF [kickSh, .lf .int] [.lf .int] (fun _ => True) (fun cs => match cs with | [.i r, .i g, .i n] => [.i (gainV r g n)] | _ => [])
def ctFlow1 : Ct := ctF [kickSh, .lf .int] [.lf .int] (fun cs => match cs with | [.i r, .i g, .i n] => KOk r g ∧ n ≤ 20000 | _ => False) (fun cs => match cs with | [.i r, .i g, .i n] => [.i (flowV r g n)] | _ => [])
def ctGain1 : Ct := ctF [kickSh, .lf .int] [.lf .int] (fun cs => match cs with | [.i r, .i g, .i n] => KOk r g ∧ n ≤ 20000 | _ => False) (fun cs => match cs with | [.i r, .i g, .i n] => [.i (gainV r g n)] | _ => [])
def ctSays : Ct := ctF [sensSh, kickSh, .lf .int] [.lf .int] (fun _ => True) (fun cs => match cs with | [.i ch, .i _, .i _, .i _, .i _, .i _, .i _, .i _, .i r, .i g, .i n] => [.i (saysV ch r g n)] | _ => [])
def ctValue : Ct := ctF [sensSh, kickSh, .lf .int, .lf .int] [.lf .int] (fun _ => True) (fun cs => match cs with | [.i a, .i b, .i c, .i d, .i e, .i f, .i g, .i h, .i r, .i q, .i n, .i x] => [.i (valueV a b c d e f g h r q n x)] | _ => [])

def saysS : Sel := fun bd l => match l with
  | [.agg [.int ch, .int _, .int _, .int _, .int _, .int _, .int _, .int _], .agg [.int r, .int g]] => some ([], B.mkCmp bd .eq ch (.lit 2), .fn 67 [.int r, .int g], .fn 66 [.int r, .int g])
  | _ => none

/-! Samples: rows of a sensor's number, a tick and a value -/
def measV (no st ch r g n v : Int) : Prop := n ≤ 20000 ∧ (v - saysV ch r g n).tmod st = 0 ∧ -no ≤ (v - saysV ch r g n).tdiv st ∧ (v - saysV ch r g n).tdiv st ≤ no
instance {no st ch r g n v : Int} : Decidable (measV no st ch r g n v) := by unfold measV; infer_instance
def cell_ (r : List C) (k : Nat) : Int := (r.getD k (.i 0)).int
/-- A sensor and a kick, as numbers. -/
structure SK where
  ch : Int
  pe : Int
  de : Int
  no : Int
  st : Int
  lo : Int
  li : Int
  ho : Int
  r : Int
  g : Int
def stepV (x : SK) (begin se ph last : Int) (row : List C) : Prop :=
  0 ≤ cell_ row 1 ∧ cell_ row 1 ≤ 40000 ∧ cell_ row 0 = se ∧ (cell_ row 1).tmod x.pe = ph ∧ 1 ≤ (cell_ row 1).tdiv x.pe - last ∧ (cell_ row 1).tdiv x.pe - last ≤ x.lo + 1 ∧ measV x.no x.st x.ch x.r x.g (cell_ row 1 - begin) (cell_ row 2)
instance {x : SK} {begin se ph last : Int} {row : List C} : Decidable (stepV x begin se ph last row) := by unfold stepV; infer_instance
def possL (x : SK) (begin se ph : Int) : Int → List (List C) → Bool
  | _, [] => true
  | last, row :: l => decide (stepV x begin se ph last row) && possL x begin se ph ((cell_ row 1).tdiv x.pe) l
def SKOk (x : SK) : Prop := sensE x.ch x.pe x.de x.no x.st x.lo x.li x.ho = 0 ∧ KOk x.r x.g
instance {x : SK} : Decidable (SKOk x) := by unfold SKOk; infer_instance
def possV (x : SK) (begin : Int) (rows : List (List C)) : Bool :=
  decide (SKOk x) && (decide (0 ≤ begin ∧ begin ≤ 20000 ∧ rows.length ≤ 200) && possL x begin (cell_ (rows.getD 0 []) 0) ((cell_ (rows.getD 0 []) 1).tmod x.pe) (-1) rows)
def ctPoss : Ct := ctF [sensSh, kickSh, .lf .int, .lf (.arr 40)] [.lf .bool] (fun _ => True) (fun cs => match cs with | [.i a, .i b, .i c, .i d, .i e, .i f, .i g, .i h, .i r, .i q, .i n, .s _ rows] => [.b (possV ⟨a, b, c, d, e, f, g, h, r, q⟩ n rows)] | _ => [])
def ctMeas : Ct := ctF [sensSh, kickSh, .lf .int, .lf .int] [.lf .bool] (fun cs => match cs with | [.i a, .i b, .i c, .i d, .i e, .i f, .i g, .i h, .i r, .i q, .i n, .i _] => SKOk ⟨a, b, c, d, e, f, g, h, r, q⟩ ∧ -20000 ≤ n ∧ n ≤ 40000 | _ => False) (fun cs => match cs with | [.i a, .i b, .i c, .i d, .i e, .i f, .i g, .i h, .i r, .i q, .i n, .i v] => [.b (decide (measV d e a r q n v))] | _ => [])
def SensGood (ch pe de no st lo li ho : Int) : Prop := (ch = 1 ∨ ch = 2) ∧ 1 ≤ pe ∧ pe ≤ 12 ∧ 0 ≤ de ∧ de ≤ 38 ∧ 0 ≤ no ∧ no ≤ 3 ∧ 1 ≤ st ∧ st ≤ 500 ∧ 0 ≤ lo ∧ lo ≤ 3 ∧ 1 ≤ li ∧ li ≤ 180000 ∧ 1 ≤ ho ∧ ho ≤ 4
def ctSensorOf : Ct := ⟨[ringSh], [sensSh], atPre 100000,
  fun cs rs => match cs, rs with | [.s v rows, .i at_], [.i a, .i b, .i c, .i d, .i e, .i f, .i g, .i h, .s v' rows', .i at'] => SensGood a b c d e f g h ∧ v' = v ∧ rows' = rows ∧ at' = at_ + 9 | _, _ => False, false⟩
def endL (pe : Int) : Int → List (List C) → Int
  | last, [] => last
  | _, row :: l => endL pe ((cell_ row 1).tdiv pe) l
def SampsOf (x : SK) (begin se last : Int) (rows : List (List C)) : Prop :=
  rows.length ≤ 190 ∧ ∃ ph, 0 ≤ ph ∧ ph < x.pe ∧ possL x begin se ph (-1) rows = true ∧ (∀ row ∈ rows, cell_ row 1 ≤ last) ∧ (rows.length < 190 → last < ph + (endL x.pe (-1) rows + 1 + x.lo) * x.pe)
def ctSamples : Ct := ⟨[ringSh, .lf .int, sensSh, kickSh, .lf .int, .lf .int], [.lf (.vec 40)],
  fun cs => match cs with | [.s _ _, .i at_, .i _, .i a, .i b, .i c, .i d, .i e, .i f, .i g, .i h, .i r, .i q, .i begin, .i last] => 0 ≤ at_ ∧ at_ ≤ 100000 ∧ SKOk ⟨a, b, c, d, e, f, g, h, r, q⟩ ∧ 0 ≤ begin ∧ begin ≤ 20000 ∧ 0 ≤ last ∧ last ≤ 20000 | _ => False,
  fun cs rs => match cs, rs with | [.s v rows, .i at_, .i se, .i a, .i b, .i c, .i d, .i e, .i f, .i g, .i h, .i r, .i q, .i begin, .i last], [.s _ out, .s v' rows', .i at'] => SampsOf ⟨a, b, c, d, e, f, g, h, r, q⟩ begin se last out ∧ v' = v ∧ rows' = rows ∧ at_ ≤ at' ∧ at' ≤ at_ + 4 + 3 * last | _, _ => False, false⟩

/-! The latest alarm -/
def firA (x : SK) (f : Int) : Nat → Int → Option Int
  | 0, _ => none
  | n + 1, a => if f + a * x.pe ≤ 10000 then (if x.li ≤ saysV x.ch x.r x.g (f + a * x.pe) - x.no * x.st then some a else firA x f n (a + 1)) else none
def tickV (x : SK) (f a : Int) : Int := f + (a + x.ho * (x.lo + 1) - 1) * x.pe + x.de
def latL (x : SK) : Nat → Int → Int → Int → Int → Option (Int × Int × Int)
  | 0, _, o, p, q => some (o, p, q)
  | k + 1, f, o, p, q => match firA x f 10001 0 with
    | none => none
    | some a => if 10000 < tickV x f a then none else if o < tickV x f a then latL x k (f + 1) (tickV x f a) f a else latL x k (f + 1) o p q
def latV (x : SK) : Option (Int × Int × Int) := latL x x.pe.toNat 0 (-1) 0 0
def latC : Option (Int × Int × Int) → List C
  | some (o, p, q) => [.i o, .i p, .i q, .b true]
  | none => [.i 0, .i 0, .i 0, .b false]
def atO : Option (Int × Int × Int) → Option Int
  | some (o, _, _) => some o
  | none => none
def latE (x : SK) : List C := if SKOk x then (match atO (latV x) with | some o => [.i o, .b true] | none => [.i 0, .b false]) else [.i 0, .b false]
def skR (r g : Int) (row : List C) : SK := ⟨cell_ row 0, cell_ row 1, cell_ row 2, cell_ row 3, cell_ row 4, cell_ row 5, cell_ row 6, cell_ row 7, r, g⟩
/-- The latest alarms of sensors, as rows. -/
def atsL (r g : Int) : List (List C) → List (List C)
  | [] => []
  | row :: l => match atO (latV (skR r g row)) with
    | some o => [.i o] :: atsL r g l
    | none => atsL r g l
def minL : Int → List (List C) → Int
  | m, [] => m
  | m, row :: l => minL (min m (cell_ row 0)) l
def minR (l : List (List C)) : Int := minL (cell_ (l.getD 0 []) 0) (l.drop 1)
def earlC (r g : Int) (rows : List (List C)) : List C := if atsL r g rows = [] then [.i 0, .i 13] else [.i (minR (atsL r g rows)), .i 0]
def latestC (rows : List (List C)) (rl rh gl gh : Int) : List C := if sensorsE rows = 0 then (if kicksE rl rh gl gh = 0 then earlC rl gl rows else [.i 0, .i (kicksE rl rh gl gh)]) else [.i 0, .i (sensorsE rows)]
def caughtC (rows : List (List C)) (r g : Int) : List C :=
  if sensorsE rows = 0 then (if kickE r g = 0 then (if atsL r g rows = [] then [.i 0, .i 0, .i 13] else [.i (minR (atsL r g rows)), .i (gainV r g (minR (atsL r g rows))), .i 0]) else [.i 0, .i 0, .i (kickE r g)]) else [.i 0, .i 0, .i (sensorsE rows)]
def skOf (cs : List C) : SK := ⟨cell_ cs 0, cell_ cs 1, cell_ cs 2, cell_ cs 3, cell_ cs 4, cell_ cs 5, cell_ cs 6, cell_ cs 7, cell_ cs 8, cell_ cs 9⟩
def firC : Option Int → List C
  | some a => [.i a, .b true]
  | none => [.i 0, .b false]
def lat1C (x : SK) (f : Int) : Option Int → List C
  | some a => [.i (tickV x f a), .i a, .b (decide (tickV x f a ≤ 10000))]
  | none => [.i (tickV x f 0), .i 0, .b false]
def ctFirst : Ct := ctF [sensSh, kickSh, .lf .int] [.lf .int, .lf .bool] (fun cs => SKOk (skOf cs) ∧ 0 ≤ cell_ cs 10 ∧ cell_ cs 10 ≤ 60) (fun cs => firC (firA (skOf cs) (cell_ cs 10) 10001 0))
def ctLate1 : Ct := ctF [sensSh, kickSh, .lf .int] [.lf .int, .lf .int, .lf .bool] (fun cs => SKOk (skOf cs) ∧ 0 ≤ cell_ cs 10 ∧ cell_ cs 10 ≤ 60) (fun cs => lat1C (skOf cs) (cell_ cs 10) (firA (skOf cs) (cell_ cs 10) 10001 0))
def ctWorst : Ct := ctF [sensSh, kickSh] [.lf .int, .lf .int, .lf .int, .lf .bool] (fun cs => SKOk (skOf cs)) (fun cs => latC (latV (skOf cs)))
def ctLatek : Ct := ctF [sensSh, kickSh] [.agg [.int, .int, .int], .lf .bool] (fun cs => SKOk (skOf cs)) (fun cs => latC (latV (skOf cs)))
def ctLate : Ct := ctF [sensSh, kickSh] [.lf .int, .lf .bool] (fun _ => True) (fun cs => latE (skOf cs))
def ctMin : Ct := ctF [.lf (.arr 2)] [.lf .int] (fun cs => match cs with | [.s _ rows] => rows ≠ [] | _ => False) (fun cs => match cs with | [.s _ rows] => [.i (minR rows)] | _ => [])
def ctEarl : Ct := ctF [.lf (.arr 23), kickSh] [.lf .int, .lf .int] (fun cs => match cs with | [.s _ rows, .i r, .i g] => rows.length ≤ 6 ∧ firstE rows = 0 ∧ KOk r g | _ => False) (fun cs => match cs with | [.s _ rows, .i r, .i g] => earlC r g rows | _ => [])
def ctLatest : Ct := ctF [.lf (.arr 23), kicksSh] [.lf .int, .lf .int] (fun _ => True) (fun cs => match cs with | [.s _ rows, .i a, .i b, .i c, .i d] => latestC rows a b c d | _ => [])
def ctCaught : Ct := ctF [.lf (.arr 23), kickSh] [.lf .int, .lf .int, .lf .int] (fun _ => True) (fun cs => match cs with | [.s _ rows, .i r, .i g] => caughtC rows r g | _ => [])
def ctKicksOf : Ct := ⟨[ringSh], [kicksSh], atPre 100000,
  fun cs rs => match cs, rs with | [.s v rows, .i at_], [.i a, .i b, .i c, .i d, .s v' rows', .i at'] => 0 ≤ a ∧ a ≤ b ∧ b ≤ 12998 ∧ 0 ≤ c ∧ c ≤ d ∧ d ≤ 499 ∧ v' = v ∧ rows' = rows ∧ at' = at_ + 6 | _, _ => False, false⟩

def tab : Tab where
  ct := fun f => match f with
    | 72 => some ctFloor
    | 74 => some ctFloor
    | 73 => some ctShut
    | 31 => some ctIdent
    | 32 => some ctIdent
    | 19 => some ctAwake
    | 36 => some ctKick
    | 37 => some ctKick
    | 75 => some ctLeast
    | 76 => some ctLeast
    | 38 => some ctKicks
    | 39 => some ctKicks
    | 40 => some ctSens
    | 41 => some ctSens
    | 42 => some ctSensors
    | 43 => some ctSensors
    | 24 => some ctFlow
    | 44 => some ctFlow
    | 23 => some ctGain
    | 45 => some ctGain
    | 67 => some ctFlow1
    | 66 => some ctGain1
    | 78 => some ctSays
    | 47 => some ctValue
    | 46 => some ctValue
    | 28 => some ctMod
    | 22 => some ctMod
    | 21 => some ctNewRing
    | 26 => some ctNext
    | 20 => some ctKickOf
    | 25 => some ctSensorOf
    | 48 => some ctKicksOf
    | 97 => some ctFirst
    | 95 => some ctLate1
    | 87 => some ctWorst
    | 79 => some ctLatek
    | 49 => some ctLate
    | 58 => some ctLate
    | 91 => some ctMin
    | 80 => some ctEarl
    | 90 => some ctEarl
    | 50 => some ctLatest
    | 61 => some ctLatest
    | 51 => some ctCaught
    | 62 => some ctCaught
    | 27 => some ctSamples
    | 29 => some ctPoss
    | 30 => some ctPoss
    | 70 => some ctMeas
    | 33 => some ctShutOf
    | 34 => some ctLWithin
    | _ => none
  inl := fun f => match f with
    | 68 => some withinI
    | 69 => some withinI
    | 71 => some fairI
    | 35 => some inI
    | _ => none
  sel := fun f => match f with
    | 77 => some saysS
    | _ => none
end Go.Proofs.Ytlbgcjpkegpmlaa
/- The table, more of it: the samples that come as late as can be. -/
namespace Go.Proofs.Ytlbgcjpkegpmlaa
set_option linter.unusedVariables false

def sampR (x : SK) (t : Int) : List C := [.i 0, .i t, .i (valueV x.ch x.pe x.de x.no x.st x.lo x.li x.ho x.r x.g t (-x.no))]
def slowA (x : SK) (p : Int) (n : Nat) : List (List C) := (List.range n).map fun (i : Nat) => sampR x (p + (i : Int) * x.pe)
def slowB (x : SK) (p q : Int) (n : Nat) : List (List C) := (List.range n).map fun (j : Nat) => sampR x (p + (q + ((j : Int) + 1) * (x.lo + 1) - 1) * x.pe)
def slowV (x : SK) : Option (List (List C)) := if SKOk x then (match latV x with | some (_, p, q) => if 200 < q + x.ho then none else some (slowA x p q.toNat ++ slowB x p q x.ho.toNat) | none => none) else none
def slowIs (o : Option (List (List C))) (rows : List (List C)) (t : Bool) : Prop := match o with | some l => rows = l ∧ t = true | none => rows = [] ∧ t = false
def ctSlow : Ct := ⟨[sensSh, kickSh], [.lf (.vec 40), .lf .bool], fun _ => True, fun cs rs => match rs with | [.s _ rows, .b t] => slowIs (slowV (skOf cs)) rows t | _ => False, false⟩
def sampSh : Sh0 := .agg [.int, .int, .int]
def ctSample : Ct := ctF [sensSh, kickSh, .lf .int] [sampSh] (fun cs => SKOk (skOf cs)) (fun cs => sampR (skOf cs) (cell_ cs 10))
def sameFrom : List (List C) → List (List C) → Bool
  | x :: l, y :: m => decide (cell_ x 0 = cell_ y 0 ∧ cell_ x 1 = cell_ y 1 ∧ cell_ x 2 = cell_ y 2) && sameFrom l m
  | _, _ => true
def sameSam (a b : List (List C)) : Bool := decide (a.length = b.length) && sameFrom a b
def ctSame : Ct := ctF [.lf (.arr 40), .lf (.arr 40)] [.lf .bool] (fun _ => True) (fun cs => match cs with | [.s _ a, .s _ b] => [.b (sameSam a b)] | _ => [])
def tab2 : Tab where
  ct := fun f => match f with
    | 59 => some ctSlow
    | 60 => some ctSlow
    | 89 => some ctSample
    | 57 => some ctSame
    | f => tab.ct f
  inl := tab.inl
  sel := tab.sel
theorem up_ok {f : Nat} (h : tab.ok f) (he : tab2.ct f = tab.ct f := by rfl) : tab2.ok f :=
  ⟨h.1, fun ct hc => h.2.1 ct (he ▸ hc), h.2.2.1, h.2.2.2⟩
end Go.Proofs.Ytlbgcjpkegpmlaa
/- The table, more of it: what sensors alarm on. -/
namespace Go.Proofs.Ytlbgcjpkegpmlaa
set_option linter.unusedVariables false

def fltS (l : List (List C)) (k : Int) : List (List C) := l.filter fun r => cell_ r 0 == k
def ordFrom : Int → List (List C) → Bool
  | _, [] => true
  | t, r :: l => decide (t < cell_ r 1) && ordFrom (cell_ r 1) l
def ordL : List (List C) → Bool
  | [] => true
  | r :: l => ordFrom (cell_ r 1) l
def inB (n : Int) (r : List C) : Bool := decide (0 ≤ cell_ r 0 ∧ cell_ r 0 < n)
def inR (r : List C) : Bool := decide (0 ≤ cell_ r 1 ∧ cell_ r 1 ≤ 1099511627176 ∧ -1125899906842624 ≤ cell_ r 2 ∧ cell_ r 2 ≤ 1125899906842624)
def checkV (n : Int) (rows : List (List C)) : Int :=
  if 200 < rows.length then 8 else if rows.all (inB n) = false then 7 else if rows.all inR = false then 2 else if rows.all (fun r => ordL (fltS rows (cell_ r 0))) = false then 11 else 0
def alarmL (li ho de : Int) : Int → List (List C) → Option Int
  | _, [] => none
  | n, r :: l => if (if cell_ r 2 < li then 0 else n + 1) = ho then some (cell_ r 1 + de) else alarmL li ho de (if cell_ r 2 < li then 0 else n + 1) l
def alarmOf (s : List C) (rows : List (List C)) : Option Int := alarmL (cell_ s 6) (cell_ s 7) (cell_ s 2) 0 rows
def alarmC : Option Int → List C
  | some t => [.i t, .b true]
  | none => [.i 0, .b false]
def watchL (sens rows : List (List C)) : Nat → Option (Int × Int)
  | 0 => none
  | k + 1 => match alarmOf (sens.getD k []) (fltS rows k), watchL sens rows k with
    | some t, some (s, u) => if t < u then some ((k : Int), t) else some (s, u)
    | some t, none => some ((k : Int), t)
    | none, o => o
def watchC : Option (Int × Int) → List C
  | some (s, t) => [.i s, .i t, .b true, .i 0]
  | none => [.i 0, .i 0, .b false, .i 0]
def watchV (sens rows : List (List C)) : List C :=
  if sensorsE sens = 0 then (if checkV sens.length rows = 0 then watchC (watchL sens rows sens.length) else [.i 0, .i 0, .b false, .i (checkV sens.length rows)]) else [.i 0, .i 0, .b false, .i (sensorsE sens)]
def ctCheckS : Ct := ctF [.lf .int, .lf (.arr 40)] [.lf .int] (fun _ => True) (fun cs => match cs with | [.i n, .s _ rows] => [.i (checkV n rows)] | _ => [])
def ctRCheck : Ct := ctF [.lf (.arr 23), .lf (.arr 40)] [.lf .int] (fun _ => True) (fun cs => match cs with | [.s _ sens, .s _ rows] => [.i (checkV sens.length rows)] | _ => [])
def ctAlarms : Ct := ctF [sensSh, .lf (.arr 40)] [.lf .int, .lf .bool] (fun cs => match cs with | [.i _, .i _, .i de, .i _, .i _, .i _, .i _, .i ho, .s _ rows] => 1 ≤ ho ∧ 0 ≤ de ∧ de ≤ 600 ∧ rows.length ≤ 200 ∧ ∀ r ∈ rows, inR r = true | _ => False)
  (fun cs => match cs with | [.i _, .i _, .i de, .i _, .i _, .i _, .i li, .i ho, .s _ rows] => alarmC (alarmL li ho de 0 rows) | _ => [])
def ctOf : Ct := ⟨[.lf (.arr 40), .lf .int], [.lf (.vec 40)], fun cs => match cs with | [.s _ rows, .i _] => rows.length ≤ 200 | _ => False, fun cs rs => match cs, rs with | [.s _ rows, .i k], [.s _ out] => out = fltS rows k | _, _ => False, false⟩
def ctWatch : Ct := ctF [.lf (.arr 23), .lf (.arr 40)] [.agg [.int, .int], .lf .bool, .lf .int] (fun _ => True) (fun cs => match cs with | [.s _ sens, .s _ rows] => watchV sens rows | _ => [])
def tab3 : Tab where
  ct := fun f => match f with
    | 81 => some ctCheckS
    | 84 => some ctRCheck
    | 83 => some ctAlarms
    | 85 => some ctAlarms
    | 86 => some ctOf
    | 54 => some ctWatch
    | 55 => some ctWatch
    | f => tab2.ct f
  inl := tab2.inl
  sel := tab2.sel
theorem up3_ok {f : Nat} (h : tab2.ok f) (he : tab3.ct f = tab2.ct f := by rfl) : tab3.ok f :=
  ⟨h.1, fun ct hc => h.2.1 ct (he ▸ hc), h.2.2.1, h.2.2.2⟩
end Go.Proofs.Ytlbgcjpkegpmlaa
/- Plain definitions of what the functions of layer 6 compute. No program in sight. -/
namespace Go.Proofs.Ytlbgcjpkegpmlaa

def KickOK (r g : Int) : Prop := 0 ≤ r ∧ r ≤ 16777216 ∧ 0 ≤ g ∧ g ≤ 4096
instance (r g : Int) : Decidable (KickOK r g) := by unfold KickOK; exact inferInstance

structure Sen where
  ch : Int
  pe : Int
  de : Int
  no : Int
  st : Int
  lo : Int
  li : Int
  ho : Int

def KindOK (s : Sen) : Prop := s.ch = 1 ∨ s.ch = 2
def RangeOK (s : Sen) : Prop := 1 ≤ s.pe ∧ s.pe ≤ 60 ∧ 0 ≤ s.de ∧ s.de ≤ 600 ∧ 0 ≤ s.no ∧ s.no ≤ 15 ∧ 1 ≤ s.st ∧ s.st ≤ 1048576 ∧ 0 ≤ s.lo ∧ s.lo ≤ 5 ∧ 1 ≤ s.li ∧ s.li ≤ 1099511627776 ∧ 1 ≤ s.ho ∧ s.ho ≤ 8
def SenOK (s : Sen) : Prop := KindOK s ∧ RangeOK s
instance (s : Sen) : Decidable (KindOK s) := by unfold KindOK; exact inferInstance
instance (s : Sen) : Decidable (RangeOK s) := by unfold RangeOK; exact inferInstance
instance (s : Sen) : Decidable (SenOK s) := by unfold SenOK; exact inferInstance

def checkSensor (s : Sen) : Int := if KindOK s then (if RangeOK s then 0 else 2) else 4

/-- what flows n ticks after the beginning -/
def flowAt (r g n : Int) : Int := if n < 0 then 0 else r + n * g
/-- what has flowed in n ticks after the beginning -/
def gainAt (r g n : Int) : Int := if n < 0 then 0 else n * r + g * (n * (n - 1) / 2)
def flowF (r g n : Int) : Int := if KickOK r g ∧ n ≤ 20000 then flowAt r g n else 0
def gainF (r g n : Int) : Int := if KickOK r g ∧ n ≤ 20000 then gainAt r g n else 0
def saysAt (s : Sen) (r g n : Int) : Int := if s.ch = 2 then flowAt r g n else gainAt r g n
def valueF (s : Sen) (r g n e : Int) : Int := if SenOK s ∧ KickOK r g ∧ -s.no ≤ e ∧ e ≤ s.no ∧ n ≤ 20000 then saysAt s r g n + e * s.st else 0

theorem mul_bd {a b A B : Int} (h0 : 0 ≤ a) (h1 : a ≤ A) (h2 : 0 ≤ b) (h3 : b ≤ B) : 0 ≤ a * b ∧ a * b ≤ A * B :=
  ⟨Int.mul_nonneg h0 h2, Int.mul_le_mul h1 h3 h2 (Int.le_trans h0 h1)⟩
theorem mul_one_le {a b : Int} (h0 : 1 ≤ a) (h1 : 1 ≤ b) : 1 ≤ a * b := by
  have := Int.mul_le_mul h0 h1 (by omega) (by omega)
  omega
theorem tri_bd (n : Int) (h0 : 0 ≤ n) (h1 : n ≤ 20000) : 0 ≤ n * (n - 1) ∧ n * (n - 1) ≤ 400000000 ∧ 0 ≤ n * (n - 1) / 2 ∧ n * (n - 1) / 2 ≤ 200000000 := by
  rcases Int.lt_or_le 0 n with h | h
  · have := mul_bd (a := n) (b := n - 1) (A := 20000) (B := 20000) h0 h1 (by omega) (by omega)
    omega
  · obtain rfl : n = 0 := by omega
    simp
theorem gain_bd {r g n : Int} (h : KickOK r g) (hn : n ≤ 20000) : 0 ≤ gainAt r g n ∧ gainAt r g n ≤ 1154744320000 := by
  obtain ⟨h1, h2, h3, h4⟩ := h
  unfold gainAt
  split
  · omega
  · obtain ⟨t1, t2, t3, t4⟩ := tri_bd n (by omega) hn
    obtain ⟨b1, b2⟩ := mul_bd (by omega : 0 ≤ n) hn h1 h2
    obtain ⟨b3, b4⟩ := mul_bd h3 h4 t3 t4
    omega
theorem flow_bd {r g n : Int} (h : KickOK r g) (hn : n ≤ 20000) : 0 ≤ flowAt r g n ∧ flowAt r g n ≤ 98697216 := by
  obtain ⟨h1, h2, h3, h4⟩ := h
  unfold flowAt
  split
  · omega
  · obtain ⟨b1, b2⟩ := mul_bd (by omega : 0 ≤ n) hn h3 h4
    omega
theorem says_bd {s : Sen} {r g n : Int} (h : KickOK r g) (hn : n ≤ 20000) : 0 ≤ saysAt s r g n ∧ saysAt s r g n ≤ 1154744320000 := by
  unfold saysAt
  split
  · have := flow_bd h hn; omega
  · exact gain_bd h hn

/-- The least number of a sample, from a on and within so many tries, that is at least the limit in spite of all noise. -/
def findA (s : Sen) (r g f : Int) : Nat → Nat → Option Nat
  | 0, _ => none
  | k + 1, a => if f + a * s.pe ≤ 10000 then (if s.li ≤ saysAt s r g (f + a * s.pe) - s.no * s.st then some a else findA s r g f k (a + 1)) else none
def firstA (s : Sen) (r g f : Int) : Option Nat := findA s r g f 10001 0
def alarmT (s : Sen) (f a : Int) : Int := f + (a + s.ho * (s.lo + 1) - 1) * s.pe + s.de
/-- The latest alarm over the phases from f on, so many of them. -/
def lateGo (s : Sen) (r g : Int) : Nat → Nat → Int × Int × Int → Option (Int × Int × Int)
  | 0, _, o => some o
  | k + 1, f, o => match firstA s r g f with
    | none => none
    | some a => if 10000 < alarmT s f a then none else lateGo s r g k (f + 1) (if o.1 < alarmT s f a then (alarmT s f a, (f : Int), (a : Int)) else o)
def lateF (s : Sen) (r g : Int) : Option (Int × Int × Int) := lateGo s r g s.pe.toNat 0 (-1, 0, 0)

end Go.Proofs.Ytlbgcjpkegpmlaa
/- What False computes: plain definitions, and that no number grows too great. -/
namespace Go.Proofs.Ytlbgcjpkegpmlaa

def sumTo (F : Nat → Int) : Nat → Int
  | 0 => 0
  | m + 1 => sumTo F m + F m
/-- How many of the errors x, x + 1, .. (so many) are high. -/
def highGo (st li : Int) : Nat → Int → Int → Int
  | 0, _, hi => hi
  | k + 1, x, hi => highGo st li k (x + 1) (if li ≤ x * st then hi + 1 else hi)
def highF (s : Sen) : Int := highGo s.st s.li (2 * s.no + 1).toNat (-s.no) 0
def stepRow (n h : Int) (ho : Nat) (R : Nat → Int) : Nat → Int := fun j => if j = 0 then sumTo (fun k => R k * (n - h)) ho else if j < ho then R (j - 1) * h else 0
def falseGo (n h : Int) (ho : Nat) : Nat → (Nat → Int) → Int → Int → Int × Int
  | 0, _, al, all => (al, all)
  | d + 1, R, al, all => falseGo n h ho d (stepRow n h ho R) (al * n + R (ho - 1) * h) (all * n)
def row0 : Nat → Int := fun j => if j = 0 then 1 else 0
def falseP (s : Sen) (draws : Nat) : Int × Int := falseGo (2 * s.no + 1) (highF s) s.ho.toNat draws row0 0 1
def falseF (s : Sen) (draws : Int) : Int × Int × Int :=
  if SenOK s then (if 1 ≤ draws ∧ draws ≤ 12 then ((falseP s draws.toNat).1, (falseP s draws.toNat).2, 0) else (0, 0, 2)) else (0, 0, checkSensor s)

theorem highGo_bd (st li : Int) (k : Nat) : ∀ x hi : Int, hi ≤ highGo st li k x hi ∧ highGo st li k x hi ≤ hi + k := by
  induction k with
  | zero => intro x hi; simp [highGo]
  | succ k ih =>
    intro x hi
    unfold highGo
    have h1 := ih (x + 1) (if li ≤ x * st then hi + 1 else hi)
    revert h1
    split <;> intro h1 <;> omega
theorem high_bd {s : Sen} (h : RangeOK s) : 0 ≤ highF s ∧ highF s ≤ 2 * s.no + 1 := by
  obtain ⟨h1, h2, h3, h4, h5, h6, -⟩ := h
  have := highGo_bd s.st s.li (2 * s.no + 1).toNat (-s.no) 0
  unfold highF
  omega

theorem sumTo_mul (F : Nat → Int) (c : Int) (m : Nat) : sumTo (fun k => F k * c) m = sumTo F m * c := by
  induction m with
  | zero => simp [sumTo]
  | succ m ih => simp [sumTo, ih, Int.add_mul]
theorem sumTo_nonneg {F : Nat → Int} (h : ∀ k, 0 ≤ F k) (m : Nat) : 0 ≤ sumTo F m := by
  induction m with
  | zero => simp [sumTo]
  | succ m ih => have := h m; simp [sumTo]; omega
theorem sumTo_mono {F : Nat → Int} (h : ∀ k, 0 ≤ F k) {m m' : Nat} (hm : m ≤ m') : sumTo F m ≤ sumTo F m' := by
  induction m' with
  | zero => obtain rfl : m = 0 := by omega
            exact Int.le_refl _
  | succ k ih =>
    by_cases e : m = k + 1
    · rw [e]; exact Int.le_refl _
    · have := ih (by omega)
      have h2 := h k
      simp [sumTo]; omega
theorem le_sumTo {F : Nat → Int} (h : ∀ k, 0 ≤ F k) {j m : Nat} (hj : j < m) : F j ≤ sumTo F m := by
  have h1 := sumTo_mono h (show j + 1 ≤ m from hj)
  have h2 := sumTo_nonneg h j
  simp [sumTo] at h1
  omega
theorem sumTo_congr {F G : Nat → Int} {m : Nat} (h : ∀ k, k < m → F k = G k) : sumTo F m = sumTo G m := by
  induction m with
  | zero => rfl
  | succ m ih => simp [sumTo, ih fun k hk => h k (by omega), h m (by omega)]
/-- the sum of a row that was moved by one -/
theorem sumTo_shift (R : Nat → Int) (a : Int) (h : Int) (m : Nat) : sumTo (fun j => if j = 0 then a else if j < m + 1 then R (j - 1) * h else 0) (m + 1) = a + sumTo R m * h := by
  have key : ∀ k, k ≤ m → sumTo (fun j => if j = 0 then a else if j < m + 1 then R (j - 1) * h else 0) (k + 1) = a + sumTo R k * h := by
    intro k
    induction k with
    | zero => intro _; simp [sumTo]
    | succ k ih =>
      intro hk
      rw [sumTo, ih (by omega)]
      simp [sumTo, Int.add_mul, show k < m from by omega]
      omega
  exact key m (Nat.le_refl _)

/-- What holds of the rows, of the alarms and of all, before each draw. -/
structure Rows9 (n h : Int) (ho i : Nat) (R : Nat → Int) (al all : Int) : Prop where
  pos : ∀ k, 0 ≤ R k
  al0 : 0 ≤ al
  one : 1 ≤ all
  sum : sumTo R ho + al = all
  pow : all ≤ n ^ i
theorem Rows9.start (n h : Int) (ho : Nat) (hh : 1 ≤ ho) : Rows9 n h ho 0 row0 0 1 := by
  refine ⟨fun k => by unfold row0; split <;> omega, by omega, by omega, ?_, by simp⟩
  have : ∀ m, sumTo row0 (m + 1) = 1 := by
    intro m
    induction m with
    | zero => simp [sumTo, row0]
    | succ m ih => rw [sumTo, ih]; simp [row0]
  obtain ⟨m, rfl⟩ : ∃ m, ho = m + 1 := ⟨ho - 1, by omega⟩
  rw [this]
  rfl
theorem Rows9.step {n h : Int} {ho i : Nat} {R : Nat → Int} {al all : Int} (hr : Rows9 n h ho i R al all) (hh : 1 ≤ ho) (h0 : 0 ≤ h) (h1 : h ≤ n) (hn : 1 ≤ n) :
    Rows9 n h ho (i + 1) (stepRow n h ho R) (al * n + R (ho - 1) * h) (all * n) := by
  obtain ⟨m, rfl⟩ : ∃ m, ho = m + 1 := ⟨ho - 1, by omega⟩
  refine ⟨fun k => ?_, ?_, ?_, ?_, ?_⟩
  · unfold stepRow
    split
    · rw [sumTo_mul]; exact Int.mul_nonneg (sumTo_nonneg hr.pos _) (by omega)
    · split
      · exact Int.mul_nonneg (hr.pos _) h0
      · omega
  · have h2 := Int.mul_nonneg hr.al0 (show 0 ≤ n from by omega)
    have h3 := Int.mul_nonneg (hr.pos (m + 1 - 1)) h0
    omega
  · exact mul_one_le hr.one hn
  · have hs : stepRow n h (m + 1) R = fun j => if j = 0 then sumTo (fun k => R k * (n - h)) (m + 1) else if j < m + 1 then R (j - 1) * h else 0 := rfl
    rw [hs, sumTo_shift, sumTo_mul]
    have e := hr.sum
    rw [← e]
    simp only [sumTo, Nat.add_sub_cancel, Int.add_mul, Int.mul_sub]
    omega
  · rw [Int.pow_succ]
    exact Int.mul_le_mul_of_nonneg_right hr.pow (by omega)
theorem pow_mono {a b : Int} (h : 0 ≤ a) (hab : a ≤ b) (i : Nat) : a ^ i ≤ b ^ i ∧ 0 ≤ a ^ i := by
  induction i with
  | zero => simp
  | succ i ih =>
    rw [Int.pow_succ, Int.pow_succ]
    exact ⟨Int.mul_le_mul ih.1 hab h (Int.le_trans ih.2 ih.1), Int.mul_nonneg ih.2 h⟩
theorem pow31 (i : Nat) (h : i ≤ 11) : (31 : Int) ^ i ≤ 25408476896404831 := by
  have : i = 0 ∨ i = 1 ∨ i = 2 ∨ i = 3 ∨ i = 4 ∨ i = 5 ∨ i = 6 ∨ i = 7 ∨ i = 8 ∨ i = 9 ∨ i = 10 ∨ i = 11 := by omega
  rcases this with rfl | rfl | rfl | rfl | rfl | rfl | rfl | rfl | rfl | rfl | rfl | rfl <;> decide
theorem Rows9.small {n h : Int} {ho i : Nat} {R : Nat → Int} {al all : Int} (hr : Rows9 n h ho i R al all) (hn : 0 ≤ n) (h31 : n ≤ 31) (hi : i ≤ 11) :
    all ≤ 25408476896404831 ∧ al ≤ 25408476896404831 ∧ sumTo R ho ≤ 25408476896404831 ∧ ∀ k, k < ho → R k ≤ 25408476896404831 := by
  have h1 := pow31 i hi
  have h2 := (pow_mono hn h31 i).1
  have h3 := hr.pow
  have h4 := hr.sum
  have h5 := hr.al0
  have h6 := sumTo_nonneg hr.pos ho
  refine ⟨by omega, by omega, by omega, fun k hk => ?_⟩
  have := le_sumTo hr.pos hk
  omega
/-- A row in the making: so many of the old one's cells are through. -/
def partRow (n h : Int) (R : Nat → Int) (m : Nat) : Nat → Int := fun j => if j = 0 then sumTo (fun k => R k * (n - h)) m else if j < m + 1 then R (j - 1) * h else 0
theorem partRow_zero (n h : Int) (R : Nat → Int) (j : Nat) : partRow n h R 0 j = 0 := by
  unfold partRow
  split
  · rfl
  · split
    · omega
    · rfl
theorem partRow_succ (n h : Int) (R : Nat → Int) (m j : Nat) :
    (if j = m + 1 then R m * h else if j = 0 then sumTo (fun k => R k * (n - h)) m + R m * (n - h) else partRow n h R m j) = partRow n h R (m + 1) j := by
  unfold partRow
  by_cases h0 : j = 0
  · subst h0; simp [sumTo]
  · by_cases h1 : j = m + 1
    · subst h1; simp
    · by_cases h2 : j < m + 1
      · simp [h0, h1, h2, show j < m + 1 + 1 from by omega]
      · simp [h0, h1, h2, show ¬ j < m + 1 + 1 from by omega]
theorem partRow_full (n h : Int) (R : Nat → Int) (ho j : Nat) (hj : j < ho) : partRow n h R ho j = stepRow n h ho R j := by
  unfold partRow stepRow
  by_cases h0 : j = 0
  · simp [h0]
  · simp [h0, hj, show j < ho + 1 from by omega]
theorem partRow_step (n h : Int) (R : Nat → Int) (ho j : Nat) (hh : 1 ≤ ho) : (if j = ho then 0 else partRow n h R ho j) = stepRow n h ho R j := by
  unfold partRow stepRow
  by_cases h0 : j = 0
  · subst h0; simp [show ¬ 0 = ho from by omega]
  · by_cases h1 : j = ho
    · subst h1; simp [h0]
    · by_cases h2 : j < ho
      · simp [h0, h1, h2, show j < ho + 1 from by omega]
      · simp [h0, h1, h2, show ¬ j < ho + 1 from by omega]
end Go.Proofs.Ytlbgcjpkegpmlaa
/- The table, more of it: false alarms; the chapter's examples. -/
namespace Go.Proofs.Ytlbgcjpkegpmlaa
set_option linter.unusedVariables false

def senOf (cs : List C) : Sen := ⟨cell_ cs 0, cell_ cs 1, cell_ cs 2, cell_ cs 3, cell_ cs 4, cell_ cs 5, cell_ cs 6, cell_ cs 7⟩
def ctFalse : Ct := ctF [sensSh, .lf .int] [.lf .int, .lf .int, .lf .int] (fun cs => SenOK (senOf cs) ∧ 1 ≤ cell_ cs 8 ∧ cell_ cs 8 ≤ 12) (fun cs => [.i (falseP (senOf cs) (cell_ cs 8).toNat).1, .i (falseP (senOf cs) (cell_ cs 8).toNat).2, .i 0])
def ctShown : Ct := ctF [] [kickSh] (fun _ => True) (fun _ => [.i 1000, .i 100])
def ctPit : Ct := ctF [] [sensSh] (fun _ => True) (fun _ => [.i 1, .i 10, .i 5, .i 2, .i 1000, .i 1, .i 20000, .i 2])
def ctFlowS : Ct := ctF [] [sensSh] (fun _ => True) (fun _ => [.i 2, .i 1, .i 0, .i 0, .i 1, .i 0, .i 3000, .i 1])
def tab4 : Tab where
  ct := fun f => match f with
    | 17 => some ctFalse
    | 63 => some ctShown
    | 64 => some ctPit
    | 65 => some ctFlowS
    | f => tab3.ct f
  inl := tab3.inl
  sel := tab3.sel
theorem up4_ok {f : Nat} (h : tab3.ok f) (he : tab4.ct f = tab3.ct f := by rfl) : tab4.ok f :=
  ⟨h.1, fun ct hc => h.2.1 ct (he ▸ hc), h.2.2.1, h.2.2.2⟩
end Go.Proofs.Ytlbgcjpkegpmlaa
/- What is to be shown of each function, as the executor has it. Printed by trees.py. -/
namespace Go.Proofs.Ytlbgcjpkegpmlaa
noncomputable def cshown : Cx := tab4.only [] (fun _ => []) [] 0 [] (fun _ => none)
def tshown : Tree :=
  (.ret [(.int (.lit 1000)), (.int (.lit 100))])
noncomputable def cpit : Cx := tab4.only [] (fun _ => []) [] 0 [] (fun _ => none)
def tpit : Tree :=
  (.ret [(.int (.lit 1)), (.int (.lit 10)), (.int (.lit 5)), (.int (.lit 2)), (.int (.lit 1000)), (.int (.lit 1)), (.int (.lit 20000)), (.int (.lit 2))])
noncomputable def cflows : Cx := tab4.only [] (fun _ => []) [] 0 [] (fun _ => none)
def tflows : Tree :=
  (.ret [(.int (.lit 2)), (.int (.lit 1)), (.int (.lit 0)), (.int (.lit 0)), (.int (.lit 1)), (.int (.lit 0)), (.int (.lit 3000)), (.int (.lit 1))])
noncomputable def cknown : Cx := tab4.only [19, 63, 64, 65, 24, 23, 46, 49, 50, 51, 54, 17, 31] (fun _ => []) [] 0 [] (fun r => match r with
  | 50004 => some ([(4, true, [.bool])], [])
  | 50009 => some ([(13, true, [.bool])], [])
  | 50013 => some ([(16, true, [.bool])], [])
  | 50018 => some ([(22, true, [.bool])], [])
  | 50020 => some ([(24, true, [.bool])], [])
  | _ => none)
def tknown_1 : Tree :=
  (.split (.cmp .eq (.var 21) (.lit 1300)) (.call 46 [(.int (.var 3)), (.int (.var 4)), (.int (.var 5)), (.int (.var 6)), (.int (.var 7)), (.int (.var 8)), (.int (.var 9)), (.int (.var 10)), (.int (.var 1)), (.int (.var 2)), (.int (.lit (-1))), (.int (.lit 1))] (.back 0 [(.bool (.cmp .eq (.var 22) (.lit 1000)))])) (.back 0 [(.bool (.lit false))]))
def tknown_2 : Tree :=
  (.split (.cmp .eq (.var 20) (.lit 0)) (.call 46 [(.int (.var 3)), (.int (.var 4)), (.int (.var 5)), (.int (.var 6)), (.int (.var 7)), (.int (.var 8)), (.int (.var 9)), (.int (.var 10)), (.int (.var 1)), (.int (.var 2)), (.int (.lit 3)), (.int (.lit (-2)))] tknown_1) (.back 0 [(.bool (.lit false))]))
def tknown_3 : Tree :=
  (.join [.bool] (.split (.cmp .eq (.var 54) (.lit 0)) (.back 4 [(.bool (.and (.and (.cmp .eq (.var 47) (.lit 10100)) (.cmp .eq (.var 48) (.lit 10100))) (.and (.and (.cmp .eq (.var 49) (.lit 20)) (.cmp .eq (.var 50) (.lit 20))) (.and (.and (.cmp .eq (.var 51) (.lit (-5))) (.cmp .eq (.var 52) (.lit (-5)))) (.cmp .eq (.var 53) (.lit 1))))))]) (.back 4 [(.bool (.lit false))])) (.split (.of (.var 19)) (.split (.of (.var 29)) (.split (.of (.var 39)) (.split (.of (.var 46)) (.ret [(.bool (.of (.var 55)))]) (.ret [(.bool (.lit false))])) (.ret [(.bool (.lit false))])) (.ret [(.bool (.lit false))])) (.ret [(.bool (.lit false))])))
def tknown_4 : Tree :=
  (.join [.bool] (.split (.cmp .eq (.var 40) (.lit 4)) (.split (.cmp .eq (.var 41) (.lit 25)) (.split (.cmp .eq (.var 43) (.lit 0)) (.split (.cmp .eq (.var 44) (.lit 125)) (.split (.cmp .eq (.var 42) (.lit 0)) (.back 3 [(.bool (.cmp .eq (.var 45) (.lit 0)))]) (.back 3 [(.bool (.lit false))])) (.back 3 [(.bool (.lit false))])) (.back 3 [(.bool (.lit false))])) (.back 3 [(.bool (.lit false))])) (.back 3 [(.bool (.lit false))])) (.call 31 [(.int (.lit 100)), (.int (.lit 100)), (.int (.lit 400)), (.int (.lit 400)), (.int (.lit 2000)), (.int (.lit 2000)), (.int (.lit 10)), (.int (.lit 1000)), (.int (.lit 100))] tknown_3))
def tknown_5 : Tree :=
  (.join [.bool] (.split (.cmp .eq (.var 32) (.lit 13)) (.split (.of (.var 37)) (.split (.cmp .eq (.var 38) (.lit 0)) (.back 2 [(.bool (.and (.cmp .eq (.var 35) (.lit 1)) (.cmp .eq (.var 36) (.lit 8))))]) (.back 2 [(.bool (.lit false))])) (.back 2 [(.bool (.lit false))])) (.back 2 [(.bool (.lit false))])) (.call 17 [(.int (.lit 1)), (.int (.lit 1)), (.int (.lit 0)), (.int (.lit 2)), (.int (.lit 1000)), (.int (.lit 0)), (.int (.lit 1000)), (.int (.lit 2)), (.int (.lit 2))] (.call 17 [(.int (.lit 1)), (.int (.lit 1)), (.int (.lit 0)), (.int (.lit 2)), (.int (.lit 1000)), (.int (.lit 0)), (.int (.lit 2001)), (.int (.lit 2)), (.int (.lit 3))] tknown_4)))
def tknown_6 : Tree :=
  (.arr [[(.int (.var 3)), (.int (.var 4)), (.int (.var 5)), (.int (.var 6)), (.int (.var 7)), (.int (.var 8)), (.int (.var 9)), (.int (.var 10))], [(.int (.var 11)), (.int (.var 12)), (.int (.var 13)), (.int (.var 14)), (.int (.var 15)), (.int (.var 16)), (.int (.var 17)), (.int (.var 18))]] (.arr [[(.int (.lit 1)), (.int (.lit 7)), (.int (.lit 2999))], [(.int (.lit 1)), (.int (.lit 8)), (.int (.lit 3000))], [(.int (.lit 1)), (.int (.lit 9)), (.int (.lit 5000))]] (.call 54 [(.arr 23 (.var 33)), (.arr 40 (.var 34))] tknown_5)))
def tknown_7 : Tree :=
  (.join [.bool] (.split (.cmp .eq (.var 20) (.lit 20)) (.split (.of (.var 21)) (.split (.cmp .eq (.var 23) (.lit 20)) (.split (.cmp .eq (.var 24) (.lit 0)) (.split (.cmp .eq (.var 26) (.lit 20)) (.split (.cmp .eq (.var 27) (.lit 39000)) (.back 1 [(.bool (.cmp .eq (.var 28) (.lit 0)))]) (.back 1 [(.bool (.lit false))])) (.back 1 [(.bool (.lit false))])) (.back 1 [(.bool (.lit false))])) (.back 1 [(.bool (.lit false))])) (.back 1 [(.bool (.lit false))])) (.back 1 [(.bool (.lit false))])) (.arr [[(.int (.var 11)), (.int (.var 12)), (.int (.var 13)), (.int (.var 14)), (.int (.var 15)), (.int (.var 16)), (.int (.var 17)), (.int (.var 18))]] (.call 50 [(.arr 23 (.var 30)), (.int (.lit 0)), (.int (.lit 1000)), (.int (.lit 0)), (.int (.lit 100))] tknown_6)))
def tknown_8 : Tree :=
  (.arr [[(.int (.var 3)), (.int (.var 4)), (.int (.var 5)), (.int (.var 6)), (.int (.var 7)), (.int (.var 8)), (.int (.var 9)), (.int (.var 10))], [(.int (.var 11)), (.int (.var 12)), (.int (.var 13)), (.int (.var 14)), (.int (.var 15)), (.int (.var 16)), (.int (.var 17)), (.int (.var 18))]] (.call 51 [(.arr 23 (.var 25)), (.int (.var 1)), (.int (.var 2))] tknown_7))
def tknown_9 : Tree :=
  (.arr [[(.int (.var 3)), (.int (.var 4)), (.int (.var 5)), (.int (.var 6)), (.int (.var 7)), (.int (.var 8)), (.int (.var 9)), (.int (.var 10))], [(.int (.var 11)), (.int (.var 12)), (.int (.var 13)), (.int (.var 14)), (.int (.var 15)), (.int (.var 16)), (.int (.var 17)), (.int (.var 18))]] (.call 50 [(.arr 23 (.var 22)), (.int (.lit 1000)), (.int (.lit 1000)), (.int (.lit 100)), (.int (.lit 100))] tknown_8))
def tknown_10 : Tree :=
  (.join [.bool] (.call 24 [(.int (.var 1)), (.int (.var 2)), (.int (.lit 3))] (.split (.cmp .eq (.var 19) (.lit 1300)) (.call 23 [(.int (.var 1)), (.int (.var 2)), (.int (.lit 0))] tknown_2) (.back 0 [(.bool (.lit false))]))) (.call 49 [(.int (.var 11)), (.int (.var 12)), (.int (.var 13)), (.int (.var 14)), (.int (.var 15)), (.int (.var 16)), (.int (.var 17)), (.int (.var 18)), (.int (.var 1)), (.int (.var 2))] tknown_9))
def tknown : Tree :=
  (.call 19 [] (.split (.not (.of (.var 0))) (.ret [(.bool (.lit false))]) (.call 63 [] (.call 64 [] (.call 65 [] tknown_10)))))
end Go.Proofs.Ytlbgcjpkegpmlaa
/- Contracts of small functions: kick.within, moonpoolref06.between, CheckKick, flows and gains. -/
namespace Go.Proofs.Ytlbgcjpkegpmlaa
open Go.RowKit

/-- kick.within -/
theorem within_any (n lo hi : Int) (w : World) :
    Calls Try.prog 68 #[.int .i64 n, .int .i64 lo, .int .i64 hi] w fun e w' => e = .returned (.bool (decide (lo ≤ n ∧ n ≤ hi))) ∧ w = w' := by
  go_enter Try.func68, Try.ntmps68
  go_wp2
  all_goals go_ret
  all_goals (refine ⟨ret_bool ?_, rfl⟩; simp; omega)
/-- moonpoolref06.between -/
theorem between_any (n lo hi : Int) (w : World) :
    Calls Try.prog 69 #[.int .i64 n, .int .i64 lo, .int .i64 hi] w fun e w' => e = .returned (.bool (decide (lo ≤ n ∧ n ≤ hi))) ∧ w = w' := by
  go_enter Try.func69, Try.ntmps69
  go_wp2
  all_goals go_ret
  all_goals (refine ⟨ret_bool ?_, rfl⟩; simp; omega)
theorem within_yes (n lo hi : Int) (w : World) (h : lo ≤ n) (h' : n ≤ hi) :
    Calls Try.prog 68 #[.int .i64 n, .int .i64 lo, .int .i64 hi] w fun e w' => e = .returned (.bool true) ∧ w = w' :=
  (within_any n lo hi w).mono fun _ _ ⟨he, hw⟩ => ⟨he.trans (ret_bool (by simp [h, h'])), hw⟩
theorem within_no (n lo hi : Int) (w : World) (h : n < lo ∨ hi < n) :
    Calls Try.prog 68 #[.int .i64 n, .int .i64 lo, .int .i64 hi] w fun e w' => e = .returned (.bool false) ∧ w = w' :=
  (within_any n lo hi w).mono fun _ _ ⟨he, hw⟩ => ⟨he.trans (ret_bool (by simp; omega)), hw⟩
theorem between_yes (n lo hi : Int) (w : World) (h : lo ≤ n) (h' : n ≤ hi) :
    Calls Try.prog 69 #[.int .i64 n, .int .i64 lo, .int .i64 hi] w fun e w' => e = .returned (.bool true) ∧ w = w' :=
  (between_any n lo hi w).mono fun _ _ ⟨he, hw⟩ => ⟨he.trans (ret_bool (by simp [h, h'])), hw⟩
theorem between_no (n lo hi : Int) (w : World) (h : n < lo ∨ hi < n) :
    Calls Try.prog 69 #[.int .i64 n, .int .i64 lo, .int .i64 hi] w fun e w' => e = .returned (.bool false) ∧ w = w' :=
  (between_any n lo hi w).mono fun _ _ ⟨he, hw⟩ => ⟨he.trans (ret_bool (by simp; omega)), hw⟩



abbrev kickV (r g : Int) : Value := .agg #[.int .i64 r, .int .i64 g]
abbrev Sen.v (s : Sen) : Value := .agg #[.int .i64 s.ch, .int .i64 s.pe, .int .i64 s.de, .int .i64 s.no, .int .i64 s.st, .int .i64 s.lo, .int .i64 s.li, .int .i64 s.ho]

theorem notKick {r g : Int} (h : ¬ KickOK r g) : r < 0 ∨ (0 ≤ r ∧ 16777216 < r) ∨ (0 ≤ r ∧ r ≤ 16777216 ∧ g < 0) ∨ (0 ≤ r ∧ r ≤ 16777216 ∧ 0 ≤ g ∧ 4096 < g) := by unfold KickOK at h; omega
theorem checkKick_yes (r g : Int) (w : World) (h : KickOK r g) :
    Calls Try.prog 36 #[kickV r g] w fun e w' => e = .returned (.int .i64 0) ∧ Below w.heap.size w w' := by
  obtain ⟨h1, h2, h3, h4⟩ := h
  go_enter Try.func36, Try.ntmps36
  go_wp2
  all_goals go_returns
  all_goals (refine ⟨rfl, ?_⟩; go_grown)
theorem checkKick_no (r g : Int) (w : World) (h : ¬ KickOK r g) :
    Calls Try.prog 36 #[kickV r g] w fun e w' => e = .returned (.int .i64 2) ∧ Below w.heap.size w w' := by
  rcases notKick h with h1 | ⟨h1, h2⟩ | ⟨h1, h2, h3⟩ | ⟨h1, h2, h3, h4⟩
  all_goals
    clear h
    go_enter Try.func36, Try.ntmps36
    go_wp2
    go_returns
    refine ⟨rfl, ?_⟩
    go_grown
theorem rcheckKick_yes (r g : Int) (w : World) (h : KickOK r g) :
    Calls Try.prog 37 #[kickV r g] w fun e w' => e = .returned (.int .i64 0) ∧ Below w.heap.size w w' := by
  obtain ⟨h1, h2, h3, h4⟩ := h
  go_enter Try.func37, Try.ntmps37
  go_wp2
  all_goals go_returns
  all_goals (refine ⟨rfl, ?_⟩; go_grown)
theorem rcheckKick_no (r g : Int) (w : World) (h : ¬ KickOK r g) :
    Calls Try.prog 37 #[kickV r g] w fun e w' => e = .returned (.int .i64 2) ∧ Below w.heap.size w w' := by
  rcases notKick h with h1 | ⟨h1, h2⟩ | ⟨h1, h2, h3⟩ | ⟨h1, h2, h3, h4⟩
  all_goals
    clear h
    go_enter Try.func37, Try.ntmps37
    go_wp2_with (go_at_call 69; first | (refine (between_yes _ _ _ _ (by omega) (by omega)).mono ?_; rintro e w' ⟨rfl, rfl⟩) | (refine (between_no _ _ _ _ (by omega)).mono ?_; rintro e w' ⟨rfl, rfl⟩))
    go_returns
    refine ⟨rfl, ?_⟩
    go_grown

end Go.Proofs.Ytlbgcjpkegpmlaa
/- Contracts of CheckSensor, of the program and of the reference. -/
namespace Go.Proofs.Ytlbgcjpkegpmlaa
open Go.RowKit

theorem checkSensor_yes (s : Sen) (w : World) (h : SenOK s) :
    Calls Try.prog 40 #[s.v] w fun e w' => e = .returned (.int .i64 0) ∧ Below w.heap.size w w' := by
  obtain ⟨hk, h1, h2, h3, h4, h5, h6, h7, h8, h9, h10, h11, h12, h13, h14⟩ := h
  obtain ⟨ch, pe, de, no, st, lo, li, ho⟩ := s
  unfold KindOK at hk
  simp only at hk h1 h2 h3 h4 h5 h6 h7 h8 h9 h10 h11 h12 h13 h14
  rcases hk with rfl | rfl
  all_goals
    go_enter Try.func40, Try.ntmps40
    go_wp2_with (go_at_call 68; refine (within_yes _ _ _ _ (by omega) (by omega)).mono ?_; rintro e w' ⟨rfl, rfl⟩)
    all_goals go_returns
    all_goals (refine ⟨rfl, ?_⟩; go_grown)
theorem checkSensor_kind (s : Sen) (w : World) (h : ¬ KindOK s) :
    Calls Try.prog 40 #[s.v] w fun e w' => e = .returned (.int .i64 4) ∧ Below w.heap.size w w' := by
  obtain ⟨ch, pe, de, no, st, lo, li, ho⟩ := s
  unfold KindOK at h
  simp only at h
  have h1 : (ch != 1) = true := by rw [bne_iff_ne]; omega
  have h2 : (ch != 2) = true := by rw [bne_iff_ne]; omega
  clear h
  go_enter Try.func40, Try.ntmps40
  go_wp2
  all_goals go_returns
  all_goals (refine ⟨rfl, ?_⟩; go_grown)
theorem checkSensor_range (s : Sen) (w : World) (hk : KindOK s) (h : ¬ RangeOK s) :
    Calls Try.prog 40 #[s.v] w fun e w' => e = .returned (.int .i64 2) ∧ Below w.heap.size w w' := by
  obtain ⟨ch, pe, de, no, st, lo, li, ho⟩ := s
  have H := Lib.hid h
  clear h
  unfold KindOK at hk
  simp only at hk
  rcases hk with rfl | rfl
  all_goals
    go_enter Try.func40, Try.ntmps40
    go_wp2_with (go_at_call 68; refine (within_any _ _ _ _).mono ?_; rintro e w' ⟨rfl, rfl⟩)
    all_goals first
      | (exfalso; apply H.out; unfold RangeOK; (try simp at *); omega)
      | (go_returns; refine ⟨rfl, ?_⟩; go_grown)
theorem rcheckSensor_yes (s : Sen) (w : World) (h : SenOK s) :
    Calls Try.prog 41 #[s.v] w fun e w' => e = .returned (.int .i64 0) ∧ Below w.heap.size w w' := by
  obtain ⟨hk, h1, h2, h3, h4, h5, h6, h7, h8, h9, h10, h11, h12, h13, h14⟩ := h
  obtain ⟨ch, pe, de, no, st, lo, li, ho⟩ := s
  unfold KindOK at hk
  simp only at hk h1 h2 h3 h4 h5 h6 h7 h8 h9 h10 h11 h12 h13 h14
  rcases hk with rfl | rfl
  all_goals
    go_enter Try.func41, Try.ntmps41
    go_wp2_with (go_at_call 69; refine (between_yes _ _ _ _ (by omega) (by omega)).mono ?_; rintro e w' ⟨rfl, rfl⟩)
    all_goals go_returns
    all_goals (refine ⟨rfl, ?_⟩; go_grown)
theorem rcheckSensor_kind (s : Sen) (w : World) (h : ¬ KindOK s) :
    Calls Try.prog 41 #[s.v] w fun e w' => e = .returned (.int .i64 4) ∧ Below w.heap.size w w' := by
  obtain ⟨ch, pe, de, no, st, lo, li, ho⟩ := s
  unfold KindOK at h
  simp only at h
  have h1 : (ch != 1) = true := by rw [bne_iff_ne]; omega
  have h2 : (ch != 2) = true := by rw [bne_iff_ne]; omega
  clear h
  go_enter Try.func41, Try.ntmps41
  go_wp2
  all_goals go_returns
  all_goals (refine ⟨rfl, ?_⟩; go_grown)
theorem rcheckSensor_range (s : Sen) (w : World) (hk : KindOK s) (h : ¬ RangeOK s) :
    Calls Try.prog 41 #[s.v] w fun e w' => e = .returned (.int .i64 2) ∧ Below w.heap.size w w' := by
  obtain ⟨ch, pe, de, no, st, lo, li, ho⟩ := s
  have H := Lib.hid h
  clear h
  unfold KindOK at hk
  simp only at hk
  rcases hk with rfl | rfl
  all_goals
    go_enter Try.func41, Try.ntmps41
    go_wp2_with (go_at_call 69; refine (between_any _ _ _ _).mono ?_; rintro e w' ⟨rfl, rfl⟩)
    all_goals first
      | (exfalso; apply H.out; unfold RangeOK; (try simp at *); omega)
      | (go_returns; refine ⟨rfl, ?_⟩; go_grown)

end Go.Proofs.Ytlbgcjpkegpmlaa
/- Contracts of the flows and gains (kick.influx), of kick.Gain, kick.Flow and of the reference's Gain, Flow. -/
namespace Go.Proofs.Ytlbgcjpkegpmlaa
open Go.RowKit

theorem gain_any (r g n : Int) (w : World) (h : KickOK r g) (hn : n ≤ 20000) :
    Calls Try.prog 66 #[kickV r g, .int .i64 n] w fun e w' => e = .returned (.int .i64 (gainAt r g n)) ∧ Below w.heap.size w w' := by
  obtain ⟨h1, h2, h3, h4⟩ := h
  by_cases h0 : n < 0
  · have hv : gainAt r g n = 0 := by simp [gainAt, h0]
    rw [hv]
    clear hv
    go_enter Try.func66, Try.ntmps66
    go_wp2
    go_returns
    refine ⟨rfl, ?_⟩
    repeat' (first | with_reducible exact Below.refl _ _ | with_reducible refine bstep ?_ (by with_reducible assumption) | with_reducible refine balloc ?_ | with_reducible refine bdrew ?_ | with_reducible refine bdrewN ?_ _ | with_reducible refine bset ?_ (by go_size))
  · have hv : gainAt r g n = n * r + g * (n * (n - 1) / 2) := by simp [gainAt, h0]
    rw [hv]
    clear hv
    have hn0 : 0 ≤ n := by omega
    clear h0
    obtain ⟨t1, t2, t3, t4⟩ := tri_bd n hn0 hn
    obtain ⟨b1, b2⟩ := mul_bd hn0 hn h1 h2
    obtain ⟨b3, b4⟩ := mul_bd h3 h4 t3 t4
    go_enter Try.func66, Try.ntmps66
    go_wp2
    go_returns
    refine ⟨rfl, ?_⟩
    repeat' (first | with_reducible exact Below.refl _ _ | with_reducible refine bstep ?_ (by with_reducible assumption) | with_reducible refine balloc ?_ | with_reducible refine bdrew ?_ | with_reducible refine bdrewN ?_ _ | with_reducible refine bset ?_ (by go_size))
theorem flow_any (r g n : Int) (w : World) (h : KickOK r g) (hn : n ≤ 20000) :
    Calls Try.prog 67 #[kickV r g, .int .i64 n] w fun e w' => e = .returned (.int .i64 (flowAt r g n)) ∧ Below w.heap.size w w' := by
  obtain ⟨h1, h2, h3, h4⟩ := h
  by_cases h0 : n < 0
  · have hv : flowAt r g n = 0 := by simp [flowAt, h0]
    rw [hv]
    clear hv
    go_enter Try.func67, Try.ntmps67
    go_wp2
    go_returns
    refine ⟨rfl, ?_⟩
    repeat' (first | with_reducible exact Below.refl _ _ | with_reducible refine bstep ?_ (by with_reducible assumption) | with_reducible refine balloc ?_ | with_reducible refine bdrew ?_ | with_reducible refine bdrewN ?_ _ | with_reducible refine bset ?_ (by go_size))
  · have hv : flowAt r g n = r + n * g := by simp [flowAt, h0]
    rw [hv]
    clear hv
    have hn0 : 0 ≤ n := by omega
    clear h0
    obtain ⟨b3, b4⟩ := mul_bd hn0 hn h3 h4
    go_enter Try.func67, Try.ntmps67
    go_wp2
    go_returns
    refine ⟨rfl, ?_⟩
    repeat' (first | with_reducible exact Below.refl _ _ | with_reducible refine bstep ?_ (by with_reducible assumption) | with_reducible refine balloc ?_ | with_reducible refine bdrew ?_ | with_reducible refine bdrewN ?_ _ | with_reducible refine bset ?_ (by go_size))

theorem Gain_any (r g n : Int) (w : World) :
    Calls Try.prog 23 #[kickV r g, .int .i64 n] w fun e w' => e = .returned (.int .i64 (gainF r g n)) ∧ Below w.heap.size w w' := by
  by_cases hk : KickOK r g
  · by_cases hn : n ≤ 20000
    · have hv : gainF r g n = gainAt r g n := by simp [gainF, hk, hn]
      rw [hv]
      clear hv
      have HK := Lib.hid hk
      clear hk
      go_enter Try.func23, Try.ntmps23
      go_wp2_with (first
        | (go_at_call 36; refine (checkKick_yes _ _ _ HK.out).mono ?_; rintro e w1 ⟨rfl, hb⟩; obtain ⟨hc, hf⟩ := bcell hb)
        | (go_at_call 66; refine (gain_any _ _ _ _ HK.out hn).mono ?_; rintro e w2 ⟨rfl, hb2⟩))
      go_returns
      refine ⟨rfl, ?_⟩
      repeat' (first | with_reducible exact Below.refl _ _ | with_reducible refine bstep ?_ (by with_reducible assumption) | with_reducible refine balloc ?_ | with_reducible refine bdrew ?_ | with_reducible refine bdrewN ?_ _ | with_reducible refine bset ?_ (by go_size))
    · have hv : gainF r g n = 0 := by simp [gainF, hn]
      rw [hv]
      clear hv
      have HK := Lib.hid hk
      clear hk
      have hn' : 20000 < n := by omega
      clear hn
      go_enter Try.func23, Try.ntmps23
      go_wp2_with (first
        | (go_at_call 36; refine (checkKick_yes _ _ _ HK.out).mono ?_; rintro e w1 ⟨rfl, hb⟩; obtain ⟨hc, hf⟩ := bcell hb))
      go_returns
      refine ⟨rfl, ?_⟩
      repeat' (first | with_reducible exact Below.refl _ _ | with_reducible refine bstep ?_ (by with_reducible assumption) | with_reducible refine balloc ?_ | with_reducible refine bdrew ?_ | with_reducible refine bdrewN ?_ _ | with_reducible refine bset ?_ (by go_size))
  · have hv : gainF r g n = 0 := by simp [gainF, hk]
    rw [hv]
    clear hv
    have HK := Lib.hid hk
    clear hk
    go_enter Try.func23, Try.ntmps23
    go_wp2_with (first
      | (go_at_call 36; refine (checkKick_no _ _ _ HK.out).mono ?_; rintro e w1 ⟨rfl, hb⟩; obtain ⟨hc, hf⟩ := bcell hb))
    go_returns
    refine ⟨rfl, ?_⟩
    repeat' (first | with_reducible exact Below.refl _ _ | with_reducible refine bstep ?_ (by with_reducible assumption) | with_reducible refine balloc ?_ | with_reducible refine bdrew ?_ | with_reducible refine bdrewN ?_ _ | with_reducible refine bset ?_ (by go_size))

theorem Flow_any (r g n : Int) (w : World) :
    Calls Try.prog 24 #[kickV r g, .int .i64 n] w fun e w' => e = .returned (.int .i64 (flowF r g n)) ∧ Below w.heap.size w w' := by
  by_cases hk : KickOK r g
  · by_cases hn : n ≤ 20000
    · have hv : flowF r g n = flowAt r g n := by simp [flowF, hk, hn]
      rw [hv]
      clear hv
      have HK := Lib.hid hk
      clear hk
      go_enter Try.func24, Try.ntmps24
      go_wp2_with (first
        | (go_at_call 36; refine (checkKick_yes _ _ _ HK.out).mono ?_; rintro e w1 ⟨rfl, hb⟩; obtain ⟨hc, hf⟩ := bcell hb)
        | (go_at_call 67; refine (flow_any _ _ _ _ HK.out hn).mono ?_; rintro e w2 ⟨rfl, hb2⟩))
      go_returns
      refine ⟨rfl, ?_⟩
      repeat' (first | with_reducible exact Below.refl _ _ | with_reducible refine bstep ?_ (by with_reducible assumption) | with_reducible refine balloc ?_ | with_reducible refine bdrew ?_ | with_reducible refine bdrewN ?_ _ | with_reducible refine bset ?_ (by go_size))
    · have hv : flowF r g n = 0 := by simp [flowF, hn]
      rw [hv]
      clear hv
      have HK := Lib.hid hk
      clear hk
      have hn' : 20000 < n := by omega
      clear hn
      go_enter Try.func24, Try.ntmps24
      go_wp2_with (first
        | (go_at_call 36; refine (checkKick_yes _ _ _ HK.out).mono ?_; rintro e w1 ⟨rfl, hb⟩; obtain ⟨hc, hf⟩ := bcell hb))
      go_returns
      refine ⟨rfl, ?_⟩
      repeat' (first | with_reducible exact Below.refl _ _ | with_reducible refine bstep ?_ (by with_reducible assumption) | with_reducible refine balloc ?_ | with_reducible refine bdrew ?_ | with_reducible refine bdrewN ?_ _ | with_reducible refine bset ?_ (by go_size))
  · have hv : flowF r g n = 0 := by simp [flowF, hk]
    rw [hv]
    clear hv
    have HK := Lib.hid hk
    clear hk
    go_enter Try.func24, Try.ntmps24
    go_wp2_with (first
      | (go_at_call 36; refine (checkKick_no _ _ _ HK.out).mono ?_; rintro e w1 ⟨rfl, hb⟩; obtain ⟨hc, hf⟩ := bcell hb))
    go_returns
    refine ⟨rfl, ?_⟩
    repeat' (first | with_reducible exact Below.refl _ _ | with_reducible refine bstep ?_ (by with_reducible assumption) | with_reducible refine balloc ?_ | with_reducible refine bdrew ?_ | with_reducible refine bdrewN ?_ _ | with_reducible refine bset ?_ (by go_size))

end Go.Proofs.Ytlbgcjpkegpmlaa
/- The contract of kick.late: the search for the first sample that counts, for each phase. Printed by genD.py. -/
namespace Go.Proofs.Ytlbgcjpkegpmlaa
open Go.RowKit

def lateV (s : Sen) (r g : Int) : Value := match lateF s r g with
  | some (t, f, a) => .tuple #[.agg #[.int .i64 t, .int .i64 f, .int .i64 a], .bool true]
  | none => .tuple #[.agg #[.int .i64 0, .int .i64 0, .int .i64 0], .bool false]
theorem lateV_some {s : Sen} {r g t f a : Int} (h : lateF s r g = some (t, f, a)) : lateV s r g = .tuple #[.agg #[.int .i64 t, .int .i64 f, .int .i64 a], .bool true] := by simp [lateV, h]
theorem lateV_none {s : Sen} {r g : Int} (h : lateF s r g = none) : lateV s r g = .tuple #[.agg #[.int .i64 0, .int .i64 0, .int .i64 0], .bool false] := by simp [lateV, h]

def senCells (ch pe de no st lo li ho : Int) : Array Value := #[.int .i64 ch, .int .i64 pe, .int .i64 de, .int .i64 no, .int .i64 st, .int .i64 lo, .int .i64 li, .int .i64 ho]
def outCells (o : Int × Int × Int) : Array Value := #[.int .i64 o.1, .int .i64 o.2.1, .int .i64 o.2.2]
theorem sen_cells {w : World} {b : Nat} {ch pe de no st lo li ho : Int} (h : Blk w b 23 (senCells ch pe de no st lo li ho)) :
    w.cell? ⟨b, 1, none⟩ = some (.int .i64 pe) ∧ w.cell? ⟨b, 2, none⟩ = some (.int .i64 de) ∧ w.cell? ⟨b, 3, none⟩ = some (.int .i64 no) ∧ w.cell? ⟨b, 4, none⟩ = some (.int .i64 st) ∧ w.cell? ⟨b, 5, none⟩ = some (.int .i64 lo) ∧ w.cell? ⟨b, 6, none⟩ = some (.int .i64 li) ∧ w.cell? ⟨b, 7, none⟩ = some (.int .i64 ho) :=
  ⟨h.cell 1 rfl, h.cell 2 rfl, h.cell 3 rfl, h.cell 4 rfl, h.cell 5 rfl, h.cell 6 rfl, h.cell 7 rfl⟩
theorem out_cells {w : World} {b : Nat} {x y z : Int} (h : Blk w b 110 (outCells (x, y, z))) :
    w.cell? ⟨b, 0, none⟩ = some (.int .i64 x) ∧ w.cell? ⟨b, 1, none⟩ = some (.int .i64 y) ∧ w.cell? ⟨b, 2, none⟩ = some (.int .i64 z) ∧ w.frozen? ⟨b, 0, none⟩ = false ∧ w.frozen? ⟨b, 1, none⟩ = false ∧ w.frozen? ⟨b, 2, none⟩ = false :=
  ⟨h.cell 0 rfl, h.cell 1 rfl, h.cell 2 rfl, h.froz 0, h.froz 1, h.froz 2⟩
theorem out_put {w : World} {b : Nat} {o x : Int × Int × Int} (h : Blk w b 110 (outCells o)) :
    Blk (((w.setCell ⟨b, 0, none⟩ (.int .i64 x.1)).setCell ⟨b, 1, none⟩ (.int .i64 x.2.1)).setCell ⟨b, 2, none⟩ (.int .i64 x.2.2)) b 110 (outCells x) := by
  have := ((h.put 0 (.int .i64 x.1)).put 1 (.int .i64 x.2.1)).put 2 (.int .i64 x.2.2)
  simpa [outCells] using this

theorem out_far {w : World} {b c : Nat} {t : TypeId} {cs : Array Value} {x y z : Value} (h : Blk w b t cs) (hc : b ≠ c) :
    Blk (((w.setCell ⟨c, 0, none⟩ x).setCell ⟨c, 1, none⟩ y).setCell ⟨c, 2, none⟩ z) b t cs := ((h.far hc _).far hc _).far hc _
theorem out_below {w w1 : World} {c : Nat} {x y z : Value} (h : Below w.heap.size w w1) (hc : w.heap.size ≤ c) :
    Below w.heap.size w (((w1.setCell ⟨c, 0, none⟩ x).setCell ⟨c, 1, none⟩ y).setCell ⟨c, 2, none⟩ z) := ((h.setCell hc _).setCell hc _).setCell hc _

theorem says_pit (s : Sen) (r g : Int) (w : World) (h : s.ch = 1) :
    Calls Try.prog 77 #[s.v, kickV r g] w fun e w' => e = .returned (.func (Fn.func 66) #[kickV r g] #[]) ∧ Below w.heap.size w w' := by
  obtain ⟨ch, pe, de, no, st, lo, li, ho⟩ := s
  subst h
  go_enter Try.func77, Try.ntmps77
  go_wp2
  go_returns
  refine ⟨rfl, ?_⟩
  repeat' (first | with_reducible exact Below.refl _ _ | with_reducible refine bstep ?_ (by with_reducible assumption) | with_reducible refine balloc ?_ | with_reducible refine bdrew ?_ | with_reducible refine bdrewN ?_ _ | with_reducible refine bset ?_ (by go_size))
theorem says_flow (s : Sen) (r g : Int) (w : World) (h : s.ch = 2) :
    Calls Try.prog 77 #[s.v, kickV r g] w fun e w' => e = .returned (.func (Fn.func 67) #[kickV r g] #[]) ∧ Below w.heap.size w w' := by
  obtain ⟨ch, pe, de, no, st, lo, li, ho⟩ := s
  subst h
  go_enter Try.func77, Try.ntmps77
  go_wp2
  go_returns
  refine ⟨rfl, ?_⟩
  repeat' (first | with_reducible exact Below.refl _ _ | with_reducible refine bstep ?_ (by with_reducible assumption) | with_reducible refine balloc ?_ | with_reducible refine bdrew ?_ | with_reducible refine bdrewN ?_ _ | with_reducible refine bset ?_ (by go_size))


set_option maxHeartbeats 2000000 in
set_option maxRecDepth 100000 in
theorem late_pit (pe de no st lo li ho r g : Int) (w : World) (hs : RangeOK ⟨1, pe, de, no, st, lo, li, ho⟩) (hk : KickOK r g) :
    Calls Try.prog 79 #[.agg #[.int .i64 1, .int .i64 pe, .int .i64 de, .int .i64 no, .int .i64 st, .int .i64 lo, .int .i64 li, .int .i64 ho], kickV r g] w fun e w' => e = .returned (lateV ⟨1, pe, de, no, st, lo, li, ho⟩ r g) ∧ Below w.heap.size w w' := by
  obtain ⟨h1, h2, h3, h4, h5, h6, h7, h8, h9, h10, h11, h12, h13, h14⟩ := hs
  simp only at h1 h2 h3 h4 h5 h6 h7 h8 h9 h10 h11 h12 h13 h14
  obtain ⟨n1, n2⟩ := mul_bd h5 h6 (by omega : 0 ≤ st) h8
  obtain ⟨q1, q2⟩ := mul_bd (by omega : 0 ≤ ho) h14 (by omega : 0 ≤ lo + 1) (by omega : lo + 1 ≤ 6)
  have q0 := mul_one_le h13 (by omega : 1 ≤ lo + 1)
  have HK := Lib.hid hk
  clear hk
  go_enter Try.func79, Try.ntmps79
  go_wp2_with fail
  go_step3
  go_wp2_with (go_at_call 77; refine (says_pit ⟨1, pe, de, no, st, lo, li, ho⟩ r g _ rfl).mono ?_; rintro e w1 ⟨rfl, hb⟩)
  go_step3
  have B0 : Blk w1 w.heap.size 23 (senCells 1 pe de no st lo li ho) := ((((Blk.new w _ _).alloc _).alloc _).alloc _).below hb
  have B2 : Blk w1 (w.heap.size + 1 + 1) 110 (outCells (0, 0, 0)) := by
    have h := ((Blk.new ((w.alloc (.cells #[.int .i64 1, .int .i64 pe, .int .i64 de, .int .i64 no, .int .i64 st, .int .i64 lo, .int .i64 li, .int .i64 ho] 23)).alloc (.cells #[.int .i64 r, .int .i64 g] 31)) 110 (outCells (0, 0, 0))).alloc (.cells (outCells (-1, 0, 0)) 110)).below hb
    simpa using h
  have B3 : Blk w1 (w.heap.size + 1 + 1 + 1) 110 (outCells (-1, 0, 0)) := by
    have h := (Blk.new (((w.alloc (.cells #[.int .i64 1, .int .i64 pe, .int .i64 de, .int .i64 no, .int .i64 st, .int .i64 lo, .int .i64 li, .int .i64 ho] 23)).alloc (.cells #[.int .i64 r, .int .i64 g] 31)).alloc (.cells (outCells (0, 0, 0)) 110)) 110 (outCells (-1, 0, 0))).below hb
    simpa using h
  have hbw : Below w.heap.size w w1 := by
    repeat' (first | with_reducible exact Below.refl _ _ | with_reducible refine bstep ?_ (by with_reducible assumption) | with_reducible refine balloc ?_ | with_reducible refine bdrew ?_ | with_reducible refine bdrewN ?_ _ | with_reducible refine bset ?_ (by go_size))
  obtain ⟨c1, -⟩ := sen_cells B0
  clear hb
  go_wp2_with fail
  go_loopg [17] (pe.toNat) (fun k v17 wx => ∃ (f : Nat) (o : Int × Int × Int), k + f = pe.toNat ∧ v17 = .int .i64 f ∧ Hid (lateGo ⟨1, pe, de, no, st, lo, li, ho⟩ r g k f o = lateF ⟨1, pe, de, no, st, lo, li, ho⟩ r g) ∧
    Blk wx w.heap.size 23 (senCells 1 pe de no st lo li ho) ∧ Blk wx (w.heap.size + 1 + 1) 110 (outCells (0, 0, 0)) ∧ Blk wx (w.heap.size + 1 + 1 + 1) 110 (outCells o) ∧ Below w.heap.size w wx)
  case atStart => exact ⟨0, (-1, 0, 0), rfl, rfl, rfl, B0, B2, B3, hbw⟩
  case round =>
    clear c1 B0 B2 B3 hbw
    obtain ⟨f, ⟨oa, ob, oc⟩, hkf, rfl, HG, B0, B2, B3, hbw⟩ := hrel
    cases gk with
    | zero =>
      have hlt : ¬ ((f : Int) < pe) := by omega
      obtain ⟨k0, k1, k2, -⟩ := out_cells B3
      obtain ⟨e0, e1, e2, f0, f1, f2⟩ := out_cells B2
      have hz := B3.lt
      have HV := Lib.hid (lateV_some (show lateF ⟨1, pe, de, no, st, lo, li, ho⟩ r g = some (oa, ob, oc) from HG.out.symm))
      clear HG
      go_wp2_with fail
      refine bodyPost_ret (v := .tuple #[.agg #[.int .i64 oa, .int .i64 ob, .int .i64 oc], .bool true]) (by simp [results, Try.results79, go_sem, cell_put_same, e0, e1, e2]) rfl ?_
      refine ⟨by rw [HV.out], ?_⟩
      repeat' (first | with_reducible exact Below.refl _ _ | with_reducible refine bstep ?_ (by with_reducible assumption) | with_reducible refine balloc ?_ | with_reducible refine bdrew ?_ | with_reducible refine bdrewN ?_ _ | with_reducible refine bset ?_ (by go_size))
    | succ k =>
      have hlt : (f : Int) < pe := by omega
      go_wp2_with fail
      go_loopg [9] 10001 (fun j v9 wy => ∃ a : Nat, j + a = 10001 ∧ v9 = .int .i64 a ∧ Hid (findA ⟨1, pe, de, no, st, lo, li, ho⟩ r g f j a = firstA ⟨1, pe, de, no, st, lo, li, ho⟩ r g f) ∧
        Blk wy w.heap.size 23 (senCells 1 pe de no st lo li ho) ∧ Blk wy (w.heap.size + 1 + 1) 110 (outCells (0, 0, 0)) ∧ Blk wy (w.heap.size + 1 + 1 + 1) 110 (outCells (oa, ob, oc)) ∧ Below w.heap.size w wy)
      case atStart => exact ⟨0, rfl, rfl, rfl, B0, B2, B3, hbw⟩
      case round =>
        clear B0 B2 B3 hbw
        rename_i wo _ _ _ _ _ _ _
        obtain ⟨a, hja, rfl, HF, B0, B2, B3, hbw⟩ := hrel
        obtain ⟨s1, s2, s3, s4, s5, s6, s7⟩ := sen_cells B0
        obtain ⟨k0, k1, k2, g0, g1, g2⟩ := out_cells B3
        obtain ⟨e0, e1, e2, f0, f1, f2⟩ := out_cells B2
        have hz0 := B0.lt
        have hz := B3.lt
        obtain ⟨p1, p2⟩ := mul_bd (by omega : (0 : Int) ≤ a) (by omega : (a : Int) ≤ 10001) (by omega : 0 ≤ pe) h2
        by_cases hr : (f : Int) + a * pe ≤ 10000
        · have ha1 : (a : Int) * 1 ≤ a * pe := Int.mul_le_mul_of_nonneg_left h1 (by omega)
          have ha2 : (a : Int) ≤ 10000 := by omega
          clear ha1
          have hj : ∃ j', gk = j' + 1 := ⟨gk - 1, by omega⟩
          obtain ⟨j, rfl⟩ := hj
          have hgb := says_bd (s := ⟨1, pe, de, no, st, lo, li, ho⟩) (n := (f : Int) + a * pe) HK.out (by omega)
          have hsay : saysAt ⟨1, pe, de, no, st, lo, li, ho⟩ r g ((f : Int) + a * pe) = gainAt r g ((f : Int) + a * pe) := by simp [saysAt]
          rw [hsay] at hgb
          obtain ⟨hg1, hg2⟩ := hgb
          by_cases hv : li ≤ gainAt r g ((f : Int) + a * pe) - no * st
          · have hfa : firstA ⟨1, pe, de, no, st, lo, li, ho⟩ r g f = some a := by rw [← HF.out]; simp [findA, hr, hsay, hv]
            obtain ⟨m1, m2⟩ := mul_bd (by omega : (0 : Int) ≤ a + ho * (lo + 1) - 1) (by omega : (a : Int) + ho * (lo + 1) - 1 ≤ 10049) (by omega : 0 ≤ pe) h2
            by_cases ht : 10000 < (f : Int) + (a + ho * (lo + 1) - 1) * pe + de
            · have HV := Lib.hid (lateV_none (show lateF ⟨1, pe, de, no, st, lo, li, ho⟩ r g = none by rw [← HG.out]; simp [lateGo, hfa, alarmT, ht]))
              clear HG hfa HF
              go_wp2_with fail
              have hn2 : (f : Int) + a * pe ≤ 20000 := by omega
              have W3 : IntKind.i64.wrap (no * st) = no * st := IntWalk.i64_in _ (by omega)
              have W4 : IntKind.i64.wrap (gainAt r g ((f : Int) + a * pe) - no * st) = gainAt r g ((f : Int) + a * pe) - no * st := IntWalk.i64_in _ (by omega)
              have W1 : IntKind.i64.wrap ((a : Int) * pe) = (a : Int) * pe := IntWalk.i64_in _ (by omega)
              have W2 : IntKind.i64.wrap ((f : Int) + (a : Int) * pe) = (f : Int) + (a : Int) * pe := IntWalk.i64_in _ (by omega)
              go_region_held3 (fun w' => w'.cell? ⟨w.heap.size, 1, none⟩ = some (.int .i64 pe) ∧ w'.cell? ⟨w.heap.size, 3, none⟩ = some (.int .i64 no) ∧ w'.cell? ⟨w.heap.size, 4, none⟩ = some (.int .i64 st) ∧ w'.cell? ⟨w.heap.size, 6, none⟩ = some (.int .i64 li)) (first | exact ⟨s1, s3, s4, s6⟩ | exact ⟨(hc _ _ hz0).trans s1, (hc _ _ hz0).trans s3, (hc _ _ hz0).trans s4, (hc _ _ hz0).trans s6⟩) (first | (go_at_call 66; (with_reducible refine (gain_any r g ((f : Int) + a * pe) _ HK.out hn2).mono ?_); rintro e w2 ⟨rfl, hb⟩; obtain ⟨hc, hf⟩ := bcell hb))
              clear W1 W2 W3 W4
              have B0' := B0.drew.below hb
              have B2' := B2.drew.below hb
              have B3' := B3.drew.below hb
              have hbw' : Below w.heap.size w w2 := by
                repeat' (first | with_reducible exact Below.refl _ _ | with_reducible refine bstep ?_ (by with_reducible assumption) | with_reducible refine balloc ?_ | with_reducible refine bdrew ?_ | with_reducible refine bdrewN ?_ _ | with_reducible refine bset ?_ (by go_size))
              clear s1 s2 s3 s4 s5 s6 s7 k0 k1 k2 g0 g1 g2 e0 e1 e2 f0 f1 f2 hz0 hz B0 B2 B3 hbw hc hf hb
              obtain ⟨s1, s2, s3, s4, s5, s6, s7⟩ := sen_cells B0'
              obtain ⟨k0, k1, k2, g0, g1, g2⟩ := out_cells B3'
              obtain ⟨e0, e1, e2, f0, f1, f2⟩ := out_cells B2'
              have hz0 := B0'.lt
              have hz := B3'.lt
              go_wp2_with fail
              rw [Exit.noGoto_ret]
              refine bodyPost_ret (v := .tuple #[.agg #[.int .i64 0, .int .i64 0, .int .i64 0], .bool false]) (by simp [results, Try.results79, go_sem, cell_put_same, e0, e1, e2]) rfl ?_
              refine ⟨by rw [HV.out], ?_⟩
              repeat' (first | with_reducible exact Below.refl _ _ | with_reducible refine bstep ?_ (by with_reducible assumption) | with_reducible refine balloc ?_ | with_reducible refine bdrew ?_ | with_reducible refine bdrewN ?_ _ | with_reducible refine bset ?_ (by go_size))
            · by_cases hgt : oa < (f : Int) + (a + ho * (lo + 1) - 1) * pe + de
              · have HG2 : Hid (lateGo ⟨1, pe, de, no, st, lo, li, ho⟩ r g k (f + 1) ((f : Int) + (a + ho * (lo + 1) - 1) * pe + de, (f : Int), (a : Int)) = lateF ⟨1, pe, de, no, st, lo, li, ho⟩ r g) := by
                  show _ = _
                  rw [← HG.out]; simp [lateGo, hfa, alarmT, ht, hgt]
                clear HG hfa HF
                go_wp2_with fail
                have hn2 : (f : Int) + a * pe ≤ 20000 := by omega
                have W3 : IntKind.i64.wrap (no * st) = no * st := IntWalk.i64_in _ (by omega)
                have W4 : IntKind.i64.wrap (gainAt r g ((f : Int) + a * pe) - no * st) = gainAt r g ((f : Int) + a * pe) - no * st := IntWalk.i64_in _ (by omega)
                have W1 : IntKind.i64.wrap ((a : Int) * pe) = (a : Int) * pe := IntWalk.i64_in _ (by omega)
                have W2 : IntKind.i64.wrap ((f : Int) + (a : Int) * pe) = (f : Int) + (a : Int) * pe := IntWalk.i64_in _ (by omega)
                go_region_held3 (fun w' => w'.cell? ⟨w.heap.size, 1, none⟩ = some (.int .i64 pe) ∧ w'.cell? ⟨w.heap.size, 3, none⟩ = some (.int .i64 no) ∧ w'.cell? ⟨w.heap.size, 4, none⟩ = some (.int .i64 st) ∧ w'.cell? ⟨w.heap.size, 6, none⟩ = some (.int .i64 li)) (first | exact ⟨s1, s3, s4, s6⟩ | exact ⟨(hc _ _ hz0).trans s1, (hc _ _ hz0).trans s3, (hc _ _ hz0).trans s4, (hc _ _ hz0).trans s6⟩) (first | (go_at_call 66; (with_reducible refine (gain_any r g ((f : Int) + a * pe) _ HK.out hn2).mono ?_); rintro e w2 ⟨rfl, hb⟩; obtain ⟨hc, hf⟩ := bcell hb))
                clear W1 W2 W3 W4
                have B0' := B0.drew.below hb
                have B2' := B2.drew.below hb
                have B3' := B3.drew.below hb
                have hbw' : Below w.heap.size w w2 := by
                  repeat' (first | with_reducible exact Below.refl _ _ | with_reducible refine bstep ?_ (by with_reducible assumption) | with_reducible refine balloc ?_ | with_reducible refine bdrew ?_ | with_reducible refine bdrewN ?_ _ | with_reducible refine bset ?_ (by go_size))
                clear s1 s2 s3 s4 s5 s6 s7 k0 k1 k2 g0 g1 g2 e0 e1 e2 f0 f1 f2 hz0 hz B0 B2 B3 hbw hc hf hb
                obtain ⟨s1, s2, s3, s4, s5, s6, s7⟩ := sen_cells B0'
                obtain ⟨k0, k1, k2, g0, g1, g2⟩ := out_cells B3'
                obtain ⟨e0, e1, e2, f0, f1, f2⟩ := out_cells B2'
                have hz0 := B0'.lt
                have hz := B3'.lt
                go_wp2_with fail
                go_roundg k
                case measure => omega
                case rel => exact ⟨f + 1, ((f : Int) + (a + ho * (lo + 1) - 1) * pe + de, (f : Int), (a : Int)), by omega, by go_num, HG2, out_far B0' (by omega), out_far B2' (by omega), out_put (x := ((f : Int) + (a + ho * (lo + 1) - 1) * pe + de, (f : Int), (a : Int))) B3', out_below hbw' (by omega)⟩
              · have HG2 : Hid (lateGo ⟨1, pe, de, no, st, lo, li, ho⟩ r g k (f + 1) (oa, ob, oc) = lateF ⟨1, pe, de, no, st, lo, li, ho⟩ r g) := by
                  show _ = _
                  rw [← HG.out]; simp [lateGo, hfa, alarmT, ht, hgt]
                clear HG hfa HF
                go_wp2_with fail
                have hn2 : (f : Int) + a * pe ≤ 20000 := by omega
                have W3 : IntKind.i64.wrap (no * st) = no * st := IntWalk.i64_in _ (by omega)
                have W4 : IntKind.i64.wrap (gainAt r g ((f : Int) + a * pe) - no * st) = gainAt r g ((f : Int) + a * pe) - no * st := IntWalk.i64_in _ (by omega)
                have W1 : IntKind.i64.wrap ((a : Int) * pe) = (a : Int) * pe := IntWalk.i64_in _ (by omega)
                have W2 : IntKind.i64.wrap ((f : Int) + (a : Int) * pe) = (f : Int) + (a : Int) * pe := IntWalk.i64_in _ (by omega)
                go_region_held3 (fun w' => w'.cell? ⟨w.heap.size, 1, none⟩ = some (.int .i64 pe) ∧ w'.cell? ⟨w.heap.size, 3, none⟩ = some (.int .i64 no) ∧ w'.cell? ⟨w.heap.size, 4, none⟩ = some (.int .i64 st) ∧ w'.cell? ⟨w.heap.size, 6, none⟩ = some (.int .i64 li)) (first | exact ⟨s1, s3, s4, s6⟩ | exact ⟨(hc _ _ hz0).trans s1, (hc _ _ hz0).trans s3, (hc _ _ hz0).trans s4, (hc _ _ hz0).trans s6⟩) (first | (go_at_call 66; (with_reducible refine (gain_any r g ((f : Int) + a * pe) _ HK.out hn2).mono ?_); rintro e w2 ⟨rfl, hb⟩; obtain ⟨hc, hf⟩ := bcell hb))
                clear W1 W2 W3 W4
                have B0' := B0.drew.below hb
                have B2' := B2.drew.below hb
                have B3' := B3.drew.below hb
                have hbw' : Below w.heap.size w w2 := by
                  repeat' (first | with_reducible exact Below.refl _ _ | with_reducible refine bstep ?_ (by with_reducible assumption) | with_reducible refine balloc ?_ | with_reducible refine bdrew ?_ | with_reducible refine bdrewN ?_ _ | with_reducible refine bset ?_ (by go_size))
                clear s1 s2 s3 s4 s5 s6 s7 k0 k1 k2 g0 g1 g2 e0 e1 e2 f0 f1 f2 hz0 hz B0 B2 B3 hbw hc hf hb
                obtain ⟨s1, s2, s3, s4, s5, s6, s7⟩ := sen_cells B0'
                obtain ⟨k0, k1, k2, g0, g1, g2⟩ := out_cells B3'
                obtain ⟨e0, e1, e2, f0, f1, f2⟩ := out_cells B2'
                have hz0 := B0'.lt
                have hz := B3'.lt
                go_wp2_with fail
                go_roundg k
                case measure => omega
                case rel => exact ⟨f + 1, (oa, ob, oc), by omega, by go_num, HG2, B0', B2', B3', hbw'⟩
          · have HF2 : Hid (findA ⟨1, pe, de, no, st, lo, li, ho⟩ r g f j (a + 1) = firstA ⟨1, pe, de, no, st, lo, li, ho⟩ r g f) := by
              show _ = _
              rw [← HF.out]; simp [findA, hr, hsay, hv]
            clear HF
            go_wp2_with fail
            have hn2 : (f : Int) + a * pe ≤ 20000 := by omega
            have W3 : IntKind.i64.wrap (no * st) = no * st := IntWalk.i64_in _ (by omega)
            have W4 : IntKind.i64.wrap (gainAt r g ((f : Int) + a * pe) - no * st) = gainAt r g ((f : Int) + a * pe) - no * st := IntWalk.i64_in _ (by omega)
            have W1 : IntKind.i64.wrap ((a : Int) * pe) = (a : Int) * pe := IntWalk.i64_in _ (by omega)
            have W2 : IntKind.i64.wrap ((f : Int) + (a : Int) * pe) = (f : Int) + (a : Int) * pe := IntWalk.i64_in _ (by omega)
            go_region_held3 (fun w' => w'.cell? ⟨w.heap.size, 1, none⟩ = some (.int .i64 pe) ∧ w'.cell? ⟨w.heap.size, 3, none⟩ = some (.int .i64 no) ∧ w'.cell? ⟨w.heap.size, 4, none⟩ = some (.int .i64 st) ∧ w'.cell? ⟨w.heap.size, 6, none⟩ = some (.int .i64 li)) (first | exact ⟨s1, s3, s4, s6⟩ | exact ⟨(hc _ _ hz0).trans s1, (hc _ _ hz0).trans s3, (hc _ _ hz0).trans s4, (hc _ _ hz0).trans s6⟩) (first | (go_at_call 66; (with_reducible refine (gain_any r g ((f : Int) + a * pe) _ HK.out hn2).mono ?_); rintro e w2 ⟨rfl, hb⟩; obtain ⟨hc, hf⟩ := bcell hb))
            clear W1 W2 W3 W4
            have B0' := B0.drew.below hb
            have B2' := B2.drew.below hb
            have B3' := B3.drew.below hb
            have hbw' : Below w.heap.size w w2 := by
              repeat' (first | with_reducible exact Below.refl _ _ | with_reducible refine bstep ?_ (by with_reducible assumption) | with_reducible refine balloc ?_ | with_reducible refine bdrew ?_ | with_reducible refine bdrewN ?_ _ | with_reducible refine bset ?_ (by go_size))
            clear s1 s2 s3 s4 s5 s6 s7 k0 k1 k2 g0 g1 g2 e0 e1 e2 f0 f1 f2 hz0 hz B0 B2 B3 hbw hc hf hb
            obtain ⟨s1, s2, s3, s4, s5, s6, s7⟩ := sen_cells B0'
            obtain ⟨k0, k1, k2, g0, g1, g2⟩ := out_cells B3'
            obtain ⟨e0, e1, e2, f0, f1, f2⟩ := out_cells B2'
            have hz0 := B0'.lt
            have hz := B3'.lt
            go_wp2_with fail
            go_roundg j
            case measure => omega
            case rel => exact ⟨a + 1, by omega, by go_num, HF2, B0', B2', B3', hbw'⟩
        · have hfa : firstA ⟨1, pe, de, no, st, lo, li, ho⟩ r g f = none := by
            rw [← HF.out]
            cases gk <;> simp [findA, hr]
          have HV := Lib.hid (lateV_none (show lateF ⟨1, pe, de, no, st, lo, li, ho⟩ r g = none by rw [← HG.out]; simp [lateGo, hfa]))
          clear HG hfa HF
          go_wp2_with fail
          refine bodyPost_ret (v := .tuple #[.agg #[.int .i64 0, .int .i64 0, .int .i64 0], .bool false]) (by simp [results, Try.results79, go_sem, cell_put_same, e0, e1, e2]) rfl ?_
          refine ⟨by rw [HV.out], ?_⟩
          repeat' (first | with_reducible exact Below.refl _ _ | with_reducible refine bstep ?_ (by with_reducible assumption) | with_reducible refine balloc ?_ | with_reducible refine bdrew ?_ | with_reducible refine bdrewN ?_ _ | with_reducible refine bset ?_ (by go_size))

end Go.Proofs.Ytlbgcjpkegpmlaa
/- A block of n integers, told by a function. -/
namespace Go.Proofs.Ytlbgcjpkegpmlaa
open Go.RowKit

def fcells (n : Nat) (F : Nat → Int) : Array Value := ((List.range n).map fun j => Value.int .i64 (F j)).toArray
/-- Block b holds just the n integers F 0, F 1, .. -/
def FB (w : World) (b : Nat) (t : TypeId) (n : Nat) (F : Nat → Int) : Prop := Blk w b t (fcells n F)
section
variable {w w' : World} {b n : Nat} {t : TypeId} {F G : Nat → Int}
theorem FB.lt (h : FB w b t n F) : b < w.heap.size := Blk.lt h
theorem FB.cell (h : FB w b t n F) (i : Nat) (hi : i < n) : w.cell? ⟨b, i, none⟩ = some (.int .i64 (F i)) := Blk.cell h i (by simp [fcells, hi])
theorem FB.froz (h : FB w b t n F) (i : Nat) : w.frozen? ⟨b, i, none⟩ = false := Blk.froz h i
theorem fcells_congr (h : ∀ j, j < n → F j = G j) : fcells n F = fcells n G := by
  unfold fcells
  rw [List.map_congr_left (fun j hj => by rw [h j (by simpa using hj)])]
theorem FB.congr (h : FB w b t n F) (hg : ∀ j, j < n → F j = G j) : FB w b t n G := by
  unfold FB at h ⊢
  rwa [← fcells_congr hg]
theorem fcells_set (i : Nat) (x : Int) : (fcells n F).setIfInBounds i (.int .i64 x) = fcells n fun j => if j = i then x else F j := by
  apply Array.ext_getElem?
  intro j
  simp only [fcells, List.setIfInBounds_toArray, List.getElem?_toArray, List.getElem?_set, List.length_map, List.length_range, List.getElem?_map]
  by_cases hj : j < n
  · by_cases e : i = j
    · subst e; simp [hj]
    · have e' : ¬ j = i := fun h => e h.symm
      simp [hj, e, e']
  · by_cases e : i = j
    · subst e; simp [hj]
    · simp [hj, e]
theorem FB.put (h : FB w b t n F) (i : Nat) (x : Int) : FB (w.setCell ⟨b, i, none⟩ (.int .i64 x)) b t n fun j => if j = i then x else F j := by
  have := Blk.put h i (.int .i64 x)
  rw [fcells_set] at this
  exact this
theorem FB.far (h : FB w b t n F) {p : Addr} (hp : b ≠ p.block) (u : Value) : FB (w.setCell p u) b t n F := Blk.far h hp u
theorem FB.alloc (h : FB w b t n F) (o : Obj) : FB (w.alloc o) b t n F := Blk.alloc h o
theorem FB.below (h : FB w b t n F) (hb : Below w.heap.size w w') : FB w' b t n F := Blk.below h hb
end
theorem fcells9 (F : Nat → Int) : fcells 9 F = #[.int .i64 (F 0), .int .i64 (F 1), .int .i64 (F 2), .int .i64 (F 3), .int .i64 (F 4), .int .i64 (F 5), .int .i64 (F 6), .int .i64 (F 7), .int .i64 (F 8)] := by
  simp [fcells, List.range, List.range.loop]
theorem FB.new9 (w : World) (t : TypeId) (F : Nat → Int) : FB (w.alloc (.cells #[.int .i64 (F 0), .int .i64 (F 1), .int .i64 (F 2), .int .i64 (F 3), .int .i64 (F 4), .int .i64 (F 5), .int .i64 (F 6), .int .i64 (F 7), .int .i64 (F 8)] t)) w.heap.size t 9 F := by
  rw [← fcells9]; exact Blk.new w t _
theorem FB.cells9 {w : World} {b : Nat} {t : TypeId} {F : Nat → Int} (h : FB w b t 9 F) :
    w.cell? ⟨b, 0, none⟩ = some (.int .i64 (F 0)) ∧ w.cell? ⟨b, 1, none⟩ = some (.int .i64 (F 1)) ∧ w.cell? ⟨b, 2, none⟩ = some (.int .i64 (F 2)) ∧ w.cell? ⟨b, 3, none⟩ = some (.int .i64 (F 3)) ∧ w.cell? ⟨b, 4, none⟩ = some (.int .i64 (F 4)) ∧
    w.cell? ⟨b, 5, none⟩ = some (.int .i64 (F 5)) ∧ w.cell? ⟨b, 6, none⟩ = some (.int .i64 (F 6)) ∧ w.cell? ⟨b, 7, none⟩ = some (.int .i64 (F 7)) ∧ w.cell? ⟨b, 8, none⟩ = some (.int .i64 (F 8)) :=
  ⟨h.cell 0 (by omega), h.cell 1 (by omega), h.cell 2 (by omega), h.cell 3 (by omega), h.cell 4 (by omega), h.cell 5 (by omega), h.cell 6 (by omega), h.cell 7 (by omega), h.cell 8 (by omega)⟩
theorem FB.put9 {w : World} {b : Nat} {t : TypeId} {F G : Nat → Int} (h : FB w b t 9 F) :
    FB (((((((((w.setCell ⟨b, 0, none⟩ (.int .i64 (G 0))).setCell ⟨b, 1, none⟩ (.int .i64 (G 1))).setCell ⟨b, 2, none⟩ (.int .i64 (G 2))).setCell ⟨b, 3, none⟩ (.int .i64 (G 3))).setCell ⟨b, 4, none⟩ (.int .i64 (G 4))).setCell ⟨b, 5, none⟩ (.int .i64 (G 5))).setCell ⟨b, 6, none⟩ (.int .i64 (G 6))).setCell ⟨b, 7, none⟩ (.int .i64 (G 7))).setCell ⟨b, 8, none⟩ (.int .i64 (G 8))) b t 9 G :=
  (((((((((h.put 0 (G 0)).put 1 (G 1)).put 2 (G 2)).put 3 (G 3)).put 4 (G 4)).put 5 (G 5)).put 6 (G 6)).put 7 (G 7)).put 8 (G 8)).congr fun j hj => by
    have : j = 0 ∨ j = 1 ∨ j = 2 ∨ j = 3 ∨ j = 4 ∨ j = 5 ∨ j = 6 ∨ j = 7 ∨ j = 8 := by omega
    rcases this with rfl | rfl | rfl | rfl | rfl | rfl | rfl | rfl | rfl <;> simp
theorem Blk.far9 {w : World} {b c : Nat} {t : TypeId} {cs : Array Value} {x0 x1 x2 x3 x4 x5 x6 x7 x8 : Value} (h : Blk w b t cs) (hc : b ≠ c) :
    Blk (((((((((w.setCell ⟨c, 0, none⟩ x0).setCell ⟨c, 1, none⟩ x1).setCell ⟨c, 2, none⟩ x2).setCell ⟨c, 3, none⟩ x3).setCell ⟨c, 4, none⟩ x4).setCell ⟨c, 5, none⟩ x5).setCell ⟨c, 6, none⟩ x6).setCell ⟨c, 7, none⟩ x7).setCell ⟨c, 8, none⟩ x8) b t cs :=
  ((((((((h.far hc _).far hc _).far hc _).far hc _).far hc _).far hc _).far hc _).far hc _).far hc _
theorem below9 {w w1 : World} {c : Nat} {x0 x1 x2 x3 x4 x5 x6 x7 x8 : Value} (h : Below w.heap.size w w1) (hc : w.heap.size ≤ c) :
    Below w.heap.size w (((((((((w1.setCell ⟨c, 0, none⟩ x0).setCell ⟨c, 1, none⟩ x1).setCell ⟨c, 2, none⟩ x2).setCell ⟨c, 3, none⟩ x3).setCell ⟨c, 4, none⟩ x4).setCell ⟨c, 5, none⟩ x5).setCell ⟨c, 6, none⟩ x6).setCell ⟨c, 7, none⟩ x7).setCell ⟨c, 8, none⟩ x8) :=
  ((((((((h.setCell hc _).setCell hc _).setCell hc _).setCell hc _).setCell hc _).setCell hc _).setCell hc _).setCell hc _).setCell hc _
theorem fcells_made (n : Nat) : madeCells #[.int .i64 0] n = fcells n fun _ => 0 := by
  apply Array.ext_getElem?
  intro i
  by_cases h : i < n
  · simp [madeCells, fcells, h, Nat.mod_one]
  · simp [madeCells, fcells, h]
/-- make of n integers, of whatever type: the block that is made, and that nothing else has turned. -/
theorem make_ints {P : Program} {t e : TypeId} {bytes : Nat} (ht : P.underlying t = some (.slice e)) (hi : (P.info? e).map (fun i => (i.zero, i.size, i.bytes)) = some (some (.int .i64 0), 1, bytes)) (kl kc : IntKind) (n : Nat) (hb : bytes * n ≤ 281474976710656) (hn : n ≤ 9223372036854775807) (w : World) :
    ∃ w', (Instr.makeSlice t (.int kl (n : Int)) (.int kc (n : Int))).run P w = .ok (.slice (some ⟨w.heap.size, 0, none⟩) n n) w' ∧ FB w' w.heap.size e n (fun _ => 0) ∧ Below w.heap.size w w' ∧ w'.heap.size = w.heap.size + 1 :=
  ⟨_, run_make_row' t e (.int .i64 0) bytes ht hi rfl kl kc n hb hn w, by rw [fcells_made]; exact Blk.new w e _, balloc (Below.refl _ _), by simp⟩
end Go.Proofs.Ytlbgcjpkegpmlaa
/- The contract of kick.False. -/
namespace Go.Proofs.Ytlbgcjpkegpmlaa
open Go.RowKit


theorem arr96 : Try.prog.arrayLen 96 = 9 := by kernel_rfl
theorem elem96 (w : World) : (sizeOf (Try.prog.elem 96)).run Try.prog w = .ok 1 w := by kernel_rfl
theorem und96 : Try.prog.underlying 96 = some (.array (Try.prog.arrayLen 96) (Try.prog.elem 96)) := by kernel_rfl
theorem slice96 (q : Nat) (hq : q ≤ 9) (b : Nat) (w : World) : (Instr.sliceAt 96 (.pointer (some ⟨b, 0, none⟩)) none (some (.int .i64 (q : Int))) none).run Try.prog w = .ok (.slice (some ⟨b, 0, none⟩) q 9) w := by
  rw [run_sliceAt_array_h w 96 ⟨b, 0, none⟩ und96 .i64 q (by omega) (by rw [arr96]; omega), elem96, arr96]
  simp [slicedAt, Result.andThen, Addr.add]

set_option maxHeartbeats 2000000 in
set_option maxRecDepth 100000 in
theorem False_ok (ch pe de no st lo li d : Int) (q : Nat) (w : World) (hk : KindOK ⟨ch, pe, de, no, st, lo, li, q⟩) (hs : RangeOK ⟨ch, pe, de, no, st, lo, li, q⟩) (hd1 : 1 ≤ d) (hd2 : d ≤ 12) :
    Calls Try.prog 17 #[.agg #[.int .i64 ch, .int .i64 pe, .int .i64 de, .int .i64 no, .int .i64 st, .int .i64 lo, .int .i64 li, .int .i64 q], .int .i64 d] w fun e w' =>
      e = .returned (.tuple #[.int .i64 (falseP ⟨ch, pe, de, no, st, lo, li, q⟩ d.toNat).1, .int .i64 (falseP ⟨ch, pe, de, no, st, lo, li, q⟩ d.toNat).2, .int .i64 0]) ∧ Below w.heap.size w w' := by
  have HS := Lib.hid (show SenOK ⟨ch, pe, de, no, st, lo, li, q⟩ from ⟨hk, hs⟩)
  have hhi := high_bd hs
  obtain ⟨h1, h2, h3, h4, h5, h6, h7, h8, h9, h10, h11, h12, h13, h14⟩ := hs
  simp only at h1 h2 h3 h4 h5 h6 h7 h8 h9 h10 h11 h12 h13 h14 hhi
  obtain ⟨hh0, hh1⟩ := hhi
  clear hk
  go_enter Try.func17, Try.ntmps17
  go_wp2_with fail
  refine (checkSensor_yes ⟨ch, pe, de, no, st, lo, li, q⟩ _ HS.out).mono ?_
  rintro e w1 ⟨rfl, hb⟩
  have B0 : Blk w1 w.heap.size 23 (senCells ch pe de no st lo li q) := (Blk.new w _ _).below hb
  have hbw : Below w.heap.size w w1 := by
    repeat' (first | with_reducible exact Below.refl _ _ | with_reducible refine bstep ?_ (by with_reducible assumption) | with_reducible refine balloc ?_ | with_reducible refine bdrew ?_ | with_reducible refine bdrewN ?_ _ | with_reducible refine bset ?_ (by go_size))
  obtain ⟨s1, s2, s3, s4, s5, s6, s7⟩ := sen_cells B0
  clear hb
  have hd3 : ¬ (d < 1) := by omega
  have hd4 : ¬ (12 < d) := by omega
  go_wp2_with fail
  -- the high errors
  have HF : Hid (highGo st li (2 * no + 1).toNat (-no) 0 = highF ⟨ch, pe, de, no, st, lo, li, q⟩) := rfl
  go_loopg [9, 10] ((2 * no + 1).toNat) (fun k v9 v10 wx => ∃ x hi : Int, (k : Int) + x = no + 1 ∧ -no ≤ x ∧ 0 ≤ hi ∧ hi + k ≤ 31 ∧ v9 = .int .i64 hi ∧ v10 = .int .i64 x ∧ Hid (highGo st li k x hi = highF ⟨ch, pe, de, no, st, lo, li, q⟩) ∧ w1 = wx)
  case atStart => exact ⟨-no, 0, by omega, by omega, by omega, by omega, rfl, rfl, HF, rfl⟩
  case round =>
    obtain ⟨x, h, hkx, hx1, hhi1, hhi2, rfl, rfl, HG, rfl⟩ := hrel
    clear HF
    cases gk with
    | succ k =>
      have hx : x ≤ no := by omega
      have hxs : -15728640 ≤ x * st ∧ x * st ≤ 31457280 := by
        have e := mul_bd (by omega : 0 ≤ x + 15) (by omega : x + 15 ≤ 30) (by omega : 0 ≤ st) h8
        have e2 := mul_bd (by omega : (0 : Int) ≤ 15) (by omega : (15 : Int) ≤ 15) (by omega : 0 ≤ st) h8
        rw [Int.add_mul] at e
        omega
      obtain ⟨hxs1, hxs2⟩ := hxs
      by_cases hv : li ≤ x * st
      · have HG2 : Hid (highGo st li k (x + 1) (h + 1) = highF ⟨ch, pe, de, no, st, lo, li, q⟩) := by
          show _ = _
          rw [← HG.out]; simp [highGo, hv]
        clear HG
        go_wp2_with fail
        go_roundg k
        case measure => omega
        case rel => exact ⟨x + 1, h + 1, by omega, by omega, by omega, by omega, by go_num, by go_num, HG2, rfl⟩
      · have HG2 : Hid (highGo st li k (x + 1) h = highF ⟨ch, pe, de, no, st, lo, li, q⟩) := by
          show _ = _
          rw [← HG.out]; simp [highGo, hv]
        clear HG
        go_wp2_with fail
        go_roundg k
        case measure => omega
        case rel => exact ⟨x + 1, h, by omega, by omega, by omega, by omega, rfl, by go_num, HG2, rfl⟩
    | zero =>
      have hx : no < x := by omega
      have hh : h = highF ⟨ch, pe, de, no, st, lo, li, q⟩ := HG.out
      rw [← hh] at hh0 hh1
      have HH := Lib.hid hh.symm
      clear hh HG
      have hw1 := B0.lt
      have HG : Hid (falseGo (2 * no + 1) h q d.toNat row0 0 1 = falseP ⟨ch, pe, de, no, st, lo, li, q⟩ d.toNat) := by
        show _ = _
        unfold falseP
        rw [HH.out, Int.toNat_natCast]
      go_wp2_with fail
      -- the rows
      go_loopg [4, 5, 50] (d.toNat) (fun k v4 v5 v50 wx => ∃ (j : Nat) (R : Nat → Int) (al all : Int), k + j = d.toNat ∧ v50 = .int .i64 j ∧ v4 = .int .i64 al ∧ v5 = .int .i64 all ∧ Hid (falseGo (2 * no + 1) h q k R al all = falseP ⟨ch, pe, de, no, st, lo, li, q⟩ d.toNat) ∧ Rows9 (2 * no + 1) h q j R al all ∧
        Blk wx w.heap.size 23 (senCells ch pe de no st lo li q) ∧ FB wx w1.heap.size 96 9 R ∧ Below w.heap.size w wx)
      case atStart =>
        exact ⟨0, row0, 0, 1, rfl, rfl, rfl, rfl, HG, Rows9.start _ _ _ (by omega), B0.alloc _, FB.new9 w1 96 row0, balloc hbw⟩
      case round =>
        clear HG s1 s2 s3 s4 s5 s6 s7
        obtain ⟨j, R, al, all, hkj, rfl, rfl, rfl, HG, HR, B1, F1, hbx⟩ := hrel
        obtain ⟨s1, s2, s3, s4, s5, s6, s7⟩ := sen_cells B1
        have hz0 := B1.lt
        have hz1 := F1.lt
        cases gk with
        | zero =>
          have hjd : ¬ ((j : Int) < d) := by omega
          have HV : Hid ((al, all) = falseP ⟨ch, pe, de, no, st, lo, li, q⟩ d.toNat) := HG.out
          clear HG
          go_wp2_with fail
          go_ret3
          rw [← HV.out]
          exact ⟨rfl, hbx⟩
        | succ k =>
          have hjd : (j : Int) < d := by omega
          have HG2 : Hid (falseGo (2 * no + 1) h q k (stepRow (2 * no + 1) h q R) (al * (2 * no + 1) + R (q - 1) * h) (all * (2 * no + 1)) = falseP ⟨ch, pe, de, no, st, lo, li, q⟩ d.toNat) := HG.out
          clear HG
          have HR2 := HR.step (by omega) hh0 (by omega) (by omega)
          obtain ⟨b1, b2, b3, b4⟩ := HR.small (by omega) (by omega) (by omega)
          obtain ⟨d1, d2⟩ := mul_bd HR.al0 b2 (by omega : 0 ≤ 2 * no + 1) (by omega : 2 * no + 1 ≤ 31)
          obtain ⟨d3, d4⟩ := mul_bd (by have := HR.one; omega : 0 ≤ all) b1 (by omega : 0 ≤ 2 * no + 1) (by omega : 2 * no + 1 ≤ 31)
          obtain ⟨c0, c1, c2, c3, c4, c5, c6, c7, c8⟩ := F1.cells9
          have g0 := F1.froz 0
          have g1 := F1.froz 1
          have g2 := F1.froz 2
          have g3 := F1.froz 3
          have g4 := F1.froz 4
          have g5 := F1.froz 5
          have g6 := F1.froz 6
          have g7 := F1.froz 7
          have g8 := F1.froz 8
          have HB4 := Lib.hid b4
          clear b4
          have hsl := slice96 q (by omega) wr.heap.size
          have hnew : ∀ W' : World, W'.heap.size = wr.heap.size → FB (W'.alloc (.cells #[.int .i64 (R 0), .int .i64 (R 1), .int .i64 (R 2), .int .i64 (R 3), .int .i64 (R 4), .int .i64 (R 5), .int .i64 (R 6), .int .i64 (R 7), .int .i64 (R 8)] 96)) wr.heap.size 96 9 R := fun W' e => by rw [← e]; exact FB.new9 W' 96 R
          have HN := Lib.hid hnew
          clear hnew
          obtain ⟨wo, rfl⟩ : ∃ wo : World, wo = wr := ⟨_, rfl⟩
          go_wp2_with fail
          go_loopg [58] q (fun z v58 wy => ∃ m : Nat, z + m = q ∧ v58 = .int .i64 m ∧ Blk wy w.heap.size 23 (senCells ch pe de no st lo li q) ∧ FB wy wo.heap.size 96 9 R ∧ FB wy w1.heap.size 96 9 (partRow (2 * no + 1) h R m) ∧ Below w.heap.size w wy)
          case atStart =>
            refine ⟨0, rfl, rfl, (B1.far9 (by omega)).alloc _, HN.out _ (by simp), ((F1.put9 (G := fun _ => 0)).alloc _).congr (fun j _ => (partRow_zero _ _ _ j).symm), balloc (below9 hbx (by omega))⟩
          case round =>
            clear HN hsl c0 c1 c2 c3 c4 c5 c6 c7 c8 g0 g1 g2 g3 g4 g5 g6 g7 g8 s1 s2 s3 s4 s5 s6 s7
            obtain ⟨m, hzm, rfl, B2, F2, F3, hby⟩ := hrel
            obtain ⟨s1, s2, s3, s4, s5, s6, s7⟩ := sen_cells B2
            have hz2 := B2.lt
            have hz3 := F3.lt
            have hz4 := F2.lt
            cases gk with
            | zero =>
              obtain rfl : m = q := by omega
              have hlt : ¬ ((m : Int) < (m : Int)) := by omega
              have e0 : partRow (2 * no + 1) h R m m = R (m - 1) * h := by simp [partRow, show ¬ m = 0 from by omega]
              obtain ⟨p1, p2⟩ := mul_bd (HR.pos (m - 1)) (HB4.out (m - 1) (by omega)) hh0 (by omega : h ≤ 31)
              have cm := F3.cell m (by omega)
              rw [e0] at cm
              have gm := F3.froz m
              clear e0
              have HE := Lib.hid HR2
              clear HR2
              go_wp2_with fail
              go_roundg k
              case measure => omega
              case rel =>
                exact ⟨j + 1, stepRow (2 * no + 1) h m R, al * (2 * no + 1) + R (m - 1) * h, all * (2 * no + 1), by omega, by go_num, rfl, rfl, HG2, HE.out, B2.far (by simp; omega) _, (F3.put m 0).congr (fun j _ => partRow_step _ _ _ _ _ (by omega)), bset hby (by simp; omega)⟩
            | succ z =>
              have hlt : (m : Int) < (q : Int) := by omega
              have e0 : partRow (2 * no + 1) h R m 0 = sumTo (fun k => R k * (2 * no + 1 - h)) m := by simp [partRow]
              have e1 : partRow (2 * no + 1) h R m (m + 1) = 0 := by simp [partRow]
              have cm := F2.cell m (by omega)
              have c0 := F3.cell 0 (by omega)
              have c1 := F3.cell (m + 1) (by omega)
              rw [e0] at c0
              rw [e1] at c1
              have g0 := F3.froz 0
              have g1 := F3.froz (m + 1)
              clear e0 e1
              obtain ⟨p1, p2⟩ := mul_bd (HR.pos m) (HB4.out m (by omega)) hh0 (by omega : h ≤ 31)
              obtain ⟨p3, p4⟩ := mul_bd (HR.pos m) (HB4.out m (by omega)) (by omega : 0 ≤ 2 * no + 1 - h) (by omega : 2 * no + 1 - h ≤ 31)
              have p5 : 0 ≤ sumTo (fun k => R k * (2 * no + 1 - h)) m := sumTo_nonneg (fun k => Int.mul_nonneg (HR.pos k) (by omega)) m
              have p6 : sumTo (fun k => R k * (2 * no + 1 - h)) m ≤ 25408476896404831 * 31 := by
                rw [sumTo_mul]
                exact (mul_bd (sumTo_nonneg HR.pos m) (Int.le_trans (sumTo_mono HR.pos (by omega : m ≤ q)) b3) (by omega) (by omega)).2
              generalize hS : sumTo (fun k => R k * (2 * no + 1 - h)) m = S at c0 p5 p6
              have HS2 := Lib.hid hS
              clear hS
              go_wp2_with fail
              go_roundg z
              case measure => omega
              case rel =>
                exact ⟨m + 1, by omega, by go_num, (B2.far (by simp; omega) _).far (by simp; omega) _, (F2.far (by simp; omega) _).far (by simp; omega) _, ((F3.put 0 (S + R m * (2 * no + 1 - h))).put (m + 1) (R m * h)).congr (fun j _ => by rw [← HS2.out]; exact partRow_succ _ _ _ _ _), bset (bset hby (by simp; omega)) (by simp; omega)⟩
end Go.Proofs.Ytlbgcjpkegpmlaa
/- Maps with numbers as keys: what a block holds, looked up, written, ranged over. -/
namespace Go.Proofs.Ytlbgcjpkegpmlaa
open Go.RowKit
open Go.ChangeMaps (setBlock heap_setBlock_same heap_setBlock_other)
set_option linter.unusedSimpArgs false
set_option linter.unusedVariables false

abbrev Prs := List (Int × Value)
def valAt : Prs → Int → Value → Value
  | [], _, z => z
  | (j, v) :: l, k, z => if j = k then v else valAt l k z
def putG : Prs → Int → Value → Prs
  | [], k, v => [(k, v)]
  | (j, u) :: l, k, v => if j = k then (k, v) :: l else (j, u) :: putG l k v
theorem valAt_none {k : Int} {z : Value} : ∀ {G : Prs}, (∀ g ∈ G, g.1 ≠ k) → valAt G k z = z
  | [], _ => rfl
  | (j, v) :: l, h => by
    simp only [valAt, if_neg (h (j, v) (by simp))]
    exact valAt_none fun g hg => h g (by simp [hg])
theorem valAt_some {k : Int} {v z : Value} : ∀ {G : Prs}, (G.map (·.1)).Nodup → (k, v) ∈ G → valAt G k z = v
  | [], _, h => by cases h
  | (j, u) :: l, hn, h => by
    simp only [List.map_cons, List.nodup_cons] at hn
    rcases List.mem_cons.1 h with h | h
    · cases h; simp [valAt]
    · have : j ≠ k := fun e => hn.1 (e ▸ List.mem_map_of_mem (f := (·.1)) h)
      simp only [valAt, if_neg this]
      exact valAt_some hn.2 h
theorem putG_none {k : Int} {v : Value} : ∀ {G : Prs}, (∀ g ∈ G, g.1 ≠ k) → putG G k v = G ++ [(k, v)]
  | [], _ => rfl
  | (j, u) :: l, h => by
    simp only [putG, if_neg (h (j, u) (by simp)), List.cons_append]
    rw [putG_none fun g hg => h g (by simp [hg])]
theorem putG_set {k : Int} {v : Value} : ∀ {G : Prs}, (G.map (·.1)).Nodup → ∀ {i : Nat} {u : Value}, G[i]? = some (k, u) → putG G k v = G.set i (k, v)
  | [], _, i, u, h => by simp at h
  | (j, w) :: l, hn, 0, u, h => by simp at h; obtain ⟨rfl, rfl⟩ := h; simp [putG]
  | (j, w) :: l, hn, i + 1, u, h => by
    simp only [List.map_cons, List.nodup_cons] at hn
    have h : l[i]? = some (k, u) := by simpa using h
    have : j ≠ k := fun e => hn.1 (e ▸ List.mem_map_of_mem (f := (·.1)) (List.mem_of_getElem? h))
    simp only [putG, if_neg this, List.set_cons_succ]
    rw [putG_set hn.2 h]
/-- Who stands in the map behind a store. -/
theorem putG_mem {k : Int} {v : Value} : ∀ {G : Prs} {g : Int × Value}, (G.map (·.1)).Nodup → (g ∈ putG G k v ↔ g = (k, v) ∨ (g ∈ G ∧ g.1 ≠ k))
  | [], g, _ => by simp [putG]
  | (j, u) :: l, g, hn => by
    simp only [List.map_cons, List.nodup_cons] at hn
    by_cases e : j = k
    · subst e
      simp only [putG, if_true, List.mem_cons]
      constructor
      · rintro (h | h)
        · exact .inl h
        · exact .inr ⟨.inr h, fun e => hn.1 (e ▸ List.mem_map_of_mem (f := (·.1)) h)⟩
      · rintro (h | ⟨h | h, h'⟩)
        · exact .inl h
        · subst h; exact absurd rfl h'
        · exact .inr h
    · simp only [putG, if_neg e, List.mem_cons, putG_mem hn.2]
      constructor
      · rintro (h | h | h)
        · subst h; exact .inr ⟨.inl rfl, e⟩
        · exact .inl h
        · exact .inr ⟨.inr h.1, h.2⟩
      · rintro (h | ⟨h | h, h'⟩)
        · exact .inr (.inl h)
        · exact .inl h
        · exact .inr (.inr ⟨h, h'⟩)
theorem putG_keys {k : Int} {v : Value} : ∀ {G : Prs}, (G.map (·.1)).Nodup → ((putG G k v).map (·.1)).Nodup
  | [], _ => by simp [putG]
  | (j, u) :: l, hn => by
    have hn' := hn
    simp only [List.map_cons, List.nodup_cons] at hn
    by_cases e : j = k
    · subst e; simpa [putG] using hn'
    · simp only [putG, if_neg e, List.map_cons, List.nodup_cons]
      refine ⟨fun hm => ?_, putG_keys hn.2⟩
      obtain ⟨g, hg, hj⟩ := List.mem_map.1 hm
      rcases (putG_mem hn.2).1 hg with rfl | ⟨hg, -⟩
      · exact e hj.symm
      · exact hn.1 (hj ▸ List.mem_map_of_mem (f := (·.1)) hg)
theorem putG_len {k : Int} {v : Value} : ∀ {G : Prs}, (putG G k v).length ≤ G.length + 1
  | [] => by simp [putG]
  | (j, u) :: l => by
    by_cases e : j = k
    · simp [putG, if_pos e]
    · simp only [putG, if_neg e, List.length_cons]
      have := @putG_len k v l
      omega

def PairsOf (es : Array MapEntry) (G : Prs) : Prop := es.toList.map (fun x => (x.key, x.val)) = G.map fun g => (Value.int .i64 g.1, g.2)
/-- A map's block, by its entries. -/
def MapAt (w : World) (b : Nat) (G : Prs) : Prop := ∃ es clock, w.heap[b]? = some (.map es clock) ∧ es.size ≤ maxLen ∧ MapKept.Stamped es clock ∧ PairsOf es G
theorem PairsOf.nodup {es : Array MapEntry} {G : Prs} {clock : Nat} (h : PairsOf es G) (hs : MapKept.Stamped es clock) : (G.map (·.1)).Nodup := by
  have h1 : es.toList.map (·.key) = G.map fun g => Value.int .i64 g.1 := by
    have := congrArg (List.map Prod.fst) h
    simpa [List.map_map, Function.comp_def] using this
  have h2 := hs.2.2
  rw [h1] at h2
  have e : (G.map fun g => Value.int .i64 g.1) = (G.map (·.1)).map (Value.int .i64) := by simp [List.map_map, Function.comp_def]
  rw [e] at h2
  exact (List.pairwise_map.1 h2).imp fun h e => h (by rw [e])
theorem PairsOf.at {es : Array MapEntry} {G : Prs} (h : PairsOf es G) {j : Nat} {x : MapEntry} (hx : es.toList[j]? = some x) : ∃ g, G[j]? = some g ∧ x.key = .int .i64 g.1 ∧ x.val = g.2 := by
  have := congrArg (fun l => l[j]?) h
  simp only [List.getElem?_map, hx, Option.map_some] at this
  cases hg : G[j]? with
  | none => rw [hg] at this; cases this
  | some g => rw [hg] at this; simp only [Option.map_some, Option.some.injEq, Prod.mk.injEq] at this; exact ⟨g, rfl, this.1, this.2⟩
theorem PairsOf.of {es : Array MapEntry} {G : Prs} (h : PairsOf es G) {j : Nat} {g : Int × Value} (hg : G[j]? = some g) : ∃ x, es.toList[j]? = some x ∧ x.key = .int .i64 g.1 ∧ x.val = g.2 := by
  have := congrArg (fun l => l[j]?) h
  simp only [List.getElem?_map, hg, Option.map_some] at this
  cases hx : es.toList[j]? with
  | none => rw [hx] at this; cases this
  | some x => rw [hx] at this; simp only [Option.map_some, Option.some.injEq, Prod.mk.injEq] at this; exact ⟨x, rfl, this.1, this.2⟩
theorem PairsOf.key {es : Array MapEntry} {G : Prs} (h : PairsOf es G) {x : MapEntry} (hx : x ∈ es.toList) : ∃ g ∈ G, x.key = .int .i64 g.1 ∧ x.val = g.2 := by
  obtain ⟨j, hj, e⟩ := List.getElem_of_mem hx
  obtain ⟨g, hg, h1, h2⟩ := h.at (show es.toList[j]? = some x by rw [List.getElem?_eq_getElem hj, e])
  exact ⟨g, List.mem_of_getElem? hg, h1, h2⟩
section
variable {P : Program} {t k e : TypeId} (ht : P.underlying t = some (.map k e)) (hk : P.underlying k = some (.int .i64)) {w : World} {b : Nat} {G : Prs}
theorem lit_wf {n : Int} (h : -9223372036854775808 ≤ n ∧ n ≤ 9223372036854775807) : (Lit.int .i64 n).wf = true := by
  have e1 : IntKind.i64.min = -9223372036854775808 := rfl
  have e2 : IntKind.i64.max = 9223372036854775807 := rfl
  simp [Lit.wf, e1, e2]
  omega
theorem MapAt.lt (h : MapAt w b G) : b < w.heap.size := by obtain ⟨es, clock, hb, -⟩ := h; exact (Array.getElem?_eq_some_iff.1 hb).1
theorem MapAt.nodup (h : MapAt w b G) : (G.map (·.1)).Nodup := by obtain ⟨es, clock, -, -, hs, hp⟩ := h; exact hp.nodup hs
theorem MapAt.kept {w' : World} (h : MapAt w b G) (hb : w'.heap[b]? = w.heap[b]?) : MapAt w' b G := by obtain ⟨es, clock, h1, h2⟩ := h; exact ⟨es, clock, hb.trans h1, h2⟩
theorem MapAt.made (w : World) : MapAt (w.alloc (.map #[] 0)) w.heap.size [] := ⟨#[], 0, (MapKept.heap_alloc w _).1, by simp, MapKept.stamped_empty 0, rfl⟩
include ht hk
theorem MapAt.look (h : MapAt w b G) (hG : ∀ g ∈ G, -9223372036854775808 ≤ g.1 ∧ g.1 ≤ 9223372036854775807) {n : Int} (hn : -9223372036854775808 ≤ n ∧ n ≤ 9223372036854775807) {z : Value} (hz : (zeroValue e).run P w = .ok z w) : (Instr.lookup t (.map (some b)) (.int .i64 n) false).run P w = .ok (valAt G n z) w := by
  obtain ⟨es, clock, hb, hsz, hst, hp⟩ := h
  have K := Maps.int_keyed hk
  have hkey := Maps.keyOf_int_mk hk (lit_wf hn)
  rcases K.find w hkey es.toList (fun x hx => by
    obtain ⟨g, hg, h1, -⟩ := hp.key hx
    rw [h1]
    exact ⟨_, Maps.keyOf_int_mk hk (lit_wf (hG g hg))⟩) with ⟨h1, h2⟩ | ⟨j, e0, h1, h2, h3⟩
  · rw [valAt_none fun g hg hgn => ?_]
    · simp [Instr.lookup, run_underlying ht, MapKept.run_getObj_map hb, K.check w _ hkey, h1, hz, Result.andThen]
    · obtain ⟨j, hj, ej⟩ := List.getElem_of_mem hg
      obtain ⟨x, hx, hx1, -⟩ := hp.of (show G[j]? = some g by rw [List.getElem?_eq_getElem hj, ej])
      exact h2 x (List.mem_of_getElem? hx) (by rw [hx1, hgn])
  · obtain ⟨g, hg, hg1, hg2⟩ := hp.at h2
    rw [h3] at hg1
    cases hg1
    rw [valAt_some (hp.nodup hst) (show (g.1, e0.val) ∈ G by rw [hg2]; exact List.mem_of_getElem? hg)]
    simp [Instr.lookup, run_underlying ht, MapKept.run_getObj_map hb, K.check w _ hkey, h1, Result.andThen]
theorem MapAt.store (h : MapAt w b G) (hG : ∀ g ∈ G, -9223372036854775808 ≤ g.1 ∧ g.1 ≤ 9223372036854775807) (hroom : G.length < maxLen) {n : Int} (hn : -9223372036854775808 ≤ n ∧ n ≤ 9223372036854775807) (v : Value) :
    ∃ o, (Instr.mapUpdate t (.map (some b)) (.int .i64 n) v).run P w = .ok () (setBlock w b o) ∧ MapAt (setBlock w b o) b (putG G n v) ∧ ∀ i, i ≠ b → (setBlock w b o).heap[i]? = w.heap[i]? := by
  obtain ⟨es, clock, hb, hsz, hst, hp⟩ := h
  have K := Maps.int_keyed hk
  have hkey := Maps.keyOf_int_mk hk (lit_wf hn)
  have hlen : es.size = G.length := by have := congrArg List.length hp; simpa using this
  rcases K.find w hkey es.toList (fun x hx => by
    obtain ⟨g, hg, h1, -⟩ := hp.key hx
    rw [h1]
    exact ⟨_, Maps.keyOf_int_mk hk (lit_wf (hG g hg))⟩) with ⟨h1, h2⟩ | ⟨j, e0, h1, h2, h3⟩
  · refine ⟨.map (es.push ⟨.int .i64 n, v, clock⟩) (clock + 1), ?_, ⟨_, _, heap_setBlock_same hb _, by simp; omega, MapKept.stamped_push hst h2, ?_⟩, fun i hi => heap_setBlock_other hb _ hi⟩
    · simp [Instr.mapUpdate, run_underlying ht, MapKept.run_getObj_map hb, K.check w false hkey, h1, MapKept.run_setObj_map _ hb, Result.andThen, setBlock]
    · rw [putG_none fun g hg hgn => ?_]
      · unfold PairsOf at hp ⊢
        simp [hp]
      · obtain ⟨j, hj, ej⟩ := List.getElem_of_mem hg
        obtain ⟨x, hx, hx1, -⟩ := hp.of (show G[j]? = some g by rw [List.getElem?_eq_getElem hj, ej])
        exact h2 x (List.mem_of_getElem? hx) (by rw [hx1, hgn])
  · have hj : es[j]? = some e0 := by simpa using h2
    obtain ⟨g, hg, hg1, hg2⟩ := hp.at h2
    rw [h3] at hg1
    cases hg1
    refine ⟨.map (es.modify j (fun e' => { e' with key := .int .i64 g.1, val := v })) clock, ?_, ⟨_, _, heap_setBlock_same hb _, by simpa using hsz, MapKept.stamped_modify hst _ _ (fun _ _ => rfl) (fun e' _ he' => by rw [hj] at he'; cases he'; exact h3.symm), ?_⟩, fun i hi => heap_setBlock_other hb _ hi⟩
    · simp [Instr.mapUpdate, run_underlying ht, MapKept.run_getObj_map hb, K.check w false hkey, h1, hj, h3, K.stays w hkey, MapKept.run_setObj_map _ hb, Result.andThen, setBlock]
    · rw [putG_set (hp.nodup hst) (show G[j]? = some (g.1, g.2) from hg)]
      unfold PairsOf at hp ⊢
      have hlist : (es.modify j (fun e' => { e' with key := Value.int .i64 g.1, val := v })).toList = es.toList.set j { e0 with key := .int .i64 g.1, val := v } := by
        rw [Array.toList_modify]
        apply List.ext_getElem?
        intro i
        simp only [List.getElem?_modify, List.getElem?_set]
        by_cases hij : j = i
        · subst hij
          simp only [if_true, h2, Option.map_some]
          have : j < es.toList.length := (List.getElem?_eq_some_iff.1 h2).1
          rw [if_pos (by simpa using this)]
          rfl
        · simp [hij]
      rw [hlist, List.map_set, List.map_set, hp]
omit ht hk in
/-- An iterator over a map: which keys it has handed out. -/
def IterAt (w : World) (r b : Nat) (G : Prs) (seen : List Int) : Prop :=
  ∃ es clock since sn c0, w.heap[b]? = some (.map es clock) ∧ MapKept.Stamped es clock ∧ PairsOf es G ∧ w.heap[r]? = some (.mapIter (some b) since sn c0) ∧ (∀ x ∈ es.toList, x.born < since) ∧ since ≤ c0 ∧ since ≤ clock ∧ ∀ x ∈ es.toList, ∀ g ∈ G, x.key = .int .i64 g.1 → (sn.contains x.born = true ↔ g.1 ∈ seen)
end
section
variable {P : Program} {t k e : TypeId} {w : World} {b r : Nat} {G : Prs} {seen : List Int}
theorem IterAt.kept {w' : World} (h : IterAt w r b G seen) (hb : w'.heap[b]? = w.heap[b]?) (hr : w'.heap[r]? = w.heap[r]?) : IterAt w' r b G seen := by
  obtain ⟨es, clock, since, sn, c0, h1, h2, h3, h4, h5⟩ := h
  exact ⟨es, clock, since, sn, c0, hb.trans h1, h2, h3, hr.trans h4, h5⟩
theorem IterAt.start (ht : P.underlying t = some (.map k e)) (h : MapAt w b G) : ∃ o, (Instr.range t (.map (some b))).run P w = .ok (.pointer (some ⟨w.heap.size, 0, none⟩)) (w.alloc o) ∧ IterAt (w.alloc o) w.heap.size b G [] := by
  obtain ⟨es, clock, hb, hsz, hst, hp⟩ := h
  have hlt : b < w.heap.size := (Array.getElem?_eq_some_iff.1 hb).1
  refine ⟨.mapIter (some b) clock #[] clock, run_range_map w t k e b es clock ht hb, es, clock, clock, #[], clock, (heap_alloc_old w _ hlt).trans hb, hst, hp, heap_alloc_new w _, hst.1, Nat.le_refl _, Nat.le_refl _, fun x hx g hg hxg => by simp⟩
/-- The next round: nothing is left, or some key comes that had not come. -/
theorem IterAt.next (ty : TypeId) (hbr : b ≠ r) (h : IterAt w r b G seen) :
    ((∀ g ∈ G, g.1 ∈ seen) ∧ (Instr.next (.pointer (some ⟨r, 0, none⟩)) false ty).run P w = .ok (.tuple #[.bool false]) w) ∨
    ∃ g ∈ G, g.1 ∉ seen ∧ ∃ w', (Instr.next (.pointer (some ⟨r, 0, none⟩)) false ty).run P w = .ok (.tuple #[.bool true, .int .i64 g.1, g.2]) w' ∧ IterAt w' r b G (g.1 :: seen) ∧
      w'.heap.size = w.heap.size ∧ (∀ i, i ≠ r → w'.heap[i]? = w.heap[i]?) ∧ w'.os = w.os ∧ w'.tape = w.tape ∧ w'.output = w.output ∧
      ∀ u, u.heap[b]? = w'.heap[b]? → u.heap[r]? = w'.heap[r]? → (Instr.entry (.pointer (some ⟨r, 0, none⟩))).run P u = .ok (.tuple #[.int .i64 g.1, g.2]) u := by
  obtain ⟨es, clock, since, sn, c0, hb, hst, hp, hr, hold, hsc, hcl, hseen⟩ := h
  rcases run_next_at (P := P) w ty r b since c0 sn es clock hr hb hold hsc with ⟨h0, hrun⟩ | ⟨x, hx, w1, hw1, hrun⟩
  · refine .inl ⟨fun g hg => ?_, hrun⟩
    obtain ⟨j, hj, ej⟩ := List.getElem_of_mem hg
    obtain ⟨x, hx, hx1, -⟩ := hp.of (show G[j]? = some g by rw [List.getElem?_eq_getElem hj, ej])
    have hxm := List.mem_of_getElem? hx
    exact (hseen x hxm g hg hx1).1 (all_seen es sn h0 x hxm)
  · obtain ⟨hxm, hxs⟩ := mem_left hx
    obtain ⟨g, hg, hg1, hg2⟩ := hp.key hxm
    have hns : g.1 ∉ seen := fun hin => by rw [(hseen x hxm g hg hg1).2 hin] at hxs; cases hxs
    have hr1 : w1.heap[r]? = some (.mapIter (some b) since sn c0) := by rcases hw1 with rfl | rfl <;> exact hr
    have hw1h : w1.heap = w.heap := by rcases hw1 with rfl | rfl <;> rfl
    have hset : ∀ i, i ≠ r → (setBlock w1 r (.mapIter (some b) since (sn.push x.born) clock)).heap[i]? = w.heap[i]? := fun i hi => by
      simp only [setBlock, Array.getElem?_setIfInBounds, if_neg (Ne.symm hi), hw1h]
    have hsame : (setBlock w1 r (.mapIter (some b) since (sn.push x.born) clock)).heap[r]? = some (.mapIter (some b) since (sn.push x.born) clock) := by
      have : r < w1.heap.size := (Array.getElem?_eq_some_iff.1 hr1).1
      simp [setBlock, this]
    refine .inr ⟨g, hg, hns, setBlock w1 r (.mapIter (some b) since (sn.push x.born) clock), by rw [hrun, hg1, hg2], ?_, by simp [setBlock, hw1h], hset, ?_, ?_, ?_, ?_⟩
    · refine ⟨es, clock, since, sn.push x.born, clock, (hset b hbr).trans hb, hst, hp, hsame, hold, hcl, hcl, fun y hy g' hg' hyg => ?_⟩
      · rw [contains_push]
        simp only [Bool.or_eq_true, beq_iff_eq, List.mem_cons]
        rw [hseen y hy g' hg' hyg]
        have hnod := hst.2.1
        constructor
        · rintro (h | h)
          · exact .inr h
          · have := born_inj hnod hy hxm h
            subst this
            rw [hyg] at hg1
            exact .inl (by simpa using hg1)
        · rintro (h | h)
          · have hkk : y.key = x.key := by rw [hyg, hg1, h]
            have hpk : es.toList.Pairwise (fun x y => x.key ≠ y.key) := ((MapKept.stamped_iff es clock).1 hst).2.2
            refine .inr ?_
            rw [entry_eq_of_key hpk hy hxm hkk]
          · exact .inl h
    · rcases hw1 with rfl | rfl <;> rfl
    · rcases hw1 with rfl | rfl <;> rfl
    · rcases hw1 with rfl | rfl <;> rfl
    · intro u hub hur
      rw [← hg1, ← hg2]
      exact run_entry_at u r b since sn es clock x (hur.trans hsame) (hub.trans ((hset b hbr).trans hb)) hxm hst.2.1
end
end Go.Proofs.Ytlbgcjpkegpmlaa
/- Pieces of a code by hand: what a state says where blocks of nobody's have turned. -/
namespace Go.Proofs.Ytlbgcjpkegpmlaa
open Go.RowKit
set_option linter.unusedSimpArgs false
set_option linter.unusedVariables false

section
variable {Γ : Env} {base' : Nat → Nat → Prop}
theorem Lf.den_base (l : Lf) : l.den { Γ with base := base' } = l.den Γ := by cases l <;> rfl
theorem dens_base (l : List Lf) : dens { Γ with base := base' } l = dens Γ l := by
  unfold dens; rw [List.map_congr_left fun x _ => Lf.den_base x]
theorem S0.den_base (s : S0) : s.den { Γ with base := base' } = s.den Γ := by
  cases s with
  | lf l => exact Lf.den_base l
  | agg l => simp only [S0.den, dens_base]
theorem SV.den_base (s : SV) : s.den { Γ with base := base' } = s.den Γ := by
  cases s with
  | one s => exact S0.den_base s
  | tup l => simp only [SV.den]; rw [List.map_congr_left fun x _ => S0.den_base x]
  | fn f l => simp only [SV.den, dens_base]
theorem Lf.ok_base {P : Program} {w : World} {O : Nat → Nat → Prop} {l : Lf} : l.ok P w O { Γ with base := base' } ↔ l.ok P w O Γ := by cases l <;> exact Iff.rfl
theorem S0.ok_base {P : Program} {w : World} {O : Nat → Nat → Prop} {s : S0} : s.ok P w O { Γ with base := base' } ↔ s.ok P w O Γ := ⟨fun h l hl => Lf.ok_base.1 (h l hl), fun h l hl => Lf.ok_base.2 (h l hl)⟩
theorem SV.ok_base {P : Program} {w : World} {O : Nat → Nat → Prop} {s : SV} : s.ok P w O { Γ with base := base' } ↔ s.ok P w O Γ := by
  cases s with
  | one s => exact S0.ok_base
  | tup l => exact ⟨fun h s hs => S0.ok_base.1 (h s hs), fun h s hs => S0.ok_base.2 (h s hs)⟩
  | fn f l => exact ⟨fun h l hl => Lf.ok_base.1 (h l hl), fun h l hl => Lf.ok_base.2 (h l hl)⟩
theorem Hold.base {st : St} {s : Bool} {j b : Nat} : Hold { Γ with base := base' } st s j b ↔ Hold Γ st s j b := by cases s <;> exact Iff.rfl
end
/-- Only blocks that are watched over and nobody's have turned; new ones may be watched over. -/
theorem Sat.hand {P : Program} {F : Nat → Prop} {w0 : World} {Γ : Env} {st : St} {a : Act} {w : World} (h : Sat P F w0 Γ st a w) {w' : World} {F' : Nat → Prop} {base' : Nat → Nat → Prop} (hsz : w.heap.size ≤ w'.heap.size)
    (hblk : ∀ i, i < w.heap.size → ¬ (F i ∧ ∀ o, Γ.base i o) → w'.heap[i]? = w.heap[i]?) (hb2 : ∀ b o, base' b o → Γ.base b o ∨ w.heap.size ≤ b) (hb3 : ∀ b o, base' b o → b < w'.heap.size)
    (hF : ∀ i, F' i → i < w'.heap.size ∧ (F i ∨ w.heap.size ≤ i ∨ ∃ o, ¬ Own Γ st i o)) : Sat P F' w' { Γ with base := base' } st a w' := by
  have hown : ∀ b o, Own { Γ with base := base' } st b o → Own Γ st b o ∨ w.heap.size ≤ b := fun b o hb => by
    rcases Own.iff.1 hb with hb | ⟨s, j, hh⟩
    · exact (hb2 b o hb).imp (fun h => .inl h) id
    · exact .inl ((Hold.base.1 hh).own o)
  have hkeep : ∀ b o, b < w.heap.size → ¬ Own Γ st b o → w'.cell? ⟨b, o, none⟩ = w.cell? ⟨b, o, none⟩ ∧ ¬ Own { Γ with base := base' } st b o := fun b o hlt hno =>
    ⟨World.cell?_of_block (hblk b hlt fun hx => hno (.inl (hx.2 o))), fun ho => (hown b o ho).elim hno fun hge => by omega⟩
  have hnF : ∀ b, b < w.heap.size → ¬ F b → (∀ o, Own Γ st b o) → ¬ F' b := fun b hlt hn ho hf => by
    obtain ⟨-, h1 | h1 | ⟨o, h1⟩⟩ := hF b hf
    · exact hn h1
    · omega
    · exact h1 (ho o)
  refine ⟨fun t sv ht => ?_, h.size, fun b mb hm => ?_, fun i e hi => ?_, fun i e hi => ?_, fun s j s' j' b h1 h2 => h.inj s j s' j' b (Hold.base.1 h1) (Hold.base.1 h2), Keeps.refl _ _, fun i hi => (hF i hi).1, hb3, h.defers, h.len, h.nb, h.num⟩
  · obtain ⟨h1, h2⟩ := h.slots t sv ht
    exact ⟨by rw [SV.den_base]; exact h1, SV.ok_base.2 (SV.ok_keep h2 hsz hkeep)⟩
  · obtain ⟨h1, h2, h3, h4⟩ := h.mem b mb hm
    exact ⟨by rw [dens_base]; exact (hblk _ h1.lt fun hx => h3 hx.1).trans h1, fun l hl => Lf.ok_base.2 (Lf.ok_keep (h2 l hl) hsz hkeep), hnF _ h1.lt h3 fun o => (Hold.mem (Γ := Γ) hm).own o, h4⟩
  · obtain ⟨h1, h2, h3⟩ := h.vec i e hi
    exact ⟨h1.keep hsz hkeep fun b hb => hblk b (h1.lt hb) fun hx => (h3 b hb).1 hx.1, h2, fun b hb => ⟨hnF b (h1.lt hb) (h3 b hb).1 fun o => (Hold.vec (Γ := Γ) hi hb).own o, fun o ho => (hb2 b o ho).elim (fun hx => (h3 b hb).2 o hx) fun hx => by have := h1.lt hb; omega⟩⟩
  · obtain ⟨h1, h2, h3⟩ := h.clo i e hi
    refine ⟨?_, fun s hs => S0.ok_base.2 (S0.ok_keep (h2 s hs) hsz hkeep), fun l hl => Lf.ok_base.2 (Lf.ok_keep (h3 l hl) hsz hkeep)⟩
    rw [List.map_congr_left fun s _ => S0.den_base s, List.map_congr_left fun l _ => Lf.den_base l]
    exact h1
/-- Back to what was watched over first. -/
theorem Sat.back {P : Program} {F F' : Nat → Prop} {w0 w1 : World} {Γ : Env} {st : St} {a : Act} {w : World} {base' : Nat → Nat → Prop} (h : Sat P F' w1 Γ st a w) (hF : ∀ i, F i → F' i) (hk : Keeps F w0 w) (hf : ∀ i, F i → i < w0.heap.size) (hb : ∀ b o, base' b o → Γ.base b o) : Sat P F w0 { Γ with base := base' } st a w := by
  have hown : ∀ b o, Own { Γ with base := base' } st b o → Own Γ st b o := fun b o ho => by
    rcases Own.iff.1 ho with ho | ⟨s, j, hh⟩
    · exact .inl (hb b o ho)
    · exact (Hold.base.1 hh).own o
  have hkeep : ∀ b o, b < w.heap.size → ¬ Own Γ st b o → w.cell? ⟨b, o, none⟩ = w.cell? ⟨b, o, none⟩ ∧ ¬ Own { Γ with base := base' } st b o := fun b o _ hno => ⟨rfl, fun ho => hno (hown b o ho)⟩
  refine ⟨fun t sv ht => ?_, h.size, fun b mb hm => ?_, fun i e hi => ?_, fun i e hi => ?_, fun s j s' j' b h1 h2 => h.inj s j s' j' b (Hold.base.1 h1) (Hold.base.1 h2), hk, hf, fun b o ho => h.base b o (hb b o ho), h.defers, h.len, h.nb, h.num⟩
  · obtain ⟨h1, h2⟩ := h.slots t sv ht
    exact ⟨by rw [SV.den_base]; exact h1, SV.ok_base.2 (SV.ok_keep h2 (Nat.le_refl _) hkeep)⟩
  · obtain ⟨h1, h2, h3, h4⟩ := h.mem b mb hm
    exact ⟨by rw [dens_base]; exact h1, fun l hl => Lf.ok_base.2 (Lf.ok_keep (h2 l hl) (Nat.le_refl _) hkeep), fun hx => h3 (hF _ hx), h4⟩
  · obtain ⟨h1, h2, h3⟩ := h.vec i e hi
    exact ⟨h1.keep (Nat.le_refl _) hkeep fun _ _ => rfl, h2, fun b hb' => ⟨fun hx => (h3 b hb').1 (hF _ hx), fun o ho => (h3 b hb').2 o (hb b o ho)⟩⟩
  · obtain ⟨h1, h2, h3⟩ := h.clo i e hi
    refine ⟨?_, fun s hs => S0.ok_base.2 (S0.ok_keep (h2 s hs) (Nat.le_refl _) hkeep), fun l hl => Lf.ok_base.2 (Lf.ok_keep (h3 l hl) (Nat.le_refl _) hkeep)⟩
    rw [List.map_congr_left fun s _ => S0.den_base s, List.map_congr_left fun l _ => Lf.den_base l]
    exact h1
/-- A piece of a code, by the executor, that ends in a known state. -/
theorem seg_sound {cx : Cx} {R : List C → Prop} {F : Nat → Prop} {w0 : World} (hcx : CxOK cx) {c : Code} {st st1 : St} {ps : List Pl} {ks : List Lk} {k : Ex → St → Option Tree} {T : Tree} (hT : exec cx c { st with lvl := st.lvl + 1 } (joinK st st1 ps ks k) = some T) (hok : joinOk st st1 ps ks = true)
    {Γ : Env} {Ls : List (List C → Prop)} (hl : Ls.length = st.lvl) {I : List C → Prop} (hv : VC cx R T Γ.ρ (Ls ++ [I])) {a : Act} {w : World} (hs : Sat cx.P F w0 Γ st a w) {Q : Exit → Act → World → Prop}
    (hn : ∀ xs Γx a' w', CTy cx.P ks xs → I xs → Γx.ρ = Γ.ρ ++ xs → Ext Γ Γx → Sat cx.P F w0 Γx st1 a' w' → Q .normal a' w')
    (hk : ∀ x st' T' Γ' Ls', x ≠ .nrm → k x st' = some T' → Ext Γ Γ' → Ls'.length = st'.lvl → VC cx R T' Γ'.ρ Ls' → ∀ a w, Sat cx.P F w0 Γ' st' a w → Q x.out a w) : c.wp cx.P Q a w := by
  obtain ⟨c2, c4, c5, c6, c7, c8⟩ := joinOk_spec hok
  have hlen : Γ.ρ.length = st.nx := hs.len
  have hnum1 : Num st1.bds Γ.ρ := by rw [c7]; exact hs.num
  refine exec_sound (R := R) hcx c _ _ T hT Γ (Ls ++ [I]) _ ?_ (by simp [hl]) hv a w (hs.relvl _)
  intro e st' T' Γ' Ls' hk' he' hl' hlen' hv' a' w' hs'
  cases e with
  | ext i => exact hk (.ext i) st' T' Γ' Ls' (by intro h; cases h) hk' he' hlen' hv' a' w' hs'
  | ret => exact hk .ret st' T' Γ' Ls' (by intro h; cases h) hk' he' hlen' hv' a' w' hs'
  | nrm =>
    simp only [joinK, joinEnd] at hk'
    split at hk'
    · rename_i hc
      simp only [Bool.and_eq_true] at hc
      obtain ⟨⟨d1, d2⟩, d3⟩ := hc
      split at hk'
      · rename_i vals hvals
        split at hk'
        · rename_i hks'
          cases hk'
          obtain ⟨hob', hback⟩ := VC.obT hv'
          obtain ⟨l, hl2⟩ := he'.ρ
          obtain ⟨hty', hsat'⟩ := hs'.rebase (st1 := st1) (ρ0 := Γ.ρ) ⟨l, hl2⟩ (by rw [hlen]; exact d1) (by rw [hlen]; exact hvals) hks' hob' (by rw [hlen]; exact c2) (Nat.eq_of_beq_eq_true d3) (Nat.le_of_ble_eq_true d2) (by rw [hlen]; exact c4) hnum1
          have hget : Ls'[st.lvl]? = some I := by
            obtain ⟨m, rfl⟩ := hl'
            rw [List.append_assoc, List.getElem?_append_right (by omega), hl]
            simp
          simp only [VC, hget] at hback
          exact hn _ { Γ' with ρ := Γ.ρ ++ cs_ Γ'.ρ vals, nb := st1.nb } a' w' hty' hback rfl ⟨⟨_, rfl⟩, fun b hb => he'.blk b hb, by rw [hs.nb]; exact c5, he'.base, he'.up⟩ hsat'
        · cases hk'; exact hv'.elim
      · cases hk'; exact hv'.elim
    · cases hk'; exact hv'.elim

/-! Operations by hand -/
section
variable {P : Program} {ops : Array Oper} {Q : Exit → Act → World → Prop} {o : Oper} {rest : List Oper} {a : Act} {w w' : World} {v : Value}
theorem op_val {K : Act → World → Prop} (h : (execOp a.eval o).run P w = .ok (.value v) w') (hk : K (a.put o.dst v) w') : o.wp P a w K Q := by
  unfold Oper.wp; rw [h]; exact hk
theorem list_val (hg : o.guard = none) (h : (execOp a.eval o).run P w = .ok (.value v) w') (hk : wpList P ops Q rest (a.put o.dst v) w') : wpList P ops Q (o :: rest) a w := by
  unfold wpList
  rw [if_pos (by simp [Region.wanted, hg])]
  exact .inl (op_val h hk)
theorem eval_same {d : Nat} (h : d < a.tmps.size) : (a.put (some d) v).eval (.tmp d) = v := by
  simp [Act.put, Act.eval, h]
theorem eval_other {d t : Nat} (h : t ≠ d) : (a.put (some d) v).eval (.tmp t) = a.eval (.tmp t) := by
  simp [Act.put, Act.eval, Array.getElem?_setIfInBounds, Ne.symm h]
theorem put_size {d : Option Tmp} : (a.put d v).tmps.size = a.tmps.size := by cases d <;> simp [Act.put]
end
/-- Known less, otherwise the same; the variables from ρ0 on are new. -/
theorem Sat.less {P : Program} {F : Nat → Prop} {w0 : World} {Γ : Env} {st1 st : St} {a : Act} {w : World} (h : Sat P F w0 Γ st a w) {ρ0 : List C} (hρ : ∃ l, Γ.ρ = ρ0 ++ l) {n : Nat} (hn : ρ0.length = n) {ps : List Pl} {ks : List Lk} {vals : List Lf}
    (h1 : sameRest st1 st n ps = true) (h2 : backPs st1 st n ps = some vals) (h3 : kindsL vals = some ks) (h4 : Obs Γ.ρ (rngL st.bds vals)) (h5 : headWf st1 n ps = true) (h6 : st1.nt = st.nt) (h7 : st1.nb ≤ st.nb) (h8 : st1.nx = n + ks.length) (h9 : st1.bds = []) :
    CTy P ks (cs_ Γ.ρ vals) ∧ Sat P F w0 { Γ with ρ := ρ0 ++ cs_ Γ.ρ vals, nb := st1.nb } st1 a w := by
  subst hn
  refine h.rebase (st1 := st1) hρ h1 h2 h3 h4 h5 h6 h7 h8 ?_
  rw [h9]
  refine ⟨bds_nil _, fun i m => ?_⟩
  obtain ⟨l, e⟩ := hρ
  have := h.num.len
  rw [e] at this
  rcases Nat.lt_or_ge i ρ0.length with hi | hi
  · have h10 := this i m
    rw [at_ext hi] at h10
    exact h10
  · simp [at_, List.getD_eq_getElem?_getD, List.getElem?_eq_none hi, C.small_zero]
end Go.Proofs.Ytlbgcjpkegpmlaa
/- Codes in parts, by the executor and by hand. -/
namespace Go.Proofs.Ytlbgcjpkegpmlaa
open Go.RowKit
set_option linter.unusedSimpArgs false
set_option linter.unusedVariables false

/-- The way to a part of a code. -/
def nav : List Nat → Code → Code
  | [], c => c
  | n :: l, .seq a b => if n = 0 then nav l a else nav l b
  | n :: l, .cond _ a b => if n = 0 then nav l a else nav l b
  | _ :: l, .block _ c => nav l c
  | _ :: l, .loop c => nav l c
  | _, c => c
def bodyOf (f : Func) : Code := f.body.getD .skip
/-- The first parts, one behind another, and what follows. -/
def heads : Nat → Code → List Code
  | n + 1, .seq a b => a :: heads n b
  | _, _ => []
def pre : List Code → Code → Code
  | [], c => c
  | a :: l, c => .seq a (pre l c)
def execL (cx : Cx) : List Code → St → (Ex → St → Option Tree) → Option Tree
  | [], st, k => k .nrm st
  | a :: l, st, k => exec cx a st fun x st' => match x with
    | .nrm => execL cx l st' k
    | x => k x st'
theorem pre_sound {cx : Cx} {R : List C → Prop} {F : Nat → Prop} {w0 : World} (hcx : CxOK cx) : ∀ (l : List Code) (st : St) (k : Ex → St → Option Tree) (T : Tree), execL cx l st k = some T →
    ∀ (Γ : Env) (Ls : List (List C → Prop)) (c : Code) (Q : Exit → Act → World → Prop), KOK cx R F w0 k Γ Ls (Exit.then (c.wp cx.P Q) Q) → Ls.length = st.lvl → VC cx R T Γ.ρ Ls → ∀ a w, Sat cx.P F w0 Γ st a w → (pre l c).wp cx.P Q a w
  | [], st, k, T, h, Γ, Ls, c, Q, hk, hl, hv, a, w, hs => hk .nrm st T Γ Ls h (Ext.refl _) (List.prefix_refl _) hl hv a w hs
  | b :: l, st, k, T, h, Γ, Ls, c, Q, hk, hl, hv, a, w, hs => by
    refine wp_seq (exec_sound (R := R) (F := F) (w0 := w0) hcx b st _ T h Γ Ls _ ?_ hl hv a w hs)
    intro x st' T' Γ' Ls' hk' he hl' hlen hv' a' w' hs'
    cases x with
    | nrm => exact pre_sound hcx l st' k T' hk' Γ' Ls' c Q (hk.mono he hl') hlen hv' a' w' hs'
    | ret => exact hk .ret st' T' Γ' Ls' hk' he hl' hlen hv' a' w' hs'
    | ext i => exact hk (.ext i) st' T' Γ' Ls' hk' he hl' hlen hv' a' w' hs'
theorem join_KOK {cx : Cx} {R : List C → Prop} {F : Nat → Prop} {w0 : World} {st st1 : St} {ps : List Pl} {ks : List Lk} {k : Ex → St → Option Tree} (hok : joinOk st st1 ps ks = true)
    {Γ : Env} {Ls : List (List C → Prop)} (hl : Ls.length = st.lvl) {I : List C → Prop} {a : Act} {w : World} (hs : Sat cx.P F w0 Γ st a w) {Q : Exit → Act → World → Prop}
    (hn : ∀ xs Γx a' w', CTy cx.P ks xs → I xs → Γx.ρ = Γ.ρ ++ xs → Ext Γ Γx → Sat cx.P F w0 Γx st1 a' w' → Q .normal a' w')
    (hk : ∀ x st' T' Γ' Ls', x ≠ .nrm → k x st' = some T' → Ext Γ Γ' → Ls'.length = st'.lvl → VC cx R T' Γ'.ρ Ls' → ∀ a w, Sat cx.P F w0 Γ' st' a w → Q x.out a w) : KOK cx R F w0 (joinK st st1 ps ks k) Γ (Ls ++ [I]) Q := by
  obtain ⟨c2, c4, c5, c6, c7, c8⟩ := joinOk_spec hok
  have hlen : Γ.ρ.length = st.nx := hs.len
  have hnum1 : Num st1.bds Γ.ρ := by rw [c7]; exact hs.num
  intro e st' T' Γ' Ls' hk' he' hl' hlen' hv' a' w' hs'
  cases e with
  | ext i => exact hk (.ext i) st' T' Γ' Ls' (by intro h; cases h) hk' he' hlen' hv' a' w' hs'
  | ret => exact hk .ret st' T' Γ' Ls' (by intro h; cases h) hk' he' hlen' hv' a' w' hs'
  | nrm =>
    simp only [joinK, joinEnd] at hk'
    split at hk'
    · rename_i hc
      simp only [Bool.and_eq_true] at hc
      obtain ⟨⟨d1, d2⟩, d3⟩ := hc
      split at hk'
      · rename_i vals hvals
        split at hk'
        · rename_i hks'
          cases hk'
          obtain ⟨hob', hback⟩ := VC.obT hv'
          obtain ⟨l, hl2⟩ := he'.ρ
          obtain ⟨hty', hsat'⟩ := hs'.rebase (st1 := st1) (ρ0 := Γ.ρ) ⟨l, hl2⟩ (by rw [hlen]; exact d1) (by rw [hlen]; exact hvals) hks' hob' (by rw [hlen]; exact c2) (Nat.eq_of_beq_eq_true d3) (Nat.le_of_ble_eq_true d2) (by rw [hlen]; exact c4) hnum1
          have hget : Ls'[st.lvl]? = some I := by
            obtain ⟨m, rfl⟩ := hl'
            rw [List.append_assoc, List.getElem?_append_right (by omega), hl]
            simp
          simp only [VC, hget] at hback
          exact hn _ { Γ' with ρ := Γ.ρ ++ cs_ Γ'.ρ vals, nb := st1.nb } a' w' hty' hback rfl ⟨⟨_, rfl⟩, fun b hb => he'.blk b hb, by rw [hs.nb]; exact c5, he'.base, he'.up⟩ hsat'
        · cases hk'; exact hv'.elim
      · cases hk'; exact hv'.elim
    · cases hk'; exact hv'.elim
/-- A code's first parts by the executor, that end in a known state. -/
theorem pre_seg {cx : Cx} {R : List C → Prop} {F : Nat → Prop} {w0 : World} (hcx : CxOK cx) {l : List Code} {c : Code} {st st1 : St} {ps : List Pl} {ks : List Lk} {k : Ex → St → Option Tree} {T : Tree} (hT : execL cx l { st with lvl := st.lvl + 1 } (joinK st st1 ps ks k) = some T) (hok : joinOk st st1 ps ks = true)
    {Γ : Env} {Ls : List (List C → Prop)} (hl : Ls.length = st.lvl) {I : List C → Prop} (hv : VC cx R T Γ.ρ (Ls ++ [I])) {a : Act} {w : World} (hs : Sat cx.P F w0 Γ st a w) {Q : Exit → Act → World → Prop}
    (hn : ∀ xs Γx a' w', CTy cx.P ks xs → I xs → Γx.ρ = Γ.ρ ++ xs → Ext Γ Γx → Sat cx.P F w0 Γx st1 a' w' → c.wp cx.P Q a' w')
    (hk : ∀ x st' T' Γ' Ls', x ≠ .nrm → k x st' = some T' → Ext Γ Γ' → Ls'.length = st'.lvl → VC cx R T' Γ'.ρ Ls' → ∀ a w, Sat cx.P F w0 Γ' st' a w → Q x.out a w) : (pre l c).wp cx.P Q a w := by
  refine pre_sound (R := R) (F := F) (w0 := w0) hcx l _ _ T hT Γ (Ls ++ [I]) c Q (join_KOK hok hl hs (fun xs Γx a' w' h1 h2 h3 h4 h5 => hn xs Γx a' w' h1 h2 h3 h4 h5) fun x st' T' Γ' Ls' hx hk' he hlen hv' a' w' hs' => ?_) (by simp [hl]) hv a w (hs.relvl _)
  have := hk x st' T' Γ' Ls' hx hk' he hlen hv' a' w' hs'
  cases x with
  | nrm => exact absurd rfl hx
  | ret => exact this
  | ext i => exact this
/-- A state of slots and blocks. -/
theorem Sat.bare {P : Program} {F : Nat → Prop} {w0 : World} {Γ : Env} {st : St} {a : Act} {w : World} (h2 : st.vec = []) (h3 : st.clo = []) (hm : ∀ b mb, look st.mem b = some mb → Blk w (Γ.blk b) mb.1 (dens Γ mb.2) ∧ (∀ l ∈ mb.2, ∀ O, l.ok P w O Γ) ∧ ¬ F (Γ.blk b) ∧ b < st.nb)
    (hi : ∀ i j x y, look st.mem i = some x → look st.mem j = some y → Γ.blk i = Γ.blk j → i = j)
    (h4 : ∀ t sv, look st.sl t = some sv → slotV Γ a t = sv.den Γ ∧ sv.ok P w (fun b o => Γ.base b o ∨ ∃ j mb, look st.mem j = some mb ∧ Γ.blk j = b) Γ) (h5 : a.tmps.size = st.nt) (hk : Keeps F w0 w) (h6 : ∀ i, F i → i < w0.heap.size) (h7 : ∀ b o, Γ.base b o → b < w.heap.size)
    (h8 : a.defers = []) (h9 : Γ.ρ.length = st.nx) (h10 : Γ.nb = st.nb) (h11 : st.bds = []) (h12 : Smalls Γ.ρ) : Sat P F w0 Γ st a w := by
  have hown : ∀ b o, Own Γ st b o → Γ.base b o ∨ ∃ j mb, look st.mem j = some mb ∧ Γ.blk j = b := fun b o h => by
    rcases h with h | ⟨j, mb, h, e⟩ | ⟨i, e, h, -⟩
    · exact .inl h
    · exact .inr ⟨j, mb, h, e⟩
    · rw [h2] at h; cases h
  refine ⟨fun t sv ht => ⟨(h4 t sv ht).1, SV.ok_anti (h4 t sv ht).2 hown⟩, h5, fun b mb hb => ?_, fun i e he => ?_, fun i e he => ?_, fun s j s' j' b h1 h2' => ?_, hk, h6, h7, h8, h9, h10, ⟨by rw [h11]; exact bds_nil _, h12⟩⟩
  · obtain ⟨m1, m2, m3, m4⟩ := hm b mb hb
    exact ⟨m1, fun l hl => m2 l hl _, m3, m4⟩
  · rw [h2] at he; cases he
  · rw [h3] at he; cases he
  · rcases h1.inv with ⟨rfl, mb, hb, rfl⟩ | ⟨rfl, e, he, -⟩
    · rcases h2'.inv with ⟨rfl, mb', hb', e'⟩ | ⟨rfl, e, he, -⟩
      · exact ⟨rfl, hi _ _ _ _ hb hb' e'.symm⟩
      · rw [h2] at he; cases he
    · rw [h2] at he; cases he
/-- A call, by hand. -/
theorem op_call {P : Program} {o : Oper} {a : Act} {w : World} {f : FuncId} {args : Array Value} {K : Act → World → Prop} {Q : Exit → Act → World → Prop} (h : (execOp a.eval o).run P w = .ok (.enter f args) w) (hk : Calls P f args w fun e w' => ∃ v, e = .returned v ∧ K (a.put o.dst v) w') : o.wp P a w K Q := by
  unfold Oper.wp
  rw [h]
  refine Calls.mono hk fun e w' he => ?_
  obtain ⟨v, rfl, h⟩ := he
  exact h
theorem list_call {P : Program} {ops : Array Oper} {Q : Exit → Act → World → Prop} {o : Oper} {rest : List Oper} {a : Act} {w : World} {f : FuncId} {args : Array Value} (hg : o.guard = none) (h : (execOp a.eval o).run P w = .ok (.enter f args) w) (hk : Calls P f args w fun e w' => ∃ v, e = .returned v ∧ wpList P ops Q rest (a.put o.dst v) w') : wpList P ops Q (o :: rest) a w := by
  unfold wpList
  rw [if_pos (by simp [Region.wanted, hg])]
  exact .inl (op_call h hk)
/-- What an iterator has not handed out yet. -/
def left : Prs → List Int → Nat
  | [], _ => 0
  | g :: G, seen => (if g.1 ∈ seen then 0 else 1) + left G seen
theorem left_le {k : Int} {seen : List Int} : ∀ {G : Prs}, left G (k :: seen) ≤ left G seen
  | [] => Nat.le_refl _
  | g :: G => by
    have ih := @left_le k seen G
    simp only [left]
    by_cases h : g.1 ∈ seen
    · rw [if_pos h, if_pos (List.mem_cons_of_mem _ h)]; omega
    · rw [if_neg h]; split <;> omega
theorem left_lt {seen : List Int} {g : Int × Value} : ∀ {G : Prs}, g ∈ G → g.1 ∉ seen → left G (g.1 :: seen) < left G seen
  | [], h, _ => by cases h
  | x :: G, h, hn => by
    have hle := @left_le g.1 seen G
    simp only [left]
    rcases List.mem_cons.1 h with rfl | h
    · rw [if_neg hn, if_pos (List.mem_cons_self ..)]; omega
    · have ih := left_lt h hn
      by_cases h : x.1 ∈ seen
      · rw [if_pos h, if_pos (List.mem_cons_of_mem _ h)]; omega
      · rw [if_neg h]; split <;> omega
end Go.Proofs.Ytlbgcjpkegpmlaa
/- What is to be shown of each function, as the executor has it. Printed by trees.py. -/
namespace Go.Proofs.Ytlbgcjpkegpmlaa
noncomputable def calarms : Cx := tab3.only [] (fun _ => []) [] 0 [] (fun _ => none)
def talarms : Tree :=
  (.loop [.int, .bool, .int, .int] [(.int (.lit 0)), (.bool (.lit false)), (.int (.lit 0)), (.int (.lit 0))] (.split (.cmp .lt (.var 12) (.len (.var 8))) (.ob (.cmp .le (.lit 0) (.var 12)) (.ob (.cmp .lt (.var 12) (.len (.var 8))) (.ob (.and (.cmp .le (.lit (-9223372036854775808)) (.add (.var 11) (.lit 1))) (.cmp .le (.add (.var 11) (.lit 1)) (.lit 9223372036854775807))) (.split (.cmp .lt (.cell (.var 8) (.var 12) 2) (.var 6)) (.split (.cmp .eq (.lit 0) (.var 7)) (.ob (.and (.cmp .le (.lit (-9223372036854775808)) (.add (.cell (.var 8) (.var 12) 1) (.var 2))) (.cmp .le (.add (.cell (.var 8) (.var 12) 1) (.var 2)) (.lit 9223372036854775807))) (.ob (.and (.cmp .le (.lit (-9223372036854775808)) (.add (.cell (.var 8) (.var 12) 1) (.var 2))) (.cmp .le (.add (.cell (.var 8) (.var 12) 1) (.var 2)) (.lit 9223372036854775807))) (.ret [(.int (.add (.cell (.var 8) (.var 12) 1) (.var 2))), (.bool (.lit true))]))) (.back 0 [(.int (.var 9)), (.bool (.of (.var 10))), (.int (.lit 0)), (.int (.add (.var 12) (.lit 1)))])) (.split (.cmp .eq (.add (.var 11) (.lit 1)) (.var 7)) (.ob (.and (.cmp .le (.lit (-9223372036854775808)) (.add (.cell (.var 8) (.var 12) 1) (.var 2))) (.cmp .le (.add (.cell (.var 8) (.var 12) 1) (.var 2)) (.lit 9223372036854775807))) (.ob (.and (.cmp .le (.lit (-9223372036854775808)) (.add (.cell (.var 8) (.var 12) 1) (.var 2))) (.cmp .le (.add (.cell (.var 8) (.var 12) 1) (.var 2)) (.lit 9223372036854775807))) (.ret [(.int (.add (.cell (.var 8) (.var 12) 1) (.var 2))), (.bool (.lit true))]))) (.ob (.and (.cmp .le (.lit (-9223372036854775808)) (.add (.var 11) (.lit 1))) (.cmp .le (.add (.var 11) (.lit 1)) (.lit 9223372036854775807))) (.back 0 [(.int (.var 9)), (.bool (.of (.var 10))), (.int (.add (.var 11) (.lit 1))), (.int (.add (.var 12) (.lit 1)))]))))))) (.ret [(.int (.lit 0)), (.bool (.lit false))])))
noncomputable def cralarm : Cx := tab3.only [] (fun _ => []) [] 0 [] (fun _ => none)
def tralarm : Tree :=
  (.loop [.int, .bool, .int, .int] [(.int (.lit 0)), (.bool (.lit false)), (.int (.lit 0)), (.int (.lit 0))] (.split (.cmp .lt (.var 12) (.len (.var 8))) (.ob (.cmp .le (.lit 0) (.var 12)) (.ob (.cmp .lt (.var 12) (.len (.var 8))) (.split (.cmp .lt (.cell (.var 8) (.var 12) 2) (.var 6)) (.back 0 [(.int (.var 9)), (.bool (.of (.var 10))), (.int (.lit 0)), (.int (.add (.var 12) (.lit 1)))]) (.ob (.and (.cmp .le (.lit (-9223372036854775808)) (.add (.var 11) (.lit 1))) (.cmp .le (.add (.var 11) (.lit 1)) (.lit 9223372036854775807))) (.split (.cmp .eq (.add (.var 11) (.lit 1)) (.var 7)) (.ob (.cmp .lt (.var 12) (.len (.var 8))) (.ob (.and (.cmp .le (.lit (-9223372036854775808)) (.add (.cell (.var 8) (.var 12) 1) (.var 2))) (.cmp .le (.add (.cell (.var 8) (.var 12) 1) (.var 2)) (.lit 9223372036854775807))) (.ob (.and (.cmp .le (.lit (-9223372036854775808)) (.add (.cell (.var 8) (.var 12) 1) (.var 2))) (.cmp .le (.add (.cell (.var 8) (.var 12) 1) (.var 2)) (.lit 9223372036854775807))) (.ret [(.int (.add (.cell (.var 8) (.var 12) 1) (.var 2))), (.bool (.lit true))])))) (.ob (.and (.cmp .le (.lit (-9223372036854775808)) (.add (.var 11) (.lit 1))) (.cmp .le (.add (.var 11) (.lit 1)) (.lit 9223372036854775807))) (.back 0 [(.int (.var 9)), (.bool (.of (.var 10))), (.int (.add (.var 11) (.lit 1))), (.int (.add (.var 12) (.lit 1)))]))))))) (.ret [(.int (.lit 0)), (.bool (.lit false))])))
noncomputable def cof : Cx := tab3.only [] (fun _ => []) [] 0 [] (fun _ => none)
def tof : Tree :=
  (.dfn .nil (.dfn .nil (.loop [(.vec 40), .int] [(.cnt 40 (.var 3)), (.int (.lit 0))] (.split (.cmp .lt (.var 5) (.len (.var 0))) (.ob (.cmp .le (.lit 0) (.var 5)) (.ob (.cmp .lt (.var 5) (.len (.var 0))) (.split (.cmp .eq (.cell (.var 0) (.var 5) 0) (.var 1)) (.ob (.cmp .lt (.var 5) (.len (.var 0))) (.arr [[(.int (.cell (.var 0) (.var 5) 0)), (.int (.cell (.var 0) (.var 5) 1)), (.int (.cell (.var 0) (.var 5) 2))]] (.ob (.cmp .le (.mul (.add (.len (.var 4)) (.len (.var 6))) (.lit 24)) (.lit 140737488355328)) (.cat (.var 4) (.var 6) (.back 0 [(.cnt 40 (.var 7)), (.int (.add (.var 5) (.lit 1)))]))))) (.back 0 [(.cnt 40 (.var 4)), (.int (.add (.var 5) (.lit 1)))])))) (.ret [(.cnt 40 (.var 4))])))))
noncomputable def crchk : Cx := tab3.only [69, 86] (fun _ => []) [] 0 [] (fun _ => none)
def trchk : Tree :=
  (.split (.cmp .lt (.lit 200) (.len (.var 1))) (.ret [(.int (.lit 8))]) (.loop [.int, .int] [(.int (.lit 0)), (.int (.lit 0))] (.split (.cmp .lt (.var 3) (.len (.var 1))) (.ob (.cmp .le (.lit 0) (.var 3)) (.ob (.cmp .lt (.var 3) (.len (.var 1))) (.split (.cmp .lt (.cell (.var 1) (.var 3) 0) (.lit 0)) (.ret [(.int (.lit 7))]) (.ob (.cmp .lt (.var 3) (.len (.var 1))) (.split (.cmp .le (.len (.var 0)) (.cell (.var 1) (.var 3) 0)) (.ret [(.int (.lit 7))]) (.back 0 [(.int (.var 2)), (.int (.add (.var 3) (.lit 1)))])))))) (.loop [.int, .int] [(.int (.var 2)), (.int (.lit 0))] (.split (.cmp .lt (.var 5) (.len (.var 1))) (.ob (.cmp .le (.lit 0) (.var 5)) (.ob (.cmp .lt (.var 5) (.len (.var 1))) (.split (.not (.and (.cmp .le (.lit 0) (.cell (.var 1) (.var 5) 1)) (.cmp .le (.cell (.var 1) (.var 5) 1) (.lit 1099511627176)))) (.ret [(.int (.lit 2))]) (.ob (.cmp .lt (.var 5) (.len (.var 1))) (.split (.not (.and (.cmp .le (.lit (-1125899906842624)) (.cell (.var 1) (.var 5) 2)) (.cmp .le (.cell (.var 1) (.var 5) 2) (.lit 1125899906842624)))) (.ret [(.int (.lit 2))]) (.back 1 [(.int (.var 4)), (.int (.add (.var 5) (.lit 1)))])))))) (.loop [.int, .int] [(.int (.var 4)), (.int (.lit 0))] (.split (.cmp .lt (.var 7) (.len (.var 0))) (.call 86 [(.arr 40 (.var 1)), (.int (.var 7))] (.loop [.int, .int] [(.int (.var 6)), (.int (.lit 1))] (.split (.cmp .lt (.var 10) (.len (.var 8))) (.ob (.cmp .le (.lit 0) (.var 10)) (.ob (.cmp .lt (.var 10) (.len (.var 8))) (.ob (.cmp .le (.lit 0) (.sub (.var 10) (.lit 1))) (.ob (.cmp .lt (.sub (.var 10) (.lit 1)) (.len (.var 8))) (.split (.cmp .le (.cell (.var 8) (.var 10) 1) (.cell (.var 8) (.sub (.var 10) (.lit 1)) 1)) (.ret [(.int (.lit 11))]) (.back 3 [(.int (.var 9)), (.int (.add (.var 10) (.lit 1)))])))))) (.back 2 [(.int (.var 9)), (.int (.add (.var 7) (.lit 1)))])))) (.ret [(.int (.lit 0))]))))))))
noncomputable def crwatch : Cx := tab3.only [43, 84, 85, 86] (fun r => match r with
  | 10 => [.blk 1]
  | _ => []) [] 0 [] (fun _ => none)
def trwatch : Tree :=
  (.call 43 [(.arr 23 (.var 0))] (.split (.cmp .ne (.var 2) (.lit 0)) (.ret [(.int (.lit 0)), (.int (.lit 0)), (.bool (.lit false)), (.int (.var 2))]) (.call 84 [(.arr 23 (.var 0)), (.arr 40 (.var 1))] (.split (.cmp .ne (.var 3) (.lit 0)) (.ret [(.int (.lit 0)), (.int (.lit 0)), (.bool (.lit false)), (.int (.var 3))]) (.loop [.bool, .int, .int, .int] [(.bool (.lit false)), (.int (.lit 0)), (.int (.lit 0)), (.int (.lit 0))] (.split (.cmp .lt (.var 5) (.len (.var 0))) (.ob (.cmp .le (.lit 0) (.var 5)) (.ob (.cmp .lt (.var 5) (.len (.var 0))) (.call 86 [(.arr 40 (.var 1)), (.int (.var 5))] (.call 85 [(.int (.cell (.var 0) (.var 5) 0)), (.int (.cell (.var 0) (.var 5) 1)), (.int (.cell (.var 0) (.var 5) 2)), (.int (.cell (.var 0) (.var 5) 3)), (.int (.cell (.var 0) (.var 5) 4)), (.int (.cell (.var 0) (.var 5) 5)), (.int (.cell (.var 0) (.var 5) 6)), (.int (.cell (.var 0) (.var 5) 7)), (.arr 40 (.var 8))] (.split (.of (.var 10)) (.split (.not (.of (.var 4))) (.back 0 [(.bool (.lit true)), (.int (.add (.var 5) (.lit 1))), (.int (.var 5)), (.int (.var 9))]) (.split (.cmp .lt (.var 9) (.var 7)) (.back 0 [(.bool (.lit true)), (.int (.add (.var 5) (.lit 1))), (.int (.var 5)), (.int (.var 9))]) (.back 0 [(.bool (.of (.var 4))), (.int (.add (.var 5) (.lit 1))), (.int (.var 6)), (.int (.var 7))]))) (.back 0 [(.bool (.of (.var 4))), (.int (.add (.var 5) (.lit 1))), (.int (.var 6)), (.int (.var 7))])))))) (.ret [(.int (.var 6)), (.int (.var 7)), (.bool (.of (.var 4))), (.int (.lit 0))])))))))
end Go.Proofs.Ytlbgcjpkegpmlaa
