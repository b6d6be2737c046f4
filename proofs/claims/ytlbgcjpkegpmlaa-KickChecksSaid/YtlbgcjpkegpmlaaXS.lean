/- What each function of the program computes: the table. -/
import Derived.Test.YtlbgcjpkegpmlaaEz
namespace Go.Proofs.Ytlbgcjpkegpmlaa

def withinI : Inl := fun bd l => match l with
  | [.lf (.int n), .lf (.int a), .lf (.int b)] => some (rngL bd (cellsOf [] l), .lf (.bool (.and (B.mkCmp bd .le a n) (B.mkCmp bd .le n b))))
  | _ => none
def fairI : Inl := fun bd l => match l with
  | [.agg [.int lo, .int hi], .lf (.int a), .lf (.int b)] => some (rngL bd (cellsOf [] l), .lf (.bool (.and (B.mkCmp bd .le a lo) (.and (B.mkCmp bd .le lo hi) (B.mkCmp bd .le hi b)))))
  | _ => none
def ctWithin : Ct := ctF [.lf .int, .lf .int, .lf .int] [.lf .bool] (fun _ => True) (fun cs => match cs with | [.i n, .i a, .i b] => [.b (decide (a ≤ n) && decide (n ≤ b))] | _ => [])
def ctFair : Ct := ctF [.agg [.int, .int], .lf .int, .lf .int] [.lf .bool] (fun _ => True) (fun cs => match cs with | [.i lo, .i hi, .i a, .i b] => [.b (decide (a ≤ lo) && (decide (lo ≤ hi) && decide (hi ≤ b)))] | _ => [])
def ctFloor : Ct := ctF [.lf .int, .lf .int] [.lf .int] (fun cs => match cs with | [.i _, .i b] => 0 < b | _ => False) (fun cs => match cs with | [.i a, .i b] => [.i (a / b)] | _ => [])

def ShutOK (pl ph cl ch gl gh we de ar : Int) : Prop :=
  0 ≤ pl ∧ pl ≤ ph ∧ ph ≤ 68719476736 ∧ 0 ≤ cl ∧ cl ≤ ch ∧ ch ≤ 68719476736 ∧ 1 ≤ we ∧ we ≤ 40000 ∧ 1 ≤ de ∧ de ≤ 1048576 ∧ 1 ≤ ar ∧ ar ≤ 5000 ∧ ar ≤ gl ∧ gl ≤ gh ∧ gh ≤ 1073741824
instance {pl ph cl ch gl gh we de ar : Int} : Decidable (ShutOK pl ph cl ch gl gh we de ar) := by unfold ShutOK; infer_instance
def shutE (pl ph cl ch gl gh we de ar : Int) : Int := if ShutOK pl ph cl ch gl gh we de ar then (if cl < ph then 11 else 0) else 2
def kindW (lo hi : Int) : Int := if hi ≤ 3500 then 1 else if 9000 ≤ lo then 3 else if 3500 < lo ∧ hi < 9000 then 2 else 4
def identL (pl ph cl ch gl gh we de ar : Int) : List C :=
  if shutE pl ph cl ch gl gh we de ar = 0 then
    let hl := gl / ar
    let hh := (gh + ar - 1) / ar
    let wl := we + (pl - ch) / hl
    let wh := we - (cl - ph) / hh
    [.i (pl + we * de), .i (ph + we * de), .i hl, .i hh, .i wl, .i wh, .i (kindW wl wh), .i 0]
  else [.i 0, .i 0, .i 0, .i 0, .i 0, .i 0, .i 0, .i (shutE pl ph cl ch gl gh we de ar)]
def shutSh : Sh0 := .agg [.int, .int, .int, .int, .int, .int, .int, .int, .int]
def ingSh : Sh0 := .agg [.int, .int, .int, .int, .int, .int, .int]
def ctShut : Ct := ctF [shutSh] [.lf .int] (fun _ => True) (fun cs => match cs with | [.i a, .i b, .i c, .i d, .i e, .i f, .i g, .i h, .i i] => [.i (shutE a b c d e f g h i)] | _ => [])
def ctIdent : Ct := ctF [shutSh] [ingSh, .lf .int] (fun _ => True) (fun cs => match cs with | [.i a, .i b, .i c, .i d, .i e, .i f, .i g, .i h, .i i] => identL a b c d e f g h i | _ => [])
def ctAwake : Ct := ctF [] [.lf .bool] (fun _ => True) (fun _ => [.b true])

/-! The ring of numbers -/
def ringSh : Sh0 := .box 99 [.arr 3, .int]
def ctMod : Ct := ctF [.lf .int, .lf .int] [.lf .int] (fun cs => match cs with | [.i _, .i m] => 1 ≤ m ∧ m ≤ 4611686018427387904 | _ => False) (fun cs => match cs with | [.i n, .i m] => [.i (n % m)] | _ => [])
def ctNewRing : Ct := ctF [.lf (.arr 3)] [ringSh] (fun _ => True) (fun cs => match cs with | [c] => [c, .i 0] | _ => [])
def ctNext : Ct := ⟨[ringSh, .lf .int], [.lf .int], fun cs => match cs with | [.s _ _, .i at_, .i n] => 0 ≤ at_ ∧ at_ ≤ 1000000 ∧ 1 ≤ n | _ => False,
  fun cs rs => match cs, rs with | [.s v rows, .i at_, .i n], [.i x, .s v' rows', .i at'] => 0 ≤ x ∧ x < n ∧ v' = v ∧ rows' = rows ∧ at' = at_ + 1 | _, _ => False, false⟩
def atPre (n : Int) (cs : List C) : Prop := match cs with | [.s _ _, .i at_] => 0 ≤ at_ ∧ at_ ≤ n | _ => False
def ctKickOf : Ct := ⟨[ringSh], [.agg [.int, .int]], atPre 100000,
  fun cs rs => match cs, rs with | [.s v rows, .i at_], [.i a, .i b, .s v' rows', .i at'] => 0 ≤ a ∧ a ≤ 9998 ∧ 0 ≤ b ∧ b ≤ 299 ∧ v' = v ∧ rows' = rows ∧ at' = at_ + 4 | _, _ => False, false⟩
def ShutGood (pl ph cl ch gl gh we de ar : Int) : Prop :=
  9000 ≤ we ∧ we < 21000 ∧ 1 ≤ de ∧ de ≤ 400000 ∧ 1 ≤ ar ∧ ar ≤ 500 ∧ 0 ≤ pl ∧ pl < 1048576 ∧ pl ≤ ph ∧ ph ≤ pl + 524288 ∧ ph ≤ cl ∧ cl ≤ ph + 209715200 ∧ cl ≤ ch ∧ ch ≤ cl + 524288 ∧ ar ≤ gl ∧ gl < ar + 1048576 ∧ gl ≤ gh ∧ gh ≤ gl + 32768
def ctShutOf : Ct := ⟨[ringSh], [shutSh], atPre 100000,
  fun cs rs => match rs with | [.i a, .i b, .i c, .i d, .i e, .i f, .i g, .i h, .i i, .s _ _, .i _] => ShutGood a b c d e f g h i | _ => False, false⟩
def ctLWithin : Ct := ctF [.agg [.int, .int], .lf .int] [.agg [.int, .int]] (fun cs => match cs with | [.i lo, .i hi, .i _] => 0 ≤ lo ∧ lo ≤ hi ∧ hi ≤ 1099511627776 | _ => False)
  (fun cs => match cs with | [.i lo, .i hi, .i n] => [.i (lo + n % (hi - lo + 1)), .i (lo + n % (hi - lo + 1))] | _ => [])
def inI : Inl := fun bd l => match l with
  | [.agg [.int a, .int b], .agg [.int c, .int d]] => some (rngL bd (cellsOf [] l), .lf (.bool (.and (B.mkCmp bd .le c a) (B.mkCmp bd .le b d))))
  | _ => none
def ctIn : Ct := ctF [.agg [.int, .int], .agg [.int, .int]] [.lf .bool] (fun _ => True) (fun cs => match cs with | [.i a, .i b, .i c, .i d] => [.b (decide (c ≤ a) && decide (b ≤ d))] | _ => [])

/-! Kicks and sensors -/
def KOk (r g : Int) : Prop := 0 ≤ r ∧ r ≤ 16777216 ∧ 0 ≤ g ∧ g ≤ 4096
instance {r g : Int} : Decidable (KOk r g) := by unfold KOk; infer_instance
def kickE (r g : Int) : Int := if KOk r g then 0 else 2
def kicksE (rl rh gl gh : Int) : Int := if rl ≤ rh ∧ gl ≤ gh ∧ KOk rl gl ∧ KOk rh gh then 0 else 2
def SOk (pe de no st lo li ho : Int) : Prop := 1 ≤ pe ∧ pe ≤ 60 ∧ 0 ≤ de ∧ de ≤ 600 ∧ 0 ≤ no ∧ no ≤ 15 ∧ 1 ≤ st ∧ st ≤ 1048576 ∧ 0 ≤ lo ∧ lo ≤ 5 ∧ 1 ≤ li ∧ li ≤ 1099511627776 ∧ 1 ≤ ho ∧ ho ≤ 8
instance {pe de no st lo li ho : Int} : Decidable (SOk pe de no st lo li ho) := by unfold SOk; infer_instance
def sensE (ch pe de no st lo li ho : Int) : Int := if ch = 1 ∨ ch = 2 then (if SOk pe de no st lo li ho then 0 else 2) else 4
def sensRow (r : List C) : Int := sensE (r.getD 0 (.i 0)).int (r.getD 1 (.i 0)).int (r.getD 2 (.i 0)).int (r.getD 3 (.i 0)).int (r.getD 4 (.i 0)).int (r.getD 5 (.i 0)).int (r.getD 6 (.i 0)).int (r.getD 7 (.i 0)).int
def firstE : List (List C) → Int
  | [] => 0
  | r :: l => if sensRow r = 0 then firstE l else sensRow r
def sensorsE (rows : List (List C)) : Int := if rows.length = 0 then 6 else if 4 < rows.length then 8 else firstE rows
def flowV (r g n : Int) : Int := if KOk r g ∧ 0 ≤ n ∧ n ≤ 20000 then r + n * g else 0
def gainV (r g n : Int) : Int := if KOk r g ∧ 0 ≤ n ∧ n ≤ 20000 then n * r + g * (n * (n - 1) / 2) else 0
def saysV (ch r g n : Int) : Int := if ch = 1 then gainV r g n else flowV r g n
def valueV (ch pe de no st lo li ho r g n e : Int) : Int := if sensE ch pe de no st lo li ho = 0 ∧ KOk r g ∧ -no ≤ e ∧ e ≤ no ∧ n ≤ 20000 then saysV ch r g n + e * st else 0
def kickSh : Sh0 := .agg [.int, .int]
def kicksSh : Sh0 := .agg [.int, .int, .int, .int]
def sensSh : Sh0 := .agg [.int, .int, .int, .int, .int, .int, .int, .int]
def ctKick : Ct := ctF [kickSh] [.lf .int] (fun _ => True) (fun cs => match cs with | [.i r, .i g] => [.i (kickE r g)] | _ => [])
def ctLeast : Ct := ctF [kicksSh] [kickSh] (fun _ => True) (fun cs => match cs with | [.i a, .i _, .i c, .i _] => [.i a, .i c] | _ => [])
def ctKicks : Ct := ctF [kicksSh] [.lf .int] (fun _ => True) (fun cs => match cs with | [.i a, .i b, .i c, .i d] => [.i (kicksE a b c d)] | _ => [])
def ctSens : Ct := ctF [sensSh] [.lf .int] (fun _ => True) (fun cs => match cs with | [.i a, .i b, .i c, .i d, .i e, .i f, .i g, .i h] => [.i (sensE a b c d e f g h)] | _ => [])
def ctSensors : Ct := ctF [.lf (.arr 23)] [.lf .int] (fun _ => True) (fun cs => match cs with | [.s _ rows] => [.i (sensorsE rows)] | _ => [])
def ctFlow : Ct := ctF [kickSh, .lf .int] [.lf .int] (fun _ => True) (fun cs => match cs with | [.i r, .i g, .i n] => [.i (flowV r g n)] | _ => [])
def ctGain : Ct := ctF [kickSh, .lf .int] [.lf .int] (fun _ => True) (fun cs => match cs with | [.i r, .i g, .i n] => [.i (gainV r g n)] | _ => [])
def ctFlow1 : Ct := ctF [kickSh, .lf .int] [.lf .int] (fun cs => match cs with | [.i r, .i g, .i n] => KOk r g ∧ n ≤ 20000 | _ => False) (fun cs => match cs with | [.i r, .i g, .i n] => [.i (flowV r g n)] | _ => [])
def ctGain1 : Ct := ctF [kickSh, .lf .int] [.lf .int] (fun cs => match cs with | [.i r, .i g, .i n] => KOk r g ∧ n ≤ 20000 | _ => False) (fun cs => match cs with | [.i r, .i g, .i n] => [.i (gainV r g n)] | _ => [])
def ctSays : Ct := ctF [sensSh, kickSh, .lf .int] [.lf .int] (fun _ => True) (fun cs => match cs with | [.i ch, .i _, .i _, .i _, .i _, .i _, .i _, .i _, .i r, .i g, .i n] => [.i (saysV ch r g n)] | _ => [])
def ctValue : Ct := ctF [sensSh, kickSh, .lf .int, .lf .int] [.lf .int] (fun _ => True) (fun cs => match cs with | [.i a, .i b, .i c, .i d, .i e, .i f, .i g, .i h, .i r, .i q, .i n, .i x] => [.i (valueV a b c d e f g h r q n x)] | _ => [])

def saysS : Sel := fun bd l => match l with
  | [.agg [.int ch, .int _, .int _, .int _, .int _, .int _, .int _, .int _], .agg [.int r, .int g]] => some ([], B.mkCmp bd .eq ch (.lit 2), .fn 67 [.int r, .int g], .fn 66 [.int r, .int g])
  | _ => none

def tab : Tab where
  ct := fun f => match f with
    | 72 => some ctFloor
    | 74 => some ctFloor
    | 73 => some ctShut
    | 31 => some ctIdent
    | 32 => some ctIdent
    | 19 => some ctAwake
    | 36 => some ctKick
    | 37 => some ctKick
    | 75 => some ctLeast
    | 76 => some ctLeast
    | 38 => some ctKicks
    | 39 => some ctKicks
    | 40 => some ctSens
    | 41 => some ctSens
    | 42 => some ctSensors
    | 43 => some ctSensors
    | 24 => some ctFlow
    | 44 => some ctFlow
    | 23 => some ctGain
    | 45 => some ctGain
    | 67 => some ctFlow1
    | 66 => some ctGain1
    | 78 => some ctSays
    | 47 => some ctValue
    | 46 => some ctValue
    | 28 => some ctMod
    | 22 => some ctMod
    | 21 => some ctNewRing
    | 26 => some ctNext
    | 20 => some ctKickOf
    | 33 => some ctShutOf
    | 34 => some ctLWithin
    | _ => none
  inl := fun f => match f with
    | 68 => some withinI
    | 69 => some withinI
    | 71 => some fairI
    | 35 => some inI
    | _ => none
  sel := fun f => match f with
    | 77 => some saysS
    | _ => none
end Go.Proofs.Ytlbgcjpkegpmlaa
