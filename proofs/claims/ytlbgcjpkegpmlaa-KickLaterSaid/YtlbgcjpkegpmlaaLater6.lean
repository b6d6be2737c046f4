/- Texts laid into one: XS XS2 XS3 X8 X5 X4 XU XT Pm XP XQ. -/
import Derived.Test.YtlbgcjpkegpmlaaLater5
/- What each function of the program computes: the table. -/
namespace Go.Proofs.Ytlbgcjpkegpmlaa
set_option linter.unusedVariables false

def withinI : Inl := fun bd l => match l with
  | [.lf (.int n), .lf (.int a), .lf (.int b)] => some (rngL bd (cellsOf [] l), .lf (.bool (.and (B.mkCmp bd .le a n) (B.mkCmp bd .le n b))))
  | _ => none
def fairI : Inl := fun bd l => match l with
  | [.agg [.int lo, .int hi], .lf (.int a), .lf (.int b)] => some (rngL bd (cellsOf [] l), .lf (.bool (.and (B.mkCmp bd .le a lo) (.and (B.mkCmp bd .le lo hi) (B.mkCmp bd .le hi b)))))
  | _ => none
def ctWithin : Ct := ctF [.lf .int, .lf .int, .lf .int] [.lf .bool] (fun _ => True) (fun cs => match cs with | [.i n, .i a, .i b] => [.b (decide (a ≤ n) && decide (n ≤ b))] | _ => [])
def ctFair : Ct := ctF [.agg [.int, .int], .lf .int, .lf .int] [.lf .bool] (fun _ => True) (fun cs => match cs with | [.i lo, .i hi, .i a, .i b] => [.b (decide (a ≤ lo) && (decide (lo ≤ hi) && decide (hi ≤ b)))] | _ => [])
def ctFloor : Ct := ctF [.lf .int, .lf .int] [.lf .int] (fun cs => match cs with | [.i _, .i b] => 0 < b | _ => False) (fun cs => match cs with | [.i a, .i b] => [.i (a / b)] | _ => [])

def ShutOK (pl ph cl ch gl gh we de ar : Int) : Prop :=
  0 ≤ pl ∧ pl ≤ ph ∧ ph ≤ 68719476736 ∧ 0 ≤ cl ∧ cl ≤ ch ∧ ch ≤ 68719476736 ∧ 1 ≤ we ∧ we ≤ 40000 ∧ 1 ≤ de ∧ de ≤ 1048576 ∧ 1 ≤ ar ∧ ar ≤ 5000 ∧ ar ≤ gl ∧ gl ≤ gh ∧ gh ≤ 1073741824
instance {pl ph cl ch gl gh we de ar : Int} : Decidable (ShutOK pl ph cl ch gl gh we de ar) := by unfold ShutOK; infer_instance
def shutE (pl ph cl ch gl gh we de ar : Int) : Int := if ShutOK pl ph cl ch gl gh we de ar then (if cl < ph then 11 else 0) else 2
def kindW (lo hi : Int) : Int := if hi ≤ 3500 then 1 else if 9000 ≤ lo then 3 else if 3500 < lo ∧ hi < 9000 then 2 else 4
def identL (pl ph cl ch gl gh we de ar : Int) : List C :=
  if shutE pl ph cl ch gl gh we de ar = 0 then
    let hl := gl / ar
    let hh := (gh + ar - 1) / ar
    let wl := we + (pl - ch) / hl
    let wh := we - (cl - ph) / hh
    [.i (pl + we * de), .i (ph + we * de), .i hl, .i hh, .i wl, .i wh, .i (kindW wl wh), .i 0]
  else [.i 0, .i 0, .i 0, .i 0, .i 0, .i 0, .i 0, .i (shutE pl ph cl ch gl gh we de ar)]
def shutSh : Sh0 := .agg [.int, .int, .int, .int, .int, .int, .int, .int, .int]
def ingSh : Sh0 := .agg [.int, .int, .int, .int, .int, .int, .int]
def ctShut : Ct := ctF [shutSh] [.lf .int] (fun _ => True) (fun cs => match cs with | [.i a, .i b, .i c, .i d, .i e, .i f, .i g, .i h, .i i] => [.i (shutE a b c d e f g h i)] | _ => [])
def ctIdent : Ct := ctF [shutSh] [ingSh, .lf .int] (fun _ => True) (fun cs => match cs with | [.i a, .i b, .i c, .i d, .i e, .i f, .i g, .i h, .i i] => identL a b c d e f g h i | _ => [])
def ctAwake : Ct := ctF [] [.lf .bool] (fun _ => True) (fun _ => [.b true])

/-! The ring of numbers -/
def ringSh : Sh0 := .box 99 [.arr 3, .int]
def ctMod : Ct := ctF [.lf .int, .lf .int] [.lf .int] (fun cs => match cs with | [.i _, .i m] => 1 ≤ m ∧ m ≤ 4611686018427387904 | _ => False) (fun cs => match cs with | [.i n, .i m] => [.i (n % m)] | _ => [])
def ctNewRing : Ct := ctF [.lf (.arr 3)] [ringSh] (fun _ => True) (fun cs => match cs with | [c] => [c, .i 0] | _ => [])
def ctNext : Ct := ⟨[ringSh, .lf .int], [.lf .int], fun cs => match cs with | [.s _ _, .i at_, .i n] => 0 ≤ at_ ∧ at_ ≤ 1000000 ∧ 1 ≤ n | _ => False,
  fun cs rs => match cs, rs with | [.s v rows, .i at_, .i n], [.i x, .s v' rows', .i at'] => 0 ≤ x ∧ x < n ∧ v' = v ∧ rows' = rows ∧ at' = at_ + 1 | _, _ => False, false⟩
def atPre (n : Int) (cs : List C) : Prop := match cs with | [.s _ _, .i at_] => 0 ≤ at_ ∧ at_ ≤ n | _ => False
def ctKickOf : Ct := ⟨[ringSh], [.agg [.int, .int]], atPre 100000,
  fun cs rs => match cs, rs with | [.s v rows, .i at_], [.i a, .i b, .s v' rows', .i at'] => 0 ≤ a ∧ a ≤ 9998 ∧ 0 ≤ b ∧ b ≤ 299 ∧ v' = v ∧ rows' = rows ∧ at' = at_ + 4 | _, _ => False, false⟩
def ShutGood (pl ph cl ch gl gh we de ar : Int) : Prop :=
  9000 ≤ we ∧ we < 21000 ∧ 1 ≤ de ∧ de ≤ 400000 ∧ 1 ≤ ar ∧ ar ≤ 500 ∧ 0 ≤ pl ∧ pl < 1048576 ∧ pl ≤ ph ∧ ph ≤ pl + 524288 ∧ ph ≤ cl ∧ cl ≤ ph + 209715200 ∧ cl ≤ ch ∧ ch ≤ cl + 524288 ∧ ar ≤ gl ∧ gl < ar + 1048576 ∧ gl ≤ gh ∧ gh ≤ gl + 32768
def ctShutOf : Ct := ⟨[ringSh], [shutSh], atPre 100000,
  fun cs rs => match rs with | [.i a, .i b, .i c, .i d, .i e, .i f, .i g, .i h, .i i, .s _ _, .i _] => ShutGood a b c d e f g h i | _ => False, false⟩
def ctLWithin : Ct := ctF [.agg [.int, .int], .lf .int] [.agg [.int, .int]] (fun cs => match cs with | [.i lo, .i hi, .i _] => 0 ≤ lo ∧ lo ≤ hi ∧ hi ≤ 1099511627776 | _ => False)
  (fun cs => match cs with | [.i lo, .i hi, .i n] => [.i (lo + n % (hi - lo + 1)), .i (lo + n % (hi - lo + 1))] | _ => [])
def inI : Inl := fun bd l => match l with
  | [.agg [.int a, .int b], .agg [.int c, .int d]] => some (rngL bd (cellsOf [] l), .lf (.bool (.and (B.mkCmp bd .le c a) (B.mkCmp bd .le b d))))
  | _ => none
def ctIn : Ct := ctF [.agg [.int, .int], .agg [.int, .int]] [.lf .bool] (fun _ => True) (fun cs => match cs with | [.i a, .i b, .i c, .i d] => [.b (decide (c ≤ a) && decide (b ≤ d))] | _ => [])

/-! Kicks and sensors -/
def KOk (r g : Int) : Prop := 0 ≤ r ∧ r ≤ 16777216 ∧ 0 ≤ g ∧ g ≤ 4096
instance {r g : Int} : Decidable (KOk r g) := by unfold KOk; infer_instance
def kickE (r g : Int) : Int := if KOk r g then 0 else 2
def kicksE (rl rh gl gh : Int) : Int := if rl ≤ rh ∧ gl ≤ gh ∧ KOk rl gl ∧ KOk rh gh then 0 else 2
def SOk (pe de no st lo li ho : Int) : Prop := 1 ≤ pe ∧ pe ≤ 60 ∧ 0 ≤ de ∧ de ≤ 600 ∧ 0 ≤ no ∧ no ≤ 15 ∧ 1 ≤ st ∧ st ≤ 1048576 ∧ 0 ≤ lo ∧ lo ≤ 5 ∧ 1 ≤ li ∧ li ≤ 1099511627776 ∧ 1 ≤ ho ∧ ho ≤ 8
instance {pe de no st lo li ho : Int} : Decidable (SOk pe de no st lo li ho) := by unfold SOk; infer_instance
def sensE (ch pe de no st lo li ho : Int) : Int := if ch = 1 ∨ ch = 2 then (if SOk pe de no st lo li ho then 0 else 2) else 4
def sensRow (r : List C) : Int := sensE (r.getD 0 (.i 0)).int (r.getD 1 (.i 0)).int (r.getD 2 (.i 0)).int (r.getD 3 (.i 0)).int (r.getD 4 (.i 0)).int (r.getD 5 (.i 0)).int (r.getD 6 (.i 0)).int (r.getD 7 (.i 0)).int
def firstE : List (List C) → Int
  | [] => 0
  | r :: l => if sensRow r = 0 then firstE l else sensRow r
def sensorsE (rows : List (List C)) : Int := if rows.length = 0 then 6 else if 4 < rows.length then 8 else firstE rows
def flowV (r g n : Int) : Int := if KOk r g ∧ 0 ≤ n ∧ n ≤ 20000 then r + n * g else 0
def gainV (r g n : Int) : Int := if KOk r g ∧ 0 ≤ n ∧ n ≤ 20000 then n * r + g * (n * (n - 1) / 2) else 0
def saysV (ch r g n : Int) : Int := if ch = 1 then gainV r g n else flowV r g n
def valueV (ch pe de no st lo li ho r g n e : Int) : Int := if sensE ch pe de no st lo li ho = 0 ∧ KOk r g ∧ -no ≤ e ∧ e ≤ no ∧ n ≤ 20000 then saysV ch r g n + e * st else 0
def kickSh : Sh0 := .agg [.int, .int]
def kicksSh : Sh0 := .agg [.int, .int, .int, .int]
def sensSh : Sh0 := .agg [.int, .int, .int, .int, .int, .int, .int, .int]
def ctKick : Ct := ctF [kickSh] [.lf .int] (fun _ => True) (fun cs => match cs with | [.i r, .i g] => [.i (kickE r g)] | _ => [])
def ctLeast : Ct := ctF [kicksSh] [kickSh] (fun _ => True) (fun cs => match cs with | [.i a, .i _, .i c, .i _] => [.i a, .i c] | _ => [])
def ctKicks : Ct := ctF [kicksSh] [.lf .int] (fun _ => True) (fun cs => match cs with | [.i a, .i b, .i c, .i d] => [.i (kicksE a b c d)] | _ => [])
def ctSens : Ct := ctF [sensSh] [.lf .int] (fun _ => True) (fun cs => match cs with | [.i a, .i b, .i c, .i d, .i e, .i f, .i g, .i h] => [.i (sensE a b c d e f g h)] | _ => [])
def ctSensors : Ct := ctF [.lf (.arr 23)] [.lf .int] (fun _ => True) (fun cs => match cs with | [.s _ rows] => [.i (sensorsE rows)] | _ => [])
def ctFlow : Ct := ctF [kickSh, .lf .int] [.lf .int] (fun _ => True) (fun cs => match cs with | [.i r, .i g, .i n] => [.i (flowV r g n)] | _ => [])
def ctGain : Ct := ctF [kickSh, .lf .int] [.lf .int] (fun _ => True) (fun cs => match cs with | [.i r, .i g, .i n] => [.i (gainV r g n)] | _ => [])
def ctFlow1 : Ct := ctF [kickSh, .lf .int] [.lf .int] (fun cs => match cs with | [.i r, .i g, .i n] => KOk r g ∧ n ≤ 20000 | _ => False) (fun cs => match cs with | [.i r, .i g, .i n] => [.i (flowV r g n)] | _ => [])
def ctGain1 : Ct := ctF [kickSh, .lf .int] [.lf .int] (fun cs => match cs with | [.i r, .i g, .i n] => KOk r g ∧ n ≤ 20000 | _ => False) (fun cs => match cs with | [.i r, .i g, .i n] => [.i (gainV r g n)] | _ => [])
def ctSays : Ct := ctF [sensSh, kickSh, .lf .int] [.lf .int] (fun _ => True) (fun cs => match cs with | [.i ch, .i _, .i _, .i _, .i _, .i _, .i _, .i _, .i r, .i g, .i n] => [.i (saysV ch r g n)] | _ => [])
def ctValue : Ct := ctF [sensSh, kickSh, .lf .int, .lf .int] [.lf .int] (fun _ => True) (fun cs => match cs with | [.i a, .i b, .i c, .i d, .i e, .i f, .i g, .i h, .i r, .i q, .i n, .i x] => [.i (valueV a b c d e f g h r q n x)] | _ => [])

def saysS : Sel := fun bd l => match l with
  | [.agg [.int ch, .int _, .int _, .int _, .int _, .int _, .int _, .int _], .agg [.int r, .int g]] => some ([], B.mkCmp bd .eq ch (.lit 2), .fn 67 [.int r, .int g], .fn 66 [.int r, .int g])
  | _ => none

/-! Samples: rows of a sensor's number, a tick and a value -/
def measV (no st ch r g n v : Int) : Prop := n ≤ 20000 ∧ (v - saysV ch r g n).tmod st = 0 ∧ -no ≤ (v - saysV ch r g n).tdiv st ∧ (v - saysV ch r g n).tdiv st ≤ no
instance {no st ch r g n v : Int} : Decidable (measV no st ch r g n v) := by unfold measV; infer_instance
def cell_ (r : List C) (k : Nat) : Int := (r.getD k (.i 0)).int
/-- A sensor and a kick, as numbers. -/
structure SK where
  ch : Int
  pe : Int
  de : Int
  no : Int
  st : Int
  lo : Int
  li : Int
  ho : Int
  r : Int
  g : Int
def stepV (x : SK) (begin se ph last : Int) (row : List C) : Prop :=
  0 ≤ cell_ row 1 ∧ cell_ row 1 ≤ 40000 ∧ cell_ row 0 = se ∧ (cell_ row 1).tmod x.pe = ph ∧ 1 ≤ (cell_ row 1).tdiv x.pe - last ∧ (cell_ row 1).tdiv x.pe - last ≤ x.lo + 1 ∧ measV x.no x.st x.ch x.r x.g (cell_ row 1 - begin) (cell_ row 2)
instance {x : SK} {begin se ph last : Int} {row : List C} : Decidable (stepV x begin se ph last row) := by unfold stepV; infer_instance
def possL (x : SK) (begin se ph : Int) : Int → List (List C) → Bool
  | _, [] => true
  | last, row :: l => decide (stepV x begin se ph last row) && possL x begin se ph ((cell_ row 1).tdiv x.pe) l
def SKOk (x : SK) : Prop := sensE x.ch x.pe x.de x.no x.st x.lo x.li x.ho = 0 ∧ KOk x.r x.g
instance {x : SK} : Decidable (SKOk x) := by unfold SKOk; infer_instance
def possV (x : SK) (begin : Int) (rows : List (List C)) : Bool :=
  decide (SKOk x) && (decide (0 ≤ begin ∧ begin ≤ 20000 ∧ rows.length ≤ 200) && possL x begin (cell_ (rows.getD 0 []) 0) ((cell_ (rows.getD 0 []) 1).tmod x.pe) (-1) rows)
def ctPoss : Ct := ctF [sensSh, kickSh, .lf .int, .lf (.arr 40)] [.lf .bool] (fun _ => True) (fun cs => match cs with | [.i a, .i b, .i c, .i d, .i e, .i f, .i g, .i h, .i r, .i q, .i n, .s _ rows] => [.b (possV ⟨a, b, c, d, e, f, g, h, r, q⟩ n rows)] | _ => [])
def ctMeas : Ct := ctF [sensSh, kickSh, .lf .int, .lf .int] [.lf .bool] (fun cs => match cs with | [.i a, .i b, .i c, .i d, .i e, .i f, .i g, .i h, .i r, .i q, .i n, .i _] => SKOk ⟨a, b, c, d, e, f, g, h, r, q⟩ ∧ -20000 ≤ n ∧ n ≤ 40000 | _ => False) (fun cs => match cs with | [.i a, .i b, .i c, .i d, .i e, .i f, .i g, .i h, .i r, .i q, .i n, .i v] => [.b (decide (measV d e a r q n v))] | _ => [])
def SensGood (ch pe de no st lo li ho : Int) : Prop := (ch = 1 ∨ ch = 2) ∧ 1 ≤ pe ∧ pe ≤ 12 ∧ 0 ≤ de ∧ de ≤ 38 ∧ 0 ≤ no ∧ no ≤ 3 ∧ 1 ≤ st ∧ st ≤ 500 ∧ 0 ≤ lo ∧ lo ≤ 3 ∧ 1 ≤ li ∧ li ≤ 180000 ∧ 1 ≤ ho ∧ ho ≤ 4
def ctSensorOf : Ct := ⟨[ringSh], [sensSh], atPre 100000,
  fun cs rs => match cs, rs with | [.s v rows, .i at_], [.i a, .i b, .i c, .i d, .i e, .i f, .i g, .i h, .s v' rows', .i at'] => SensGood a b c d e f g h ∧ v' = v ∧ rows' = rows ∧ at' = at_ + 9 | _, _ => False, false⟩
def endL (pe : Int) : Int → List (List C) → Int
  | last, [] => last
  | _, row :: l => endL pe ((cell_ row 1).tdiv pe) l
def SampsOf (x : SK) (begin se last : Int) (rows : List (List C)) : Prop :=
  rows.length ≤ 190 ∧ ∃ ph, 0 ≤ ph ∧ ph < x.pe ∧ possL x begin se ph (-1) rows = true ∧ (∀ row ∈ rows, cell_ row 1 ≤ last) ∧ (rows.length < 190 → last < ph + (endL x.pe (-1) rows + 1 + x.lo) * x.pe)
def ctSamples : Ct := ⟨[ringSh, .lf .int, sensSh, kickSh, .lf .int, .lf .int], [.lf (.vec 40)],
  fun cs => match cs with | [.s _ _, .i at_, .i _, .i a, .i b, .i c, .i d, .i e, .i f, .i g, .i h, .i r, .i q, .i begin, .i last] => 0 ≤ at_ ∧ at_ ≤ 100000 ∧ SKOk ⟨a, b, c, d, e, f, g, h, r, q⟩ ∧ 0 ≤ begin ∧ begin ≤ 20000 ∧ 0 ≤ last ∧ last ≤ 20000 | _ => False,
  fun cs rs => match cs, rs with | [.s v rows, .i at_, .i se, .i a, .i b, .i c, .i d, .i e, .i f, .i g, .i h, .i r, .i q, .i begin, .i last], [.s _ out, .s v' rows', .i at'] => SampsOf ⟨a, b, c, d, e, f, g, h, r, q⟩ begin se last out ∧ v' = v ∧ rows' = rows ∧ at_ ≤ at' ∧ at' ≤ at_ + 4 + 3 * last | _, _ => False, false⟩

/-! The latest alarm -/
def firA (x : SK) (f : Int) : Nat → Int → Option Int
  | 0, _ => none
  | n + 1, a => if f + a * x.pe ≤ 10000 then (if x.li ≤ saysV x.ch x.r x.g (f + a * x.pe) - x.no * x.st then some a else firA x f n (a + 1)) else none
def tickV (x : SK) (f a : Int) : Int := f + (a + x.ho * (x.lo + 1) - 1) * x.pe + x.de
def latL (x : SK) : Nat → Int → Int → Int → Int → Option (Int × Int × Int)
  | 0, _, o, p, q => some (o, p, q)
  | k + 1, f, o, p, q => match firA x f 10001 0 with
    | none => none
    | some a => if 10000 < tickV x f a then none else if o < tickV x f a then latL x k (f + 1) (tickV x f a) f a else latL x k (f + 1) o p q
def latV (x : SK) : Option (Int × Int × Int) := latL x x.pe.toNat 0 (-1) 0 0
def latC : Option (Int × Int × Int) → List C
  | some (o, p, q) => [.i o, .i p, .i q, .b true]
  | none => [.i 0, .i 0, .i 0, .b false]
def atO : Option (Int × Int × Int) → Option Int
  | some (o, _, _) => some o
  | none => none
def latE (x : SK) : List C := if SKOk x then (match atO (latV x) with | some o => [.i o, .b true] | none => [.i 0, .b false]) else [.i 0, .b false]
def skR (r g : Int) (row : List C) : SK := ⟨cell_ row 0, cell_ row 1, cell_ row 2, cell_ row 3, cell_ row 4, cell_ row 5, cell_ row 6, cell_ row 7, r, g⟩
/-- The latest alarms of sensors, as rows. -/
def atsL (r g : Int) : List (List C) → List (List C)
  | [] => []
  | row :: l => match atO (latV (skR r g row)) with
    | some o => [.i o] :: atsL r g l
    | none => atsL r g l
def minL : Int → List (List C) → Int
  | m, [] => m
  | m, row :: l => minL (min m (cell_ row 0)) l
def minR (l : List (List C)) : Int := minL (cell_ (l.getD 0 []) 0) (l.drop 1)
def earlC (r g : Int) (rows : List (List C)) : List C := if atsL r g rows = [] then [.i 0, .i 13] else [.i (minR (atsL r g rows)), .i 0]
def latestC (rows : List (List C)) (rl rh gl gh : Int) : List C := if sensorsE rows = 0 then (if kicksE rl rh gl gh = 0 then earlC rl gl rows else [.i 0, .i (kicksE rl rh gl gh)]) else [.i 0, .i (sensorsE rows)]
def caughtC (rows : List (List C)) (r g : Int) : List C :=
  if sensorsE rows = 0 then (if kickE r g = 0 then (if atsL r g rows = [] then [.i 0, .i 0, .i 13] else [.i (minR (atsL r g rows)), .i (gainV r g (minR (atsL r g rows))), .i 0]) else [.i 0, .i 0, .i (kickE r g)]) else [.i 0, .i 0, .i (sensorsE rows)]
def skOf (cs : List C) : SK := ⟨cell_ cs 0, cell_ cs 1, cell_ cs 2, cell_ cs 3, cell_ cs 4, cell_ cs 5, cell_ cs 6, cell_ cs 7, cell_ cs 8, cell_ cs 9⟩
def firC : Option Int → List C
  | some a => [.i a, .b true]
  | none => [.i 0, .b false]
def lat1C (x : SK) (f : Int) : Option Int → List C
  | some a => [.i (tickV x f a), .i a, .b (decide (tickV x f a ≤ 10000))]
  | none => [.i (tickV x f 0), .i 0, .b false]
def ctFirst : Ct := ctF [sensSh, kickSh, .lf .int] [.lf .int, .lf .bool] (fun cs => SKOk (skOf cs) ∧ 0 ≤ cell_ cs 10 ∧ cell_ cs 10 ≤ 60) (fun cs => firC (firA (skOf cs) (cell_ cs 10) 10001 0))
def ctLate1 : Ct := ctF [sensSh, kickSh, .lf .int] [.lf .int, .lf .int, .lf .bool] (fun cs => SKOk (skOf cs) ∧ 0 ≤ cell_ cs 10 ∧ cell_ cs 10 ≤ 60) (fun cs => lat1C (skOf cs) (cell_ cs 10) (firA (skOf cs) (cell_ cs 10) 10001 0))
def ctWorst : Ct := ctF [sensSh, kickSh] [.lf .int, .lf .int, .lf .int, .lf .bool] (fun cs => SKOk (skOf cs)) (fun cs => latC (latV (skOf cs)))
def ctLatek : Ct := ctF [sensSh, kickSh] [.agg [.int, .int, .int], .lf .bool] (fun cs => SKOk (skOf cs)) (fun cs => latC (latV (skOf cs)))
def ctLate : Ct := ctF [sensSh, kickSh] [.lf .int, .lf .bool] (fun _ => True) (fun cs => latE (skOf cs))
def ctMin : Ct := ctF [.lf (.arr 2)] [.lf .int] (fun cs => match cs with | [.s _ rows] => rows ≠ [] | _ => False) (fun cs => match cs with | [.s _ rows] => [.i (minR rows)] | _ => [])
def ctEarl : Ct := ctF [.lf (.arr 23), kickSh] [.lf .int, .lf .int] (fun cs => match cs with | [.s _ rows, .i r, .i g] => rows.length ≤ 6 ∧ firstE rows = 0 ∧ KOk r g | _ => False) (fun cs => match cs with | [.s _ rows, .i r, .i g] => earlC r g rows | _ => [])
def ctLatest : Ct := ctF [.lf (.arr 23), kicksSh] [.lf .int, .lf .int] (fun _ => True) (fun cs => match cs with | [.s _ rows, .i a, .i b, .i c, .i d] => latestC rows a b c d | _ => [])
def ctCaught : Ct := ctF [.lf (.arr 23), kickSh] [.lf .int, .lf .int, .lf .int] (fun _ => True) (fun cs => match cs with | [.s _ rows, .i r, .i g] => caughtC rows r g | _ => [])
def ctKicksOf : Ct := ⟨[ringSh], [kicksSh], atPre 100000,
  fun cs rs => match cs, rs with | [.s v rows, .i at_], [.i a, .i b, .i c, .i d, .s v' rows', .i at'] => 0 ≤ a ∧ a ≤ b ∧ b ≤ 12998 ∧ 0 ≤ c ∧ c ≤ d ∧ d ≤ 499 ∧ v' = v ∧ rows' = rows ∧ at' = at_ + 6 | _, _ => False, false⟩

def tab : Tab where
  ct := fun f => match f with
    | 72 => some ctFloor
    | 74 => some ctFloor
    | 73 => some ctShut
    | 31 => some ctIdent
    | 32 => some ctIdent
    | 19 => some ctAwake
    | 36 => some ctKick
    | 37 => some ctKick
    | 75 => some ctLeast
    | 76 => some ctLeast
    | 38 => some ctKicks
    | 39 => some ctKicks
    | 40 => some ctSens
    | 41 => some ctSens
    | 42 => some ctSensors
    | 43 => some ctSensors
    | 24 => some ctFlow
    | 44 => some ctFlow
    | 23 => some ctGain
    | 45 => some ctGain
    | 67 => some ctFlow1
    | 66 => some ctGain1
    | 78 => some ctSays
    | 47 => some ctValue
    | 46 => some ctValue
    | 28 => some ctMod
    | 22 => some ctMod
    | 21 => some ctNewRing
    | 26 => some ctNext
    | 20 => some ctKickOf
    | 25 => some ctSensorOf
    | 48 => some ctKicksOf
    | 97 => some ctFirst
    | 95 => some ctLate1
    | 87 => some ctWorst
    | 79 => some ctLatek
    | 49 => some ctLate
    | 58 => some ctLate
    | 91 => some ctMin
    | 80 => some ctEarl
    | 90 => some ctEarl
    | 50 => some ctLatest
    | 61 => some ctLatest
    | 51 => some ctCaught
    | 62 => some ctCaught
    | 27 => some ctSamples
    | 29 => some ctPoss
    | 30 => some ctPoss
    | 70 => some ctMeas
    | 33 => some ctShutOf
    | 34 => some ctLWithin
    | _ => none
  inl := fun f => match f with
    | 68 => some withinI
    | 69 => some withinI
    | 71 => some fairI
    | 35 => some inI
    | _ => none
  sel := fun f => match f with
    | 77 => some saysS
    | _ => none
end Go.Proofs.Ytlbgcjpkegpmlaa
/- The table, more of it: the samples that come as late as can be. -/
namespace Go.Proofs.Ytlbgcjpkegpmlaa
set_option linter.unusedVariables false

def sampR (x : SK) (t : Int) : List C := [.i 0, .i t, .i (valueV x.ch x.pe x.de x.no x.st x.lo x.li x.ho x.r x.g t (-x.no))]
def slowA (x : SK) (p : Int) (n : Nat) : List (List C) := (List.range n).map fun (i : Nat) => sampR x (p + (i : Int) * x.pe)
def slowB (x : SK) (p q : Int) (n : Nat) : List (List C) := (List.range n).map fun (j : Nat) => sampR x (p + (q + ((j : Int) + 1) * (x.lo + 1) - 1) * x.pe)
def slowV (x : SK) : Option (List (List C)) := if SKOk x then (match latV x with | some (_, p, q) => if 200 < q + x.ho then none else some (slowA x p q.toNat ++ slowB x p q x.ho.toNat) | none => none) else none
def slowIs (o : Option (List (List C))) (rows : List (List C)) (t : Bool) : Prop := match o with | some l => rows = l ∧ t = true | none => rows = [] ∧ t = false
def ctSlow : Ct := ⟨[sensSh, kickSh], [.lf (.vec 40), .lf .bool], fun _ => True, fun cs rs => match rs with | [.s _ rows, .b t] => slowIs (slowV (skOf cs)) rows t | _ => False, false⟩
def sampSh : Sh0 := .agg [.int, .int, .int]
def ctSample : Ct := ctF [sensSh, kickSh, .lf .int] [sampSh] (fun cs => SKOk (skOf cs)) (fun cs => sampR (skOf cs) (cell_ cs 10))
def sameFrom : List (List C) → List (List C) → Bool
  | x :: l, y :: m => decide (cell_ x 0 = cell_ y 0 ∧ cell_ x 1 = cell_ y 1 ∧ cell_ x 2 = cell_ y 2) && sameFrom l m
  | _, _ => true
def sameSam (a b : List (List C)) : Bool := decide (a.length = b.length) && sameFrom a b
def ctSame : Ct := ctF [.lf (.arr 40), .lf (.arr 40)] [.lf .bool] (fun _ => True) (fun cs => match cs with | [.s _ a, .s _ b] => [.b (sameSam a b)] | _ => [])
def tab2 : Tab where
  ct := fun f => match f with
    | 59 => some ctSlow
    | 60 => some ctSlow
    | 89 => some ctSample
    | 57 => some ctSame
    | f => tab.ct f
  inl := tab.inl
  sel := tab.sel
theorem up_ok {f : Nat} (h : tab.ok f) (he : tab2.ct f = tab.ct f := by rfl) : tab2.ok f :=
  ⟨h.1, fun ct hc => h.2.1 ct (he ▸ hc), h.2.2.1, h.2.2.2⟩
end Go.Proofs.Ytlbgcjpkegpmlaa
/- The table, more of it: what sensors alarm on. -/
namespace Go.Proofs.Ytlbgcjpkegpmlaa
set_option linter.unusedVariables false

def fltS (l : List (List C)) (k : Int) : List (List C) := l.filter fun r => cell_ r 0 == k
def ordFrom : Int → List (List C) → Bool
  | _, [] => true
  | t, r :: l => decide (t < cell_ r 1) && ordFrom (cell_ r 1) l
def ordL : List (List C) → Bool
  | [] => true
  | r :: l => ordFrom (cell_ r 1) l
def inB (n : Int) (r : List C) : Bool := decide (0 ≤ cell_ r 0 ∧ cell_ r 0 < n)
def inR (r : List C) : Bool := decide (0 ≤ cell_ r 1 ∧ cell_ r 1 ≤ 1099511627176 ∧ -1125899906842624 ≤ cell_ r 2 ∧ cell_ r 2 ≤ 1125899906842624)
def checkV (n : Int) (rows : List (List C)) : Int :=
  if 200 < rows.length then 8 else if rows.all (inB n) = false then 7 else if rows.all inR = false then 2 else if rows.all (fun r => ordL (fltS rows (cell_ r 0))) = false then 11 else 0
def alarmL (li ho de : Int) : Int → List (List C) → Option Int
  | _, [] => none
  | n, r :: l => if (if cell_ r 2 < li then 0 else n + 1) = ho then some (cell_ r 1 + de) else alarmL li ho de (if cell_ r 2 < li then 0 else n + 1) l
def alarmOf (s : List C) (rows : List (List C)) : Option Int := alarmL (cell_ s 6) (cell_ s 7) (cell_ s 2) 0 rows
def alarmC : Option Int → List C
  | some t => [.i t, .b true]
  | none => [.i 0, .b false]
def watchL (sens rows : List (List C)) : Nat → Option (Int × Int)
  | 0 => none
  | k + 1 => match alarmOf (sens.getD k []) (fltS rows k), watchL sens rows k with
    | some t, some (s, u) => if t < u then some ((k : Int), t) else some (s, u)
    | some t, none => some ((k : Int), t)
    | none, o => o
def watchC : Option (Int × Int) → List C
  | some (s, t) => [.i s, .i t, .b true, .i 0]
  | none => [.i 0, .i 0, .b false, .i 0]
def watchV (sens rows : List (List C)) : List C :=
  if sensorsE sens = 0 then (if checkV sens.length rows = 0 then watchC (watchL sens rows sens.length) else [.i 0, .i 0, .b false, .i (checkV sens.length rows)]) else [.i 0, .i 0, .b false, .i (sensorsE sens)]
def ctCheckS : Ct := ctF [.lf .int, .lf (.arr 40)] [.lf .int] (fun _ => True) (fun cs => match cs with | [.i n, .s _ rows] => [.i (checkV n rows)] | _ => [])
def ctRCheck : Ct := ctF [.lf (.arr 23), .lf (.arr 40)] [.lf .int] (fun _ => True) (fun cs => match cs with | [.s _ sens, .s _ rows] => [.i (checkV sens.length rows)] | _ => [])
def ctAlarms : Ct := ctF [sensSh, .lf (.arr 40)] [.lf .int, .lf .bool] (fun cs => match cs with | [.i _, .i _, .i de, .i _, .i _, .i _, .i _, .i ho, .s _ rows] => 1 ≤ ho ∧ 0 ≤ de ∧ de ≤ 600 ∧ rows.length ≤ 200 ∧ ∀ r ∈ rows, inR r = true | _ => False)
  (fun cs => match cs with | [.i _, .i _, .i de, .i _, .i _, .i _, .i li, .i ho, .s _ rows] => alarmC (alarmL li ho de 0 rows) | _ => [])
def ctOf : Ct := ⟨[.lf (.arr 40), .lf .int], [.lf (.vec 40)], fun cs => match cs with | [.s _ rows, .i _] => rows.length ≤ 200 | _ => False, fun cs rs => match cs, rs with | [.s _ rows, .i k], [.s _ out] => out = fltS rows k | _, _ => False, false⟩
def ctWatch : Ct := ctF [.lf (.arr 23), .lf (.arr 40)] [.agg [.int, .int], .lf .bool, .lf .int] (fun _ => True) (fun cs => match cs with | [.s _ sens, .s _ rows] => watchV sens rows | _ => [])
def tab3 : Tab where
  ct := fun f => match f with
    | 81 => some ctCheckS
    | 84 => some ctRCheck
    | 83 => some ctAlarms
    | 85 => some ctAlarms
    | 86 => some ctOf
    | 54 => some ctWatch
    | 55 => some ctWatch
    | f => tab2.ct f
  inl := tab2.inl
  sel := tab2.sel
theorem up3_ok {f : Nat} (h : tab2.ok f) (he : tab3.ct f = tab2.ct f := by rfl) : tab3.ok f :=
  ⟨h.1, fun ct hc => h.2.1 ct (he ▸ hc), h.2.2.1, h.2.2.2⟩
end Go.Proofs.Ytlbgcjpkegpmlaa
/- What is to be shown of each function, as the executor has it. Printed by trees.py. -/
namespace Go.Proofs.Ytlbgcjpkegpmlaa
noncomputable def calarms : Cx := tab3.only [] (fun _ => []) [] 0 [] (fun _ => none)
def talarms : Tree :=
  (.loop [.int, .bool, .int, .int] [(.int (.lit 0)), (.bool (.lit false)), (.int (.lit 0)), (.int (.lit 0))] (.split (.cmp .lt (.var 12) (.len (.var 8))) (.ob (.cmp .le (.lit 0) (.var 12)) (.ob (.cmp .lt (.var 12) (.len (.var 8))) (.ob (.and (.cmp .le (.lit (-9223372036854775808)) (.add (.var 11) (.lit 1))) (.cmp .le (.add (.var 11) (.lit 1)) (.lit 9223372036854775807))) (.split (.cmp .lt (.cell (.var 8) (.var 12) 2) (.var 6)) (.split (.cmp .eq (.lit 0) (.var 7)) (.ob (.and (.cmp .le (.lit (-9223372036854775808)) (.add (.cell (.var 8) (.var 12) 1) (.var 2))) (.cmp .le (.add (.cell (.var 8) (.var 12) 1) (.var 2)) (.lit 9223372036854775807))) (.ob (.and (.cmp .le (.lit (-9223372036854775808)) (.add (.cell (.var 8) (.var 12) 1) (.var 2))) (.cmp .le (.add (.cell (.var 8) (.var 12) 1) (.var 2)) (.lit 9223372036854775807))) (.ret [(.int (.add (.cell (.var 8) (.var 12) 1) (.var 2))), (.bool (.lit true))]))) (.back 0 [(.int (.var 9)), (.bool (.of (.var 10))), (.int (.lit 0)), (.int (.add (.var 12) (.lit 1)))])) (.split (.cmp .eq (.add (.var 11) (.lit 1)) (.var 7)) (.ob (.and (.cmp .le (.lit (-9223372036854775808)) (.add (.cell (.var 8) (.var 12) 1) (.var 2))) (.cmp .le (.add (.cell (.var 8) (.var 12) 1) (.var 2)) (.lit 9223372036854775807))) (.ob (.and (.cmp .le (.lit (-9223372036854775808)) (.add (.cell (.var 8) (.var 12) 1) (.var 2))) (.cmp .le (.add (.cell (.var 8) (.var 12) 1) (.var 2)) (.lit 9223372036854775807))) (.ret [(.int (.add (.cell (.var 8) (.var 12) 1) (.var 2))), (.bool (.lit true))]))) (.ob (.and (.cmp .le (.lit (-9223372036854775808)) (.add (.var 11) (.lit 1))) (.cmp .le (.add (.var 11) (.lit 1)) (.lit 9223372036854775807))) (.back 0 [(.int (.var 9)), (.bool (.of (.var 10))), (.int (.add (.var 11) (.lit 1))), (.int (.add (.var 12) (.lit 1)))]))))))) (.ret [(.int (.lit 0)), (.bool (.lit false))])))
noncomputable def cralarm : Cx := tab3.only [] (fun _ => []) [] 0 [] (fun _ => none)
def tralarm : Tree :=
  (.loop [.int, .bool, .int, .int] [(.int (.lit 0)), (.bool (.lit false)), (.int (.lit 0)), (.int (.lit 0))] (.split (.cmp .lt (.var 12) (.len (.var 8))) (.ob (.cmp .le (.lit 0) (.var 12)) (.ob (.cmp .lt (.var 12) (.len (.var 8))) (.split (.cmp .lt (.cell (.var 8) (.var 12) 2) (.var 6)) (.back 0 [(.int (.var 9)), (.bool (.of (.var 10))), (.int (.lit 0)), (.int (.add (.var 12) (.lit 1)))]) (.ob (.and (.cmp .le (.lit (-9223372036854775808)) (.add (.var 11) (.lit 1))) (.cmp .le (.add (.var 11) (.lit 1)) (.lit 9223372036854775807))) (.split (.cmp .eq (.add (.var 11) (.lit 1)) (.var 7)) (.ob (.cmp .lt (.var 12) (.len (.var 8))) (.ob (.and (.cmp .le (.lit (-9223372036854775808)) (.add (.cell (.var 8) (.var 12) 1) (.var 2))) (.cmp .le (.add (.cell (.var 8) (.var 12) 1) (.var 2)) (.lit 9223372036854775807))) (.ob (.and (.cmp .le (.lit (-9223372036854775808)) (.add (.cell (.var 8) (.var 12) 1) (.var 2))) (.cmp .le (.add (.cell (.var 8) (.var 12) 1) (.var 2)) (.lit 9223372036854775807))) (.ret [(.int (.add (.cell (.var 8) (.var 12) 1) (.var 2))), (.bool (.lit true))])))) (.ob (.and (.cmp .le (.lit (-9223372036854775808)) (.add (.var 11) (.lit 1))) (.cmp .le (.add (.var 11) (.lit 1)) (.lit 9223372036854775807))) (.back 0 [(.int (.var 9)), (.bool (.of (.var 10))), (.int (.add (.var 11) (.lit 1))), (.int (.add (.var 12) (.lit 1)))]))))))) (.ret [(.int (.lit 0)), (.bool (.lit false))])))
noncomputable def cof : Cx := tab3.only [] (fun _ => []) [] 0 [] (fun _ => none)
def tof : Tree :=
  (.dfn .nil (.dfn .nil (.loop [(.vec 40), .int] [(.cnt 40 (.var 3)), (.int (.lit 0))] (.split (.cmp .lt (.var 5) (.len (.var 0))) (.ob (.cmp .le (.lit 0) (.var 5)) (.ob (.cmp .lt (.var 5) (.len (.var 0))) (.split (.cmp .eq (.cell (.var 0) (.var 5) 0) (.var 1)) (.ob (.cmp .lt (.var 5) (.len (.var 0))) (.arr [[(.int (.cell (.var 0) (.var 5) 0)), (.int (.cell (.var 0) (.var 5) 1)), (.int (.cell (.var 0) (.var 5) 2))]] (.ob (.cmp .le (.mul (.add (.len (.var 4)) (.len (.var 6))) (.lit 24)) (.lit 140737488355328)) (.cat (.var 4) (.var 6) (.back 0 [(.cnt 40 (.var 7)), (.int (.add (.var 5) (.lit 1)))]))))) (.back 0 [(.cnt 40 (.var 4)), (.int (.add (.var 5) (.lit 1)))])))) (.ret [(.cnt 40 (.var 4))])))))
noncomputable def crchk : Cx := tab3.only [69, 86] (fun _ => []) [] 0 [] (fun _ => none)
def trchk : Tree :=
  (.split (.cmp .lt (.lit 200) (.len (.var 1))) (.ret [(.int (.lit 8))]) (.loop [.int, .int] [(.int (.lit 0)), (.int (.lit 0))] (.split (.cmp .lt (.var 3) (.len (.var 1))) (.ob (.cmp .le (.lit 0) (.var 3)) (.ob (.cmp .lt (.var 3) (.len (.var 1))) (.split (.cmp .lt (.cell (.var 1) (.var 3) 0) (.lit 0)) (.ret [(.int (.lit 7))]) (.ob (.cmp .lt (.var 3) (.len (.var 1))) (.split (.cmp .le (.len (.var 0)) (.cell (.var 1) (.var 3) 0)) (.ret [(.int (.lit 7))]) (.back 0 [(.int (.var 2)), (.int (.add (.var 3) (.lit 1)))])))))) (.loop [.int, .int] [(.int (.var 2)), (.int (.lit 0))] (.split (.cmp .lt (.var 5) (.len (.var 1))) (.ob (.cmp .le (.lit 0) (.var 5)) (.ob (.cmp .lt (.var 5) (.len (.var 1))) (.split (.not (.and (.cmp .le (.lit 0) (.cell (.var 1) (.var 5) 1)) (.cmp .le (.cell (.var 1) (.var 5) 1) (.lit 1099511627176)))) (.ret [(.int (.lit 2))]) (.ob (.cmp .lt (.var 5) (.len (.var 1))) (.split (.not (.and (.cmp .le (.lit (-1125899906842624)) (.cell (.var 1) (.var 5) 2)) (.cmp .le (.cell (.var 1) (.var 5) 2) (.lit 1125899906842624)))) (.ret [(.int (.lit 2))]) (.back 1 [(.int (.var 4)), (.int (.add (.var 5) (.lit 1)))])))))) (.loop [.int, .int] [(.int (.var 4)), (.int (.lit 0))] (.split (.cmp .lt (.var 7) (.len (.var 0))) (.call 86 [(.arr 40 (.var 1)), (.int (.var 7))] (.loop [.int, .int] [(.int (.var 6)), (.int (.lit 1))] (.split (.cmp .lt (.var 10) (.len (.var 8))) (.ob (.cmp .le (.lit 0) (.var 10)) (.ob (.cmp .lt (.var 10) (.len (.var 8))) (.ob (.cmp .le (.lit 0) (.sub (.var 10) (.lit 1))) (.ob (.cmp .lt (.sub (.var 10) (.lit 1)) (.len (.var 8))) (.split (.cmp .le (.cell (.var 8) (.var 10) 1) (.cell (.var 8) (.sub (.var 10) (.lit 1)) 1)) (.ret [(.int (.lit 11))]) (.back 3 [(.int (.var 9)), (.int (.add (.var 10) (.lit 1)))])))))) (.back 2 [(.int (.var 9)), (.int (.add (.var 7) (.lit 1)))])))) (.ret [(.int (.lit 0))]))))))))
noncomputable def crwatch : Cx := tab3.only [43, 84, 85, 86] (fun r => match r with
  | 10 => [.blk 1]
  | _ => []) [] 0 [] (fun _ => none)
def trwatch : Tree :=
  (.call 43 [(.arr 23 (.var 0))] (.split (.cmp .ne (.var 2) (.lit 0)) (.ret [(.int (.lit 0)), (.int (.lit 0)), (.bool (.lit false)), (.int (.var 2))]) (.call 84 [(.arr 23 (.var 0)), (.arr 40 (.var 1))] (.split (.cmp .ne (.var 3) (.lit 0)) (.ret [(.int (.lit 0)), (.int (.lit 0)), (.bool (.lit false)), (.int (.var 3))]) (.loop [.bool, .int, .int, .int] [(.bool (.lit false)), (.int (.lit 0)), (.int (.lit 0)), (.int (.lit 0))] (.split (.cmp .lt (.var 5) (.len (.var 0))) (.ob (.cmp .le (.lit 0) (.var 5)) (.ob (.cmp .lt (.var 5) (.len (.var 0))) (.call 86 [(.arr 40 (.var 1)), (.int (.var 5))] (.call 85 [(.int (.cell (.var 0) (.var 5) 0)), (.int (.cell (.var 0) (.var 5) 1)), (.int (.cell (.var 0) (.var 5) 2)), (.int (.cell (.var 0) (.var 5) 3)), (.int (.cell (.var 0) (.var 5) 4)), (.int (.cell (.var 0) (.var 5) 5)), (.int (.cell (.var 0) (.var 5) 6)), (.int (.cell (.var 0) (.var 5) 7)), (.arr 40 (.var 8))] (.split (.of (.var 10)) (.split (.not (.of (.var 4))) (.back 0 [(.bool (.lit true)), (.int (.add (.var 5) (.lit 1))), (.int (.var 5)), (.int (.var 9))]) (.split (.cmp .lt (.var 9) (.var 7)) (.back 0 [(.bool (.lit true)), (.int (.add (.var 5) (.lit 1))), (.int (.var 5)), (.int (.var 9))]) (.back 0 [(.bool (.of (.var 4))), (.int (.add (.var 5) (.lit 1))), (.int (.var 6)), (.int (.var 7))]))) (.back 0 [(.bool (.of (.var 4))), (.int (.add (.var 5) (.lit 1))), (.int (.var 6)), (.int (.var 7))])))))) (.ret [(.int (.var 6)), (.int (.var 7)), (.bool (.of (.var 4))), (.int (.lit 0))])))))))
end Go.Proofs.Ytlbgcjpkegpmlaa
/- What is to be shown of each function, as the executor has it. Printed by trees.py. -/
namespace Go.Proofs.Ytlbgcjpkegpmlaa
noncomputable def ckicksof : Cx := tab.only [26, 20] (fun r => match r with
  | 50002 => [.blk 0]
  | _ => []) [] 0 []
def tkicksof_1 : Tree :=
  (.ob (.and (.cmp .le (.lit (-9223372036854775808)) (.add (.var 3) (.var 9))) (.cmp .le (.add (.var 3) (.var 9)) (.lit 9223372036854775807))) (.ob (.and (.cmp .le (.lit (-9223372036854775808)) (.add (.var 2) (.var 6))) (.cmp .le (.add (.var 2) (.var 6)) (.lit 9223372036854775807))) (.ob (.and (.cmp .le (.lit (-9223372036854775808)) (.add (.var 3) (.var 9))) (.cmp .le (.add (.var 3) (.var 9)) (.lit 9223372036854775807))) (.ret [(.int (.var 2)), (.int (.add (.var 2) (.var 6))), (.int (.var 3)), (.int (.add (.var 3) (.var 9))), (.arr 3 (.var 10)), (.int (.var 11))]))))
def tkicksof_2 : Tree :=
  (.ob (.and (.cmp .le (.lit (-9223372036854775808)) (.add (.var 2) (.var 6))) (.cmp .le (.add (.var 2) (.var 6)) (.lit 9223372036854775807))) (.call 26 [(.arr 3 (.var 7)), (.int (.var 8)), (.int (.lit 200))] tkicksof_1))
def tkicksof : Tree :=
  (.call 20 [(.arr 3 (.var 0)), (.int (.var 1))] (.call 26 [(.arr 3 (.var 4)), (.int (.var 5)), (.int (.lit 3000))] tkicksof_2))
noncomputable def clatek : Cx := tab.only [77, 67, 66] (fun r => match r with
  | 4 => [.blk 3]
  | _ => []) [] 0 []
def tlatek : Tree :=
  (.split (.cmp .eq (.var 0) (.lit 2)) (.loop [.bool, .int, .int, .int, .int] [(.bool (.lit false)), (.int (.lit 0)), (.int (.lit (-1))), (.int (.lit 0)), (.int (.lit 0))] (.split (.cmp .lt (.var 11) (.var 1)) (.loop [.bool, .int] [(.bool (.of (.var 10))), (.int (.lit 0))] (.ob (.and (.cmp .le (.lit (-9223372036854775808)) (.mul (.var 16) (.var 1))) (.cmp .le (.mul (.var 16) (.var 1)) (.lit 9223372036854775807))) (.ob (.and (.cmp .le (.lit (-9223372036854775808)) (.add (.var 11) (.mul (.var 16) (.var 1)))) (.cmp .le (.add (.var 11) (.mul (.var 16) (.var 1))) (.lit 9223372036854775807))) (.split (.cmp .le (.add (.var 11) (.mul (.var 16) (.var 1))) (.lit 10000)) (.ob (.and (.cmp .le (.lit (-9223372036854775808)) (.mul (.var 16) (.var 1))) (.cmp .le (.mul (.var 16) (.var 1)) (.lit 9223372036854775807))) (.ob (.and (.cmp .le (.lit (-9223372036854775808)) (.add (.var 11) (.mul (.var 16) (.var 1)))) (.cmp .le (.add (.var 11) (.mul (.var 16) (.var 1))) (.lit 9223372036854775807))) (.ob (.and (.cmp .le (.lit (-9223372036854775808)) (.mul (.var 3) (.var 4))) (.cmp .le (.mul (.var 3) (.var 4)) (.lit 9223372036854775807))) (.ob (.and (.cmp .le (.lit (-9223372036854775808)) (.add (.var 11) (.mul (.var 16) (.var 1)))) (.cmp .le (.add (.var 11) (.mul (.var 16) (.var 1))) (.lit 9223372036854775807))) (.call 67 [(.int (.var 8)), (.int (.var 9)), (.int (.add (.var 11) (.mul (.var 16) (.var 1))))] (.ob (.and (.cmp .le (.lit (-9223372036854775808)) (.sub (.var 17) (.mul (.var 3) (.var 4)))) (.cmp .le (.sub (.var 17) (.mul (.var 3) (.var 4))) (.lit 9223372036854775807))) (.split (.cmp .lt (.sub (.var 17) (.mul (.var 3) (.var 4))) (.var 6)) (.ob (.and (.cmp .le (.lit (-9223372036854775808)) (.add (.var 16) (.lit 1))) (.cmp .le (.add (.var 16) (.lit 1)) (.lit 9223372036854775807))) (.ob (.and (.cmp .le (.lit (-9223372036854775808)) (.add (.var 16) (.lit 1))) (.cmp .le (.add (.var 16) (.lit 1)) (.lit 9223372036854775807))) (.back 1 [(.bool (.of (.var 15))), (.int (.add (.var 16) (.lit 1)))]))) (.ob (.and (.cmp .le (.lit (-9223372036854775808)) (.add (.var 5) (.lit 1))) (.cmp .le (.add (.var 5) (.lit 1)) (.lit 9223372036854775807))) (.ob (.and (.cmp .le (.lit (-9223372036854775808)) (.mul (.var 7) (.add (.var 5) (.lit 1)))) (.cmp .le (.mul (.var 7) (.add (.var 5) (.lit 1))) (.lit 9223372036854775807))) (.ob (.and (.cmp .le (.lit (-9223372036854775808)) (.add (.var 16) (.mul (.var 7) (.add (.var 5) (.lit 1))))) (.cmp .le (.add (.var 16) (.mul (.var 7) (.add (.var 5) (.lit 1)))) (.lit 9223372036854775807))) (.ob (.and (.cmp .le (.lit (-9223372036854775808)) (.sub (.add (.var 16) (.mul (.var 7) (.add (.var 5) (.lit 1)))) (.lit 1))) (.cmp .le (.sub (.add (.var 16) (.mul (.var 7) (.add (.var 5) (.lit 1)))) (.lit 1)) (.lit 9223372036854775807))) (.ob (.and (.cmp .le (.lit (-9223372036854775808)) (.mul (.sub (.add (.var 16) (.mul (.var 7) (.add (.var 5) (.lit 1)))) (.lit 1)) (.var 1))) (.cmp .le (.mul (.sub (.add (.var 16) (.mul (.var 7) (.add (.var 5) (.lit 1)))) (.lit 1)) (.var 1)) (.lit 9223372036854775807))) (.ob (.and (.cmp .le (.lit (-9223372036854775808)) (.add (.var 11) (.mul (.sub (.add (.var 16) (.mul (.var 7) (.add (.var 5) (.lit 1)))) (.lit 1)) (.var 1)))) (.cmp .le (.add (.var 11) (.mul (.sub (.add (.var 16) (.mul (.var 7) (.add (.var 5) (.lit 1)))) (.lit 1)) (.var 1))) (.lit 9223372036854775807))) (.ob (.and (.cmp .le (.lit (-9223372036854775808)) (.add (.add (.var 11) (.mul (.sub (.add (.var 16) (.mul (.var 7) (.add (.var 5) (.lit 1)))) (.lit 1)) (.var 1))) (.var 2))) (.cmp .le (.add (.add (.var 11) (.mul (.sub (.add (.var 16) (.mul (.var 7) (.add (.var 5) (.lit 1)))) (.lit 1)) (.var 1))) (.var 2)) (.lit 9223372036854775807))) (.split (.cmp .lt (.lit 10000) (.add (.add (.var 11) (.mul (.sub (.add (.var 16) (.mul (.var 7) (.add (.var 5) (.lit 1)))) (.lit 1)) (.var 1))) (.var 2))) (.ret [(.int (.lit 0)), (.int (.lit 0)), (.int (.lit 0)), (.bool (.lit false))]) (.split (.cmp .lt (.var 12) (.add (.add (.var 11) (.mul (.sub (.add (.var 16) (.mul (.var 7) (.add (.var 5) (.lit 1)))) (.lit 1)) (.var 1))) (.var 2))) (.ob (.and (.cmp .le (.lit (-9223372036854775808)) (.add (.add (.var 11) (.mul (.sub (.add (.var 16) (.mul (.var 7) (.add (.var 5) (.lit 1)))) (.lit 1)) (.var 1))) (.var 2))) (.cmp .le (.add (.add (.var 11) (.mul (.sub (.add (.var 16) (.mul (.var 7) (.add (.var 5) (.lit 1)))) (.lit 1)) (.var 1))) (.var 2)) (.lit 9223372036854775807))) (.back 0 [(.bool (.of (.var 15))), (.int (.add (.var 11) (.lit 1))), (.int (.add (.add (.var 11) (.mul (.sub (.add (.var 16) (.mul (.var 7) (.add (.var 5) (.lit 1)))) (.lit 1)) (.var 1))) (.var 2))), (.int (.var 11)), (.int (.var 16))])) (.back 0 [(.bool (.of (.var 15))), (.int (.add (.var 11) (.lit 1))), (.int (.var 12)), (.int (.var 13)), (.int (.var 14))]))))))))))))))))) (.ret [(.int (.lit 0)), (.int (.lit 0)), (.int (.lit 0)), (.bool (.lit false))]))))) (.ret [(.int (.var 12)), (.int (.var 13)), (.int (.var 14)), (.bool (.lit true))]))) (.loop [.bool, .int, .int, .int, .int] [(.bool (.lit false)), (.int (.lit 0)), (.int (.lit (-1))), (.int (.lit 0)), (.int (.lit 0))] (.split (.cmp .lt (.var 11) (.var 1)) (.loop [.bool, .int] [(.bool (.of (.var 10))), (.int (.lit 0))] (.ob (.and (.cmp .le (.lit (-9223372036854775808)) (.mul (.var 16) (.var 1))) (.cmp .le (.mul (.var 16) (.var 1)) (.lit 9223372036854775807))) (.ob (.and (.cmp .le (.lit (-9223372036854775808)) (.add (.var 11) (.mul (.var 16) (.var 1)))) (.cmp .le (.add (.var 11) (.mul (.var 16) (.var 1))) (.lit 9223372036854775807))) (.split (.cmp .le (.add (.var 11) (.mul (.var 16) (.var 1))) (.lit 10000)) (.ob (.and (.cmp .le (.lit (-9223372036854775808)) (.mul (.var 16) (.var 1))) (.cmp .le (.mul (.var 16) (.var 1)) (.lit 9223372036854775807))) (.ob (.and (.cmp .le (.lit (-9223372036854775808)) (.add (.var 11) (.mul (.var 16) (.var 1)))) (.cmp .le (.add (.var 11) (.mul (.var 16) (.var 1))) (.lit 9223372036854775807))) (.ob (.and (.cmp .le (.lit (-9223372036854775808)) (.mul (.var 3) (.var 4))) (.cmp .le (.mul (.var 3) (.var 4)) (.lit 9223372036854775807))) (.ob (.and (.cmp .le (.lit (-9223372036854775808)) (.add (.var 11) (.mul (.var 16) (.var 1)))) (.cmp .le (.add (.var 11) (.mul (.var 16) (.var 1))) (.lit 9223372036854775807))) (.call 66 [(.int (.var 8)), (.int (.var 9)), (.int (.add (.var 11) (.mul (.var 16) (.var 1))))] (.ob (.and (.cmp .le (.lit (-9223372036854775808)) (.sub (.var 17) (.mul (.var 3) (.var 4)))) (.cmp .le (.sub (.var 17) (.mul (.var 3) (.var 4))) (.lit 9223372036854775807))) (.split (.cmp .lt (.sub (.var 17) (.mul (.var 3) (.var 4))) (.var 6)) (.ob (.and (.cmp .le (.lit (-9223372036854775808)) (.add (.var 16) (.lit 1))) (.cmp .le (.add (.var 16) (.lit 1)) (.lit 9223372036854775807))) (.ob (.and (.cmp .le (.lit (-9223372036854775808)) (.add (.var 16) (.lit 1))) (.cmp .le (.add (.var 16) (.lit 1)) (.lit 9223372036854775807))) (.back 1 [(.bool (.of (.var 15))), (.int (.add (.var 16) (.lit 1)))]))) (.ob (.and (.cmp .le (.lit (-9223372036854775808)) (.add (.var 5) (.lit 1))) (.cmp .le (.add (.var 5) (.lit 1)) (.lit 9223372036854775807))) (.ob (.and (.cmp .le (.lit (-9223372036854775808)) (.mul (.var 7) (.add (.var 5) (.lit 1)))) (.cmp .le (.mul (.var 7) (.add (.var 5) (.lit 1))) (.lit 9223372036854775807))) (.ob (.and (.cmp .le (.lit (-9223372036854775808)) (.add (.var 16) (.mul (.var 7) (.add (.var 5) (.lit 1))))) (.cmp .le (.add (.var 16) (.mul (.var 7) (.add (.var 5) (.lit 1)))) (.lit 9223372036854775807))) (.ob (.and (.cmp .le (.lit (-9223372036854775808)) (.sub (.add (.var 16) (.mul (.var 7) (.add (.var 5) (.lit 1)))) (.lit 1))) (.cmp .le (.sub (.add (.var 16) (.mul (.var 7) (.add (.var 5) (.lit 1)))) (.lit 1)) (.lit 9223372036854775807))) (.ob (.and (.cmp .le (.lit (-9223372036854775808)) (.mul (.sub (.add (.var 16) (.mul (.var 7) (.add (.var 5) (.lit 1)))) (.lit 1)) (.var 1))) (.cmp .le (.mul (.sub (.add (.var 16) (.mul (.var 7) (.add (.var 5) (.lit 1)))) (.lit 1)) (.var 1)) (.lit 9223372036854775807))) (.ob (.and (.cmp .le (.lit (-9223372036854775808)) (.add (.var 11) (.mul (.sub (.add (.var 16) (.mul (.var 7) (.add (.var 5) (.lit 1)))) (.lit 1)) (.var 1)))) (.cmp .le (.add (.var 11) (.mul (.sub (.add (.var 16) (.mul (.var 7) (.add (.var 5) (.lit 1)))) (.lit 1)) (.var 1))) (.lit 9223372036854775807))) (.ob (.and (.cmp .le (.lit (-9223372036854775808)) (.add (.add (.var 11) (.mul (.sub (.add (.var 16) (.mul (.var 7) (.add (.var 5) (.lit 1)))) (.lit 1)) (.var 1))) (.var 2))) (.cmp .le (.add (.add (.var 11) (.mul (.sub (.add (.var 16) (.mul (.var 7) (.add (.var 5) (.lit 1)))) (.lit 1)) (.var 1))) (.var 2)) (.lit 9223372036854775807))) (.split (.cmp .lt (.lit 10000) (.add (.add (.var 11) (.mul (.sub (.add (.var 16) (.mul (.var 7) (.add (.var 5) (.lit 1)))) (.lit 1)) (.var 1))) (.var 2))) (.ret [(.int (.lit 0)), (.int (.lit 0)), (.int (.lit 0)), (.bool (.lit false))]) (.split (.cmp .lt (.var 12) (.add (.add (.var 11) (.mul (.sub (.add (.var 16) (.mul (.var 7) (.add (.var 5) (.lit 1)))) (.lit 1)) (.var 1))) (.var 2))) (.ob (.and (.cmp .le (.lit (-9223372036854775808)) (.add (.add (.var 11) (.mul (.sub (.add (.var 16) (.mul (.var 7) (.add (.var 5) (.lit 1)))) (.lit 1)) (.var 1))) (.var 2))) (.cmp .le (.add (.add (.var 11) (.mul (.sub (.add (.var 16) (.mul (.var 7) (.add (.var 5) (.lit 1)))) (.lit 1)) (.var 1))) (.var 2)) (.lit 9223372036854775807))) (.back 0 [(.bool (.of (.var 15))), (.int (.add (.var 11) (.lit 1))), (.int (.add (.add (.var 11) (.mul (.sub (.add (.var 16) (.mul (.var 7) (.add (.var 5) (.lit 1)))) (.lit 1)) (.var 1))) (.var 2))), (.int (.var 11)), (.int (.var 16))])) (.back 0 [(.bool (.of (.var 15))), (.int (.add (.var 11) (.lit 1))), (.int (.var 12)), (.int (.var 13)), (.int (.var 14))]))))))))))))))))) (.ret [(.int (.lit 0)), (.int (.lit 0)), (.int (.lit 0)), (.bool (.lit false))]))))) (.ret [(.int (.var 12)), (.int (.var 13)), (.int (.var 14)), (.bool (.lit true))]))))
noncomputable def clate : Cx := tab.only [40, 36, 79] (fun _ => []) [] 0 []
def tlate : Tree :=
  (.call 40 [(.int (.var 0)), (.int (.var 1)), (.int (.var 2)), (.int (.var 3)), (.int (.var 4)), (.int (.var 5)), (.int (.var 6)), (.int (.var 7))] (.split (.cmp .ne (.var 10) (.lit 0)) (.ret [(.int (.lit 0)), (.bool (.lit false))]) (.call 36 [(.int (.var 8)), (.int (.var 9))] (.split (.cmp .ne (.var 11) (.lit 0)) (.ret [(.int (.lit 0)), (.bool (.lit false))]) (.call 79 [(.int (.var 0)), (.int (.var 1)), (.int (.var 2)), (.int (.var 3)), (.int (.var 4)), (.int (.var 5)), (.int (.var 6)), (.int (.var 7)), (.int (.var 8)), (.int (.var 9))] (.ret [(.int (.var 12)), (.bool (.of (.var 15)))]))))))
noncomputable def cmin : Cx := tab.only [] (fun _ => []) [] 0 []
def tmin : Tree :=
  (.split (.cmp .lt (.len (.var 0)) (.lit 1)) (.fail 8 [0]) (.ob (.cmp .lt (.lit 0) (.len (.var 0))) (.loop [.int, .int] [(.int (.cell (.var 0) (.lit 0) 0)), (.int (.lit 1))] (.split (.cmp .lt (.var 2) (.len (.var 0))) (.ob (.cmp .le (.lit 0) (.var 2)) (.ob (.cmp .lt (.var 2) (.len (.var 0))) (.back 0 [(.int (.min (.var 1) (.cell (.var 0) (.var 2) 0))), (.int (.add (.var 2) (.lit 1)))]))) (.ret [(.int (.var 1))])))))
noncomputable def cearl : Cx := tab.only [79, 91] (fun _ => []) [] 0 []
def tearl : Tree :=
  (.dfn .nil (.loop [(.vec 2), .int] [(.cnt 2 (.var 3)), (.int (.lit 0))] (.split (.cmp .lt (.var 5) (.len (.var 0))) (.ob (.cmp .le (.lit 0) (.var 5)) (.ob (.cmp .lt (.var 5) (.len (.var 0))) (.call 79 [(.int (.cell (.var 0) (.var 5) 0)), (.int (.cell (.var 0) (.var 5) 1)), (.int (.cell (.var 0) (.var 5) 2)), (.int (.cell (.var 0) (.var 5) 3)), (.int (.cell (.var 0) (.var 5) 4)), (.int (.cell (.var 0) (.var 5) 5)), (.int (.cell (.var 0) (.var 5) 6)), (.int (.cell (.var 0) (.var 5) 7)), (.int (.var 1)), (.int (.var 2))] (.split (.of (.var 9)) (.arr [[(.int (.var 6))]] (.ob (.cmp .le (.mul (.add (.len (.var 4)) (.len (.var 10))) (.lit 8)) (.lit 140737488355328)) (.cat (.var 4) (.var 10) (.back 0 [(.cnt 2 (.var 11)), (.int (.add (.var 5) (.lit 1)))])))) (.back 0 [(.cnt 2 (.var 4)), (.int (.add (.var 5) (.lit 1)))]))))) (.split (.cmp .eq (.len (.var 4)) (.lit 0)) (.ret [(.int (.lit 0)), (.int (.lit 13))]) (.call 91 [(.arr 2 (.var 4))] (.ret [(.int (.var 6)), (.int (.lit 0))]))))))
noncomputable def clatest : Cx := tab.only [42, 38, 75, 80] (fun _ => []) [] 0 []
def tlatest : Tree :=
  (.call 42 [(.arr 23 (.var 0))] (.split (.cmp .ne (.var 5) (.lit 0)) (.ret [(.int (.lit 0)), (.int (.var 5))]) (.call 38 [(.int (.var 1)), (.int (.var 2)), (.int (.var 3)), (.int (.var 4))] (.split (.cmp .ne (.var 6) (.lit 0)) (.ret [(.int (.lit 0)), (.int (.var 6))]) (.call 75 [(.int (.var 1)), (.int (.var 2)), (.int (.var 3)), (.int (.var 4))] (.call 80 [(.arr 23 (.var 0)), (.int (.var 7)), (.int (.var 8))] (.ret [(.int (.var 9)), (.int (.var 10))])))))))
noncomputable def ccaught : Cx := tab.only [42, 36, 23, 80] (fun _ => []) [] 0 []
def tcaught : Tree :=
  (.call 42 [(.arr 23 (.var 0))] (.split (.cmp .ne (.var 3) (.lit 0)) (.ret [(.int (.lit 0)), (.int (.lit 0)), (.int (.var 3))]) (.call 36 [(.int (.var 1)), (.int (.var 2))] (.split (.cmp .ne (.var 4) (.lit 0)) (.ret [(.int (.lit 0)), (.int (.lit 0)), (.int (.var 4))]) (.call 80 [(.arr 23 (.var 0)), (.int (.var 1)), (.int (.var 2))] (.split (.cmp .ne (.var 6) (.lit 0)) (.ret [(.int (.lit 0)), (.int (.lit 0)), (.int (.var 6))]) (.call 23 [(.int (.var 1)), (.int (.var 2)), (.int (.var 5))] (.ret [(.int (.var 5)), (.int (.var 7)), (.int (.lit 0))]))))))))
noncomputable def corder : Cx := tab.only [21, 48, 25, 28, 49, 50, 51, 23, 19] (fun _ => []) [] 0 []
def torder_1 : Tree :=
  (.split (.cmp .eq (.var 33) (.lit 0)) (.split (.cmp .eq (.var 31) (.var 28)) (.call 23 [(.int (.var 4)), (.int (.var 6)), (.int (.var 28))] (.split (.cmp .eq (.var 32) (.var 34)) (.call 19 [] (.ret [(.bool (.of (.var 35)))])) (.ret [(.bool (.lit false))]))) (.ret [(.bool (.lit false))])) (.ret [(.bool (.lit false))]))
def torder_2 : Tree :=
  (.split (.not (.of (.var 21))) (.split (.not (.of (.var 26))) (.split (.cmp .eq (.var 29) (.lit 13)) (.call 19 [] (.ret [(.bool (.of (.var 30)))])) (.ret [(.bool (.lit false))])) (.split (.cmp .ne (.var 29) (.lit 0)) (.ret [(.bool (.lit false))]) (.split (.cmp .ne (.var 28) (.var 25)) (.ret [(.bool (.lit false))]) (.arr [[(.int (.var 10)), (.int (.var 11)), (.int (.var 12)), (.int (.var 13)), (.int (.var 14)), (.int (.var 15)), (.int (.var 16)), (.int (.var 17))], [(.int (.var 10)), (.int (.var 11)), (.int (.var 12)), (.int (.var 13)), (.int (.var 14)), (.int (.var 15)), (.int (.max (.lit 1) (.sub (.var 16) (.lit 100)))), (.int (.var 17))]] (.call 51 [(.arr 23 (.var 30)), (.int (.var 4)), (.int (.var 6))] torder_1))))) (.split (.cmp .ne (.var 29) (.lit 0)) (.ret [(.bool (.lit false))]) (.split (.cmp .ne (.var 28) (.var 25)) (.ret [(.bool (.lit false))]) (.arr [[(.int (.var 10)), (.int (.var 11)), (.int (.var 12)), (.int (.var 13)), (.int (.var 14)), (.int (.var 15)), (.int (.var 16)), (.int (.var 17))], [(.int (.var 10)), (.int (.var 11)), (.int (.var 12)), (.int (.var 13)), (.int (.var 14)), (.int (.var 15)), (.int (.max (.lit 1) (.sub (.var 16) (.lit 100)))), (.int (.var 17))]] (.call 51 [(.arr 23 (.var 30)), (.int (.var 4)), (.int (.var 6))] torder_1)))))
def torder_3 : Tree :=
  (.split (.of (.var 21)) (.split (.not (.of (.var 26))) (.ret [(.bool (.lit false))]) (.split (.cmp .lt (.var 20) (.var 25)) (.ret [(.bool (.lit false))]) (.arr [[(.int (.var 10)), (.int (.var 11)), (.int (.var 12)), (.int (.var 13)), (.int (.var 14)), (.int (.var 15)), (.int (.var 16)), (.int (.var 17))], [(.int (.var 10)), (.int (.var 11)), (.int (.var 12)), (.int (.var 13)), (.int (.var 14)), (.int (.var 15)), (.int (.max (.lit 1) (.sub (.var 16) (.lit 100)))), (.int (.var 17))]] (.call 50 [(.arr 23 (.var 27)), (.int (.var 4)), (.int (.var 5)), (.int (.var 6)), (.int (.var 7))] torder_2)))) (.arr [[(.int (.var 10)), (.int (.var 11)), (.int (.var 12)), (.int (.var 13)), (.int (.var 14)), (.int (.var 15)), (.int (.var 16)), (.int (.var 17))], [(.int (.var 10)), (.int (.var 11)), (.int (.var 12)), (.int (.var 13)), (.int (.var 14)), (.int (.var 15)), (.int (.max (.lit 1) (.sub (.var 16) (.lit 100)))), (.int (.var 17))]] (.call 50 [(.arr 23 (.var 27)), (.int (.var 4)), (.int (.var 5)), (.int (.var 6)), (.int (.var 7))] torder_2)))
def torder_4 : Tree :=
  (.split (.not (.of (.var 21))) (.split (.not (.of (.var 26))) (.split (.cmp .eq (.var 29) (.lit 13)) (.call 19 [] (.ret [(.bool (.of (.var 30)))])) (.ret [(.bool (.lit false))])) (.split (.cmp .ne (.var 29) (.lit 0)) (.ret [(.bool (.lit false))]) (.split (.cmp .ne (.var 28) (.var 25)) (.ret [(.bool (.lit false))]) (.arr [[(.int (.var 10)), (.int (.var 11)), (.int (.var 12)), (.int (.var 13)), (.int (.var 14)), (.int (.var 15)), (.int (.var 16)), (.int (.var 17))], [(.int (.var 10)), (.int (.var 11)), (.int (.var 12)), (.int (.var 13)), (.int (.var 14)), (.int (.var 15)), (.int (.var 16)), (.int (.max (.lit 1) (.sub (.var 17) (.lit 1))))]] (.call 51 [(.arr 23 (.var 30)), (.int (.var 4)), (.int (.var 6))] torder_1))))) (.split (.cmp .ne (.var 29) (.lit 0)) (.ret [(.bool (.lit false))]) (.split (.cmp .ne (.var 28) (.var 25)) (.ret [(.bool (.lit false))]) (.arr [[(.int (.var 10)), (.int (.var 11)), (.int (.var 12)), (.int (.var 13)), (.int (.var 14)), (.int (.var 15)), (.int (.var 16)), (.int (.var 17))], [(.int (.var 10)), (.int (.var 11)), (.int (.var 12)), (.int (.var 13)), (.int (.var 14)), (.int (.var 15)), (.int (.var 16)), (.int (.max (.lit 1) (.sub (.var 17) (.lit 1))))]] (.call 51 [(.arr 23 (.var 30)), (.int (.var 4)), (.int (.var 6))] torder_1)))))
def torder_5 : Tree :=
  (.split (.of (.var 21)) (.split (.not (.of (.var 26))) (.ret [(.bool (.lit false))]) (.split (.cmp .lt (.var 20) (.var 25)) (.ret [(.bool (.lit false))]) (.arr [[(.int (.var 10)), (.int (.var 11)), (.int (.var 12)), (.int (.var 13)), (.int (.var 14)), (.int (.var 15)), (.int (.var 16)), (.int (.var 17))], [(.int (.var 10)), (.int (.var 11)), (.int (.var 12)), (.int (.var 13)), (.int (.var 14)), (.int (.var 15)), (.int (.var 16)), (.int (.max (.lit 1) (.sub (.var 17) (.lit 1))))]] (.call 50 [(.arr 23 (.var 27)), (.int (.var 4)), (.int (.var 5)), (.int (.var 6)), (.int (.var 7))] torder_4)))) (.arr [[(.int (.var 10)), (.int (.var 11)), (.int (.var 12)), (.int (.var 13)), (.int (.var 14)), (.int (.var 15)), (.int (.var 16)), (.int (.var 17))], [(.int (.var 10)), (.int (.var 11)), (.int (.var 12)), (.int (.var 13)), (.int (.var 14)), (.int (.var 15)), (.int (.var 16)), (.int (.max (.lit 1) (.sub (.var 17) (.lit 1))))]] (.call 50 [(.arr 23 (.var 27)), (.int (.var 4)), (.int (.var 5)), (.int (.var 6)), (.int (.var 7))] torder_4)))
def torder_6 : Tree :=
  (.split (.not (.of (.var 21))) (.split (.not (.of (.var 26))) (.split (.cmp .eq (.var 29) (.lit 13)) (.call 19 [] (.ret [(.bool (.of (.var 30)))])) (.ret [(.bool (.lit false))])) (.split (.cmp .ne (.var 29) (.lit 0)) (.ret [(.bool (.lit false))]) (.split (.cmp .ne (.var 28) (.var 25)) (.ret [(.bool (.lit false))]) (.arr [[(.int (.var 10)), (.int (.var 11)), (.int (.var 12)), (.int (.var 13)), (.int (.var 14)), (.int (.var 15)), (.int (.var 16)), (.int (.var 17))], [(.int (.var 10)), (.int (.var 11)), (.int (.var 12)), (.int (.var 13)), (.int (.var 14)), (.int (.max (.lit 0) (.sub (.var 15) (.lit 1)))), (.int (.var 16)), (.int (.var 17))]] (.call 51 [(.arr 23 (.var 30)), (.int (.var 4)), (.int (.var 6))] torder_1))))) (.split (.cmp .ne (.var 29) (.lit 0)) (.ret [(.bool (.lit false))]) (.split (.cmp .ne (.var 28) (.var 25)) (.ret [(.bool (.lit false))]) (.arr [[(.int (.var 10)), (.int (.var 11)), (.int (.var 12)), (.int (.var 13)), (.int (.var 14)), (.int (.var 15)), (.int (.var 16)), (.int (.var 17))], [(.int (.var 10)), (.int (.var 11)), (.int (.var 12)), (.int (.var 13)), (.int (.var 14)), (.int (.max (.lit 0) (.sub (.var 15) (.lit 1)))), (.int (.var 16)), (.int (.var 17))]] (.call 51 [(.arr 23 (.var 30)), (.int (.var 4)), (.int (.var 6))] torder_1)))))
def torder_7 : Tree :=
  (.split (.of (.var 21)) (.split (.not (.of (.var 26))) (.ret [(.bool (.lit false))]) (.split (.cmp .lt (.var 20) (.var 25)) (.ret [(.bool (.lit false))]) (.arr [[(.int (.var 10)), (.int (.var 11)), (.int (.var 12)), (.int (.var 13)), (.int (.var 14)), (.int (.var 15)), (.int (.var 16)), (.int (.var 17))], [(.int (.var 10)), (.int (.var 11)), (.int (.var 12)), (.int (.var 13)), (.int (.var 14)), (.int (.max (.lit 0) (.sub (.var 15) (.lit 1)))), (.int (.var 16)), (.int (.var 17))]] (.call 50 [(.arr 23 (.var 27)), (.int (.var 4)), (.int (.var 5)), (.int (.var 6)), (.int (.var 7))] torder_6)))) (.arr [[(.int (.var 10)), (.int (.var 11)), (.int (.var 12)), (.int (.var 13)), (.int (.var 14)), (.int (.var 15)), (.int (.var 16)), (.int (.var 17))], [(.int (.var 10)), (.int (.var 11)), (.int (.var 12)), (.int (.var 13)), (.int (.var 14)), (.int (.max (.lit 0) (.sub (.var 15) (.lit 1)))), (.int (.var 16)), (.int (.var 17))]] (.call 50 [(.arr 23 (.var 27)), (.int (.var 4)), (.int (.var 5)), (.int (.var 6)), (.int (.var 7))] torder_6)))
def torder_8 : Tree :=
  (.split (.not (.of (.var 21))) (.split (.not (.of (.var 26))) (.split (.cmp .eq (.var 29) (.lit 13)) (.call 19 [] (.ret [(.bool (.of (.var 30)))])) (.ret [(.bool (.lit false))])) (.split (.cmp .ne (.var 29) (.lit 0)) (.ret [(.bool (.lit false))]) (.split (.cmp .ne (.var 28) (.var 25)) (.ret [(.bool (.lit false))]) (.arr [[(.int (.var 10)), (.int (.var 11)), (.int (.var 12)), (.int (.var 13)), (.int (.var 14)), (.int (.var 15)), (.int (.var 16)), (.int (.var 17))], [(.int (.var 10)), (.int (.var 11)), (.int (.max (.lit 0) (.sub (.var 12) (.lit 1)))), (.int (.var 13)), (.int (.var 14)), (.int (.var 15)), (.int (.var 16)), (.int (.var 17))]] (.call 51 [(.arr 23 (.var 30)), (.int (.var 4)), (.int (.var 6))] torder_1))))) (.split (.cmp .ne (.var 29) (.lit 0)) (.ret [(.bool (.lit false))]) (.split (.cmp .ne (.var 28) (.var 25)) (.ret [(.bool (.lit false))]) (.arr [[(.int (.var 10)), (.int (.var 11)), (.int (.var 12)), (.int (.var 13)), (.int (.var 14)), (.int (.var 15)), (.int (.var 16)), (.int (.var 17))], [(.int (.var 10)), (.int (.var 11)), (.int (.max (.lit 0) (.sub (.var 12) (.lit 1)))), (.int (.var 13)), (.int (.var 14)), (.int (.var 15)), (.int (.var 16)), (.int (.var 17))]] (.call 51 [(.arr 23 (.var 30)), (.int (.var 4)), (.int (.var 6))] torder_1)))))
def torder_9 : Tree :=
  (.split (.of (.var 21)) (.split (.not (.of (.var 26))) (.ret [(.bool (.lit false))]) (.split (.cmp .lt (.var 20) (.var 25)) (.ret [(.bool (.lit false))]) (.arr [[(.int (.var 10)), (.int (.var 11)), (.int (.var 12)), (.int (.var 13)), (.int (.var 14)), (.int (.var 15)), (.int (.var 16)), (.int (.var 17))], [(.int (.var 10)), (.int (.var 11)), (.int (.max (.lit 0) (.sub (.var 12) (.lit 1)))), (.int (.var 13)), (.int (.var 14)), (.int (.var 15)), (.int (.var 16)), (.int (.var 17))]] (.call 50 [(.arr 23 (.var 27)), (.int (.var 4)), (.int (.var 5)), (.int (.var 6)), (.int (.var 7))] torder_8)))) (.arr [[(.int (.var 10)), (.int (.var 11)), (.int (.var 12)), (.int (.var 13)), (.int (.var 14)), (.int (.var 15)), (.int (.var 16)), (.int (.var 17))], [(.int (.var 10)), (.int (.var 11)), (.int (.max (.lit 0) (.sub (.var 12) (.lit 1)))), (.int (.var 13)), (.int (.var 14)), (.int (.var 15)), (.int (.var 16)), (.int (.var 17))]] (.call 50 [(.arr 23 (.var 27)), (.int (.var 4)), (.int (.var 5)), (.int (.var 6)), (.int (.var 7))] torder_8)))
def torder_10 : Tree :=
  (.split (.not (.of (.var 21))) (.split (.not (.of (.var 26))) (.split (.cmp .eq (.var 29) (.lit 13)) (.call 19 [] (.ret [(.bool (.of (.var 30)))])) (.ret [(.bool (.lit false))])) (.split (.cmp .ne (.var 29) (.lit 0)) (.ret [(.bool (.lit false))]) (.split (.cmp .ne (.var 28) (.var 25)) (.ret [(.bool (.lit false))]) (.arr [[(.int (.var 10)), (.int (.var 11)), (.int (.var 12)), (.int (.var 13)), (.int (.var 14)), (.int (.var 15)), (.int (.var 16)), (.int (.var 17))], [(.int (.var 10)), (.int (.var 11)), (.int (.var 12)), (.int (.max (.lit 0) (.sub (.var 13) (.lit 1)))), (.int (.var 14)), (.int (.var 15)), (.int (.var 16)), (.int (.var 17))]] (.call 51 [(.arr 23 (.var 30)), (.int (.var 4)), (.int (.var 6))] torder_1))))) (.split (.cmp .ne (.var 29) (.lit 0)) (.ret [(.bool (.lit false))]) (.split (.cmp .ne (.var 28) (.var 25)) (.ret [(.bool (.lit false))]) (.arr [[(.int (.var 10)), (.int (.var 11)), (.int (.var 12)), (.int (.var 13)), (.int (.var 14)), (.int (.var 15)), (.int (.var 16)), (.int (.var 17))], [(.int (.var 10)), (.int (.var 11)), (.int (.var 12)), (.int (.max (.lit 0) (.sub (.var 13) (.lit 1)))), (.int (.var 14)), (.int (.var 15)), (.int (.var 16)), (.int (.var 17))]] (.call 51 [(.arr 23 (.var 30)), (.int (.var 4)), (.int (.var 6))] torder_1)))))
def torder_11 : Tree :=
  (.split (.of (.var 21)) (.split (.not (.of (.var 26))) (.ret [(.bool (.lit false))]) (.split (.cmp .lt (.var 20) (.var 25)) (.ret [(.bool (.lit false))]) (.arr [[(.int (.var 10)), (.int (.var 11)), (.int (.var 12)), (.int (.var 13)), (.int (.var 14)), (.int (.var 15)), (.int (.var 16)), (.int (.var 17))], [(.int (.var 10)), (.int (.var 11)), (.int (.var 12)), (.int (.max (.lit 0) (.sub (.var 13) (.lit 1)))), (.int (.var 14)), (.int (.var 15)), (.int (.var 16)), (.int (.var 17))]] (.call 50 [(.arr 23 (.var 27)), (.int (.var 4)), (.int (.var 5)), (.int (.var 6)), (.int (.var 7))] torder_10)))) (.arr [[(.int (.var 10)), (.int (.var 11)), (.int (.var 12)), (.int (.var 13)), (.int (.var 14)), (.int (.var 15)), (.int (.var 16)), (.int (.var 17))], [(.int (.var 10)), (.int (.var 11)), (.int (.var 12)), (.int (.max (.lit 0) (.sub (.var 13) (.lit 1)))), (.int (.var 14)), (.int (.var 15)), (.int (.var 16)), (.int (.var 17))]] (.call 50 [(.arr 23 (.var 27)), (.int (.var 4)), (.int (.var 5)), (.int (.var 6)), (.int (.var 7))] torder_10)))
def torder_12 : Tree :=
  (.split (.not (.of (.var 21))) (.split (.not (.of (.var 26))) (.split (.cmp .eq (.var 29) (.lit 13)) (.call 19 [] (.ret [(.bool (.of (.var 30)))])) (.ret [(.bool (.lit false))])) (.split (.cmp .ne (.var 29) (.lit 0)) (.ret [(.bool (.lit false))]) (.split (.cmp .ne (.var 28) (.var 25)) (.ret [(.bool (.lit false))]) (.arr [[(.int (.var 10)), (.int (.var 11)), (.int (.var 12)), (.int (.var 13)), (.int (.var 14)), (.int (.var 15)), (.int (.var 16)), (.int (.var 17))], [(.int (.var 10)), (.int (.var 11)), (.int (.var 12)), (.int (.var 13)), (.int (.var 14)), (.int (.var 15)), (.int (.var 16)), (.int (.var 17))]] (.call 51 [(.arr 23 (.var 30)), (.int (.var 4)), (.int (.var 6))] torder_1))))) (.split (.cmp .ne (.var 29) (.lit 0)) (.ret [(.bool (.lit false))]) (.split (.cmp .ne (.var 28) (.var 25)) (.ret [(.bool (.lit false))]) (.arr [[(.int (.var 10)), (.int (.var 11)), (.int (.var 12)), (.int (.var 13)), (.int (.var 14)), (.int (.var 15)), (.int (.var 16)), (.int (.var 17))], [(.int (.var 10)), (.int (.var 11)), (.int (.var 12)), (.int (.var 13)), (.int (.var 14)), (.int (.var 15)), (.int (.var 16)), (.int (.var 17))]] (.call 51 [(.arr 23 (.var 30)), (.int (.var 4)), (.int (.var 6))] torder_1)))))
def torder_13 : Tree :=
  (.split (.of (.var 21)) (.split (.not (.of (.var 26))) (.ret [(.bool (.lit false))]) (.split (.cmp .lt (.var 20) (.var 25)) (.ret [(.bool (.lit false))]) (.arr [[(.int (.var 10)), (.int (.var 11)), (.int (.var 12)), (.int (.var 13)), (.int (.var 14)), (.int (.var 15)), (.int (.var 16)), (.int (.var 17))], [(.int (.var 10)), (.int (.var 11)), (.int (.var 12)), (.int (.var 13)), (.int (.var 14)), (.int (.var 15)), (.int (.var 16)), (.int (.var 17))]] (.call 50 [(.arr 23 (.var 27)), (.int (.var 4)), (.int (.var 5)), (.int (.var 6)), (.int (.var 7))] torder_12)))) (.arr [[(.int (.var 10)), (.int (.var 11)), (.int (.var 12)), (.int (.var 13)), (.int (.var 14)), (.int (.var 15)), (.int (.var 16)), (.int (.var 17))], [(.int (.var 10)), (.int (.var 11)), (.int (.var 12)), (.int (.var 13)), (.int (.var 14)), (.int (.var 15)), (.int (.var 16)), (.int (.var 17))]] (.call 50 [(.arr 23 (.var 27)), (.int (.var 4)), (.int (.var 5)), (.int (.var 6)), (.int (.var 7))] torder_12)))
def torder_14 : Tree :=
  (.split (.cmp .eq (.var 24) (.lit 0)) (.ob (.and (.cmp .le (.lit (-9223372036854775808)) (.sub (.var 16) (.lit 100))) (.cmp .le (.sub (.var 16) (.lit 100)) (.lit 9223372036854775807))) (.call 49 [(.int (.var 10)), (.int (.var 11)), (.int (.var 12)), (.int (.var 13)), (.int (.var 14)), (.int (.var 15)), (.int (.max (.lit 1) (.sub (.var 16) (.lit 100)))), (.int (.var 17)), (.int (.var 4)), (.int (.var 6))] torder_3)) (.split (.cmp .eq (.var 24) (.lit 1)) (.ob (.and (.cmp .le (.lit (-9223372036854775808)) (.sub (.var 17) (.lit 1))) (.cmp .le (.sub (.var 17) (.lit 1)) (.lit 9223372036854775807))) (.call 49 [(.int (.var 10)), (.int (.var 11)), (.int (.var 12)), (.int (.var 13)), (.int (.var 14)), (.int (.var 15)), (.int (.var 16)), (.int (.max (.lit 1) (.sub (.var 17) (.lit 1)))), (.int (.var 4)), (.int (.var 6))] torder_5)) (.split (.cmp .eq (.var 24) (.lit 2)) (.ob (.and (.cmp .le (.lit (-9223372036854775808)) (.sub (.var 15) (.lit 1))) (.cmp .le (.sub (.var 15) (.lit 1)) (.lit 9223372036854775807))) (.call 49 [(.int (.var 10)), (.int (.var 11)), (.int (.var 12)), (.int (.var 13)), (.int (.var 14)), (.int (.max (.lit 0) (.sub (.var 15) (.lit 1)))), (.int (.var 16)), (.int (.var 17)), (.int (.var 4)), (.int (.var 6))] torder_7)) (.split (.cmp .eq (.var 24) (.lit 3)) (.ob (.and (.cmp .le (.lit (-9223372036854775808)) (.sub (.var 12) (.lit 1))) (.cmp .le (.sub (.var 12) (.lit 1)) (.lit 9223372036854775807))) (.call 49 [(.int (.var 10)), (.int (.var 11)), (.int (.max (.lit 0) (.sub (.var 12) (.lit 1)))), (.int (.var 13)), (.int (.var 14)), (.int (.var 15)), (.int (.var 16)), (.int (.var 17)), (.int (.var 4)), (.int (.var 6))] torder_9)) (.split (.cmp .eq (.var 24) (.lit 4)) (.ob (.and (.cmp .le (.lit (-9223372036854775808)) (.sub (.var 13) (.lit 1))) (.cmp .le (.sub (.var 13) (.lit 1)) (.lit 9223372036854775807))) (.call 49 [(.int (.var 10)), (.int (.var 11)), (.int (.var 12)), (.int (.max (.lit 0) (.sub (.var 13) (.lit 1)))), (.int (.var 14)), (.int (.var 15)), (.int (.var 16)), (.int (.var 17)), (.int (.var 4)), (.int (.var 6))] torder_11)) (.call 49 [(.int (.var 10)), (.int (.var 11)), (.int (.var 12)), (.int (.var 13)), (.int (.var 14)), (.int (.var 15)), (.int (.var 16)), (.int (.var 17)), (.int (.var 4)), (.int (.var 6))] torder_13))))))
def torder_15 : Tree :=
  (.split (.of (.var 21)) (.split (.not (.of (.var 23))) (.ret [(.bool (.lit false))]) (.split (.cmp .lt (.var 20) (.var 22)) (.ret [(.bool (.lit false))]) (.call 28 [(.int (.var 1)), (.int (.lit 5))] torder_14))) (.call 28 [(.int (.var 1)), (.int (.lit 5))] torder_14))
def torder_16 : Tree :=
  (.call 49 [(.int (.var 10)), (.int (.var 11)), (.int (.var 12)), (.int (.var 13)), (.int (.var 14)), (.int (.var 15)), (.int (.var 16)), (.int (.var 17)), (.int (.var 4)), (.int (.var 6))] (.call 49 [(.int (.var 10)), (.int (.var 11)), (.int (.var 12)), (.int (.var 13)), (.int (.var 14)), (.int (.var 15)), (.int (.var 16)), (.int (.var 17)), (.int (.var 5)), (.int (.var 7))] torder_15))
def torder : Tree :=
  (.call 21 [(.arr 3 (.var 0))] (.call 48 [(.arr 3 (.var 2)), (.int (.var 3))] (.call 25 [(.arr 3 (.var 8)), (.int (.var 9))] torder_16)))
end Go.Proofs.Ytlbgcjpkegpmlaa
/- What is to be shown of each function, as the executor has it. Printed by trees.py. -/
namespace Go.Proofs.Ytlbgcjpkegpmlaa
noncomputable def csensorof : Cx := tab.only [26] (fun _ => []) [] 0 [] (fun _ => none)
def tsensorof_1 : Tree :=
  (.ob (.and (.cmp .le (.lit (-9223372036854775808)) (.add (.lit 1) (.var 26))) (.cmp .le (.add (.lit 1) (.var 26)) (.lit 9223372036854775807))) (.split (.cmp .eq (.add (.lit 1) (.var 2)) (.lit 1)) (.ob (.and (.cmp .le (.lit (-9223372036854775808)) (.mul (.add (.lit 1) (.var 23)) (.lit 20))) (.cmp .le (.mul (.add (.lit 1) (.var 23)) (.lit 20)) (.lit 9223372036854775807))) (.ob (.and (.cmp .le (.lit (-9223372036854775808)) (.add (.lit 1) (.var 2))) (.cmp .le (.add (.lit 1) (.var 2)) (.lit 9223372036854775807))) (.ob (.and (.cmp .le (.lit (-9223372036854775808)) (.add (.lit 1) (.var 5))) (.cmp .le (.add (.lit 1) (.var 5)) (.lit 9223372036854775807))) (.ob (.and (.cmp .le (.lit (-9223372036854775808)) (.mul (.var 8) (.var 11))) (.cmp .le (.mul (.var 8) (.var 11)) (.lit 9223372036854775807))) (.ob (.and (.cmp .le (.lit (-9223372036854775808)) (.add (.lit 1) (.var 17))) (.cmp .le (.add (.lit 1) (.var 17)) (.lit 9223372036854775807))) (.ob (.and (.cmp .le (.lit (-9223372036854775808)) (.mul (.add (.lit 1) (.var 23)) (.lit 20))) (.cmp .le (.mul (.add (.lit 1) (.var 23)) (.lit 20)) (.lit 9223372036854775807))) (.ob (.and (.cmp .le (.lit (-9223372036854775808)) (.add (.lit 1) (.var 26))) (.cmp .le (.add (.lit 1) (.var 26)) (.lit 9223372036854775807))) (.ret [(.int (.add (.lit 1) (.var 2))), (.int (.add (.lit 1) (.var 5))), (.int (.mul (.var 8) (.var 11))), (.int (.var 14)), (.int (.add (.lit 1) (.var 17))), (.int (.var 20)), (.int (.mul (.add (.lit 1) (.var 23)) (.lit 20))), (.int (.add (.lit 1) (.var 26))), (.arr 3 (.var 27)), (.int (.var 28))])))))))) (.ob (.and (.cmp .le (.lit (-9223372036854775808)) (.add (.lit 1) (.var 2))) (.cmp .le (.add (.lit 1) (.var 2)) (.lit 9223372036854775807))) (.ob (.and (.cmp .le (.lit (-9223372036854775808)) (.add (.lit 1) (.var 5))) (.cmp .le (.add (.lit 1) (.var 5)) (.lit 9223372036854775807))) (.ob (.and (.cmp .le (.lit (-9223372036854775808)) (.mul (.var 8) (.var 11))) (.cmp .le (.mul (.var 8) (.var 11)) (.lit 9223372036854775807))) (.ob (.and (.cmp .le (.lit (-9223372036854775808)) (.add (.lit 1) (.var 17))) (.cmp .le (.add (.lit 1) (.var 17)) (.lit 9223372036854775807))) (.ob (.and (.cmp .le (.lit (-9223372036854775808)) (.add (.lit 1) (.var 23))) (.cmp .le (.add (.lit 1) (.var 23)) (.lit 9223372036854775807))) (.ob (.and (.cmp .le (.lit (-9223372036854775808)) (.add (.lit 1) (.var 26))) (.cmp .le (.add (.lit 1) (.var 26)) (.lit 9223372036854775807))) (.ret [(.int (.add (.lit 1) (.var 2))), (.int (.add (.lit 1) (.var 5))), (.int (.mul (.var 8) (.var 11))), (.int (.var 14)), (.int (.add (.lit 1) (.var 17))), (.int (.var 20)), (.int (.add (.lit 1) (.var 23))), (.int (.add (.lit 1) (.var 26))), (.arr 3 (.var 27)), (.int (.var 28))])))))))))
def tsensorof_2 : Tree :=
  (.ob (.and (.cmp .le (.lit (-9223372036854775808)) (.add (.lit 1) (.var 23))) (.cmp .le (.add (.lit 1) (.var 23)) (.lit 9223372036854775807))) (.call 26 [(.arr 3 (.var 24)), (.int (.var 25)), (.int (.lit 4))] tsensorof_1))
def tsensorof_3 : Tree :=
  (.ob (.and (.cmp .le (.lit (-9223372036854775808)) (.add (.lit 1) (.var 17))) (.cmp .le (.add (.lit 1) (.var 17)) (.lit 9223372036854775807))) (.call 26 [(.arr 3 (.var 18)), (.int (.var 19)), (.int (.lit 4))] (.call 26 [(.arr 3 (.var 21)), (.int (.var 22)), (.int (.lit 9000))] tsensorof_2)))
def tsensorof_4 : Tree :=
  (.ob (.and (.cmp .le (.lit (-9223372036854775808)) (.mul (.var 8) (.var 11))) (.cmp .le (.mul (.var 8) (.var 11)) (.lit 9223372036854775807))) (.call 26 [(.arr 3 (.var 12)), (.int (.var 13)), (.int (.lit 4))] (.call 26 [(.arr 3 (.var 15)), (.int (.var 16)), (.int (.lit 500))] tsensorof_3)))
def tsensorof_5 : Tree :=
  (.ob (.and (.cmp .le (.lit (-9223372036854775808)) (.add (.lit 1) (.var 5))) (.cmp .le (.add (.lit 1) (.var 5)) (.lit 9223372036854775807))) (.call 26 [(.arr 3 (.var 6)), (.int (.var 7)), (.int (.lit 3))] (.call 26 [(.arr 3 (.var 9)), (.int (.var 10)), (.int (.lit 20))] tsensorof_4)))
def tsensorof_6 : Tree :=
  (.ob (.and (.cmp .le (.lit (-9223372036854775808)) (.add (.lit 1) (.var 2))) (.cmp .le (.add (.lit 1) (.var 2)) (.lit 9223372036854775807))) (.call 26 [(.arr 3 (.var 3)), (.int (.var 4)), (.int (.lit 12))] tsensorof_5))
def tsensorof : Tree :=
  (.call 26 [(.arr 3 (.var 0)), (.int (.var 1)), (.int (.lit 2))] tsensorof_6)
noncomputable def csamples : Cx := tab.only [26] (fun r => match r with
  | 50014 => [.blk 0]
  | 4 => [.blk 0]
  | _ => []) [] 0 [] (fun r => match r with
  | 50006 => some ([(43, true, [.bool])], [.blk 0])
  | 50010 => some ([(61, true, [.bool])], [])
  | 90011 => some ([(17, true, [.int])], [])
  | 90016 => some ([(18, true, [.int])], [])
  | _ => none)
def tsamples_1 : Tree :=
  (.join [.int] (.split (.cmp .eq (.var 33) (.lit 0)) (.back 4 [(.int (.sub (.lit 0) (.var 6)))]) (.ob (.and (.cmp .le (.lit (-9223372036854775808)) (.sub (.var 30) (.var 6))) (.cmp .le (.sub (.var 30) (.var 6)) (.lit 9223372036854775807))) (.back 4 [(.int (.sub (.var 30) (.var 6)))]))) (.ob (.and (.cmp .le (.lit (-9223372036854775808)) (.mul (.var 36) (.var 7))) (.cmp .le (.mul (.var 36) (.var 7)) (.lit 9223372036854775807))) (.ob (.and (.cmp .le (.lit (-9223372036854775808)) (.add (.var 29) (.mul (.var 36) (.var 7)))) (.cmp .le (.add (.var 29) (.mul (.var 36) (.var 7))) (.lit 9223372036854775807))) (.ob (.and (.cmp .le (.lit (-9223372036854775808)) (.add (.var 29) (.mul (.var 36) (.var 7)))) (.cmp .le (.add (.var 29) (.mul (.var 36) (.var 7))) (.lit 9223372036854775807))) (.arr [[(.int (.var 2)), (.int (.var 22)), (.int (.add (.var 29) (.mul (.var 36) (.var 7))))]] (.ob (.cmp .le (.mul (.add (.len (.var 20)) (.len (.var 37))) (.lit 24)) (.lit 140737488355328)) (.cat (.var 20) (.var 37) (.back 0 [(.cnt 40 (.var 38)), (.int (.var 8)), (.int (.add (.var 22) (.var 4))), (.arr 3 (.var 34)), (.int (.var 35))]))))))))
def tsamples_2 : Tree :=
  (.ob (.and (.cmp .le (.lit (-9223372036854775808)) (.sub (.var 30) (.var 6))) (.cmp .le (.sub (.var 30) (.var 6)) (.lit 9223372036854775807))) (.call 26 [(.arr 3 (.var 31)), (.int (.var 32)), (.int (.lit 3))] tsamples_1))
def tsamples_3 : Tree :=
  (.loop [(.vec 40), .int, .int, (.arr 3), .int] [(.cnt 40 (.var 16)), (.int (.var 8)), (.int (.var 17)), (.arr 3 (.var 18)), (.int (.var 19))] (.split (.cmp .le (.var 22) (.var 14)) (.split (.cmp .lt (.len (.var 20)) (.lit 190)) (.join [.bool, (.arr 3), .int] (.split (.cmp .lt (.lit 0) (.var 21)) (.call 26 [(.arr 3 (.var 23)), (.int (.var 24)), (.int (.lit 2))] (.back 1 [(.bool (.cmp .eq (.var 25) (.lit 0))), (.arr 3 (.var 26)), (.int (.var 27))])) (.back 1 [(.bool (.lit false)), (.arr 3 (.var 23)), (.int (.var 24))])) (.split (.of (.var 25)) (.ob (.and (.cmp .le (.lit (-9223372036854775808)) (.sub (.var 21) (.lit 1))) (.cmp .le (.sub (.var 21) (.lit 1)) (.lit 9223372036854775807))) (.ob (.and (.cmp .le (.lit (-9223372036854775808)) (.sub (.var 21) (.lit 1))) (.cmp .le (.sub (.var 21) (.lit 1)) (.lit 9223372036854775807))) (.back 0 [(.cnt 40 (.var 20)), (.int (.sub (.var 21) (.lit 1))), (.int (.add (.var 22) (.var 4))), (.arr 3 (.var 26)), (.int (.var 27))]))) (.ob (.and (.cmp .le (.lit (-9223372036854775808)) (.sub (.var 22) (.var 13))) (.cmp .le (.sub (.var 22) (.var 13)) (.lit 9223372036854775807))) (.join [.bool] (.split (.cmp .lt (.lit 0) (.sub (.var 22) (.var 13))) (.back 2 [(.bool (.lit true))]) (.split (.cmp .eq (.sub (.var 22) (.var 13)) (.lit 0)) (.back 2 [(.bool (.cmp .eq (.var 3) (.lit 2)))]) (.back 2 [(.bool (.lit false))]))) (.join [.int] (.split (.of (.var 28)) (.ob (.and (.cmp .le (.lit (-9223372036854775808)) (.mul (.sub (.var 22) (.var 13)) (.var 12))) (.cmp .le (.mul (.sub (.var 22) (.var 13)) (.var 12)) (.lit 9223372036854775807))) (.ob (.and (.cmp .le (.lit (-9223372036854775808)) (.add (.var 11) (.mul (.sub (.var 22) (.var 13)) (.var 12)))) (.cmp .le (.add (.var 11) (.mul (.sub (.var 22) (.var 13)) (.var 12))) (.lit 9223372036854775807))) (.split (.cmp .eq (.var 3) (.lit 1)) (.ob (.and (.cmp .le (.lit (-9223372036854775808)) (.mul (.sub (.var 22) (.var 13)) (.var 11))) (.cmp .le (.mul (.sub (.var 22) (.var 13)) (.var 11)) (.lit 9223372036854775807))) (.ob (.and (.cmp .le (.lit (-9223372036854775808)) (.sub (.sub (.var 22) (.var 13)) (.lit 1))) (.cmp .le (.sub (.sub (.var 22) (.var 13)) (.lit 1)) (.lit 9223372036854775807))) (.ob (.and (.cmp .le (.lit (-9223372036854775808)) (.mul (.sub (.var 22) (.var 13)) (.sub (.sub (.var 22) (.var 13)) (.lit 1)))) (.cmp .le (.mul (.sub (.var 22) (.var 13)) (.sub (.sub (.var 22) (.var 13)) (.lit 1))) (.lit 9223372036854775807))) (.ob (.and (.cmp .le (.lit (-9223372036854775808)) (.quo (.mul (.sub (.var 22) (.var 13)) (.sub (.sub (.var 22) (.var 13)) (.lit 1))) (.lit 2))) (.cmp .le (.quo (.mul (.sub (.var 22) (.var 13)) (.sub (.sub (.var 22) (.var 13)) (.lit 1))) (.lit 2)) (.lit 9223372036854775807))) (.ob (.and (.cmp .le (.lit (-9223372036854775808)) (.mul (.var 12) (.quo (.mul (.sub (.var 22) (.var 13)) (.sub (.sub (.var 22) (.var 13)) (.lit 1))) (.lit 2)))) (.cmp .le (.mul (.var 12) (.quo (.mul (.sub (.var 22) (.var 13)) (.sub (.sub (.var 22) (.var 13)) (.lit 1))) (.lit 2))) (.lit 9223372036854775807))) (.ob (.and (.cmp .le (.lit (-9223372036854775808)) (.add (.mul (.sub (.var 22) (.var 13)) (.var 11)) (.mul (.var 12) (.quo (.mul (.sub (.var 22) (.var 13)) (.sub (.sub (.var 22) (.var 13)) (.lit 1))) (.lit 2))))) (.cmp .le (.add (.mul (.sub (.var 22) (.var 13)) (.var 11)) (.mul (.var 12) (.quo (.mul (.sub (.var 22) (.var 13)) (.sub (.sub (.var 22) (.var 13)) (.lit 1))) (.lit 2)))) (.lit 9223372036854775807))) (.ob (.and (.cmp .le (.lit (-9223372036854775808)) (.add (.mul (.sub (.var 22) (.var 13)) (.var 11)) (.mul (.var 12) (.quo (.mul (.sub (.var 22) (.var 13)) (.sub (.sub (.var 22) (.var 13)) (.lit 1))) (.lit 2))))) (.cmp .le (.add (.mul (.sub (.var 22) (.var 13)) (.var 11)) (.mul (.var 12) (.quo (.mul (.sub (.var 22) (.var 13)) (.sub (.sub (.var 22) (.var 13)) (.lit 1))) (.lit 2)))) (.lit 9223372036854775807))) (.back 3 [(.int (.add (.mul (.sub (.var 22) (.var 13)) (.var 11)) (.mul (.var 12) (.quo (.mul (.sub (.var 22) (.var 13)) (.sub (.sub (.var 22) (.var 13)) (.lit 1))) (.lit 2)))))])))))))) (.ob (.and (.cmp .le (.lit (-9223372036854775808)) (.add (.var 11) (.mul (.sub (.var 22) (.var 13)) (.var 12)))) (.cmp .le (.add (.var 11) (.mul (.sub (.var 22) (.var 13)) (.var 12))) (.lit 9223372036854775807))) (.back 3 [(.int (.add (.var 11) (.mul (.sub (.var 22) (.var 13)) (.var 12))))]))))) (.back 3 [(.int (.lit 0))])) (.call 26 [(.arr 3 (.var 26)), (.int (.var 27)), (.int (.add (.mul (.lit 2) (.var 6)) (.lit 1)))] tsamples_2)))))) (.ret [(.cnt 40 (.var 20)), (.arr 3 (.var 23)), (.int (.var 24))])) (.ret [(.cnt 40 (.var 20)), (.arr 3 (.var 23)), (.int (.var 24))])))
def tsamples : Tree :=
  (.dfn .nil (.dfn .nil (.call 26 [(.arr 3 (.var 0)), (.int (.var 1)), (.int (.var 4))] tsamples_3)))
noncomputable def cmeas : Cx := tab.only [47] (fun _ => []) [] 0 [] (fun _ => none)
def tmeas : Tree :=
  (.ob (.and (.cmp .le (.lit (-9223372036854775808)) (.sub (.lit 0) (.var 3))) (.cmp .le (.sub (.lit 0) (.var 3)) (.lit 9223372036854775807))) (.ob (.and (.cmp .le (.lit (-9223372036854775808)) (.sub (.lit 0) (.var 3))) (.cmp .le (.sub (.lit 0) (.var 3)) (.lit 9223372036854775807))) (.loop [.bool, .int] [(.bool (.lit false)), (.int (.sub (.lit 0) (.var 3)))] (.split (.cmp .le (.var 13) (.var 3)) (.split (.cmp .le (.var 10) (.lit 20000)) (.call 47 [(.int (.var 0)), (.int (.var 1)), (.int (.var 2)), (.int (.var 3)), (.int (.var 4)), (.int (.var 5)), (.int (.var 6)), (.int (.var 7)), (.int (.var 8)), (.int (.var 9)), (.int (.var 10)), (.int (.var 13))] (.split (.cmp .eq (.var 14) (.var 11)) (.ret [(.bool (.lit true))]) (.ob (.and (.cmp .le (.lit (-9223372036854775808)) (.add (.var 13) (.lit 1))) (.cmp .le (.add (.var 13) (.lit 1)) (.lit 9223372036854775807))) (.ob (.and (.cmp .le (.lit (-9223372036854775808)) (.add (.var 13) (.lit 1))) (.cmp .le (.add (.var 13) (.lit 1)) (.lit 9223372036854775807))) (.back 0 [(.bool (.of (.var 12))), (.int (.add (.var 13) (.lit 1)))]))))) (.ob (.and (.cmp .le (.lit (-9223372036854775808)) (.add (.var 13) (.lit 1))) (.cmp .le (.add (.var 13) (.lit 1)) (.lit 9223372036854775807))) (.ob (.and (.cmp .le (.lit (-9223372036854775808)) (.add (.var 13) (.lit 1))) (.cmp .le (.add (.var 13) (.lit 1)) (.lit 9223372036854775807))) (.back 0 [(.bool (.of (.var 12))), (.int (.add (.var 13) (.lit 1)))])))) (.ret [(.bool (.lit false))])))))
noncomputable def crposs : Cx := tab.only [41, 37, 69, 70] (fun _ => []) [] 0 [] (fun _ => none)
def trposs_1 : Tree :=
  (.split (.cmp .ne (.var 13) (.lit 0)) (.ret [(.bool (.lit false))]) (.split (.not (.and (.cmp .le (.lit 0) (.var 10)) (.cmp .le (.var 10) (.lit 20000)))) (.ret [(.bool (.lit false))]) (.split (.cmp .lt (.lit 200) (.len (.var 11))) (.ret [(.bool (.lit false))]) (.loop [.bool, .int] [(.bool (.lit false)), (.int (.lit 0))] (.split (.cmp .lt (.var 15) (.len (.var 11))) (.ob (.cmp .le (.lit 0) (.var 15)) (.ob (.cmp .lt (.var 15) (.len (.var 11))) (.split (.not (.and (.cmp .le (.lit 0) (.cell (.var 11) (.var 15) 1)) (.cmp .le (.cell (.var 11) (.var 15) 1) (.lit 40000)))) (.ret [(.bool (.lit false))]) (.ob (.cmp .lt (.lit 0) (.len (.var 11))) (.split (.cmp .ne (.cell (.var 11) (.var 15) 0) (.cell (.var 11) (.lit 0) 0)) (.ret [(.bool (.lit false))]) (.ob (.cmp .ne (.var 1) (.lit 0)) (.ob (.cmp .lt (.lit 0) (.len (.var 11))) (.ob (.cmp .ne (.var 1) (.lit 0)) (.split (.cmp .ne (.rem (.cell (.var 11) (.var 15) 1) (.var 1)) (.rem (.cell (.var 11) (.lit 0) 1) (.var 1))) (.ret [(.bool (.lit false))]) (.split (.cmp .lt (.lit 0) (.var 15)) (.ob (.cmp .lt (.sub (.var 15) (.lit 1)) (.len (.var 11))) (.ob (.cmp .ne (.var 1) (.lit 0)) (.ob (.and (.cmp .le (.lit (-9223372036854775808)) (.quo (.cell (.var 11) (.sub (.var 15) (.lit 1)) 1) (.var 1))) (.cmp .le (.quo (.cell (.var 11) (.sub (.var 15) (.lit 1)) 1) (.var 1)) (.lit 9223372036854775807))) (.ob (.cmp .ne (.var 1) (.lit 0)) (.ob (.and (.cmp .le (.lit (-9223372036854775808)) (.quo (.cell (.var 11) (.var 15) 1) (.var 1))) (.cmp .le (.quo (.cell (.var 11) (.var 15) 1) (.var 1)) (.lit 9223372036854775807))) (.ob (.and (.cmp .le (.lit (-9223372036854775808)) (.sub (.quo (.cell (.var 11) (.var 15) 1) (.var 1)) (.quo (.cell (.var 11) (.sub (.var 15) (.lit 1)) 1) (.var 1)))) (.cmp .le (.sub (.quo (.cell (.var 11) (.var 15) 1) (.var 1)) (.quo (.cell (.var 11) (.sub (.var 15) (.lit 1)) 1) (.var 1))) (.lit 9223372036854775807))) (.split (.cmp .lt (.sub (.quo (.cell (.var 11) (.var 15) 1) (.var 1)) (.quo (.cell (.var 11) (.sub (.var 15) (.lit 1)) 1) (.var 1))) (.lit 1)) (.ret [(.bool (.lit false))]) (.ob (.and (.cmp .le (.lit (-9223372036854775808)) (.add (.var 5) (.lit 1))) (.cmp .le (.add (.var 5) (.lit 1)) (.lit 9223372036854775807))) (.split (.cmp .lt (.add (.var 5) (.lit 1)) (.sub (.quo (.cell (.var 11) (.var 15) 1) (.var 1)) (.quo (.cell (.var 11) (.sub (.var 15) (.lit 1)) 1) (.var 1)))) (.ret [(.bool (.lit false))]) (.ob (.and (.cmp .le (.lit (-9223372036854775808)) (.sub (.cell (.var 11) (.var 15) 1) (.var 10))) (.cmp .le (.sub (.cell (.var 11) (.var 15) 1) (.var 10)) (.lit 9223372036854775807))) (.ob (.and (.cmp .le (.lit (-9223372036854775808)) (.sub (.cell (.var 11) (.var 15) 1) (.var 10))) (.cmp .le (.sub (.cell (.var 11) (.var 15) 1) (.var 10)) (.lit 9223372036854775807))) (.call 70 [(.int (.var 0)), (.int (.var 1)), (.int (.var 2)), (.int (.var 3)), (.int (.var 4)), (.int (.var 5)), (.int (.var 6)), (.int (.var 7)), (.int (.var 8)), (.int (.var 9)), (.int (.sub (.cell (.var 11) (.var 15) 1) (.var 10))), (.int (.cell (.var 11) (.var 15) 2))] (.split (.not (.of (.var 16))) (.ret [(.bool (.lit false))]) (.back 0 [(.bool (.of (.var 14))), (.int (.add (.var 15) (.lit 1)))])))))))))))))) (.ob (.cmp .ne (.var 1) (.lit 0)) (.ob (.and (.cmp .le (.lit (-9223372036854775808)) (.quo (.cell (.var 11) (.var 15) 1) (.var 1))) (.cmp .le (.quo (.cell (.var 11) (.var 15) 1) (.var 1)) (.lit 9223372036854775807))) (.ob (.and (.cmp .le (.lit (-9223372036854775808)) (.sub (.quo (.cell (.var 11) (.var 15) 1) (.var 1)) (.lit (-1)))) (.cmp .le (.sub (.quo (.cell (.var 11) (.var 15) 1) (.var 1)) (.lit (-1))) (.lit 9223372036854775807))) (.split (.cmp .lt (.sub (.quo (.cell (.var 11) (.var 15) 1) (.var 1)) (.lit (-1))) (.lit 1)) (.ret [(.bool (.lit false))]) (.ob (.and (.cmp .le (.lit (-9223372036854775808)) (.add (.var 5) (.lit 1))) (.cmp .le (.add (.var 5) (.lit 1)) (.lit 9223372036854775807))) (.split (.cmp .lt (.add (.var 5) (.lit 1)) (.sub (.quo (.cell (.var 11) (.var 15) 1) (.var 1)) (.lit (-1)))) (.ret [(.bool (.lit false))]) (.ob (.and (.cmp .le (.lit (-9223372036854775808)) (.sub (.cell (.var 11) (.var 15) 1) (.var 10))) (.cmp .le (.sub (.cell (.var 11) (.var 15) 1) (.var 10)) (.lit 9223372036854775807))) (.ob (.and (.cmp .le (.lit (-9223372036854775808)) (.sub (.cell (.var 11) (.var 15) 1) (.var 10))) (.cmp .le (.sub (.cell (.var 11) (.var 15) 1) (.var 10)) (.lit 9223372036854775807))) (.call 70 [(.int (.var 0)), (.int (.var 1)), (.int (.var 2)), (.int (.var 3)), (.int (.var 4)), (.int (.var 5)), (.int (.var 6)), (.int (.var 7)), (.int (.var 8)), (.int (.var 9)), (.int (.sub (.cell (.var 11) (.var 15) 1) (.var 10))), (.int (.cell (.var 11) (.var 15) 2))] (.split (.not (.of (.var 16))) (.ret [(.bool (.lit false))]) (.back 0 [(.bool (.of (.var 14))), (.int (.add (.var 15) (.lit 1)))]))))))))))))))))))))) (.ret [(.bool (.lit true))]))))))
def trposs : Tree :=
  (.call 41 [(.int (.var 0)), (.int (.var 1)), (.int (.var 2)), (.int (.var 3)), (.int (.var 4)), (.int (.var 5)), (.int (.var 6)), (.int (.var 7))] (.split (.cmp .ne (.var 12) (.lit 0)) (.ret [(.bool (.lit false))]) (.call 37 [(.int (.var 8)), (.int (.var 9))] trposs_1)))
noncomputable def cposs : Cx := tab.only [40, 36, 68, 46] (fun _ => []) [] 0 [82] (fun _ => none)
def tposs_1 : Tree :=
  (.split (.cmp .lt (.sub (.quo (.cell (.var 11) (.var 16) 1) (.var 1)) (.var 15)) (.lit 1)) (.ret [(.bool (.lit false))]) (.ob (.and (.cmp .le (.lit (-9223372036854775808)) (.add (.var 5) (.lit 1))) (.cmp .le (.add (.var 5) (.lit 1)) (.lit 9223372036854775807))) (.split (.cmp .lt (.add (.var 5) (.lit 1)) (.sub (.quo (.cell (.var 11) (.var 16) 1) (.var 1)) (.var 15))) (.ret [(.bool (.lit false))]) (.ob (.and (.cmp .le (.lit (-9223372036854775808)) (.sub (.cell (.var 11) (.var 16) 1) (.var 10))) (.cmp .le (.sub (.cell (.var 11) (.var 16) 1) (.var 10)) (.lit 9223372036854775807))) (.split (.cmp .lt (.lit 20000) (.sub (.cell (.var 11) (.var 16) 1) (.var 10))) (.ret [(.bool (.lit false))]) (.ob (.cmp .ne (.var 4) (.lit 0)) (.split (.cmp .ne (.rem (.wr (.sub (.cell (.var 11) (.var 16) 2) (.var 17))) (.var 4)) (.lit 0)) (.ret [(.bool (.lit false))]) (.ob (.cmp .ne (.var 4) (.lit 0)) (.ob (.and (.cmp .le (.lit (-9223372036854775808)) (.quo (.wr (.sub (.cell (.var 11) (.var 16) 2) (.var 17))) (.var 4))) (.cmp .le (.quo (.wr (.sub (.cell (.var 11) (.var 16) 2) (.var 17))) (.var 4)) (.lit 9223372036854775807))) (.ob (.and (.cmp .le (.lit (-9223372036854775808)) (.sub (.lit 0) (.var 3))) (.cmp .le (.sub (.lit 0) (.var 3)) (.lit 9223372036854775807))) (.ob (.and (.cmp .le (.lit (-9223372036854775808)) (.quo (.wr (.sub (.cell (.var 11) (.var 16) 2) (.var 17))) (.var 4))) (.cmp .le (.quo (.wr (.sub (.cell (.var 11) (.var 16) 2) (.var 17))) (.var 4)) (.lit 9223372036854775807))) (.ob (.and (.cmp .le (.lit (-9223372036854775808)) (.sub (.lit 0) (.var 3))) (.cmp .le (.sub (.lit 0) (.var 3)) (.lit 9223372036854775807))) (.split (.not (.and (.cmp .le (.sub (.lit 0) (.var 3)) (.quo (.wr (.sub (.cell (.var 11) (.var 16) 2) (.var 17))) (.var 4))) (.cmp .le (.quo (.wr (.sub (.cell (.var 11) (.var 16) 2) (.var 17))) (.var 4)) (.var 3)))) (.ret [(.bool (.lit false))]) (.ob (.cmp .ne (.var 1) (.lit 0)) (.ob (.and (.cmp .le (.lit (-9223372036854775808)) (.quo (.cell (.var 11) (.var 16) 1) (.var 1))) (.cmp .le (.quo (.cell (.var 11) (.var 16) 1) (.var 1)) (.lit 9223372036854775807))) (.ob (.and (.cmp .le (.lit (-9223372036854775808)) (.quo (.cell (.var 11) (.var 16) 1) (.var 1))) (.cmp .le (.quo (.cell (.var 11) (.var 16) 1) (.var 1)) (.lit 9223372036854775807))) (.back 0 [(.bool (.of (.var 14))), (.int (.quo (.cell (.var 11) (.var 16) 1) (.var 1))), (.int (.add (.var 16) (.lit 1)))])))))))))))))))))
def tposs_2 : Tree :=
  (.split (.cmp .ne (.var 13) (.lit 0)) (.ret [(.bool (.lit false))]) (.split (.not (.and (.cmp .le (.lit 0) (.var 10)) (.cmp .le (.var 10) (.lit 20000)))) (.ret [(.bool (.lit false))]) (.split (.cmp .lt (.lit 200) (.len (.var 11))) (.ret [(.bool (.lit false))]) (.loop [.bool, .int, .int] [(.bool (.lit false)), (.int (.lit (-1))), (.int (.lit 0))] (.split (.cmp .lt (.var 16) (.len (.var 11))) (.ob (.cmp .le (.lit 0) (.var 16)) (.ob (.cmp .lt (.var 16) (.len (.var 11))) (.split (.not (.and (.cmp .le (.lit 0) (.cell (.var 11) (.var 16) 1)) (.cmp .le (.cell (.var 11) (.var 16) 1) (.lit 40000)))) (.ret [(.bool (.lit false))]) (.ob (.cmp .lt (.lit 0) (.len (.var 11))) (.split (.cmp .ne (.cell (.var 11) (.var 16) 0) (.cell (.var 11) (.lit 0) 0)) (.ret [(.bool (.lit false))]) (.ob (.cmp .ne (.var 1) (.lit 0)) (.ob (.cmp .lt (.lit 0) (.len (.var 11))) (.ob (.cmp .ne (.var 1) (.lit 0)) (.split (.cmp .ne (.rem (.cell (.var 11) (.var 16) 1) (.var 1)) (.rem (.cell (.var 11) (.lit 0) 1) (.var 1))) (.ret [(.bool (.lit false))]) (.ob (.cmp .ne (.var 1) (.lit 0)) (.ob (.and (.cmp .le (.lit (-9223372036854775808)) (.quo (.cell (.var 11) (.var 16) 1) (.var 1))) (.cmp .le (.quo (.cell (.var 11) (.var 16) 1) (.var 1)) (.lit 9223372036854775807))) (.ob (.and (.cmp .le (.lit (-9223372036854775808)) (.sub (.quo (.cell (.var 11) (.var 16) 1) (.var 1)) (.var 15))) (.cmp .le (.sub (.quo (.cell (.var 11) (.var 16) 1) (.var 1)) (.var 15)) (.lit 9223372036854775807))) (.ob (.and (.cmp .le (.lit (-9223372036854775808)) (.sub (.cell (.var 11) (.var 16) 1) (.var 10))) (.cmp .le (.sub (.cell (.var 11) (.var 16) 1) (.var 10)) (.lit 9223372036854775807))) (.ob (.and (.cmp .le (.lit (-9223372036854775808)) (.sub (.cell (.var 11) (.var 16) 1) (.var 10))) (.cmp .le (.sub (.cell (.var 11) (.var 16) 1) (.var 10)) (.lit 9223372036854775807))) (.call 46 [(.int (.var 0)), (.int (.var 1)), (.int (.var 2)), (.int (.var 3)), (.int (.var 4)), (.int (.var 5)), (.int (.var 6)), (.int (.var 7)), (.int (.var 8)), (.int (.var 9)), (.int (.sub (.cell (.var 11) (.var 16) 1) (.var 10))), (.int (.lit 0))] tposs_1))))))))))))))) (.ret [(.bool (.lit true))]))))))
def tposs : Tree :=
  (.call 40 [(.int (.var 0)), (.int (.var 1)), (.int (.var 2)), (.int (.var 3)), (.int (.var 4)), (.int (.var 5)), (.int (.var 6)), (.int (.var 7))] (.split (.cmp .ne (.var 12) (.lit 0)) (.ret [(.bool (.lit false))]) (.call 36 [(.int (.var 8)), (.int (.var 9))] tposs_2)))
noncomputable def cpossible : Cx := tab.only [21, 20, 25, 26, 27, 28, 29, 30, 19] (fun r => match r with
  | 50008 => [.vec 36]
  | _ => []) [] 0 [65,74,83] (fun r => match r with
  | 50008 => some ([], [.vec 36])
  | _ => none)
def tpossible_1 : Tree :=
  (.call 30 [(.int (.var 23)), (.int (.var 24)), (.int (.var 25)), (.int (.var 26)), (.int (.var 27)), (.int (.var 28)), (.int (.var 29)), (.int (.var 30)), (.int (.var 19)), (.int (.var 20)), (.int (.var 33)), (.arr 40 (.join (.var 36) (.var 40)))] (.split (.beq (.of (.var 43)) (.of (.var 44))) (.call 19 [] (.ret [(.bool (.of (.var 45)))])) (.ret [(.bool (.lit false))])))
def tpossible_2 : Tree :=
  (.split (.beq (.of (.var 41)) (.of (.var 42))) (.call 29 [(.int (.var 23)), (.int (.var 24)), (.int (.var 25)), (.int (.var 26)), (.int (.var 27)), (.int (.var 28)), (.int (.var 29)), (.int (.var 30)), (.int (.var 19)), (.int (.var 20)), (.int (.var 33)), (.arr 40 (.join (.var 36) (.var 40)))] tpossible_1) (.ret [(.bool (.lit false))]))
def tpossible_3 : Tree :=
  (.call 30 [(.int (.var 0)), (.int (.var 1)), (.int (.var 2)), (.int (.var 3)), (.int (.var 4)), (.int (.var 5)), (.int (.var 6)), (.int (.var 7)), (.int (.var 8)), (.int (.var 9)), (.int (.var 10)), (.arr 40 (.var 11))] tpossible_2)
def tpossible_4 : Tree :=
  (.join [(.vec 40)] (.ob (.cmp .le (.lit 0) (.var 39)) (.ob (.cmp .lt (.var 39) (.len (.var 36))) (.ob (.cmp .lt (.var 39) (.len (.var 36))) (.ob (.cmp .lt (.var 39) (.len (.var 36))) (.ob (.cmp .lt (.var 39) (.len (.var 36))) (.upd (.var 36) (.var 39) 1 [(.int (.wr (.add (.cell (.var 36) (.var 39) 1) (.rem (.var 15) (.lit 20)))))] (.ob (.cmp .lt (.var 39) (.len (.var 40))) (.upd (.var 40) (.var 39) 2 [(.int (.wr (.add (.cell (.var 36) (.var 39) 2) (.rem (.var 16) (.lit 2000)))))] (.ob (.cmp .lt (.var 39) (.len (.var 41))) (.upd (.var 41) (.var 39) 0 [(.int (.wr (.add (.cell (.var 36) (.var 39) 0) (.rem (.var 14) (.lit 2)))))] (.back 0 [(.cnt 40 (.var 42))]))))))))))) (.call 29 [(.int (.var 0)), (.int (.var 1)), (.int (.var 2)), (.int (.var 3)), (.int (.var 4)), (.int (.var 5)), (.int (.var 6)), (.int (.var 7)), (.int (.var 8)), (.int (.var 9)), (.int (.var 10)), (.arr 40 (.var 11))] tpossible_3))
def tpossible_5 : Tree :=
  (.call 30 [(.int (.var 23)), (.int (.var 24)), (.int (.var 25)), (.int (.var 26)), (.int (.var 27)), (.int (.var 28)), (.int (.var 29)), (.int (.var 30)), (.int (.var 19)), (.int (.var 20)), (.int (.var 33)), (.arr 40 (.var 36))] (.split (.beq (.of (.var 41)) (.of (.var 42))) (.call 19 [] (.ret [(.bool (.of (.var 43)))])) (.ret [(.bool (.lit false))])))
def tpossible_6 : Tree :=
  (.split (.beq (.of (.var 39)) (.of (.var 40))) (.call 29 [(.int (.var 23)), (.int (.var 24)), (.int (.var 25)), (.int (.var 26)), (.int (.var 27)), (.int (.var 28)), (.int (.var 29)), (.int (.var 30)), (.int (.var 19)), (.int (.var 20)), (.int (.var 33)), (.arr 40 (.var 36))] tpossible_5) (.ret [(.bool (.lit false))]))
def tpossible_7 : Tree :=
  (.call 30 [(.int (.var 0)), (.int (.var 1)), (.int (.var 2)), (.int (.var 3)), (.int (.var 4)), (.int (.var 5)), (.int (.var 6)), (.int (.var 7)), (.int (.var 8)), (.int (.var 9)), (.int (.var 10)), (.arr 40 (.var 11))] tpossible_6)
def tpossible_8 : Tree :=
  (.split (.cmp .lt (.lit 0) (.len (.var 36))) (.split (.cmp .lt (.lit 0) (.rem (.var 13) (.lit 3))) (.ob (.and (.cmp .le (.lit (-9223372036854775808)) (.quo (.var 13) (.lit 3))) (.cmp .le (.quo (.var 13) (.lit 3)) (.lit 9223372036854775807))) (.ob (.and (.cmp .le (.lit (-9223372036854775808)) (.quo (.var 13) (.lit 3))) (.cmp .le (.quo (.var 13) (.lit 3)) (.lit 9223372036854775807))) (.call 28 [(.int (.quo (.var 13) (.lit 3))), (.int (.len (.var 36)))] tpossible_4))) (.call 29 [(.int (.var 0)), (.int (.var 1)), (.int (.var 2)), (.int (.var 3)), (.int (.var 4)), (.int (.var 5)), (.int (.var 6)), (.int (.var 7)), (.int (.var 8)), (.int (.var 9)), (.int (.var 10)), (.arr 40 (.var 11))] tpossible_7)) (.call 29 [(.int (.var 0)), (.int (.var 1)), (.int (.var 2)), (.int (.var 3)), (.int (.var 4)), (.int (.var 5)), (.int (.var 6)), (.int (.var 7)), (.int (.var 8)), (.int (.var 9)), (.int (.var 10)), (.arr 40 (.var 11))] tpossible_7))
def tpossible_9 : Tree :=
  (.call 27 [(.arr 3 (.var 34)), (.int (.var 35)), (.int (.lit 3)), (.int (.var 23)), (.int (.var 24)), (.int (.var 25)), (.int (.var 26)), (.int (.var 27)), (.int (.var 28)), (.int (.var 29)), (.int (.var 30)), (.int (.var 19)), (.int (.var 20)), (.int (.var 33)), (.int (.lit 150))] tpossible_8)
def tpossible : Tree :=
  (.split (.cmp .lt (.lit 210) (.len (.var 11))) (.call 19 [] (.ret [(.bool (.of (.var 17)))])) (.call 21 [(.arr 3 (.var 12))] (.call 20 [(.arr 3 (.var 17)), (.int (.var 18))] (.call 25 [(.arr 3 (.var 21)), (.int (.var 22))] (.call 26 [(.arr 3 (.var 31)), (.int (.var 32)), (.int (.lit 40))] tpossible_9)))))
end Go.Proofs.Ytlbgcjpkegpmlaa
/- What is to be shown of each function, as the executor has it. Printed by trees.py. -/
namespace Go.Proofs.Ytlbgcjpkegpmlaa
noncomputable def cmod : Cx := tab.only [] (fun _ => []) [] 0 []
def tmod : Tree :=
  (.ob (.cmp .ne (.var 1) (.lit 0)) (.split (.cmp .lt (.rem (.var 0) (.var 1)) (.lit 0)) (.ob (.and (.cmp .le (.lit (-9223372036854775808)) (.add (.rem (.var 0) (.var 1)) (.var 1))) (.cmp .le (.add (.rem (.var 0) (.var 1)) (.var 1)) (.lit 9223372036854775807))) (.ob (.and (.cmp .le (.lit (-9223372036854775808)) (.add (.rem (.var 0) (.var 1)) (.var 1))) (.cmp .le (.add (.rem (.var 0) (.var 1)) (.var 1)) (.lit 9223372036854775807))) (.ret [(.int (.add (.rem (.var 0) (.var 1)) (.var 1)))]))) (.ob (.and (.cmp .le (.lit (-9223372036854775808)) (.rem (.var 0) (.var 1))) (.cmp .le (.rem (.var 0) (.var 1)) (.lit 9223372036854775807))) (.ret [(.int (.rem (.var 0) (.var 1)))]))))
noncomputable def cmod64 : Cx := tab.only [] (fun _ => []) [] 0 []
def tmod64 : Tree :=
  (.ob (.cmp .ne (.var 1) (.lit 0)) (.split (.cmp .lt (.rem (.var 0) (.var 1)) (.lit 0)) (.ob (.and (.cmp .le (.lit (-9223372036854775808)) (.add (.rem (.var 0) (.var 1)) (.var 1))) (.cmp .le (.add (.rem (.var 0) (.var 1)) (.var 1)) (.lit 9223372036854775807))) (.ob (.and (.cmp .le (.lit (-9223372036854775808)) (.add (.rem (.var 0) (.var 1)) (.var 1))) (.cmp .le (.add (.rem (.var 0) (.var 1)) (.var 1)) (.lit 9223372036854775807))) (.ret [(.int (.add (.rem (.var 0) (.var 1)) (.var 1)))]))) (.ob (.and (.cmp .le (.lit (-9223372036854775808)) (.rem (.var 0) (.var 1))) (.cmp .le (.rem (.var 0) (.var 1)) (.lit 9223372036854775807))) (.ret [(.int (.rem (.var 0) (.var 1)))]))))
noncomputable def cnewring : Cx := tab.only [] (fun _ => []) [] 0 []
def tnewring : Tree :=
  (.ret [(.arr 3 (.var 0)), (.int (.lit 0))])
noncomputable def cnext : Cx := tab.only [28] (fun _ => []) [] 0 []
def tnext : Tree :=
  (.split (.cmp .lt (.lit 0) (.len (.var 0))) (.ob (.cmp .ne (.len (.var 0)) (.lit 0)) (.ob (.cmp .lt (.rem (.add (.var 1) (.lit 1)) (.len (.var 0))) (.len (.var 0))) (.ob (.cmp .ne (.len (.var 0)) (.lit 0)) (.call 28 [(.int (.cell (.var 0) (.rem (.add (.var 1) (.lit 1)) (.len (.var 0))) 0)), (.int (.lit 1048576))] (.ob (.and (.cmp .le (.lit (-9223372036854775808)) (.quo (.var 3) (.add (.lit 1) (.quo (.add (.var 1) (.lit 1)) (.len (.var 0)))))) (.cmp .le (.quo (.var 3) (.add (.lit 1) (.quo (.add (.var 1) (.lit 1)) (.len (.var 0))))) (.lit 9223372036854775807))) (.ob (.and (.cmp .le (.lit (-9223372036854775808)) (.add (.rem (.mul (.add (.var 1) (.lit 1)) (.lit 7919)) (.lit 10007)) (.quo (.var 3) (.add (.lit 1) (.quo (.add (.var 1) (.lit 1)) (.len (.var 0))))))) (.cmp .le (.add (.rem (.mul (.add (.var 1) (.lit 1)) (.lit 7919)) (.lit 10007)) (.quo (.var 3) (.add (.lit 1) (.quo (.add (.var 1) (.lit 1)) (.len (.var 0)))))) (.lit 9223372036854775807))) (.ob (.cmp .ne (.var 2) (.lit 0)) (.ob (.and (.cmp .le (.lit (-9223372036854775808)) (.rem (.add (.rem (.mul (.add (.var 1) (.lit 1)) (.lit 7919)) (.lit 10007)) (.quo (.var 3) (.add (.lit 1) (.quo (.add (.var 1) (.lit 1)) (.len (.var 0)))))) (.var 2))) (.cmp .le (.rem (.add (.rem (.mul (.add (.var 1) (.lit 1)) (.lit 7919)) (.lit 10007)) (.quo (.var 3) (.add (.lit 1) (.quo (.add (.var 1) (.lit 1)) (.len (.var 0)))))) (.var 2)) (.lit 9223372036854775807))) (.ret [(.int (.rem (.add (.rem (.mul (.add (.var 1) (.lit 1)) (.lit 7919)) (.lit 10007)) (.quo (.var 3) (.add (.lit 1) (.quo (.add (.var 1) (.lit 1)) (.len (.var 0)))))) (.var 2))), (.arr 3 (.var 0)), (.int (.add (.var 1) (.lit 1)))]))))))))) (.ob (.cmp .ne (.var 2) (.lit 0)) (.ret [(.int (.rem (.rem (.mul (.add (.var 1) (.lit 1)) (.lit 7919)) (.lit 10007)) (.var 2))), (.arr 3 (.var 0)), (.int (.add (.var 1) (.lit 1)))])))
noncomputable def ckickof : Cx := tab.only [26] (fun _ => []) [] 0 []
def tkickof : Tree :=
  (.call 26 [(.arr 3 (.var 0)), (.int (.var 1)), (.int (.lit 3))] (.call 26 [(.arr 3 (.var 3)), (.int (.var 4)), (.int (.lit 5000))] (.ob (.and (.cmp .le (.lit (-9223372036854775808)) (.mul (.var 2) (.var 5))) (.cmp .le (.mul (.var 2) (.var 5)) (.lit 9223372036854775807))) (.call 26 [(.arr 3 (.var 6)), (.int (.var 7)), (.int (.lit 2))] (.call 26 [(.arr 3 (.var 9)), (.int (.var 10)), (.int (.lit 300))] (.ob (.and (.cmp .le (.lit (-9223372036854775808)) (.mul (.var 8) (.var 11))) (.cmp .le (.mul (.var 8) (.var 11)) (.lit 9223372036854775807))) (.ob (.and (.cmp .le (.lit (-9223372036854775808)) (.mul (.var 2) (.var 5))) (.cmp .le (.mul (.var 2) (.var 5)) (.lit 9223372036854775807))) (.ob (.and (.cmp .le (.lit (-9223372036854775808)) (.mul (.var 8) (.var 11))) (.cmp .le (.mul (.var 8) (.var 11)) (.lit 9223372036854775807))) (.ret [(.int (.mul (.var 2) (.var 5))), (.int (.mul (.var 8) (.var 11))), (.arr 3 (.var 12)), (.int (.var 13))])))))))))
noncomputable def cshutof : Cx := tab.only [26] (fun r => match r with
  | 50003 => [.blk 0]
  | 50004 => [.blk 0]
  | 50005 => [.blk 0]
  | 50006 => [.blk 0]
  | 50007 => [.blk 0]
  | 50008 => [.blk 0]
  | _ => []) [] 0 []
def tshutof_1 : Tree :=
  (.ob (.and (.cmp .le (.lit (-9223372036854775808)) (.mul (.var 35) (.var 38))) (.cmp .le (.mul (.var 35) (.var 38)) (.lit 9223372036854775807))) (.ob (.and (.cmp .le (.lit (-9223372036854775808)) (.add (.add (.add (.lit 1) (.var 8)) (.var 32)) (.mul (.var 35) (.var 38)))) (.cmp .le (.add (.add (.add (.lit 1) (.var 8)) (.var 32)) (.mul (.var 35) (.var 38))) (.lit 9223372036854775807))) (.ob (.and (.cmp .le (.lit (-9223372036854775808)) (.add (.var 11) (.mul (.var 14) (.var 17)))) (.cmp .le (.add (.var 11) (.mul (.var 14) (.var 17))) (.lit 9223372036854775807))) (.ob (.and (.cmp .le (.lit (-9223372036854775808)) (.add (.add (.var 11) (.mul (.var 14) (.var 17))) (.mul (.var 20) (.add (.lit 1) (.var 23))))) (.cmp .le (.add (.add (.var 11) (.mul (.var 14) (.var 17))) (.mul (.var 20) (.add (.lit 1) (.var 23)))) (.lit 9223372036854775807))) (.ob (.and (.cmp .le (.lit (-9223372036854775808)) (.add (.add (.add (.var 11) (.mul (.var 14) (.var 17))) (.mul (.var 20) (.add (.lit 1) (.var 23)))) (.mul (.var 26) (.var 29)))) (.cmp .le (.add (.add (.add (.var 11) (.mul (.var 14) (.var 17))) (.mul (.var 20) (.add (.lit 1) (.var 23)))) (.mul (.var 26) (.var 29))) (.lit 9223372036854775807))) (.ob (.and (.cmp .le (.lit (-9223372036854775808)) (.add (.add (.lit 1) (.var 8)) (.var 32))) (.cmp .le (.add (.add (.lit 1) (.var 8)) (.var 32)) (.lit 9223372036854775807))) (.ob (.and (.cmp .le (.lit (-9223372036854775808)) (.add (.add (.add (.lit 1) (.var 8)) (.var 32)) (.mul (.var 35) (.var 38)))) (.cmp .le (.add (.add (.add (.lit 1) (.var 8)) (.var 32)) (.mul (.var 35) (.var 38))) (.lit 9223372036854775807))) (.ob (.and (.cmp .le (.lit (-9223372036854775808)) (.add (.lit 9000) (.var 2))) (.cmp .le (.add (.lit 9000) (.var 2)) (.lit 9223372036854775807))) (.ob (.and (.cmp .le (.lit (-9223372036854775808)) (.add (.lit 1) (.var 5))) (.cmp .le (.add (.lit 1) (.var 5)) (.lit 9223372036854775807))) (.ob (.and (.cmp .le (.lit (-9223372036854775808)) (.add (.lit 1) (.var 8))) (.cmp .le (.add (.lit 1) (.var 8)) (.lit 9223372036854775807))) (.ret [(.int (.var 11)), (.int (.add (.var 11) (.mul (.var 14) (.var 17)))), (.int (.add (.add (.var 11) (.mul (.var 14) (.var 17))) (.mul (.var 20) (.add (.lit 1) (.var 23))))), (.int (.add (.add (.add (.var 11) (.mul (.var 14) (.var 17))) (.mul (.var 20) (.add (.lit 1) (.var 23)))) (.mul (.var 26) (.var 29)))), (.int (.add (.add (.lit 1) (.var 8)) (.var 32))), (.int (.add (.add (.add (.lit 1) (.var 8)) (.var 32)) (.mul (.var 35) (.var 38)))), (.int (.add (.lit 9000) (.var 2))), (.int (.add (.lit 1) (.var 5))), (.int (.add (.lit 1) (.var 8))), (.arr 3 (.var 39)), (.int (.var 40))])))))))))))
def tshutof_2 : Tree :=
  (.ob (.and (.cmp .le (.lit (-9223372036854775808)) (.add (.add (.lit 1) (.var 8)) (.var 32))) (.cmp .le (.add (.add (.lit 1) (.var 8)) (.var 32)) (.lit 9223372036854775807))) (.call 26 [(.arr 3 (.var 33)), (.int (.var 34)), (.int (.lit 3))] (.call 26 [(.arr 3 (.var 36)), (.int (.var 37)), (.int (.lit 16384))] tshutof_1)))
def tshutof_3 : Tree :=
  (.ob (.and (.cmp .le (.lit (-9223372036854775808)) (.mul (.var 26) (.var 29))) (.cmp .le (.mul (.var 26) (.var 29)) (.lit 9223372036854775807))) (.ob (.and (.cmp .le (.lit (-9223372036854775808)) (.add (.add (.add (.var 11) (.mul (.var 14) (.var 17))) (.mul (.var 20) (.add (.lit 1) (.var 23)))) (.mul (.var 26) (.var 29)))) (.cmp .le (.add (.add (.add (.var 11) (.mul (.var 14) (.var 17))) (.mul (.var 20) (.add (.lit 1) (.var 23)))) (.mul (.var 26) (.var 29))) (.lit 9223372036854775807))) (.call 26 [(.arr 3 (.var 30)), (.int (.var 31)), (.int (.lit 1048576))] tshutof_2)))
def tshutof_4 : Tree :=
  (.ob (.and (.cmp .le (.lit (-9223372036854775808)) (.add (.lit 1) (.var 23))) (.cmp .le (.add (.lit 1) (.var 23)) (.lit 9223372036854775807))) (.ob (.and (.cmp .le (.lit (-9223372036854775808)) (.mul (.var 20) (.add (.lit 1) (.var 23)))) (.cmp .le (.mul (.var 20) (.add (.lit 1) (.var 23))) (.lit 9223372036854775807))) (.ob (.and (.cmp .le (.lit (-9223372036854775808)) (.add (.add (.var 11) (.mul (.var 14) (.var 17))) (.mul (.var 20) (.add (.lit 1) (.var 23))))) (.cmp .le (.add (.add (.var 11) (.mul (.var 14) (.var 17))) (.mul (.var 20) (.add (.lit 1) (.var 23)))) (.lit 9223372036854775807))) (.call 26 [(.arr 3 (.var 24)), (.int (.var 25)), (.int (.lit 3))] (.call 26 [(.arr 3 (.var 27)), (.int (.var 28)), (.int (.lit 262144))] tshutof_3)))))
def tshutof_5 : Tree :=
  (.ob (.and (.cmp .le (.lit (-9223372036854775808)) (.mul (.var 14) (.var 17))) (.cmp .le (.mul (.var 14) (.var 17)) (.lit 9223372036854775807))) (.ob (.and (.cmp .le (.lit (-9223372036854775808)) (.add (.var 11) (.mul (.var 14) (.var 17)))) (.cmp .le (.add (.var 11) (.mul (.var 14) (.var 17))) (.lit 9223372036854775807))) (.call 26 [(.arr 3 (.var 18)), (.int (.var 19)), (.int (.lit 1048576))] (.call 26 [(.arr 3 (.var 21)), (.int (.var 22)), (.int (.lit 200))] tshutof_4))))
def tshutof_6 : Tree :=
  (.ob (.and (.cmp .le (.lit (-9223372036854775808)) (.add (.lit 1) (.var 8))) (.cmp .le (.add (.lit 1) (.var 8)) (.lit 9223372036854775807))) (.call 26 [(.arr 3 (.var 9)), (.int (.var 10)), (.int (.lit 1048576))] (.call 26 [(.arr 3 (.var 12)), (.int (.var 13)), (.int (.lit 3))] (.call 26 [(.arr 3 (.var 15)), (.int (.var 16)), (.int (.lit 262144))] tshutof_5))))
def tshutof_7 : Tree :=
  (.ob (.and (.cmp .le (.lit (-9223372036854775808)) (.add (.lit 1) (.var 5))) (.cmp .le (.add (.lit 1) (.var 5)) (.lit 9223372036854775807))) (.call 26 [(.arr 3 (.var 6)), (.int (.var 7)), (.int (.lit 500))] tshutof_6))
def tshutof_8 : Tree :=
  (.ob (.and (.cmp .le (.lit (-9223372036854775808)) (.add (.lit 9000) (.var 2))) (.cmp .le (.add (.lit 9000) (.var 2)) (.lit 9223372036854775807))) (.call 26 [(.arr 3 (.var 3)), (.int (.var 4)), (.int (.lit 400000))] tshutof_7))
def tshutof : Tree :=
  (.call 26 [(.arr 3 (.var 0)), (.int (.var 1)), (.int (.lit 12000))] tshutof_8)
noncomputable def clwithin : Cx := tab.only [22] (fun _ => []) [] 0 []
def tlwithin : Tree :=
  (.ob (.and (.cmp .le (.lit (-9223372036854775808)) (.sub (.var 1) (.var 0))) (.cmp .le (.sub (.var 1) (.var 0)) (.lit 9223372036854775807))) (.ob (.and (.cmp .le (.lit (-9223372036854775808)) (.add (.sub (.var 1) (.var 0)) (.lit 1))) (.cmp .le (.add (.sub (.var 1) (.var 0)) (.lit 1)) (.lit 9223372036854775807))) (.ob (.and (.cmp .le (.lit (-9223372036854775808)) (.add (.sub (.var 1) (.var 0)) (.lit 1))) (.cmp .le (.add (.sub (.var 1) (.var 0)) (.lit 1)) (.lit 9223372036854775807))) (.call 22 [(.int (.var 2)), (.int (.add (.sub (.var 1) (.var 0)) (.lit 1)))] (.ob (.and (.cmp .le (.lit (-9223372036854775808)) (.add (.var 0) (.var 3))) (.cmp .le (.add (.var 0) (.var 3)) (.lit 9223372036854775807))) (.ob (.and (.cmp .le (.lit (-9223372036854775808)) (.add (.var 0) (.var 3))) (.cmp .le (.add (.var 0) (.var 3)) (.lit 9223372036854775807))) (.ob (.and (.cmp .le (.lit (-9223372036854775808)) (.add (.var 0) (.var 3))) (.cmp .le (.add (.var 0) (.var 3)) (.lit 9223372036854775807))) (.ret [(.int (.add (.var 0) (.var 3))), (.int (.add (.var 0) (.var 3)))]))))))))
noncomputable def clin : Cx := tab.only [] (fun _ => []) [] 0 []
def tlin : Tree :=
  (.split (.cmp .le (.var 2) (.var 0)) (.ret [(.bool (.cmp .le (.var 1) (.var 3)))]) (.ret [(.bool (.lit false))]))
noncomputable def cencloses : Cx := tab.only [21, 33, 34, 35, 31, 19] (fun _ => []) [] 0 []
def tencloses_1 : Tree :=
  (.split (.cmp .ne (.var 30) (.lit 0)) (.ret [(.bool (.lit false))]) (.split (.cmp .ne (.var 38) (.lit 0)) (.ret [(.bool (.lit false))]) (.split (.not (.and (.cmp .le (.var 23) (.var 31)) (.cmp .le (.var 32) (.var 24)))) (.ret [(.bool (.lit false))]) (.split (.not (.and (.cmp .le (.var 25) (.var 33)) (.cmp .le (.var 34) (.var 26)))) (.ret [(.bool (.lit false))]) (.split (.not (.and (.cmp .le (.var 27) (.var 35)) (.cmp .le (.var 36) (.var 28)))) (.ret [(.bool (.lit false))]) (.split (.cmp .ne (.var 31) (.var 32)) (.ret [(.bool (.lit false))]) (.ob (.and (.cmp .le (.lit (-9223372036854775808)) (.sub (.var 34) (.var 33))) (.cmp .le (.sub (.var 34) (.var 33)) (.lit 9223372036854775807))) (.split (.cmp .lt (.lit 1) (.sub (.var 34) (.var 33))) (.ret [(.bool (.lit false))]) (.ob (.and (.cmp .le (.lit (-9223372036854775808)) (.sub (.var 19) (.var 17))) (.cmp .le (.sub (.var 19) (.var 17)) (.lit 9223372036854775807))) (.ob (.and (.cmp .le (.lit (-9223372036854775808)) (.sub (.var 12) (.var 36))) (.cmp .le (.sub (.var 12) (.var 36)) (.lit 9223372036854775807))) (.ob (.and (.cmp .le (.lit (-9223372036854775808)) (.mul (.sub (.var 12) (.var 36)) (.var 21))) (.cmp .le (.mul (.sub (.var 12) (.var 36)) (.var 21)) (.lit 9223372036854775807))) (.ob (.and (.cmp .le (.lit (-9223372036854775808)) (.mul (.sub (.var 19) (.var 17)) (.var 14))) (.cmp .le (.mul (.sub (.var 19) (.var 17)) (.var 14)) (.lit 9223372036854775807))) (.split (.cmp .lt (.mul (.sub (.var 19) (.var 17)) (.var 14)) (.mul (.sub (.var 12) (.var 36)) (.var 21))) (.ret [(.bool (.lit false))]) (.ob (.and (.cmp .le (.lit (-9223372036854775808)) (.sub (.var 12) (.var 35))) (.cmp .le (.sub (.var 12) (.var 35)) (.lit 9223372036854775807))) (.ob (.and (.cmp .le (.lit (-9223372036854775808)) (.mul (.sub (.var 12) (.var 35)) (.var 21))) (.cmp .le (.mul (.sub (.var 12) (.var 35)) (.var 21)) (.lit 9223372036854775807))) (.ob (.and (.cmp .le (.lit (-9223372036854775808)) (.mul (.sub (.var 19) (.var 17)) (.var 14))) (.cmp .le (.mul (.sub (.var 19) (.var 17)) (.var 14)) (.lit 9223372036854775807))) (.split (.cmp .lt (.mul (.sub (.var 12) (.var 35)) (.var 21)) (.mul (.sub (.var 19) (.var 17)) (.var 14))) (.ret [(.bool (.lit false))]) (.split (.cmp .ne (.var 29) (.lit 4)) (.split (.cmp .ne (.var 37) (.var 29)) (.ret [(.bool (.lit false))]) (.ob (.and (.cmp .le (.lit (-9223372036854775808)) (.mul (.var 12) (.var 13))) (.cmp .le (.mul (.var 12) (.var 13)) (.lit 9223372036854775807))) (.ob (.and (.cmp .le (.lit (-9223372036854775808)) (.add (.var 17) (.mul (.var 12) (.var 13)))) (.cmp .le (.add (.var 17) (.mul (.var 12) (.var 13))) (.lit 9223372036854775807))) (.split (.cmp .eq (.var 31) (.add (.var 17) (.mul (.var 12) (.var 13)))) (.call 19 [] (.ret [(.bool (.of (.var 39)))])) (.ret [(.bool (.lit false))]))))) (.ob (.and (.cmp .le (.lit (-9223372036854775808)) (.mul (.var 12) (.var 13))) (.cmp .le (.mul (.var 12) (.var 13)) (.lit 9223372036854775807))) (.ob (.and (.cmp .le (.lit (-9223372036854775808)) (.add (.var 17) (.mul (.var 12) (.var 13)))) (.cmp .le (.add (.var 17) (.mul (.var 12) (.var 13))) (.lit 9223372036854775807))) (.split (.cmp .eq (.var 31) (.add (.var 17) (.mul (.var 12) (.var 13)))) (.call 19 [] (.ret [(.bool (.of (.var 39)))])) (.ret [(.bool (.lit false))]))))))))))))))))))))))
def tencloses_2 : Tree :=
  (.call 31 [(.int (.var 6)), (.int (.var 7)), (.int (.var 8)), (.int (.var 9)), (.int (.var 10)), (.int (.var 11)), (.int (.var 12)), (.int (.var 13)), (.int (.var 14))] (.call 31 [(.int (.var 17)), (.int (.var 18)), (.int (.var 19)), (.int (.var 20)), (.int (.var 21)), (.int (.var 22)), (.int (.var 12)), (.int (.var 13)), (.int (.var 14))] tencloses_1))
def tencloses_3 : Tree :=
  (.call 34 [(.int (.var 6)), (.int (.var 7)), (.int (.var 1))] (.call 34 [(.int (.var 8)), (.int (.var 9)), (.int (.var 2))] (.call 34 [(.int (.var 10)), (.int (.var 11)), (.int (.var 3))] tencloses_2)))
def tencloses : Tree :=
  (.call 21 [(.arr 3 (.var 0))] (.call 33 [(.arr 3 (.var 4)), (.int (.var 5))] tencloses_3))
end Go.Proofs.Ytlbgcjpkegpmlaa
/- What is to be shown of each function, as the executor has it. Printed by trees.py. -/
namespace Go.Proofs.Ytlbgcjpkegpmlaa
noncomputable def cwithin : Cx := tab.only [] (fun _ => []) [] 0 []
def twithin : Tree :=
  (.split (.cmp .le (.var 1) (.var 0)) (.ret [(.bool (.cmp .le (.var 0) (.var 2)))]) (.ret [(.bool (.lit false))]))
noncomputable def cbetween : Cx := tab.only [] (fun _ => []) [] 0 []
def tbetween : Tree :=
  (.split (.cmp .le (.var 1) (.var 0)) (.ret [(.bool (.cmp .le (.var 0) (.var 2)))]) (.ret [(.bool (.lit false))]))
noncomputable def cfair : Cx := tab.only [] (fun _ => []) [] 0 []
def tfair : Tree :=
  (.split (.cmp .le (.var 2) (.var 0)) (.split (.cmp .le (.var 0) (.var 1)) (.ret [(.bool (.cmp .le (.var 1) (.var 3)))]) (.ret [(.bool (.lit false))])) (.ret [(.bool (.lit false))]))
noncomputable def cfloor : Cx := tab.only [] (fun _ => []) [] 0 []
def tfloor : Tree :=
  (.ob (.cmp .ne (.var 1) (.lit 0)) (.ob (.and (.cmp .le (.lit (-9223372036854775808)) (.quo (.var 0) (.var 1))) (.cmp .le (.quo (.var 0) (.var 1)) (.lit 9223372036854775807))) (.ob (.cmp .ne (.var 1) (.lit 0)) (.split (.cmp .lt (.rem (.var 0) (.var 1)) (.lit 0)) (.ob (.and (.cmp .le (.lit (-9223372036854775808)) (.sub (.quo (.var 0) (.var 1)) (.lit 1))) (.cmp .le (.sub (.quo (.var 0) (.var 1)) (.lit 1)) (.lit 9223372036854775807))) (.ob (.and (.cmp .le (.lit (-9223372036854775808)) (.sub (.quo (.var 0) (.var 1)) (.lit 1))) (.cmp .le (.sub (.quo (.var 0) (.var 1)) (.lit 1)) (.lit 9223372036854775807))) (.ret [(.int (.sub (.quo (.var 0) (.var 1)) (.lit 1)))]))) (.ob (.and (.cmp .le (.lit (-9223372036854775808)) (.quo (.var 0) (.var 1))) (.cmp .le (.quo (.var 0) (.var 1)) (.lit 9223372036854775807))) (.ret [(.int (.quo (.var 0) (.var 1)))]))))))
noncomputable def crfloor : Cx := tab.only [] (fun _ => []) [] 0 []
def trfloor : Tree :=
  (.ob (.cmp .ne (.var 1) (.lit 0)) (.ob (.and (.cmp .le (.lit (-9223372036854775808)) (.quo (.var 0) (.var 1))) (.cmp .le (.quo (.var 0) (.var 1)) (.lit 9223372036854775807))) (.ob (.cmp .ne (.var 1) (.lit 0)) (.split (.cmp .lt (.rem (.var 0) (.var 1)) (.lit 0)) (.ob (.and (.cmp .le (.lit (-9223372036854775808)) (.sub (.quo (.var 0) (.var 1)) (.lit 1))) (.cmp .le (.sub (.quo (.var 0) (.var 1)) (.lit 1)) (.lit 9223372036854775807))) (.ob (.and (.cmp .le (.lit (-9223372036854775808)) (.sub (.quo (.var 0) (.var 1)) (.lit 1))) (.cmp .le (.sub (.quo (.var 0) (.var 1)) (.lit 1)) (.lit 9223372036854775807))) (.ret [(.int (.sub (.quo (.var 0) (.var 1)) (.lit 1)))]))) (.ob (.and (.cmp .le (.lit (-9223372036854775808)) (.quo (.var 0) (.var 1))) (.cmp .le (.quo (.var 0) (.var 1)) (.lit 9223372036854775807))) (.ret [(.int (.quo (.var 0) (.var 1)))]))))))
noncomputable def cshut : Cx := tab.only [69] (fun _ => []) [] 0 []
def tshut : Tree :=
  (.arr [[(.int (.var 0)), (.int (.var 1))], [(.int (.var 2)), (.int (.var 3))]] (.loop [.int, .int] [(.int (.lit 0)), (.int (.lit 0))] (.split (.cmp .lt (.var 11) (.lit 2)) (.ob (.cmp .le (.lit 0) (.var 11)) (.ob (.cmp .lt (.var 11) (.len (.var 9))) (.split (.cmp .lt (.cell (.var 9) (.var 11) 0) (.lit 0)) (.ret [(.int (.lit 2))]) (.ob (.cmp .lt (.var 11) (.len (.var 9))) (.ob (.cmp .lt (.var 11) (.len (.var 9))) (.split (.cmp .lt (.cell (.var 9) (.var 11) 1) (.cell (.var 9) (.var 11) 0)) (.ret [(.int (.lit 2))]) (.ob (.cmp .lt (.var 11) (.len (.var 9))) (.split (.cmp .lt (.lit 68719476736) (.cell (.var 9) (.var 11) 1)) (.ret [(.int (.lit 2))]) (.back 0 [(.int (.var 10)), (.int (.add (.var 11) (.lit 1)))]))))))))) (.split (.not (.and (.cmp .le (.lit 1) (.var 6)) (.cmp .le (.var 6) (.lit 40000)))) (.ret [(.int (.lit 2))]) (.split (.not (.and (.cmp .le (.lit 1) (.var 7)) (.cmp .le (.var 7) (.lit 1048576)))) (.ret [(.int (.lit 2))]) (.split (.not (.and (.cmp .le (.lit 1) (.var 8)) (.cmp .le (.var 8) (.lit 5000)))) (.ret [(.int (.lit 2))]) (.split (.cmp .lt (.var 4) (.var 8)) (.ret [(.int (.lit 2))]) (.split (.cmp .lt (.var 5) (.var 4)) (.ret [(.int (.lit 2))]) (.split (.cmp .lt (.lit 1073741824) (.var 5)) (.ret [(.int (.lit 2))]) (.split (.cmp .lt (.var 2) (.var 1)) (.ret [(.int (.lit 11))]) (.ret [(.int (.lit 0))])))))))))))
noncomputable def cident : Cx := tab.only [71, 68, 72] (fun _ => []) [] 0 []
def tident : Tree :=
  (.split (.not (.and (.cmp .le (.lit 0) (.var 0)) (.and (.cmp .le (.var 0) (.var 1)) (.cmp .le (.var 1) (.lit 68719476736))))) (.ret [(.int (.lit 0)), (.int (.lit 0)), (.int (.lit 0)), (.int (.lit 0)), (.int (.lit 0)), (.int (.lit 0)), (.int (.lit 0)), (.int (.lit 2))]) (.split (.not (.and (.cmp .le (.lit 0) (.var 2)) (.and (.cmp .le (.var 2) (.var 3)) (.cmp .le (.var 3) (.lit 68719476736))))) (.ret [(.int (.lit 0)), (.int (.lit 0)), (.int (.lit 0)), (.int (.lit 0)), (.int (.lit 0)), (.int (.lit 0)), (.int (.lit 0)), (.int (.lit 2))]) (.split (.not (.and (.cmp .le (.lit 1) (.var 6)) (.cmp .le (.var 6) (.lit 40000)))) (.ret [(.int (.lit 0)), (.int (.lit 0)), (.int (.lit 0)), (.int (.lit 0)), (.int (.lit 0)), (.int (.lit 0)), (.int (.lit 0)), (.int (.lit 2))]) (.split (.not (.and (.cmp .le (.lit 1) (.var 7)) (.cmp .le (.var 7) (.lit 1048576)))) (.ret [(.int (.lit 0)), (.int (.lit 0)), (.int (.lit 0)), (.int (.lit 0)), (.int (.lit 0)), (.int (.lit 0)), (.int (.lit 0)), (.int (.lit 2))]) (.split (.not (.and (.cmp .le (.lit 1) (.var 8)) (.cmp .le (.var 8) (.lit 5000)))) (.ret [(.int (.lit 0)), (.int (.lit 0)), (.int (.lit 0)), (.int (.lit 0)), (.int (.lit 0)), (.int (.lit 0)), (.int (.lit 0)), (.int (.lit 2))]) (.split (.not (.and (.cmp .le (.var 8) (.var 4)) (.and (.cmp .le (.var 4) (.var 5)) (.cmp .le (.var 5) (.lit 1073741824))))) (.ret [(.int (.lit 0)), (.int (.lit 0)), (.int (.lit 0)), (.int (.lit 0)), (.int (.lit 0)), (.int (.lit 0)), (.int (.lit 0)), (.int (.lit 2))]) (.split (.cmp .lt (.var 2) (.var 1)) (.ret [(.int (.lit 0)), (.int (.lit 0)), (.int (.lit 0)), (.int (.lit 0)), (.int (.lit 0)), (.int (.lit 0)), (.int (.lit 0)), (.int (.lit 11))]) (.ob (.and (.cmp .le (.lit (-9223372036854775808)) (.add (.var 0) (.mul (.var 6) (.var 7)))) (.cmp .le (.add (.var 0) (.mul (.var 6) (.var 7))) (.lit 9223372036854775807))) (.call 72 [(.int (.sub (.var 0) (.var 3))), (.int (.quo (.var 4) (.var 8)))] (.ob (.and (.cmp .le (.lit (-9223372036854775808)) (.add (.var 6) (.var 9))) (.cmp .le (.add (.var 6) (.var 9)) (.lit 9223372036854775807))) (.call 72 [(.int (.sub (.var 2) (.var 1))), (.int (.quo (.sub (.add (.var 5) (.var 8)) (.lit 1)) (.var 8)))] (.ob (.and (.cmp .le (.lit (-9223372036854775808)) (.sub (.var 6) (.var 10))) (.cmp .le (.sub (.var 6) (.var 10)) (.lit 9223372036854775807))) (.split (.cmp .le (.sub (.var 6) (.var 10)) (.lit 3500)) (.ob (.and (.cmp .le (.lit (-9223372036854775808)) (.add (.var 0) (.mul (.var 6) (.var 7)))) (.cmp .le (.add (.var 0) (.mul (.var 6) (.var 7))) (.lit 9223372036854775807))) (.ob (.and (.cmp .le (.lit (-9223372036854775808)) (.add (.var 6) (.var 9))) (.cmp .le (.add (.var 6) (.var 9)) (.lit 9223372036854775807))) (.ob (.and (.cmp .le (.lit (-9223372036854775808)) (.sub (.var 6) (.var 10))) (.cmp .le (.sub (.var 6) (.var 10)) (.lit 9223372036854775807))) (.ret [(.int (.add (.var 0) (.mul (.var 6) (.var 7)))), (.int (.add (.var 1) (.mul (.var 6) (.var 7)))), (.int (.quo (.var 4) (.var 8))), (.int (.quo (.sub (.add (.var 5) (.var 8)) (.lit 1)) (.var 8))), (.int (.add (.var 6) (.var 9))), (.int (.sub (.var 6) (.var 10))), (.int (.lit 1)), (.int (.lit 0))])))) (.split (.cmp .le (.lit 9000) (.add (.var 6) (.var 9))) (.ob (.and (.cmp .le (.lit (-9223372036854775808)) (.add (.var 0) (.mul (.var 6) (.var 7)))) (.cmp .le (.add (.var 0) (.mul (.var 6) (.var 7))) (.lit 9223372036854775807))) (.ob (.and (.cmp .le (.lit (-9223372036854775808)) (.add (.var 6) (.var 9))) (.cmp .le (.add (.var 6) (.var 9)) (.lit 9223372036854775807))) (.ob (.and (.cmp .le (.lit (-9223372036854775808)) (.sub (.var 6) (.var 10))) (.cmp .le (.sub (.var 6) (.var 10)) (.lit 9223372036854775807))) (.ret [(.int (.add (.var 0) (.mul (.var 6) (.var 7)))), (.int (.add (.var 1) (.mul (.var 6) (.var 7)))), (.int (.quo (.var 4) (.var 8))), (.int (.quo (.sub (.add (.var 5) (.var 8)) (.lit 1)) (.var 8))), (.int (.add (.var 6) (.var 9))), (.int (.sub (.var 6) (.var 10))), (.int (.lit 3)), (.int (.lit 0))])))) (.split (.cmp .lt (.lit 3500) (.add (.var 6) (.var 9))) (.split (.cmp .lt (.sub (.var 6) (.var 10)) (.lit 9000)) (.ob (.and (.cmp .le (.lit (-9223372036854775808)) (.add (.var 0) (.mul (.var 6) (.var 7)))) (.cmp .le (.add (.var 0) (.mul (.var 6) (.var 7))) (.lit 9223372036854775807))) (.ob (.and (.cmp .le (.lit (-9223372036854775808)) (.add (.var 6) (.var 9))) (.cmp .le (.add (.var 6) (.var 9)) (.lit 9223372036854775807))) (.ob (.and (.cmp .le (.lit (-9223372036854775808)) (.sub (.var 6) (.var 10))) (.cmp .le (.sub (.var 6) (.var 10)) (.lit 9223372036854775807))) (.ret [(.int (.add (.var 0) (.mul (.var 6) (.var 7)))), (.int (.add (.var 1) (.mul (.var 6) (.var 7)))), (.int (.quo (.var 4) (.var 8))), (.int (.quo (.sub (.add (.var 5) (.var 8)) (.lit 1)) (.var 8))), (.int (.add (.var 6) (.var 9))), (.int (.sub (.var 6) (.var 10))), (.int (.lit 2)), (.int (.lit 0))])))) (.ob (.and (.cmp .le (.lit (-9223372036854775808)) (.add (.var 0) (.mul (.var 6) (.var 7)))) (.cmp .le (.add (.var 0) (.mul (.var 6) (.var 7))) (.lit 9223372036854775807))) (.ob (.and (.cmp .le (.lit (-9223372036854775808)) (.add (.var 6) (.var 9))) (.cmp .le (.add (.var 6) (.var 9)) (.lit 9223372036854775807))) (.ob (.and (.cmp .le (.lit (-9223372036854775808)) (.sub (.var 6) (.var 10))) (.cmp .le (.sub (.var 6) (.var 10)) (.lit 9223372036854775807))) (.ret [(.int (.add (.var 0) (.mul (.var 6) (.var 7)))), (.int (.add (.var 1) (.mul (.var 6) (.var 7)))), (.int (.quo (.var 4) (.var 8))), (.int (.quo (.sub (.add (.var 5) (.var 8)) (.lit 1)) (.var 8))), (.int (.add (.var 6) (.var 9))), (.int (.sub (.var 6) (.var 10))), (.int (.lit 4)), (.int (.lit 0))]))))) (.ob (.and (.cmp .le (.lit (-9223372036854775808)) (.add (.var 0) (.mul (.var 6) (.var 7)))) (.cmp .le (.add (.var 0) (.mul (.var 6) (.var 7))) (.lit 9223372036854775807))) (.ob (.and (.cmp .le (.lit (-9223372036854775808)) (.add (.var 6) (.var 9))) (.cmp .le (.add (.var 6) (.var 9)) (.lit 9223372036854775807))) (.ob (.and (.cmp .le (.lit (-9223372036854775808)) (.sub (.var 6) (.var 10))) (.cmp .le (.sub (.var 6) (.var 10)) (.lit 9223372036854775807))) (.ret [(.int (.add (.var 0) (.mul (.var 6) (.var 7)))), (.int (.add (.var 1) (.mul (.var 6) (.var 7)))), (.int (.quo (.var 4) (.var 8))), (.int (.quo (.sub (.add (.var 5) (.var 8)) (.lit 1)) (.var 8))), (.int (.add (.var 6) (.var 9))), (.int (.sub (.var 6) (.var 10))), (.int (.lit 4)), (.int (.lit 0))])))))))))))))))))))
noncomputable def crident : Cx := tab.only [73, 74] (fun _ => []) [] 0 []
def trident : Tree :=
  (.call 73 [(.int (.var 0)), (.int (.var 1)), (.int (.var 2)), (.int (.var 3)), (.int (.var 4)), (.int (.var 5)), (.int (.var 6)), (.int (.var 7)), (.int (.var 8))] (.split (.cmp .ne (.var 9) (.lit 0)) (.ret [(.int (.lit 0)), (.int (.lit 0)), (.int (.lit 0)), (.int (.lit 0)), (.int (.lit 0)), (.int (.lit 0)), (.int (.lit 0)), (.int (.var 9))]) (.ob (.and (.cmp .le (.lit (-9223372036854775808)) (.mul (.var 6) (.var 7))) (.cmp .le (.mul (.var 6) (.var 7)) (.lit 9223372036854775807))) (.ob (.and (.cmp .le (.lit (-9223372036854775808)) (.add (.var 0) (.mul (.var 6) (.var 7)))) (.cmp .le (.add (.var 0) (.mul (.var 6) (.var 7))) (.lit 9223372036854775807))) (.ob (.and (.cmp .le (.lit (-9223372036854775808)) (.add (.var 1) (.mul (.var 6) (.var 7)))) (.cmp .le (.add (.var 1) (.mul (.var 6) (.var 7))) (.lit 9223372036854775807))) (.call 74 [(.int (.var 4)), (.int (.var 8))] (.ob (.and (.cmp .le (.lit (-9223372036854775808)) (.sub (.lit 0) (.var 5))) (.cmp .le (.sub (.lit 0) (.var 5)) (.lit 9223372036854775807))) (.ob (.and (.cmp .le (.lit (-9223372036854775808)) (.sub (.lit 0) (.var 5))) (.cmp .le (.sub (.lit 0) (.var 5)) (.lit 9223372036854775807))) (.call 74 [(.int (.sub (.lit 0) (.var 5))), (.int (.var 8))] (.ob (.and (.cmp .le (.lit (-9223372036854775808)) (.sub (.lit 0) (.var 11))) (.cmp .le (.sub (.lit 0) (.var 11)) (.lit 9223372036854775807))) (.ob (.and (.cmp .le (.lit (-9223372036854775808)) (.sub (.var 0) (.var 3))) (.cmp .le (.sub (.var 0) (.var 3)) (.lit 9223372036854775807))) (.ob (.and (.cmp .le (.lit (-9223372036854775808)) (.sub (.var 0) (.var 3))) (.cmp .le (.sub (.var 0) (.var 3)) (.lit 9223372036854775807))) (.call 74 [(.int (.sub (.var 0) (.var 3))), (.int (.var 10))] (.ob (.and (.cmp .le (.lit (-9223372036854775808)) (.add (.var 6) (.var 12))) (.cmp .le (.add (.var 6) (.var 12)) (.lit 9223372036854775807))) (.ob (.and (.cmp .le (.lit (-9223372036854775808)) (.sub (.var 2) (.var 1))) (.cmp .le (.sub (.var 2) (.var 1)) (.lit 9223372036854775807))) (.ob (.and (.cmp .le (.lit (-9223372036854775808)) (.sub (.var 2) (.var 1))) (.cmp .le (.sub (.var 2) (.var 1)) (.lit 9223372036854775807))) (.ob (.and (.cmp .le (.lit (-9223372036854775808)) (.sub (.lit 0) (.var 11))) (.cmp .le (.sub (.lit 0) (.var 11)) (.lit 9223372036854775807))) (.call 74 [(.int (.sub (.var 2) (.var 1))), (.int (.sub (.lit 0) (.var 11)))] (.ob (.and (.cmp .le (.lit (-9223372036854775808)) (.sub (.var 6) (.var 13))) (.cmp .le (.sub (.var 6) (.var 13)) (.lit 9223372036854775807))) (.split (.cmp .le (.sub (.var 6) (.var 13)) (.lit 3500)) (.ob (.and (.cmp .le (.lit (-9223372036854775808)) (.add (.var 0) (.mul (.var 6) (.var 7)))) (.cmp .le (.add (.var 0) (.mul (.var 6) (.var 7))) (.lit 9223372036854775807))) (.ob (.and (.cmp .le (.lit (-9223372036854775808)) (.add (.var 1) (.mul (.var 6) (.var 7)))) (.cmp .le (.add (.var 1) (.mul (.var 6) (.var 7))) (.lit 9223372036854775807))) (.ob (.and (.cmp .le (.lit (-9223372036854775808)) (.sub (.lit 0) (.var 11))) (.cmp .le (.sub (.lit 0) (.var 11)) (.lit 9223372036854775807))) (.ob (.and (.cmp .le (.lit (-9223372036854775808)) (.add (.var 6) (.var 12))) (.cmp .le (.add (.var 6) (.var 12)) (.lit 9223372036854775807))) (.ob (.and (.cmp .le (.lit (-9223372036854775808)) (.sub (.var 6) (.var 13))) (.cmp .le (.sub (.var 6) (.var 13)) (.lit 9223372036854775807))) (.ret [(.int (.add (.var 0) (.mul (.var 6) (.var 7)))), (.int (.add (.var 1) (.mul (.var 6) (.var 7)))), (.int (.var 10)), (.int (.sub (.lit 0) (.var 11))), (.int (.add (.var 6) (.var 12))), (.int (.sub (.var 6) (.var 13))), (.int (.lit 1)), (.int (.lit 0))])))))) (.split (.cmp .le (.lit 9000) (.add (.var 6) (.var 12))) (.ob (.and (.cmp .le (.lit (-9223372036854775808)) (.add (.var 0) (.mul (.var 6) (.var 7)))) (.cmp .le (.add (.var 0) (.mul (.var 6) (.var 7))) (.lit 9223372036854775807))) (.ob (.and (.cmp .le (.lit (-9223372036854775808)) (.add (.var 1) (.mul (.var 6) (.var 7)))) (.cmp .le (.add (.var 1) (.mul (.var 6) (.var 7))) (.lit 9223372036854775807))) (.ob (.and (.cmp .le (.lit (-9223372036854775808)) (.sub (.lit 0) (.var 11))) (.cmp .le (.sub (.lit 0) (.var 11)) (.lit 9223372036854775807))) (.ob (.and (.cmp .le (.lit (-9223372036854775808)) (.add (.var 6) (.var 12))) (.cmp .le (.add (.var 6) (.var 12)) (.lit 9223372036854775807))) (.ob (.and (.cmp .le (.lit (-9223372036854775808)) (.sub (.var 6) (.var 13))) (.cmp .le (.sub (.var 6) (.var 13)) (.lit 9223372036854775807))) (.ret [(.int (.add (.var 0) (.mul (.var 6) (.var 7)))), (.int (.add (.var 1) (.mul (.var 6) (.var 7)))), (.int (.var 10)), (.int (.sub (.lit 0) (.var 11))), (.int (.add (.var 6) (.var 12))), (.int (.sub (.var 6) (.var 13))), (.int (.lit 3)), (.int (.lit 0))])))))) (.split (.cmp .le (.lit 3501) (.add (.var 6) (.var 12))) (.split (.cmp .le (.sub (.var 6) (.var 13)) (.lit 8999)) (.ob (.and (.cmp .le (.lit (-9223372036854775808)) (.add (.var 0) (.mul (.var 6) (.var 7)))) (.cmp .le (.add (.var 0) (.mul (.var 6) (.var 7))) (.lit 9223372036854775807))) (.ob (.and (.cmp .le (.lit (-9223372036854775808)) (.add (.var 1) (.mul (.var 6) (.var 7)))) (.cmp .le (.add (.var 1) (.mul (.var 6) (.var 7))) (.lit 9223372036854775807))) (.ob (.and (.cmp .le (.lit (-9223372036854775808)) (.sub (.lit 0) (.var 11))) (.cmp .le (.sub (.lit 0) (.var 11)) (.lit 9223372036854775807))) (.ob (.and (.cmp .le (.lit (-9223372036854775808)) (.add (.var 6) (.var 12))) (.cmp .le (.add (.var 6) (.var 12)) (.lit 9223372036854775807))) (.ob (.and (.cmp .le (.lit (-9223372036854775808)) (.sub (.var 6) (.var 13))) (.cmp .le (.sub (.var 6) (.var 13)) (.lit 9223372036854775807))) (.ret [(.int (.add (.var 0) (.mul (.var 6) (.var 7)))), (.int (.add (.var 1) (.mul (.var 6) (.var 7)))), (.int (.var 10)), (.int (.sub (.lit 0) (.var 11))), (.int (.add (.var 6) (.var 12))), (.int (.sub (.var 6) (.var 13))), (.int (.lit 2)), (.int (.lit 0))])))))) (.ob (.and (.cmp .le (.lit (-9223372036854775808)) (.add (.var 0) (.mul (.var 6) (.var 7)))) (.cmp .le (.add (.var 0) (.mul (.var 6) (.var 7))) (.lit 9223372036854775807))) (.ob (.and (.cmp .le (.lit (-9223372036854775808)) (.add (.var 1) (.mul (.var 6) (.var 7)))) (.cmp .le (.add (.var 1) (.mul (.var 6) (.var 7))) (.lit 9223372036854775807))) (.ob (.and (.cmp .le (.lit (-9223372036854775808)) (.sub (.lit 0) (.var 11))) (.cmp .le (.sub (.lit 0) (.var 11)) (.lit 9223372036854775807))) (.ob (.and (.cmp .le (.lit (-9223372036854775808)) (.add (.var 6) (.var 12))) (.cmp .le (.add (.var 6) (.var 12)) (.lit 9223372036854775807))) (.ob (.and (.cmp .le (.lit (-9223372036854775808)) (.sub (.var 6) (.var 13))) (.cmp .le (.sub (.var 6) (.var 13)) (.lit 9223372036854775807))) (.ret [(.int (.add (.var 0) (.mul (.var 6) (.var 7)))), (.int (.add (.var 1) (.mul (.var 6) (.var 7)))), (.int (.var 10)), (.int (.sub (.lit 0) (.var 11))), (.int (.add (.var 6) (.var 12))), (.int (.sub (.var 6) (.var 13))), (.int (.lit 4)), (.int (.lit 0))]))))))) (.ob (.and (.cmp .le (.lit (-9223372036854775808)) (.add (.var 0) (.mul (.var 6) (.var 7)))) (.cmp .le (.add (.var 0) (.mul (.var 6) (.var 7))) (.lit 9223372036854775807))) (.ob (.and (.cmp .le (.lit (-9223372036854775808)) (.add (.var 1) (.mul (.var 6) (.var 7)))) (.cmp .le (.add (.var 1) (.mul (.var 6) (.var 7))) (.lit 9223372036854775807))) (.ob (.and (.cmp .le (.lit (-9223372036854775808)) (.sub (.lit 0) (.var 11))) (.cmp .le (.sub (.lit 0) (.var 11)) (.lit 9223372036854775807))) (.ob (.and (.cmp .le (.lit (-9223372036854775808)) (.add (.var 6) (.var 12))) (.cmp .le (.add (.var 6) (.var 12)) (.lit 9223372036854775807))) (.ob (.and (.cmp .le (.lit (-9223372036854775808)) (.sub (.var 6) (.var 13))) (.cmp .le (.sub (.var 6) (.var 13)) (.lit 9223372036854775807))) (.ret [(.int (.add (.var 0) (.mul (.var 6) (.var 7)))), (.int (.add (.var 1) (.mul (.var 6) (.var 7)))), (.int (.var 10)), (.int (.sub (.lit 0) (.var 11))), (.int (.add (.var 6) (.var 12))), (.int (.sub (.var 6) (.var 13))), (.int (.lit 4)), (.int (.lit 0))]))))))))))))))))))))))))))))
noncomputable def cfinds : Cx := tab.only [31, 32, 19] (fun _ => []) [] 0 []
def tfinds : Tree :=
  (.call 31 [(.int (.var 0)), (.int (.var 1)), (.int (.var 2)), (.int (.var 3)), (.int (.var 4)), (.int (.var 5)), (.int (.var 6)), (.int (.var 7)), (.int (.var 8))] (.call 32 [(.int (.var 0)), (.int (.var 1)), (.int (.var 2)), (.int (.var 3)), (.int (.var 4)), (.int (.var 5)), (.int (.var 6)), (.int (.var 7)), (.int (.var 8))] (.split (.and (.and (.cmp .eq (.var 9) (.var 17)) (.cmp .eq (.var 10) (.var 18))) (.and (.and (.cmp .eq (.var 11) (.var 19)) (.cmp .eq (.var 12) (.var 20))) (.and (.and (.cmp .eq (.var 13) (.var 21)) (.cmp .eq (.var 14) (.var 22))) (.cmp .eq (.var 15) (.var 23))))) (.split (.cmp .eq (.var 16) (.var 24)) (.call 19 [] (.ret [(.bool (.of (.var 25)))])) (.ret [(.bool (.lit false))])) (.ret [(.bool (.lit false))]))))
end Go.Proofs.Ytlbgcjpkegpmlaa
/- Plain arithmetic. -/
namespace Go.Proofs.Ytlbgcjpkegpmlaa
theorem ediv_bd {a b : Int} (hb : 0 < b) : (0 ≤ a → 0 ≤ a / b ∧ a / b ≤ a) ∧ (a < 0 → a ≤ a / b ∧ a / b < 0) := by
  have h1 := Int.mul_ediv_add_emod a b
  have h2 := Int.emod_nonneg a (by omega : b ≠ 0)
  have h3 := Int.emod_lt_of_pos a hb
  refine ⟨fun h => ⟨Int.ediv_nonneg h (by omega), Int.ediv_le_self _ h⟩, fun h => ⟨?_, Int.ediv_neg_of_neg_of_pos h hb⟩⟩
  have h4 : a / b < 0 := Int.ediv_neg_of_neg_of_pos h hb
  have h5 : (b - 1) * (a / b) ≤ (b - 1) * (-1) := Int.mul_le_mul_of_nonneg_left (by omega) (by omega)
  rw [Int.sub_mul] at h5
  omega
theorem tdiv_floor {a b : Int} (hb : 0 < b) : (a.tmod b < 0 → a.tdiv b = a / b + 1) ∧ (0 ≤ a.tmod b → a.tdiv b = a / b) := by
  have h1 := Int.mul_tdiv_add_tmod a b
  have h2 := Int.mul_ediv_add_emod a b
  have h3 := Int.emod_nonneg a (by omega : b ≠ 0)
  have h4 := Int.emod_lt_of_pos a hb
  have h5 : (a.tmod b).natAbs < b.natAbs := by rw [Int.natAbs_tmod]; exact Nat.mod_lt _ (by omega)
  have e : b * (a.tdiv b) - b * (a / b) = b * (a.tdiv b - a / b) := by rw [Int.mul_sub]
  constructor
  · intro h
    have h6 : b * (a.tdiv b - a / b) = a % b - a.tmod b := by omega
    have h7 : 0 < b * (a.tdiv b - a / b) := by omega
    have h8 : b * (a.tdiv b - a / b) < b * 2 := by omega
    have h9 : 0 < a.tdiv b - a / b := by
      rcases Int.lt_or_le 0 (a.tdiv b - a / b) with h | h
      · exact h
      · have := Int.mul_le_mul_of_nonneg_left h (by omega : 0 ≤ b); omega
    have h10 := Int.lt_of_mul_lt_mul_left h8 (by omega)
    omega
  · intro h
    have h6 : b * (a.tdiv b - a / b) = a % b - a.tmod b := by omega
    have h8 : b * (a.tdiv b - a / b) < b * 1 := by omega
    have h9 : b * (-1) < b * (a.tdiv b - a / b) := by omega
    have h10 := Int.lt_of_mul_lt_mul_left h8 (by omega)
    have h11 := Int.lt_of_mul_lt_mul_left h9 (by omega)
    omega
theorem mul_bd {a b A B : Int} (h1 : 0 ≤ a) (h2 : a ≤ A) (h3 : 0 ≤ b) (h4 : b ≤ B) : 0 ≤ a * b ∧ a * b ≤ A * B :=
  ⟨Int.mul_nonneg h1 h3, Int.mul_le_mul h2 h4 h3 (by omega)⟩
end Go.Proofs.Ytlbgcjpkegpmlaa
/- What the functions of chapter 6's first statements compute: proved. -/
namespace Go.Proofs.Ytlbgcjpkegpmlaa
open Go.RowKit
set_option linter.unusedSimpArgs false
set_option linter.unusedVariables false

theorem floor_ok : tab.ok 72 := by
  refine Tab.of_ct rfl rfl ⟨_, Try.func72, by decide, rfl⟩ ?_ ctF_det
  refine ct_ok (cx := cfloor) (Tab.cx_ok all_nil) Try.func72 (bds := []) (T := tfloor) (by kernel_rfl) ?_
  unfold tfloor
  simp only [VC, allC, List.map_cons, List.map_nil, List.length_cons, List.length_nil, List.getElem?_cons_zero, List.getElem?_cons_succ, List.cons.injEq, C.i.injEq, C.b.injEq, and_true, true_and, forall_const, kindsOf_nil, kindsOf_lf, kindsOf_agg, kindsOf_box, boxKinds_nil, boxKinds_lf, boxKinds_agg, boxKinds_box, List.append_nil, List.cons_append, List.nil_append, den_cmp_le, den_cmp_lt, den_cmp_eq, den_cmp_ne, den_cmp_le', den_cmp_lt', den_cmp_eq', den_cmp_ne', den_and, den_and', den_or, den_or', den_not, den_not', den_blit, den_of, ev_var, at_0, at_1, at_2, at_3, at_4, at_5, at_6, at_7, at_skip, c_int, c_bool, c_arr, c_cnt, c_vec, ev_nil, ev_join, ev_sub3, loc_s, int_i, bool_b, rows_s, cs_nil, cs_cons, E.den_lit, E.den_var, E.den_add, E.den_sub, E.den_mul, E.den_quo, E.den_rem, E.den_max, E.den_min, E.den_len, E.den_wr, E.den_cell, ctFloor, ctF]; intro a h1 h2 b h3 h4 hb; obtain ⟨f1, f2⟩ := tdiv_floor (a := a) hb; obtain ⟨g1, g2⟩ := ediv_bd (a := a) hb; have f3 : a.tmod b < 0 ∨ 0 ≤ a.tmod b := (by omega); have f4 : 0 ≤ a → 0 ≤ a.tmod b := fun h => Int.tmod_nonneg b h
  refine ⟨bds_nil _, ?_⟩
  omega
theorem rfloor_ok : tab.ok 74 := by
  refine Tab.of_ct rfl rfl ⟨_, Try.func74, by decide, rfl⟩ ?_ ctF_det
  refine ct_ok (cx := crfloor) (Tab.cx_ok all_nil) Try.func74 (bds := []) (T := trfloor) (by kernel_rfl) ?_
  unfold trfloor
  simp only [VC, allC, List.map_cons, List.map_nil, List.length_cons, List.length_nil, List.getElem?_cons_zero, List.getElem?_cons_succ, List.cons.injEq, C.i.injEq, C.b.injEq, and_true, true_and, forall_const, kindsOf_nil, kindsOf_lf, kindsOf_agg, kindsOf_box, boxKinds_nil, boxKinds_lf, boxKinds_agg, boxKinds_box, List.append_nil, List.cons_append, List.nil_append, den_cmp_le, den_cmp_lt, den_cmp_eq, den_cmp_ne, den_cmp_le', den_cmp_lt', den_cmp_eq', den_cmp_ne', den_and, den_and', den_or, den_or', den_not, den_not', den_blit, den_of, ev_var, at_0, at_1, at_2, at_3, at_4, at_5, at_6, at_7, at_skip, c_int, c_bool, c_arr, c_cnt, c_vec, ev_nil, ev_join, ev_sub3, loc_s, int_i, bool_b, rows_s, cs_nil, cs_cons, E.den_lit, E.den_var, E.den_add, E.den_sub, E.den_mul, E.den_quo, E.den_rem, E.den_max, E.den_min, E.den_len, E.den_wr, E.den_cell, ctFloor, ctF]; intro a h1 h2 b h3 h4 hb; obtain ⟨f1, f2⟩ := tdiv_floor (a := a) hb; obtain ⟨g1, g2⟩ := ediv_bd (a := a) hb; have f3 : a.tmod b < 0 ∨ 0 ≤ a.tmod b := (by omega); have f4 : 0 ≤ a → 0 ≤ a.tmod b := fun h => Int.tmod_nonneg b h
  refine ⟨bds_nil _, ?_⟩
  omega
theorem within_ct : CtOK Try.prog 68 ctWithin := by
  refine ct_ok (cx := cwithin) (Tab.cx_ok all_nil) Try.func68 (bds := []) (T := twithin) (by kernel_rfl) ?_
  unfold twithin
  simp only [VC, allC, List.map_cons, List.map_nil, List.length_cons, List.length_nil, List.getElem?_cons_zero, List.getElem?_cons_succ, List.cons.injEq, C.i.injEq, C.b.injEq, and_true, true_and, forall_const, kindsOf_nil, kindsOf_lf, kindsOf_agg, kindsOf_box, boxKinds_nil, boxKinds_lf, boxKinds_agg, boxKinds_box, List.append_nil, List.cons_append, List.nil_append, den_cmp_le, den_cmp_lt, den_cmp_eq, den_cmp_ne, den_cmp_le', den_cmp_lt', den_cmp_eq', den_cmp_ne', den_and, den_and', den_or, den_or', den_not, den_not', den_blit, den_of, ev_var, at_0, at_1, at_2, at_3, at_4, at_5, at_6, at_7, at_skip, c_int, c_bool, c_arr, c_cnt, c_vec, ev_nil, ev_join, ev_sub3, loc_s, int_i, bool_b, rows_s, cs_nil, cs_cons, E.den_lit, E.den_var, E.den_add, E.den_sub, E.den_mul, E.den_quo, E.den_rem, E.den_max, E.den_min, E.den_len, E.den_wr, E.den_cell, ctWithin, ctF]; intro n h1 h2 a h3 h4 b h5 h6; refine ⟨bds_nil _, fun h => (by simp [B.den, Cmp.den, E.den_var, at_zero, at_succ, int_i, h] <;> rfl), fun h => (by have h' := Int.not_le.2 h; simp [B.den, h'])⟩
theorem between_ct : CtOK Try.prog 69 ctWithin := by
  refine ct_ok (cx := cbetween) (Tab.cx_ok all_nil) Try.func69 (bds := []) (T := tbetween) (by kernel_rfl) ?_
  unfold tbetween
  simp only [VC, allC, List.map_cons, List.map_nil, List.length_cons, List.length_nil, List.getElem?_cons_zero, List.getElem?_cons_succ, List.cons.injEq, C.i.injEq, C.b.injEq, and_true, true_and, forall_const, kindsOf_nil, kindsOf_lf, kindsOf_agg, kindsOf_box, boxKinds_nil, boxKinds_lf, boxKinds_agg, boxKinds_box, List.append_nil, List.cons_append, List.nil_append, den_cmp_le, den_cmp_lt, den_cmp_eq, den_cmp_ne, den_cmp_le', den_cmp_lt', den_cmp_eq', den_cmp_ne', den_and, den_and', den_or, den_or', den_not, den_not', den_blit, den_of, ev_var, at_0, at_1, at_2, at_3, at_4, at_5, at_6, at_7, at_skip, c_int, c_bool, c_arr, c_cnt, c_vec, ev_nil, ev_join, ev_sub3, loc_s, int_i, bool_b, rows_s, cs_nil, cs_cons, E.den_lit, E.den_var, E.den_add, E.den_sub, E.den_mul, E.den_quo, E.den_rem, E.den_max, E.den_min, E.den_len, E.den_wr, E.den_cell, ctWithin, ctF]; intro n h1 h2 a h3 h4 b h5 h6; refine ⟨bds_nil _, fun h => (by simp [B.den, Cmp.den, E.den_var, at_zero, at_succ, int_i, h] <;> rfl), fun h => (by have h' := Int.not_le.2 h; simp [B.den, h'])⟩
theorem fair_ct : CtOK Try.prog 71 ctFair := by
  refine ct_ok (cx := cfair) (Tab.cx_ok all_nil) Try.func71 (bds := []) (T := tfair) (by kernel_rfl) ?_
  unfold tfair
  simp only [VC, allC, List.map_cons, List.map_nil, List.length_cons, List.length_nil, List.getElem?_cons_zero, List.getElem?_cons_succ, List.cons.injEq, C.i.injEq, C.b.injEq, and_true, true_and, forall_const, kindsOf_nil, kindsOf_lf, kindsOf_agg, kindsOf_box, boxKinds_nil, boxKinds_lf, boxKinds_agg, boxKinds_box, List.append_nil, List.cons_append, List.nil_append, den_cmp_le, den_cmp_lt, den_cmp_eq, den_cmp_ne, den_cmp_le', den_cmp_lt', den_cmp_eq', den_cmp_ne', den_and, den_and', den_or, den_or', den_not, den_not', den_blit, den_of, ev_var, at_0, at_1, at_2, at_3, at_4, at_5, at_6, at_7, at_skip, c_int, c_bool, c_arr, c_cnt, c_vec, ev_nil, ev_join, ev_sub3, loc_s, int_i, bool_b, rows_s, cs_nil, cs_cons, E.den_lit, E.den_var, E.den_add, E.den_sub, E.den_mul, E.den_quo, E.den_rem, E.den_max, E.den_min, E.den_len, E.den_wr, E.den_cell, ctFair, ctF]
  intro lo h1 h2 hi h3 h4 a h5 h6 b h7 h8
  refine ⟨bds_nil _, fun h => ⟨fun h' => ?_, fun h' => ?_⟩, fun h => ?_⟩
  · simp [B.den, Cmp.den, E.den_var, at_zero, at_succ, int_i, h, h'] <;> rfl
  · have h2 := Int.not_le.2 h'; simp [B.den, h2]
  · have h2 := Int.not_le.2 h; simp [B.den, h2]
theorem withinI_ok {f : Nat} (hf : CtOK Try.prog f ctWithin) : InlOK Try.prog f withinI := by
  refine Inl.of_ct hf fun bd ρ l obs s h hn ho => ?_
  unfold withinI at h
  split at h
  · cases h
    refine ⟨rfl, rfl, ho, trivial, rfl, rfl, ?_⟩
    simp [cs_, cellsOf, S0.cellsM, S0.cells, Lf.c, B.den, B.den_mkCmp hn, Cmp.den]
  · cases h
theorem fairI_ok {f : Nat} (hf : CtOK Try.prog f ctFair) : InlOK Try.prog f fairI := by
  refine Inl.of_ct hf fun bd ρ l obs s h hn ho => ?_
  unfold fairI at h
  split at h
  · cases h
    refine ⟨rfl, rfl, ho, trivial, rfl, rfl, ?_⟩
    simp [cs_, cellsOf, S0.cellsM, S0.cells, Lf.c, B.den, B.den_mkCmp hn, Cmp.den]
  · cases h
theorem within_ok : tab.ok 68 := Tab.of_inl rfl rfl ⟨_, Try.func68, by decide, rfl⟩ (withinI_ok within_ct)
theorem between_ok : tab.ok 69 := Tab.of_inl rfl rfl ⟨_, Try.func69, by decide, rfl⟩ (withinI_ok between_ct)
theorem fair_ok : tab.ok 71 := Tab.of_inl rfl rfl ⟨_, Try.func71, by decide, rfl⟩ (fairI_ok fair_ct)
theorem shut_ok : tab.ok 73 := by
  refine Tab.of_ct rfl rfl ⟨_, Try.func73, by decide, rfl⟩ ?_ ctF_det
  refine ct_ok (cx := cshut) (Tab.cx_ok (all_cons ?_ all_nil)) Try.func73 (bds := []) (T := tshut) (by kernel_rfl) ?_
  · exact between_ok
  · unfold tshut
    simp only [VC, allC, List.map_cons, List.map_nil, List.length_cons, List.length_nil, List.getElem?_cons_zero, List.getElem?_cons_succ, List.cons.injEq, C.i.injEq, C.b.injEq, and_true, true_and, forall_const, kindsOf_nil, kindsOf_lf, kindsOf_agg, kindsOf_box, boxKinds_nil, boxKinds_lf, boxKinds_agg, boxKinds_box, List.append_nil, List.cons_append, List.nil_append, den_cmp_le, den_cmp_lt, den_cmp_eq, den_cmp_ne, den_cmp_le', den_cmp_lt', den_cmp_eq', den_cmp_ne', den_and, den_and', den_or, den_or', den_not, den_not', den_blit, den_of, ev_var, at_0, at_1, at_2, at_3, at_4, at_5, at_6, at_7, at_skip, c_int, c_bool, c_arr, c_cnt, c_vec, ev_nil, ev_join, ev_sub3, loc_s, int_i, bool_b, rows_s, cs_nil, cs_cons, E.den_lit, E.den_var, E.den_add, E.den_sub, E.den_mul, E.den_quo, E.den_rem, E.den_max, E.den_min, E.den_len, E.den_wr, E.den_cell, ctShut, ctF, shutSh]
    intro pl _ _ ph _ _ cl _ _ ch _ _ gl _ _ gh _ _ we _ _ de _ _ ar _ _
    refine ⟨bds_nil _, fun v => ⟨fun xs => match xs with | [.i r, .i k] => r = 0 ∧ 0 ≤ k ∧ k ≤ 2 ∧ (0 < k → 0 ≤ pl ∧ pl ≤ ph ∧ ph ≤ 68719476736) ∧ (1 < k → 0 ≤ cl ∧ cl ≤ ch ∧ ch ≤ 68719476736) | _ => False,
      fun xs => match xs with | [_, .i k] => (2 - k).toNat | _ => 0, ⟨rfl, by omega, by omega, by omega, by omega⟩, ?_⟩⟩
    rintro r _ _ k _ _ ⟨rfl, k0, k2, p1, p2⟩
    have no : ¬ ShutOK pl ph cl ch gl gh we de ar → 2 = shutE pl ph cl ch gl gh we de ar := fun h => by simp [shutE, h]
    unfold ShutOK at no
    refine ⟨fun hk => ?_, fun hk => ?_⟩
    · rcases (by omega : k = 0 ∨ k = 1) with rfl | rfl <;> simp [cell_at, int_i] <;> exact ⟨fun h => no (by omega), fun h1 => ⟨fun h => no (by omega), fun h2 => ⟨fun h => no (by omega), by omega⟩⟩⟩
    · have hp1 := p1 (by omega)
      have hp2 := p2 (by omega)
      refine ⟨fun h => no (by omega), fun h1 => ⟨fun h => no (by omega), fun h2 => ⟨fun h => no (by omega), fun h3 => ⟨fun h => no (by omega), fun h4 => ⟨fun h => no (by omega), fun h5 => ⟨fun h => no (by omega), fun h6 => ?_⟩⟩⟩⟩⟩⟩
      have yes : ShutOK pl ph cl ch gl gh we de ar := by unfold ShutOK; omega
      refine ⟨fun h => ?_, fun h => ?_⟩
      · simp [shutE, yes, h]
      · simp [shutE, yes]; omega
end Go.Proofs.Ytlbgcjpkegpmlaa
/- Identify, of the program and of the reference. -/
namespace Go.Proofs.Ytlbgcjpkegpmlaa
open Go.RowKit
set_option linter.unusedSimpArgs false
set_option linter.unusedVariables false

theorem div_ge {a b : Int} (hb : 0 < b) (h : b ≤ a) : 1 ≤ a / b := Int.le_ediv_of_mul_le hb (by omega)
theorem neg_floor {g a : Int} (ha : 0 < a) : -(-g / a) = (g + a - 1) / a := by
  have h1 := Int.mul_ediv_add_emod (-g) a
  have h2 := Int.emod_nonneg (-g) (by omega : a ≠ 0)
  have h3 := Int.emod_lt_of_pos (-g) ha
  have h4 : g + a - 1 = a * (-(-g / a)) + (a - 1 - (-g) % a) := by rw [Int.mul_neg]; omega
  have h5 : (a - 1 - (-g) % a + a * (-(-g / a))) / a = (a - 1 - (-g) % a) / a + -(-g / a) := Int.add_mul_ediv_left _ _ (by omega : a ≠ 0)
  have h6 : (a - 1 - (-g) % a) / a = 0 := Int.ediv_eq_zero_of_lt (by omega) (by omega)
  rw [h4, Int.add_comm, h5, h6]
  omega
theorem identL_no {pl ph cl ch gl gh we de ar e : Int} (h : shutE pl ph cl ch gl gh we de ar = e) (he : e ≠ 0) : [C.i 0, C.i 0, C.i 0, C.i 0, C.i 0, C.i 0, C.i 0, C.i e] = identL pl ph cl ch gl gh we de ar := by
  unfold identL
  rw [if_neg (by omega), h]
theorem identL_yes {pl ph cl ch gl gh we de ar a b c d e f k : Int} (h : shutE pl ph cl ch gl gh we de ar = 0) (ha : a = pl + we * de) (hb : b = ph + we * de) (hc : c = gl / ar) (hd : d = (gh + ar - 1) / ar)
    (he : e = we + (pl - ch) / (gl / ar)) (hf : f = we - (cl - ph) / ((gh + ar - 1) / ar)) (hk : k = kindW e f) : [C.i a, C.i b, C.i c, C.i d, C.i e, C.i f, C.i k, C.i 0] = identL pl ph cl ch gl gh we de ar := by
  unfold identL
  rw [if_pos h]
  subst ha hb hc hd he hf hk
  rfl
theorem shutE_2 {pl ph cl ch gl gh we de ar : Int} (h : ¬ ShutOK pl ph cl ch gl gh we de ar) : shutE pl ph cl ch gl gh we de ar = 2 := by unfold shutE; rw [if_neg h]
theorem shutE_11 {pl ph cl ch gl gh we de ar : Int} (h : ShutOK pl ph cl ch gl gh we de ar) (h' : cl < ph) : shutE pl ph cl ch gl gh we de ar = 11 := by unfold shutE; rw [if_pos h, if_pos h']
theorem shutE_0 {pl ph cl ch gl gh we de ar : Int} (h : ShutOK pl ph cl ch gl gh we de ar) (h' : ph ≤ cl) : shutE pl ph cl ch gl gh we de ar = 0 := by unfold shutE; rw [if_pos h, if_neg (by omega)]
theorem ident_ok : tab.ok 31 := by
  refine Tab.of_ct rfl rfl ⟨_, Try.func31, by decide, rfl⟩ ?_ ctF_det
  refine ct_ok (cx := cident) (Tab.cx_ok (all_cons fair_ok (all_cons within_ok (all_cons floor_ok all_nil)))) Try.func31 (bds := []) (T := tident) (by kernel_rfl) ?_
  unfold tident
  simp only [VC, allC, List.map_cons, List.map_nil, List.length_cons, List.length_nil, List.getElem?_cons_zero, List.getElem?_cons_succ, List.cons.injEq, C.i.injEq, C.b.injEq, and_true, true_and, forall_const, kindsOf_nil, kindsOf_lf, kindsOf_agg, kindsOf_box, boxKinds_nil, boxKinds_lf, boxKinds_agg, boxKinds_box, List.append_nil, List.cons_append, List.nil_append, den_cmp_le, den_cmp_lt, den_cmp_eq, den_cmp_ne, den_cmp_le', den_cmp_lt', den_cmp_eq', den_cmp_ne', den_and, den_and', den_or, den_or', den_not, den_not', den_blit, den_of, ev_var, at_0, at_1, at_2, at_3, at_4, at_5, at_6, at_7, at_skip, c_int, c_bool, c_arr, c_cnt, c_vec, ev_nil, ev_join, ev_sub3, loc_s, int_i, bool_b, rows_s, cs_nil, cs_cons, E.den_lit, E.den_var, E.den_add, E.den_sub, E.den_mul, E.den_quo, E.den_rem, E.den_max, E.den_min, E.den_len, E.den_wr, E.den_cell, ctIdent, ctF, shutSh, ingSh, show cident.ct 72 = some ctFloor from rfl, ctFloor]
  intro pl _ _ ph _ _ cl _ _ ch _ _ gl _ _ gh _ _ we _ _ de _ _ ar _ _
  have no : ¬ ShutOK pl ph cl ch gl gh we de ar → [C.i 0, C.i 0, C.i 0, C.i 0, C.i 0, C.i 0, C.i 0, C.i 2] = identL pl ph cl ch gl gh we de ar := fun h => identL_no (shutE_2 h) (by omega)
  unfold ShutOK at no
  refine ⟨bds_nil _, fun h => no (by omega), fun h1 => ⟨fun h => no (by omega), fun h2 => ⟨fun h => no (by omega), fun h3 => ⟨fun h => no (by omega), fun h4 => ⟨fun h => no (by omega), fun h5 => ⟨fun h => no (by omega), fun h6 => ?_⟩⟩⟩⟩⟩⟩
  have yes : ShutOK pl ph cl ch gl gh we de ar := by unfold ShutOK; omega
  clear no
  refine ⟨fun h => identL_no (shutE_11 yes h) (by omega), fun h7 => ?_⟩
  have m := mul_bd (a := we) (b := de) (A := 40000) (B := 1048576) (by omega) (by omega) (by omega) (by omega)
  have t1 : gl.tdiv ar = gl / ar := Int.tdiv_eq_ediv_of_nonneg (by omega)
  have t2 : (gh + ar - 1).tdiv ar = (gh + ar - 1) / ar := Int.tdiv_eq_ediv_of_nonneg (by omega)
  rw [t1, t2]
  have d1 := div_ge (a := gl) (b := ar) (by omega) (by omega)
  have d2 := div_ge (a := gh + ar - 1) (b := ar) (by omega) (by omega)
  have q1 := ediv_bd (a := pl - ch) (b := gl / ar) (by omega)
  have q2 := ediv_bd (a := cl - ph) (b := (gh + ar - 1) / ar) (by omega)
  have res := fun a b c d e f k => @identL_yes pl ph cl ch gl gh we de ar a b c d e f k (shutE_0 yes h7)
  refine ⟨by omega, by omega, ?_⟩
  rintro n _ _ rfl
  refine ⟨by omega, by omega, ?_⟩
  rintro n _ _ rfl
  refine ⟨by omega, fun k1 => ⟨by omega, by omega, by omega, res _ _ _ _ _ _ _ rfl rfl rfl rfl rfl rfl ?_⟩, fun k1 => ⟨fun k2 => ⟨by omega, by omega, by omega, res _ _ _ _ _ _ _ rfl rfl rfl rfl rfl rfl ?_⟩,
    fun k2 => ⟨fun k3 => ⟨fun k4 => ⟨by omega, by omega, by omega, res _ _ _ _ _ _ _ rfl rfl rfl rfl rfl rfl ?_⟩, fun k4 => ⟨by omega, by omega, by omega, res _ _ _ _ _ _ _ rfl rfl rfl rfl rfl rfl ?_⟩⟩, fun k3 => ⟨by omega, by omega, by omega, res _ _ _ _ _ _ _ rfl rfl rfl rfl rfl rfl ?_⟩⟩⟩⟩
  all_goals (unfold kindW; repeat' split)
  all_goals omega
theorem rident_ok : tab.ok 32 := by
  refine Tab.of_ct rfl rfl ⟨_, Try.func32, by decide, rfl⟩ ?_ ctF_det
  refine ct_ok (cx := crident) (Tab.cx_ok (all_cons shut_ok (all_cons rfloor_ok all_nil))) Try.func32 (bds := []) (T := trident) (by kernel_rfl) ?_
  unfold trident
  simp only [VC, allC, List.map_cons, List.map_nil, List.length_cons, List.length_nil, List.getElem?_cons_zero, List.getElem?_cons_succ, List.cons.injEq, C.i.injEq, C.b.injEq, and_true, true_and, forall_const, kindsOf_nil, kindsOf_lf, kindsOf_agg, kindsOf_box, boxKinds_nil, boxKinds_lf, boxKinds_agg, boxKinds_box, List.append_nil, List.cons_append, List.nil_append, den_cmp_le, den_cmp_lt, den_cmp_eq, den_cmp_ne, den_cmp_le', den_cmp_lt', den_cmp_eq', den_cmp_ne', den_and, den_and', den_or, den_or', den_not, den_not', den_blit, den_of, ev_var, at_0, at_1, at_2, at_3, at_4, at_5, at_6, at_7, at_skip, c_int, c_bool, c_arr, c_cnt, c_vec, ev_nil, ev_join, ev_sub3, loc_s, int_i, bool_b, rows_s, cs_nil, cs_cons, E.den_lit, E.den_var, E.den_add, E.den_sub, E.den_mul, E.den_quo, E.den_rem, E.den_max, E.den_min, E.den_len, E.den_wr, E.den_cell, ctIdent, ctF, shutSh, ingSh, show crident.ct 74 = some ctFloor from rfl, ctFloor, show crident.ct 73 = some ctShut from rfl, ctShut]
  intro pl _ _ ph _ _ cl _ _ ch _ _ gl _ _ gh _ _ we _ _ de _ _ ar _ _
  refine ⟨bds_nil _, ?_⟩
  rintro e _ _ rfl
  refine ⟨fun h => identL_no rfl h, fun h0 => ?_⟩
  have yes : ShutOK pl ph cl ch gl gh we de ar ∧ ph ≤ cl := by
    unfold shutE at h0
    split at h0
    · split at h0
      · omega
      · exact ⟨by assumption, by omega⟩
    · omega
  obtain ⟨yes', h7⟩ := yes
  have res := fun a b c d e f k => @identL_yes pl ph cl ch gl gh we de ar a b c d e f k (shutE_0 yes' h7)
  unfold ShutOK at yes'
  have m := mul_bd (a := we) (b := de) (A := 40000) (B := 1048576) (by omega) (by omega) (by omega) (by omega)
  have nf := neg_floor (g := gh) (a := ar) (by omega)
  rw [← Int.zero_sub gh] at nf
  have d1 := div_ge (a := gl) (b := ar) (by omega) (by omega)
  have d2 := div_ge (a := gh + ar - 1) (b := ar) (by omega) (by omega)
  have q1 := ediv_bd (a := pl - ch) (b := gl / ar) (by omega)
  have q2 := ediv_bd (a := cl - ph) (b := (gh + ar - 1) / ar) (by omega)
  have q3 := (ediv_bd (a := gh + ar - 1) (b := ar) (by omega)).1 (by omega)
  refine ⟨by omega, by omega, by omega, by omega, ?_⟩
  rintro n _ _ rfl
  refine ⟨by omega, by omega, by omega, ?_⟩
  intro n1 _ _ e1
  have e2 : 0 - n1 = (gh + ar - 1) / ar := by rw [e1]; omega
  rw [e2]
  refine ⟨by omega, by omega, by omega, by omega, ?_⟩
  rintro n2 _ _ rfl
  refine ⟨by omega, by omega, by omega, by omega, by omega, ?_⟩
  rintro n3 _ _ rfl
  refine ⟨by omega, fun k1 => ⟨by omega, by omega, by omega, by omega, by omega, res _ _ _ _ _ _ _ rfl rfl rfl rfl rfl rfl ?_⟩, fun k1 => ⟨fun k2 => ⟨by omega, by omega, by omega, by omega, by omega, res _ _ _ _ _ _ _ rfl rfl rfl rfl rfl rfl ?_⟩,
    fun k2 => ⟨fun k3 => ⟨fun k4 => ⟨by omega, by omega, by omega, by omega, by omega, res _ _ _ _ _ _ _ rfl rfl rfl rfl rfl rfl ?_⟩, fun k4 => ⟨by omega, by omega, by omega, by omega, by omega, res _ _ _ _ _ _ _ rfl rfl rfl rfl rfl rfl ?_⟩⟩, fun k3 => ⟨by omega, by omega, by omega, by omega, by omega, res _ _ _ _ _ _ _ rfl rfl rfl rfl rfl rfl ?_⟩⟩⟩⟩
  all_goals (unfold kindW; repeat' split)
  all_goals omega
theorem finds_ok (awake_ok : tab.ok 19) : CtOK Try.prog 6 (ctLaw [shutSh]) := by
  refine ct_ok (cx := cfinds) (Tab.cx_ok (all_cons ident_ok (all_cons rident_ok (all_cons awake_ok all_nil)))) Try.func6 (bds := []) (T := tfinds) (by kernel_rfl) ?_
  unfold tfinds
  simp only [VC, allC, List.map_cons, List.map_nil, List.length_cons, List.length_nil, List.getElem?_cons_zero, List.getElem?_cons_succ, List.cons.injEq, C.i.injEq, C.b.injEq, and_true, true_and, forall_const, kindsOf_nil, kindsOf_lf, kindsOf_agg, kindsOf_box, boxKinds_nil, boxKinds_lf, boxKinds_agg, boxKinds_box, List.append_nil, List.cons_append, List.nil_append, den_cmp_le, den_cmp_lt, den_cmp_eq, den_cmp_ne, den_cmp_le', den_cmp_lt', den_cmp_eq', den_cmp_ne', den_and, den_and', den_or, den_or', den_not, den_not', den_blit, den_of, ev_var, at_0, at_1, at_2, at_3, at_4, at_5, at_6, at_7, at_skip, c_int, c_bool, c_arr, c_cnt, c_vec, ev_nil, ev_join, ev_sub3, loc_s, int_i, bool_b, rows_s, cs_nil, cs_cons, E.den_lit, E.den_var, E.den_add, E.den_sub, E.den_mul, E.den_quo, E.den_rem, E.den_max, E.den_min, E.den_len, E.den_wr, E.den_cell, ctLaw, ctF, shutSh, ingSh, show cfinds.ct 31 = some ctIdent from rfl, show cfinds.ct 32 = some ctIdent from rfl, ctIdent, show cfinds.ct 19 = some ctAwake from rfl, ctAwake]
  intro pl _ _ ph _ _ cl _ _ ch _ _ gl _ _ gh _ _ we _ _ de _ _ ar _ _
  refine ⟨bds_nil _, ?_⟩
  intro a0 _ _ a1 _ _ a2 _ _ a3 _ _ a4 _ _ a5 _ _ a6 _ _ a7 _ _ e1 b0 _ _ b1 _ _ b2 _ _ b3 _ _ b4 _ _ b5 _ _ b6 _ _ b7 _ _ e2
  have e := e1.trans e2.symm
  simp only [List.cons.injEq, C.i.injEq, and_true] at e
  obtain ⟨rfl, rfl, rfl, rfl, rfl, rfl, rfl, rfl⟩ := e
  simp
end Go.Proofs.Ytlbgcjpkegpmlaa
