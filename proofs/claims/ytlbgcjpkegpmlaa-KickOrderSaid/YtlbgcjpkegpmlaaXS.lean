/- What each function of the program computes: the table. -/
import Derived.Test.YtlbgcjpkegpmlaaEz
namespace Go.Proofs.Ytlbgcjpkegpmlaa

def withinI : Inl := fun bd l => match l with
  | [.lf (.int n), .lf (.int a), .lf (.int b)] => some (rngL bd (cellsOf [] l), .lf (.bool (.and (B.mkCmp bd .le a n) (B.mkCmp bd .le n b))))
  | _ => none
def fairI : Inl := fun bd l => match l with
  | [.agg [.int lo, .int hi], .lf (.int a), .lf (.int b)] => some (rngL bd (cellsOf [] l), .lf (.bool (.and (B.mkCmp bd .le a lo) (.and (B.mkCmp bd .le lo hi) (B.mkCmp bd .le hi b)))))
  | _ => none
def ctWithin : Ct := ctF [.lf .int, .lf .int, .lf .int] [.lf .bool] (fun _ => True) (fun cs => match cs with | [.i n, .i a, .i b] => [.b (decide (a ≤ n) && decide (n ≤ b))] | _ => [])
def ctFair : Ct := ctF [.agg [.int, .int], .lf .int, .lf .int] [.lf .bool] (fun _ => True) (fun cs => match cs with | [.i lo, .i hi, .i a, .i b] => [.b (decide (a ≤ lo) && (decide (lo ≤ hi) && decide (hi ≤ b)))] | _ => [])
def ctFloor : Ct := ctF [.lf .int, .lf .int] [.lf .int] (fun cs => match cs with | [.i _, .i b] => 0 < b | _ => False) (fun cs => match cs with | [.i a, .i b] => [.i (a / b)] | _ => [])

def ShutOK (pl ph cl ch gl gh we de ar : Int) : Prop :=
  0 ≤ pl ∧ pl ≤ ph ∧ ph ≤ 68719476736 ∧ 0 ≤ cl ∧ cl ≤ ch ∧ ch ≤ 68719476736 ∧ 1 ≤ we ∧ we ≤ 40000 ∧ 1 ≤ de ∧ de ≤ 1048576 ∧ 1 ≤ ar ∧ ar ≤ 5000 ∧ ar ≤ gl ∧ gl ≤ gh ∧ gh ≤ 1073741824
instance {pl ph cl ch gl gh we de ar : Int} : Decidable (ShutOK pl ph cl ch gl gh we de ar) := by unfold ShutOK; infer_instance
def shutE (pl ph cl ch gl gh we de ar : Int) : Int := if ShutOK pl ph cl ch gl gh we de ar then (if cl < ph then 11 else 0) else 2
def kindW (lo hi : Int) : Int := if hi ≤ 3500 then 1 else if 9000 ≤ lo then 3 else if 3500 < lo ∧ hi < 9000 then 2 else 4
def identL (pl ph cl ch gl gh we de ar : Int) : List C :=
  if shutE pl ph cl ch gl gh we de ar = 0 then
    let hl := gl / ar
    let hh := (gh + ar - 1) / ar
    let wl := we + (pl - ch) / hl
    let wh := we - (cl - ph) / hh
    [.i (pl + we * de), .i (ph + we * de), .i hl, .i hh, .i wl, .i wh, .i (kindW wl wh), .i 0]
  else [.i 0, .i 0, .i 0, .i 0, .i 0, .i 0, .i 0, .i (shutE pl ph cl ch gl gh we de ar)]
def shutSh : Sh0 := .agg [.int, .int, .int, .int, .int, .int, .int, .int, .int]
def ingSh : Sh0 := .agg [.int, .int, .int, .int, .int, .int, .int]
def ctShut : Ct := ctF [shutSh] [.lf .int] (fun _ => True) (fun cs => match cs with | [.i a, .i b, .i c, .i d, .i e, .i f, .i g, .i h, .i i] => [.i (shutE a b c d e f g h i)] | _ => [])
def ctIdent : Ct := ctF [shutSh] [ingSh, .lf .int] (fun _ => True) (fun cs => match cs with | [.i a, .i b, .i c, .i d, .i e, .i f, .i g, .i h, .i i] => identL a b c d e f g h i | _ => [])
def ctAwake : Ct := ctF [] [.lf .bool] (fun _ => True) (fun _ => [.b true])

/-! The ring of numbers -/
def ringSh : Sh0 := .box 99 [.arr 3, .int]
def ctMod : Ct := ctF [.lf .int, .lf .int] [.lf .int] (fun cs => match cs with | [.i _, .i m] => 1 ≤ m ∧ m ≤ 4611686018427387904 | _ => False) (fun cs => match cs with | [.i n, .i m] => [.i (n % m)] | _ => [])
def ctNewRing : Ct := ctF [.lf (.arr 3)] [ringSh] (fun _ => True) (fun cs => match cs with | [c] => [c, .i 0] | _ => [])
def ctNext : Ct := ⟨[ringSh, .lf .int], [.lf .int], fun cs => match cs with | [.s _ _, .i at_, .i n] => 0 ≤ at_ ∧ at_ ≤ 1000000 ∧ 1 ≤ n | _ => False,
  fun cs rs => match cs, rs with | [.s v rows, .i at_, .i n], [.i x, .s v' rows', .i at'] => 0 ≤ x ∧ x < n ∧ v' = v ∧ rows' = rows ∧ at' = at_ + 1 | _, _ => False, false⟩
def atPre (n : Int) (cs : List C) : Prop := match cs with | [.s _ _, .i at_] => 0 ≤ at_ ∧ at_ ≤ n | _ => False
def ctKickOf : Ct := ⟨[ringSh], [.agg [.int, .int]], atPre 100000,
  fun cs rs => match cs, rs with | [.s v rows, .i at_], [.i a, .i b, .s v' rows', .i at'] => 0 ≤ a ∧ a ≤ 9998 ∧ 0 ≤ b ∧ b ≤ 299 ∧ v' = v ∧ rows' = rows ∧ at' = at_ + 4 | _, _ => False, false⟩
def ShutGood (pl ph cl ch gl gh we de ar : Int) : Prop :=
  9000 ≤ we ∧ we < 21000 ∧ 1 ≤ de ∧ de ≤ 400000 ∧ 1 ≤ ar ∧ ar ≤ 500 ∧ 0 ≤ pl ∧ pl < 1048576 ∧ pl ≤ ph ∧ ph ≤ pl + 524288 ∧ ph ≤ cl ∧ cl ≤ ph + 209715200 ∧ cl ≤ ch ∧ ch ≤ cl + 524288 ∧ ar ≤ gl ∧ gl < ar + 1048576 ∧ gl ≤ gh ∧ gh ≤ gl + 32768
def ctShutOf : Ct := ⟨[ringSh], [shutSh], atPre 100000,
  fun cs rs => match rs with | [.i a, .i b, .i c, .i d, .i e, .i f, .i g, .i h, .i i, .s _ _, .i _] => ShutGood a b c d e f g h i | _ => False, false⟩
def ctLWithin : Ct := ctF [.agg [.int, .int], .lf .int] [.agg [.int, .int]] (fun cs => match cs with | [.i lo, .i hi, .i _] => 0 ≤ lo ∧ lo ≤ hi ∧ hi ≤ 1099511627776 | _ => False)
  (fun cs => match cs with | [.i lo, .i hi, .i n] => [.i (lo + n % (hi - lo + 1)), .i (lo + n % (hi - lo + 1))] | _ => [])
def inI : Inl := fun bd l => match l with
  | [.agg [.int a, .int b], .agg [.int c, .int d]] => some (rngL bd (cellsOf [] l), .lf (.bool (.and (B.mkCmp bd .le c a) (B.mkCmp bd .le b d))))
  | _ => none
def ctIn : Ct := ctF [.agg [.int, .int], .agg [.int, .int]] [.lf .bool] (fun _ => True) (fun cs => match cs with | [.i a, .i b, .i c, .i d] => [.b (decide (c ≤ a) && decide (b ≤ d))] | _ => [])

/-! Kicks and sensors -/
def KOk (r g : Int) : Prop := 0 ≤ r ∧ r ≤ 16777216 ∧ 0 ≤ g ∧ g ≤ 4096
instance {r g : Int} : Decidable (KOk r g) := by unfold KOk; infer_instance
def kickE (r g : Int) : Int := if KOk r g then 0 else 2
def kicksE (rl rh gl gh : Int) : Int := if rl ≤ rh ∧ gl ≤ gh ∧ KOk rl gl ∧ KOk rh gh then 0 else 2
def SOk (pe de no st lo li ho : Int) : Prop := 1 ≤ pe ∧ pe ≤ 60 ∧ 0 ≤ de ∧ de ≤ 600 ∧ 0 ≤ no ∧ no ≤ 15 ∧ 1 ≤ st ∧ st ≤ 1048576 ∧ 0 ≤ lo ∧ lo ≤ 5 ∧ 1 ≤ li ∧ li ≤ 1099511627776 ∧ 1 ≤ ho ∧ ho ≤ 8
instance {pe de no st lo li ho : Int} : Decidable (SOk pe de no st lo li ho) := by unfold SOk; infer_instance
def sensE (ch pe de no st lo li ho : Int) : Int := if ch = 1 ∨ ch = 2 then (if SOk pe de no st lo li ho then 0 else 2) else 4
def sensRow (r : List C) : Int := sensE (r.getD 0 (.i 0)).int (r.getD 1 (.i 0)).int (r.getD 2 (.i 0)).int (r.getD 3 (.i 0)).int (r.getD 4 (.i 0)).int (r.getD 5 (.i 0)).int (r.getD 6 (.i 0)).int (r.getD 7 (.i 0)).int
def firstE : List (List C) → Int
  | [] => 0
  | r :: l => if sensRow r = 0 then firstE l else sensRow r
def sensorsE (rows : List (List C)) : Int := if rows.length = 0 then 6 else if 4 < rows.length then 8 else firstE rows
def flowV (r g n : Int) : Int := if KOk r g ∧ 0 ≤ n ∧ n ≤ 20000 then r + n * g else 0
def gainV (r g n : Int) : Int := if KOk r g ∧ 0 ≤ n ∧ n ≤ 20000 then n * r + g * (n * (n - 1) / 2) else 0
def saysV (ch r g n : Int) : Int := if ch = 1 then gainV r g n else flowV r g n
def valueV (ch pe de no st lo li ho r g n e : Int) : Int := if sensE ch pe de no st lo li ho = 0 ∧ KOk r g ∧ -no ≤ e ∧ e ≤ no ∧ n ≤ 20000 then saysV ch r g n + e * st else 0
def kickSh : Sh0 := .agg [.int, .int]
def kicksSh : Sh0 := .agg [.int, .int, .int, .int]
def sensSh : Sh0 := .agg [.int, .int, .int, .int, .int, .int, .int, .int]
def ctKick : Ct := ctF [kickSh] [.lf .int] (fun _ => True) (fun cs => match cs with | [.i r, .i g] => [.i (kickE r g)] | _ => [])
def ctLeast : Ct := ctF [kicksSh] [kickSh] (fun _ => True) (fun cs => match cs with | [.i a, .i _, .i c, .i _] => [.i a, .i c] | _ => [])
def ctKicks : Ct := ctF [kicksSh] [.lf .int] (fun _ => True) (fun cs => match cs with | [.i a, .i b, .i c, .i d] => [.i (kicksE a b c d)] | _ => [])
def ctSens : Ct := ctF [sensSh] [.lf .int] (fun _ => True) (fun cs => match cs with | [.i a, .i b, .i c, .i d, .i e, .i f, .i g, .i h] => [.i (sensE a b c d e f g h)] | _ => [])
def ctSensors : Ct := ctF [.lf (.arr 23)] [.lf .int] (fun _ => True) (fun cs => match cs with | [.s _ rows] => [.i (sensorsE rows)] | _ => [])
def ctFlow : Ct := ctF [kickSh, .lf .int] [.lf .int] (fun _ => True) (fun cs => match cs with | [.i r, .i g, .i n] => [.i (flowV r g n)] | _ => [])
def ctGain : Ct := ctF [kickSh, .lf .int] [.lf .int] (fun _ => True) (fun cs => match cs with | [.i r, .i g, .i n] => [.i (gainV r g n)] | _ => [])
def ctFlow1 : Ct := ctF [kickSh, .lf .int] [.lf .int] (fun cs => match cs with | [.i r, .i g, .i n] => KOk r g ∧ n ≤ 20000 | _ => False) (fun cs => match cs with | [.i r, .i g, .i n] => [.i (flowV r g n)] | _ => [])
def ctGain1 : Ct := ctF [kickSh, .lf .int] [.lf .int] (fun cs => match cs with | [.i r, .i g, .i n] => KOk r g ∧ n ≤ 20000 | _ => False) (fun cs => match cs with | [.i r, .i g, .i n] => [.i (gainV r g n)] | _ => [])
def ctSays : Ct := ctF [sensSh, kickSh, .lf .int] [.lf .int] (fun _ => True) (fun cs => match cs with | [.i ch, .i _, .i _, .i _, .i _, .i _, .i _, .i _, .i r, .i g, .i n] => [.i (saysV ch r g n)] | _ => [])
def ctValue : Ct := ctF [sensSh, kickSh, .lf .int, .lf .int] [.lf .int] (fun _ => True) (fun cs => match cs with | [.i a, .i b, .i c, .i d, .i e, .i f, .i g, .i h, .i r, .i q, .i n, .i x] => [.i (valueV a b c d e f g h r q n x)] | _ => [])

def saysS : Sel := fun bd l => match l with
  | [.agg [.int ch, .int _, .int _, .int _, .int _, .int _, .int _, .int _], .agg [.int r, .int g]] => some ([], B.mkCmp bd .eq ch (.lit 2), .fn 67 [.int r, .int g], .fn 66 [.int r, .int g])
  | _ => none

/-! Samples: rows of a sensor's number, a tick and a value -/
def measV (no st ch r g n v : Int) : Prop := n ≤ 20000 ∧ (v - saysV ch r g n).tmod st = 0 ∧ -no ≤ (v - saysV ch r g n).tdiv st ∧ (v - saysV ch r g n).tdiv st ≤ no
instance {no st ch r g n v : Int} : Decidable (measV no st ch r g n v) := by unfold measV; infer_instance
def cell_ (r : List C) (k : Nat) : Int := (r.getD k (.i 0)).int
/-- A sensor and a kick, as numbers. -/
structure SK where
  ch : Int
  pe : Int
  de : Int
  no : Int
  st : Int
  lo : Int
  li : Int
  ho : Int
  r : Int
  g : Int
def stepV (x : SK) (begin se ph last : Int) (row : List C) : Prop :=
  0 ≤ cell_ row 1 ∧ cell_ row 1 ≤ 40000 ∧ cell_ row 0 = se ∧ (cell_ row 1).tmod x.pe = ph ∧ 1 ≤ (cell_ row 1).tdiv x.pe - last ∧ (cell_ row 1).tdiv x.pe - last ≤ x.lo + 1 ∧ measV x.no x.st x.ch x.r x.g (cell_ row 1 - begin) (cell_ row 2)
instance {x : SK} {begin se ph last : Int} {row : List C} : Decidable (stepV x begin se ph last row) := by unfold stepV; infer_instance
def possL (x : SK) (begin se ph : Int) : Int → List (List C) → Bool
  | _, [] => true
  | last, row :: l => decide (stepV x begin se ph last row) && possL x begin se ph ((cell_ row 1).tdiv x.pe) l
def SKOk (x : SK) : Prop := sensE x.ch x.pe x.de x.no x.st x.lo x.li x.ho = 0 ∧ KOk x.r x.g
instance {x : SK} : Decidable (SKOk x) := by unfold SKOk; infer_instance
def possV (x : SK) (begin : Int) (rows : List (List C)) : Bool :=
  decide (SKOk x) && (decide (0 ≤ begin ∧ begin ≤ 20000 ∧ rows.length ≤ 200) && possL x begin (cell_ (rows.getD 0 []) 0) ((cell_ (rows.getD 0 []) 1).tmod x.pe) (-1) rows)
def ctPoss : Ct := ctF [sensSh, kickSh, .lf .int, .lf (.arr 40)] [.lf .bool] (fun _ => True) (fun cs => match cs with | [.i a, .i b, .i c, .i d, .i e, .i f, .i g, .i h, .i r, .i q, .i n, .s _ rows] => [.b (possV ⟨a, b, c, d, e, f, g, h, r, q⟩ n rows)] | _ => [])
def ctMeas : Ct := ctF [sensSh, kickSh, .lf .int, .lf .int] [.lf .bool] (fun cs => match cs with | [.i a, .i b, .i c, .i d, .i e, .i f, .i g, .i h, .i r, .i q, .i n, .i _] => SKOk ⟨a, b, c, d, e, f, g, h, r, q⟩ ∧ -20000 ≤ n ∧ n ≤ 40000 | _ => False) (fun cs => match cs with | [.i a, .i b, .i c, .i d, .i e, .i f, .i g, .i h, .i r, .i q, .i n, .i v] => [.b (decide (measV d e a r q n v))] | _ => [])
def SensGood (ch pe de no st lo li ho : Int) : Prop := (ch = 1 ∨ ch = 2) ∧ 1 ≤ pe ∧ pe ≤ 12 ∧ 0 ≤ de ∧ de ≤ 38 ∧ 0 ≤ no ∧ no ≤ 3 ∧ 1 ≤ st ∧ st ≤ 500 ∧ 0 ≤ lo ∧ lo ≤ 3 ∧ 1 ≤ li ∧ li ≤ 180000 ∧ 1 ≤ ho ∧ ho ≤ 4
def ctSensorOf : Ct := ⟨[ringSh], [sensSh], atPre 100000,
  fun cs rs => match cs, rs with | [.s v rows, .i at_], [.i a, .i b, .i c, .i d, .i e, .i f, .i g, .i h, .s v' rows', .i at'] => SensGood a b c d e f g h ∧ v' = v ∧ rows' = rows ∧ at' = at_ + 9 | _, _ => False, false⟩
def endL (pe : Int) : Int → List (List C) → Int
  | last, [] => last
  | _, row :: l => endL pe ((cell_ row 1).tdiv pe) l
def SampsOf (x : SK) (begin se last : Int) (rows : List (List C)) : Prop :=
  rows.length ≤ 190 ∧ ∃ ph, 0 ≤ ph ∧ ph < x.pe ∧ possL x begin se ph (-1) rows = true ∧ (∀ row ∈ rows, cell_ row 1 ≤ last) ∧ (rows.length < 190 → last < ph + (endL x.pe (-1) rows + 1 + x.lo) * x.pe)
def ctSamples : Ct := ⟨[ringSh, .lf .int, sensSh, kickSh, .lf .int, .lf .int], [.lf (.vec 40)],
  fun cs => match cs with | [.s _ _, .i at_, .i _, .i a, .i b, .i c, .i d, .i e, .i f, .i g, .i h, .i r, .i q, .i begin, .i last] => 0 ≤ at_ ∧ at_ ≤ 100000 ∧ SKOk ⟨a, b, c, d, e, f, g, h, r, q⟩ ∧ 0 ≤ begin ∧ begin ≤ 20000 ∧ 0 ≤ last ∧ last ≤ 20000 | _ => False,
  fun cs rs => match cs, rs with | [.s v rows, .i at_, .i se, .i a, .i b, .i c, .i d, .i e, .i f, .i g, .i h, .i r, .i q, .i begin, .i last], [.s _ out, .s v' rows', .i at'] => SampsOf ⟨a, b, c, d, e, f, g, h, r, q⟩ begin se last out ∧ v' = v ∧ rows' = rows ∧ at_ ≤ at' ∧ at' ≤ at_ + 4 + 3 * last | _, _ => False, false⟩

/-! The latest alarm -/
def firA (x : SK) (f : Int) : Nat → Int → Option Int
  | 0, _ => none
  | n + 1, a => if f + a * x.pe ≤ 10000 then (if x.li ≤ saysV x.ch x.r x.g (f + a * x.pe) - x.no * x.st then some a else firA x f n (a + 1)) else none
def tickV (x : SK) (f a : Int) : Int := f + (a + x.ho * (x.lo + 1) - 1) * x.pe + x.de
def latL (x : SK) : Nat → Int → Int → Int → Int → Option (Int × Int × Int)
  | 0, _, o, p, q => some (o, p, q)
  | k + 1, f, o, p, q => match firA x f 10001 0 with
    | none => none
    | some a => if 10000 < tickV x f a then none else if o < tickV x f a then latL x k (f + 1) (tickV x f a) f a else latL x k (f + 1) o p q
def latV (x : SK) : Option (Int × Int × Int) := latL x x.pe.toNat 0 (-1) 0 0
def latC : Option (Int × Int × Int) → List C
  | some (o, p, q) => [.i o, .i p, .i q, .b true]
  | none => [.i 0, .i 0, .i 0, .b false]
def atO : Option (Int × Int × Int) → Option Int
  | some (o, _, _) => some o
  | none => none
def latE (x : SK) : List C := if SKOk x then (match atO (latV x) with | some o => [.i o, .b true] | none => [.i 0, .b false]) else [.i 0, .b false]
def skR (r g : Int) (row : List C) : SK := ⟨cell_ row 0, cell_ row 1, cell_ row 2, cell_ row 3, cell_ row 4, cell_ row 5, cell_ row 6, cell_ row 7, r, g⟩
/-- The latest alarms of sensors, as rows. -/
def atsL (r g : Int) : List (List C) → List (List C)
  | [] => []
  | row :: l => match atO (latV (skR r g row)) with
    | some o => [.i o] :: atsL r g l
    | none => atsL r g l
def minL : Int → List (List C) → Int
  | m, [] => m
  | m, row :: l => minL (min m (cell_ row 0)) l
def minR (l : List (List C)) : Int := minL (cell_ (l.getD 0 []) 0) (l.drop 1)
def earlC (r g : Int) (rows : List (List C)) : List C := if atsL r g rows = [] then [.i 0, .i 13] else [.i (minR (atsL r g rows)), .i 0]
def latestC (rows : List (List C)) (rl rh gl gh : Int) : List C := if sensorsE rows = 0 then (if kicksE rl rh gl gh = 0 then earlC rl gl rows else [.i 0, .i (kicksE rl rh gl gh)]) else [.i 0, .i (sensorsE rows)]
def caughtC (rows : List (List C)) (r g : Int) : List C :=
  if sensorsE rows = 0 then (if kickE r g = 0 then (if atsL r g rows = [] then [.i 0, .i 0, .i 13] else [.i (minR (atsL r g rows)), .i (gainV r g (minR (atsL r g rows))), .i 0]) else [.i 0, .i 0, .i (kickE r g)]) else [.i 0, .i 0, .i (sensorsE rows)]
def skOf (cs : List C) : SK := ⟨cell_ cs 0, cell_ cs 1, cell_ cs 2, cell_ cs 3, cell_ cs 4, cell_ cs 5, cell_ cs 6, cell_ cs 7, cell_ cs 8, cell_ cs 9⟩
def ctFirst : Ct := ctF [sensSh, kickSh, .lf .int] [.lf .int, .lf .bool] (fun cs => SKOk (skOf cs) ∧ 0 ≤ cell_ cs 10 ∧ cell_ cs 10 ≤ 60) (fun cs => match firA (skOf cs) (cell_ cs 10) 10001 0 with | some a => [.i a, .b true] | none => [.i 0, .b false])
def ctLate1 : Ct := ctF [sensSh, kickSh, .lf .int] [.lf .int, .lf .int, .lf .bool] (fun cs => SKOk (skOf cs) ∧ 0 ≤ cell_ cs 10 ∧ cell_ cs 10 ≤ 60) (fun cs => match firA (skOf cs) (cell_ cs 10) 10001 0 with | some a => [.i (tickV (skOf cs) (cell_ cs 10) a), .i a, .b (decide (tickV (skOf cs) (cell_ cs 10) a ≤ 10000))] | none => [.i (tickV (skOf cs) (cell_ cs 10) 0), .i 0, .b false])
def ctWorst : Ct := ctF [sensSh, kickSh] [.lf .int, .lf .int, .lf .int, .lf .bool] (fun cs => SKOk (skOf cs)) (fun cs => latC (latV (skOf cs)))
def ctLatek : Ct := ctF [sensSh, kickSh] [.agg [.int, .int, .int], .lf .bool] (fun cs => SKOk (skOf cs)) (fun cs => latC (latV (skOf cs)))
def ctLate : Ct := ctF [sensSh, kickSh] [.lf .int, .lf .bool] (fun _ => True) (fun cs => latE (skOf cs))
def ctMin : Ct := ctF [.lf (.arr 2)] [.lf .int] (fun cs => match cs with | [.s _ rows] => rows ≠ [] | _ => False) (fun cs => match cs with | [.s _ rows] => [.i (minR rows)] | _ => [])
def ctEarl : Ct := ctF [.lf (.arr 23), kickSh] [.lf .int, .lf .int] (fun cs => match cs with | [.s _ rows, .i r, .i g] => rows.length ≤ 6 ∧ firstE rows = 0 ∧ KOk r g | _ => False) (fun cs => match cs with | [.s _ rows, .i r, .i g] => earlC r g rows | _ => [])
def ctLatest : Ct := ctF [.lf (.arr 23), kicksSh] [.lf .int, .lf .int] (fun _ => True) (fun cs => match cs with | [.s _ rows, .i a, .i b, .i c, .i d] => latestC rows a b c d | _ => [])
def ctCaught : Ct := ctF [.lf (.arr 23), kickSh] [.lf .int, .lf .int, .lf .int] (fun _ => True) (fun cs => match cs with | [.s _ rows, .i r, .i g] => caughtC rows r g | _ => [])
def ctKicksOf : Ct := ⟨[ringSh], [kicksSh], atPre 100000,
  fun cs rs => match cs, rs with | [.s v rows, .i at_], [.i a, .i b, .i c, .i d, .s v' rows', .i at'] => 0 ≤ a ∧ a ≤ b ∧ b ≤ 12998 ∧ 0 ≤ c ∧ c ≤ d ∧ d ≤ 499 ∧ v' = v ∧ rows' = rows ∧ at' = at_ + 6 | _, _ => False, false⟩

def tab : Tab where
  ct := fun f => match f with
    | 72 => some ctFloor
    | 74 => some ctFloor
    | 73 => some ctShut
    | 31 => some ctIdent
    | 32 => some ctIdent
    | 19 => some ctAwake
    | 36 => some ctKick
    | 37 => some ctKick
    | 75 => some ctLeast
    | 76 => some ctLeast
    | 38 => some ctKicks
    | 39 => some ctKicks
    | 40 => some ctSens
    | 41 => some ctSens
    | 42 => some ctSensors
    | 43 => some ctSensors
    | 24 => some ctFlow
    | 44 => some ctFlow
    | 23 => some ctGain
    | 45 => some ctGain
    | 67 => some ctFlow1
    | 66 => some ctGain1
    | 78 => some ctSays
    | 47 => some ctValue
    | 46 => some ctValue
    | 28 => some ctMod
    | 22 => some ctMod
    | 21 => some ctNewRing
    | 26 => some ctNext
    | 20 => some ctKickOf
    | 25 => some ctSensorOf
    | 48 => some ctKicksOf
    | 97 => some ctFirst
    | 95 => some ctLate1
    | 87 => some ctWorst
    | 79 => some ctLatek
    | 49 => some ctLate
    | 58 => some ctLate
    | 91 => some ctMin
    | 80 => some ctEarl
    | 90 => some ctEarl
    | 50 => some ctLatest
    | 61 => some ctLatest
    | 51 => some ctCaught
    | 62 => some ctCaught
    | 27 => some ctSamples
    | 29 => some ctPoss
    | 30 => some ctPoss
    | 70 => some ctMeas
    | 33 => some ctShutOf
    | 34 => some ctLWithin
    | _ => none
  inl := fun f => match f with
    | 68 => some withinI
    | 69 => some withinI
    | 71 => some fairI
    | 35 => some inI
    | _ => none
  sel := fun f => match f with
    | 77 => some saysS
    | _ => none
end Go.Proofs.Ytlbgcjpkegpmlaa
