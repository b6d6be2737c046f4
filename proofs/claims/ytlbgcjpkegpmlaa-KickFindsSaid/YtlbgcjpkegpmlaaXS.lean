/- What each function of the program computes: the table. -/
import Derived.Test.YtlbgcjpkegpmlaaEz
namespace Go.Proofs.Ytlbgcjpkegpmlaa

def withinI : Inl := fun bd l => match l with
  | [.lf (.int n), .lf (.int a), .lf (.int b)] => some (rngL bd (cellsOf l), .lf (.bool (.and (B.mkCmp bd .le a n) (B.mkCmp bd .le n b))))
  | _ => none
def fairI : Inl := fun bd l => match l with
  | [.agg [.int lo, .int hi], .lf (.int a), .lf (.int b)] => some (rngL bd (cellsOf l), .lf (.bool (.and (B.mkCmp bd .le a lo) (.and (B.mkCmp bd .le lo hi) (B.mkCmp bd .le hi b)))))
  | _ => none
def ctWithin : Ct := ctF [.lf .int, .lf .int, .lf .int] [.lf .bool] (fun _ => True) (fun cs => match cs with | [.i n, .i a, .i b] => [.b (decide (a ≤ n) && decide (n ≤ b))] | _ => [])
def ctFair : Ct := ctF [.agg [.int, .int], .lf .int, .lf .int] [.lf .bool] (fun _ => True) (fun cs => match cs with | [.i lo, .i hi, .i a, .i b] => [.b (decide (a ≤ lo) && (decide (lo ≤ hi) && decide (hi ≤ b)))] | _ => [])
def ctFloor : Ct := ctF [.lf .int, .lf .int] [.lf .int] (fun cs => match cs with | [.i _, .i b] => 0 < b | _ => False) (fun cs => match cs with | [.i a, .i b] => [.i (a / b)] | _ => [])

def ShutOK (pl ph cl ch gl gh we de ar : Int) : Prop :=
  0 ≤ pl ∧ pl ≤ ph ∧ ph ≤ 68719476736 ∧ 0 ≤ cl ∧ cl ≤ ch ∧ ch ≤ 68719476736 ∧ 1 ≤ we ∧ we ≤ 40000 ∧ 1 ≤ de ∧ de ≤ 1048576 ∧ 1 ≤ ar ∧ ar ≤ 5000 ∧ ar ≤ gl ∧ gl ≤ gh ∧ gh ≤ 1073741824
instance {pl ph cl ch gl gh we de ar : Int} : Decidable (ShutOK pl ph cl ch gl gh we de ar) := by unfold ShutOK; infer_instance
def shutE (pl ph cl ch gl gh we de ar : Int) : Int := if ShutOK pl ph cl ch gl gh we de ar then (if cl < ph then 11 else 0) else 2
def kindW (lo hi : Int) : Int := if hi ≤ 3500 then 1 else if 9000 ≤ lo then 3 else if 3500 < lo ∧ hi < 9000 then 2 else 4
def identL (pl ph cl ch gl gh we de ar : Int) : List C :=
  if shutE pl ph cl ch gl gh we de ar = 0 then
    let hl := gl / ar
    let hh := (gh + ar - 1) / ar
    let wl := we + (pl - ch) / hl
    let wh := we - (cl - ph) / hh
    [.i (pl + we * de), .i (ph + we * de), .i hl, .i hh, .i wl, .i wh, .i (kindW wl wh), .i 0]
  else [.i 0, .i 0, .i 0, .i 0, .i 0, .i 0, .i 0, .i (shutE pl ph cl ch gl gh we de ar)]
def shutSh : Sh0 := .agg [.int, .int, .int, .int, .int, .int, .int, .int, .int]
def ingSh : Sh0 := .agg [.int, .int, .int, .int, .int, .int, .int]
def ctShut : Ct := ctF [shutSh] [.lf .int] (fun _ => True) (fun cs => match cs with | [.i a, .i b, .i c, .i d, .i e, .i f, .i g, .i h, .i i] => [.i (shutE a b c d e f g h i)] | _ => [])
def ctIdent : Ct := ctF [shutSh] [ingSh, .lf .int] (fun _ => True) (fun cs => match cs with | [.i a, .i b, .i c, .i d, .i e, .i f, .i g, .i h, .i i] => identL a b c d e f g h i | _ => [])
def ctAwake : Ct := ctF [] [.lf .bool] (fun _ => True) (fun _ => [.b true])

def tab : Tab where
  ct := fun f => match f with
    | 72 => some ctFloor
    | 74 => some ctFloor
    | 73 => some ctShut
    | 31 => some ctIdent
    | 32 => some ctIdent
    | 19 => some ctAwake
    | _ => none
  inl := fun f => match f with
    | 68 => some withinI
    | 69 => some withinI
    | 71 => some fairI
    | _ => none
end Go.Proofs.Ytlbgcjpkegpmlaa
