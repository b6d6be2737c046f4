/- Texts laid into one: X7 XJ XI XZ XN XR S A C B D E F T. -/
import Derived.Test.YtlbgcjpkegpmlaaLates7
import Derived.Below
import Derived.Test.YtlbgcjpkegpmlaaProg
import Derived.WalkKit
import Derived.WalkLawsBesides
import Derived.Lib.Hide
import Derived.Deep.QuietTactic
import Derived.BigQuiet
import Derived.Handy
import Derived.Deep.LoopGhost
import Derived.Deep.RegionHeld3
/- What is to be shown of each function, as the executor has it. Printed by trees.py. -/
namespace Go.Proofs.Ytlbgcjpkegpmlaa
noncomputable def csame : Cx := tab2.only [] (fun _ => []) [] 0 [] (fun _ => none)
def tsame : Tree :=
  (.split (.cmp .ne (.len (.var 0)) (.len (.var 1))) (.ret [(.bool (.lit false))]) (.loop [.bool, .int] [(.bool (.lit false)), (.int (.lit 0))] (.split (.cmp .lt (.var 3) (.len (.var 0))) (.ob (.cmp .le (.lit 0) (.var 3)) (.ob (.cmp .lt (.var 3) (.len (.var 0))) (.ob (.cmp .lt (.var 3) (.len (.var 1))) (.split (.not (.and (.cmp .eq (.cell (.var 0) (.var 3) 0) (.cell (.var 1) (.var 3) 0)) (.and (.cmp .eq (.cell (.var 0) (.var 3) 1) (.cell (.var 1) (.var 3) 1)) (.cmp .eq (.cell (.var 0) (.var 3) 2) (.cell (.var 1) (.var 3) 2))))) (.ret [(.bool (.lit false))]) (.back 0 [(.bool (.of (.var 2))), (.int (.add (.var 3) (.lit 1)))]))))) (.ret [(.bool (.lit true))]))))
noncomputable def crsample : Cx := tab2.only [47] (fun _ => []) [] 0 [] (fun _ => none)
def trsample : Tree :=
  (.ob (.and (.cmp .le (.lit (-9223372036854775808)) (.sub (.lit 0) (.var 3))) (.cmp .le (.sub (.lit 0) (.var 3)) (.lit 9223372036854775807))) (.ob (.and (.cmp .le (.lit (-9223372036854775808)) (.sub (.lit 0) (.var 3))) (.cmp .le (.sub (.lit 0) (.var 3)) (.lit 9223372036854775807))) (.call 47 [(.int (.var 0)), (.int (.var 1)), (.int (.var 2)), (.int (.var 3)), (.int (.var 4)), (.int (.var 5)), (.int (.var 6)), (.int (.var 7)), (.int (.var 8)), (.int (.var 9)), (.int (.var 10)), (.int (.sub (.lit 0) (.var 3)))] (.ret [(.int (.lit 0)), (.int (.var 10)), (.int (.var 11))]))))
noncomputable def flslow : List (Nat × Func) := [(88, Try.f88)]
theorem fxslow : ∀ p ∈ flslow, FnOK p := fns_cons ⟨Try.func88, ⟨_, Try.func88, by decide, rfl⟩⟩ (fns_nil)
noncomputable def cslow : Cx := tab2.only [49, 79, 46] (fun r => match r with
  | 10 => [.blk 3]
  | 15 => [.blk 3]
  | 4350001 => [.vec 20]
  | 6150001 => [.vec 22]
  | _ => []) flslow 1 [] (fun _ => none)
def tslow_1 : Tree :=
  (.ob (.and (.cmp .le (.lit (-9223372036854775808)) (.add (.var 14) (.mul (.var 19) (.var 1)))) (.cmp .le (.add (.var 14) (.mul (.var 19) (.var 1))) (.lit 9223372036854775807))) (.arr [[(.int (.lit 0)), (.int (.add (.var 14) (.mul (.var 19) (.var 1)))), (.int (.var 21))]] (.ob (.cmp .le (.mul (.add (.len (.var 20)) (.len (.var 22))) (.lit 24)) (.lit 140737488355328)) (.cat (.var 20) (.var 22) (.back 0 [(.int (.add (.var 19) (.lit 1))), (.cnt 40 (.var 23))])))))
def tslow_2 : Tree :=
  (.ob (.and (.cmp .le (.lit (-9223372036854775808)) (.add (.var 14) (.mul (.sub (.add (.var 15) (.mul (.add (.var 21) (.lit 1)) (.add (.var 5) (.lit 1)))) (.lit 1)) (.var 1)))) (.cmp .le (.add (.var 14) (.mul (.sub (.add (.var 15) (.mul (.add (.var 21) (.lit 1)) (.add (.var 5) (.lit 1)))) (.lit 1)) (.var 1))) (.lit 9223372036854775807))) (.arr [[(.int (.lit 0)), (.int (.add (.var 14) (.mul (.sub (.add (.var 15) (.mul (.add (.var 21) (.lit 1)) (.add (.var 5) (.lit 1)))) (.lit 1)) (.var 1)))), (.int (.var 23))]] (.ob (.cmp .le (.mul (.add (.len (.var 22)) (.len (.var 24))) (.lit 24)) (.lit 140737488355328)) (.cat (.var 22) (.var 24) (.back 1 [(.int (.add (.var 21) (.lit 1))), (.cnt 40 (.var 25))])))))
def tslow_3 : Tree :=
  (.ob (.and (.cmp .le (.lit (-9223372036854775808)) (.add (.var 15) (.var 7))) (.cmp .le (.add (.var 15) (.var 7)) (.lit 9223372036854775807))) (.split (.cmp .lt (.lit 200) (.add (.var 15) (.var 7))) (.dfn .nil (.ret [(.cnt 40 (.var 17)), (.bool (.lit false))])) (.dfn .nil (.arr [] (.loop [.int, (.vec 40)] [(.int (.lit 0)), (.cnt 40 (.var 17))] (.split (.cmp .lt (.var 19) (.var 15)) (.ob (.and (.cmp .le (.lit (-9223372036854775808)) (.mul (.var 19) (.var 1))) (.cmp .le (.mul (.var 19) (.var 1)) (.lit 9223372036854775807))) (.ob (.and (.cmp .le (.lit (-9223372036854775808)) (.add (.var 14) (.mul (.var 19) (.var 1)))) (.cmp .le (.add (.var 14) (.mul (.var 19) (.var 1))) (.lit 9223372036854775807))) (.ob (.and (.cmp .le (.lit (-9223372036854775808)) (.sub (.lit 0) (.var 3))) (.cmp .le (.sub (.lit 0) (.var 3)) (.lit 9223372036854775807))) (.ob (.and (.cmp .le (.lit (-9223372036854775808)) (.add (.var 14) (.mul (.var 19) (.var 1)))) (.cmp .le (.add (.var 14) (.mul (.var 19) (.var 1))) (.lit 9223372036854775807))) (.ob (.and (.cmp .le (.lit (-9223372036854775808)) (.sub (.lit 0) (.var 3))) (.cmp .le (.sub (.lit 0) (.var 3)) (.lit 9223372036854775807))) (.call 46 [(.int (.var 0)), (.int (.var 1)), (.int (.var 2)), (.int (.var 3)), (.int (.var 4)), (.int (.var 5)), (.int (.var 6)), (.int (.var 7)), (.int (.var 8)), (.int (.var 9)), (.int (.add (.var 14) (.mul (.var 19) (.var 1)))), (.int (.sub (.lit 0) (.var 3)))] tslow_1)))))) (.loop [.int, (.vec 40)] [(.int (.lit 0)), (.cnt 40 (.var 20))] (.split (.cmp .lt (.var 21) (.var 7)) (.ob (.and (.cmp .le (.lit (-9223372036854775808)) (.add (.var 5) (.lit 1))) (.cmp .le (.add (.var 5) (.lit 1)) (.lit 9223372036854775807))) (.ob (.and (.cmp .le (.lit (-9223372036854775808)) (.mul (.add (.var 21) (.lit 1)) (.add (.var 5) (.lit 1)))) (.cmp .le (.mul (.add (.var 21) (.lit 1)) (.add (.var 5) (.lit 1))) (.lit 9223372036854775807))) (.ob (.and (.cmp .le (.lit (-9223372036854775808)) (.add (.var 15) (.mul (.add (.var 21) (.lit 1)) (.add (.var 5) (.lit 1))))) (.cmp .le (.add (.var 15) (.mul (.add (.var 21) (.lit 1)) (.add (.var 5) (.lit 1)))) (.lit 9223372036854775807))) (.ob (.and (.cmp .le (.lit (-9223372036854775808)) (.sub (.add (.var 15) (.mul (.add (.var 21) (.lit 1)) (.add (.var 5) (.lit 1)))) (.lit 1))) (.cmp .le (.sub (.add (.var 15) (.mul (.add (.var 21) (.lit 1)) (.add (.var 5) (.lit 1)))) (.lit 1)) (.lit 9223372036854775807))) (.ob (.and (.cmp .le (.lit (-9223372036854775808)) (.mul (.sub (.add (.var 15) (.mul (.add (.var 21) (.lit 1)) (.add (.var 5) (.lit 1)))) (.lit 1)) (.var 1))) (.cmp .le (.mul (.sub (.add (.var 15) (.mul (.add (.var 21) (.lit 1)) (.add (.var 5) (.lit 1)))) (.lit 1)) (.var 1)) (.lit 9223372036854775807))) (.ob (.and (.cmp .le (.lit (-9223372036854775808)) (.add (.var 14) (.mul (.sub (.add (.var 15) (.mul (.add (.var 21) (.lit 1)) (.add (.var 5) (.lit 1)))) (.lit 1)) (.var 1)))) (.cmp .le (.add (.var 14) (.mul (.sub (.add (.var 15) (.mul (.add (.var 21) (.lit 1)) (.add (.var 5) (.lit 1)))) (.lit 1)) (.var 1))) (.lit 9223372036854775807))) (.ob (.and (.cmp .le (.lit (-9223372036854775808)) (.sub (.lit 0) (.var 3))) (.cmp .le (.sub (.lit 0) (.var 3)) (.lit 9223372036854775807))) (.ob (.and (.cmp .le (.lit (-9223372036854775808)) (.add (.var 14) (.mul (.sub (.add (.var 15) (.mul (.add (.var 21) (.lit 1)) (.add (.var 5) (.lit 1)))) (.lit 1)) (.var 1)))) (.cmp .le (.add (.var 14) (.mul (.sub (.add (.var 15) (.mul (.add (.var 21) (.lit 1)) (.add (.var 5) (.lit 1)))) (.lit 1)) (.var 1))) (.lit 9223372036854775807))) (.ob (.and (.cmp .le (.lit (-9223372036854775808)) (.sub (.lit 0) (.var 3))) (.cmp .le (.sub (.lit 0) (.var 3)) (.lit 9223372036854775807))) (.call 46 [(.int (.var 0)), (.int (.var 1)), (.int (.var 2)), (.int (.var 3)), (.int (.var 4)), (.int (.var 5)), (.int (.var 6)), (.int (.var 7)), (.int (.var 8)), (.int (.var 9)), (.int (.add (.var 14) (.mul (.sub (.add (.var 15) (.mul (.add (.var 21) (.lit 1)) (.add (.var 5) (.lit 1)))) (.lit 1)) (.var 1)))), (.int (.sub (.lit 0) (.var 3)))] tslow_2)))))))))) (.ret [(.cnt 40 (.var 22)), (.bool (.lit true))])))))))))
def tslow_4 : Tree :=
  (.split (.not (.of (.var 12))) (.dfn .nil (.ret [(.cnt 40 (.var 13)), (.bool (.lit false))])) (.call 79 [(.int (.var 0)), (.int (.var 1)), (.int (.var 2)), (.int (.var 3)), (.int (.var 4)), (.int (.var 5)), (.int (.var 6)), (.int (.var 7)), (.int (.var 8)), (.int (.var 9))] tslow_3))
def tslow : Tree :=
  (.dfn .nil (.call 49 [(.int (.var 0)), (.int (.var 1)), (.int (.var 2)), (.int (.var 3)), (.int (.var 4)), (.int (.var 5)), (.int (.var 6)), (.int (.var 7)), (.int (.var 8)), (.int (.var 9))] tslow_4))
noncomputable def crslow : Cx := tab2.only [58, 87, 89] (fun _ => []) [] 0 [] (fun _ => none)
def trslow_1 : Tree :=
  (.arr [[(.int (.var 20)), (.int (.var 21)), (.int (.var 22))]] (.ob (.cmp .le (.mul (.add (.len (.var 18)) (.len (.var 23))) (.lit 24)) (.lit 140737488355328)) (.cat (.var 18) (.var 23) (.back 0 [(.cnt 40 (.var 24)), (.int (.add (.var 19) (.lit 1)))]))))
def trslow_2 : Tree :=
  (.arr [[(.int (.var 22)), (.int (.var 23)), (.int (.var 24))]] (.ob (.cmp .le (.mul (.add (.len (.var 20)) (.len (.var 25))) (.lit 24)) (.lit 140737488355328)) (.cat (.var 20) (.var 25) (.ob (.and (.cmp .le (.lit (-9223372036854775808)) (.add (.var 21) (.lit 1))) (.cmp .le (.add (.var 21) (.lit 1)) (.lit 9223372036854775807))) (.ob (.and (.cmp .le (.lit (-9223372036854775808)) (.add (.var 21) (.lit 1))) (.cmp .le (.add (.var 21) (.lit 1)) (.lit 9223372036854775807))) (.back 1 [(.cnt 40 (.var 26)), (.int (.add (.var 21) (.lit 1)))]))))))
def trslow_3 : Tree :=
  (.ob (.and (.cmp .le (.lit (-9223372036854775808)) (.add (.var 15) (.var 7))) (.cmp .le (.add (.var 15) (.var 7)) (.lit 9223372036854775807))) (.split (.cmp .lt (.lit 200) (.add (.var 15) (.var 7))) (.dfn .nil (.ret [(.cnt 40 (.var 17)), (.bool (.lit false))])) (.dfn .nil (.loop [(.vec 40), .int] [(.cnt 40 (.var 17)), (.int (.lit 0))] (.split (.cmp .lt (.var 19) (.var 15)) (.ob (.and (.cmp .le (.lit (-9223372036854775808)) (.mul (.var 19) (.var 1))) (.cmp .le (.mul (.var 19) (.var 1)) (.lit 9223372036854775807))) (.ob (.and (.cmp .le (.lit (-9223372036854775808)) (.add (.var 14) (.mul (.var 19) (.var 1)))) (.cmp .le (.add (.var 14) (.mul (.var 19) (.var 1))) (.lit 9223372036854775807))) (.ob (.and (.cmp .le (.lit (-9223372036854775808)) (.add (.var 14) (.mul (.var 19) (.var 1)))) (.cmp .le (.add (.var 14) (.mul (.var 19) (.var 1))) (.lit 9223372036854775807))) (.call 89 [(.int (.var 0)), (.int (.var 1)), (.int (.var 2)), (.int (.var 3)), (.int (.var 4)), (.int (.var 5)), (.int (.var 6)), (.int (.var 7)), (.int (.var 8)), (.int (.var 9)), (.int (.add (.var 14) (.mul (.var 19) (.var 1))))] trslow_1)))) (.loop [(.vec 40), .int] [(.cnt 40 (.var 18)), (.int (.lit 1))] (.split (.cmp .le (.var 21) (.var 7)) (.ob (.and (.cmp .le (.lit (-9223372036854775808)) (.add (.var 5) (.lit 1))) (.cmp .le (.add (.var 5) (.lit 1)) (.lit 9223372036854775807))) (.ob (.and (.cmp .le (.lit (-9223372036854775808)) (.mul (.var 21) (.add (.var 5) (.lit 1)))) (.cmp .le (.mul (.var 21) (.add (.var 5) (.lit 1))) (.lit 9223372036854775807))) (.ob (.and (.cmp .le (.lit (-9223372036854775808)) (.add (.var 15) (.mul (.var 21) (.add (.var 5) (.lit 1))))) (.cmp .le (.add (.var 15) (.mul (.var 21) (.add (.var 5) (.lit 1)))) (.lit 9223372036854775807))) (.ob (.and (.cmp .le (.lit (-9223372036854775808)) (.sub (.add (.var 15) (.mul (.var 21) (.add (.var 5) (.lit 1)))) (.lit 1))) (.cmp .le (.sub (.add (.var 15) (.mul (.var 21) (.add (.var 5) (.lit 1)))) (.lit 1)) (.lit 9223372036854775807))) (.ob (.and (.cmp .le (.lit (-9223372036854775808)) (.mul (.sub (.add (.var 15) (.mul (.var 21) (.add (.var 5) (.lit 1)))) (.lit 1)) (.var 1))) (.cmp .le (.mul (.sub (.add (.var 15) (.mul (.var 21) (.add (.var 5) (.lit 1)))) (.lit 1)) (.var 1)) (.lit 9223372036854775807))) (.ob (.and (.cmp .le (.lit (-9223372036854775808)) (.add (.var 14) (.mul (.sub (.add (.var 15) (.mul (.var 21) (.add (.var 5) (.lit 1)))) (.lit 1)) (.var 1)))) (.cmp .le (.add (.var 14) (.mul (.sub (.add (.var 15) (.mul (.var 21) (.add (.var 5) (.lit 1)))) (.lit 1)) (.var 1))) (.lit 9223372036854775807))) (.ob (.and (.cmp .le (.lit (-9223372036854775808)) (.add (.var 14) (.mul (.sub (.add (.var 15) (.mul (.var 21) (.add (.var 5) (.lit 1)))) (.lit 1)) (.var 1)))) (.cmp .le (.add (.var 14) (.mul (.sub (.add (.var 15) (.mul (.var 21) (.add (.var 5) (.lit 1)))) (.lit 1)) (.var 1))) (.lit 9223372036854775807))) (.call 89 [(.int (.var 0)), (.int (.var 1)), (.int (.var 2)), (.int (.var 3)), (.int (.var 4)), (.int (.var 5)), (.int (.var 6)), (.int (.var 7)), (.int (.var 8)), (.int (.var 9)), (.int (.add (.var 14) (.mul (.sub (.add (.var 15) (.mul (.var 21) (.add (.var 5) (.lit 1)))) (.lit 1)) (.var 1))))] trslow_2)))))))) (.ret [(.cnt 40 (.var 20)), (.bool (.lit true))]))))))))
def trslow_4 : Tree :=
  (.split (.not (.of (.var 12))) (.dfn .nil (.ret [(.cnt 40 (.var 13)), (.bool (.lit false))])) (.call 87 [(.int (.var 0)), (.int (.var 1)), (.int (.var 2)), (.int (.var 3)), (.int (.var 4)), (.int (.var 5)), (.int (.var 6)), (.int (.var 7)), (.int (.var 8)), (.int (.var 9))] trslow_3))
def trslow : Tree :=
  (.dfn .nil (.call 58 [(.int (.var 0)), (.int (.var 1)), (.int (.var 2)), (.int (.var 3)), (.int (.var 4)), (.int (.var 5)), (.int (.var 6)), (.int (.var 7)), (.int (.var 8)), (.int (.var 9))] trslow_4))
noncomputable def clates : Cx := tab2.only [21, 25, 20, 48, 49, 58, 59, 60, 57, 50, 61, 51, 62, 19] (fun r => match r with
  | 50004 => [.blk 3]
  | _ => []) [] 0 [] (fun r => match r with
  | 50004 => some ([(12, true, [.vec 23]), (13, true, [.vec 31]), (14, true, [.vec 61])], [.blk 3])
  | _ => none)
def tlates_1 : Tree :=
  (.arr [[(.int (.var 11)), (.int (.var 12)), (.int (.var 13)), (.int (.var 14))], [(.int (.var 34)), (.int (.var 35)), (.int (.var 36)), (.int (.var 37))]] (.back 0 [(.cnt 23 (.var 28)), (.cnt 31 (.var 33)), (.cnt 61 (.var 40)), (.arr 3 (.var 38)), (.int (.var 39))]))
def tlates_2 : Tree :=
  (.both (.arr [[(.int (.var 8)), (.int (.var 9))], [(.int (.var 29)), (.int (.var 30))]] (.arr [[(.int (.var 11)), (.int (.var 12)), (.int (.var 13)), (.int (.var 14))], [(.int (.var 33)), (.int (.var 34)), (.int (.var 35)), (.int (.var 36))]] (.back 0 [(.cnt 23 (.var 28)), (.cnt 31 (.var 39)), (.cnt 61 (.var 40)), (.arr 3 (.var 37)), (.int (.var 38))]))) (.arr [[(.int (.var 11)), (.int (.var 12)), (.int (.var 13)), (.int (.var 14))], [(.int (.var 33)), (.int (.var 34)), (.int (.var 35)), (.int (.var 36))]] (.arr [[(.int (.var 8)), (.int (.var 9))], [(.int (.var 29)), (.int (.var 30))]] (.back 0 [(.cnt 23 (.var 28)), (.cnt 31 (.var 40)), (.cnt 61 (.var 39)), (.arr 3 (.var 37)), (.int (.var 38))]))))
def tlates_3 : Tree :=
  (.both (.arr [[(.int (.var 8)), (.int (.var 9))], [(.int (.var 29)), (.int (.var 30))]] (.call 48 [(.arr 3 (.var 31)), (.int (.var 32))] tlates_1)) (.call 48 [(.arr 3 (.var 31)), (.int (.var 32))] tlates_2))
def tlates_4 : Tree :=
  (.arr [[(.int (.var 11)), (.int (.var 12)), (.int (.var 13)), (.int (.var 14))], [(.int (.var 34)), (.int (.var 35)), (.int (.var 36)), (.int (.var 37))]] (.back 0 [(.cnt 23 (.var 32)), (.cnt 31 (.var 33)), (.cnt 61 (.var 40)), (.arr 3 (.var 38)), (.int (.var 39))]))
def tlates_5 : Tree :=
  (.both (.arr [[(.int (.var 8)), (.int (.var 9))], [(.int (.var 28)), (.int (.var 29))]] (.arr [[(.int (.var 11)), (.int (.var 12)), (.int (.var 13)), (.int (.var 14))], [(.int (.var 33)), (.int (.var 34)), (.int (.var 35)), (.int (.var 36))]] (.back 0 [(.cnt 23 (.var 32)), (.cnt 31 (.var 39)), (.cnt 61 (.var 40)), (.arr 3 (.var 37)), (.int (.var 38))]))) (.arr [[(.int (.var 11)), (.int (.var 12)), (.int (.var 13)), (.int (.var 14))], [(.int (.var 33)), (.int (.var 34)), (.int (.var 35)), (.int (.var 36))]] (.arr [[(.int (.var 8)), (.int (.var 9))], [(.int (.var 28)), (.int (.var 29))]] (.back 0 [(.cnt 23 (.var 32)), (.cnt 31 (.var 40)), (.cnt 61 (.var 39)), (.arr 3 (.var 37)), (.int (.var 38))]))))
def tlates_6 : Tree :=
  (.arr [[(.int (.var 11)), (.int (.var 12)), (.int (.var 13)), (.int (.var 14))], [(.int (.var 34)), (.int (.var 35)), (.int (.var 36)), (.int (.var 37))]] (.back 0 [(.cnt 23 (.var 33)), (.cnt 31 (.var 32)), (.cnt 61 (.var 40)), (.arr 3 (.var 38)), (.int (.var 39))]))
def tlates_7 : Tree :=
  (.both (.arr [[(.int (.var 0)), (.int (.var 1)), (.int (.var 2)), (.int (.var 3)), (.int (.var 4)), (.int (.var 5)), (.int (.var 6)), (.int (.var 7))], [(.int (.var 18)), (.int (.var 19)), (.int (.var 20)), (.int (.var 21)), (.int (.var 22)), (.int (.var 23)), (.int (.var 24)), (.int (.var 25))]] (.arr [[(.int (.var 11)), (.int (.var 12)), (.int (.var 13)), (.int (.var 14))], [(.int (.var 33)), (.int (.var 34)), (.int (.var 35)), (.int (.var 36))]] (.back 0 [(.cnt 23 (.var 39)), (.cnt 31 (.var 32)), (.cnt 61 (.var 40)), (.arr 3 (.var 37)), (.int (.var 38))]))) (.arr [[(.int (.var 11)), (.int (.var 12)), (.int (.var 13)), (.int (.var 14))], [(.int (.var 33)), (.int (.var 34)), (.int (.var 35)), (.int (.var 36))]] (.arr [[(.int (.var 0)), (.int (.var 1)), (.int (.var 2)), (.int (.var 3)), (.int (.var 4)), (.int (.var 5)), (.int (.var 6)), (.int (.var 7))], [(.int (.var 18)), (.int (.var 19)), (.int (.var 20)), (.int (.var 21)), (.int (.var 22)), (.int (.var 23)), (.int (.var 24)), (.int (.var 25))]] (.back 0 [(.cnt 23 (.var 40)), (.cnt 31 (.var 32)), (.cnt 61 (.var 39)), (.arr 3 (.var 37)), (.int (.var 38))]))))
def tlates_8 : Tree :=
  (.both (.arr [[(.int (.var 0)), (.int (.var 1)), (.int (.var 2)), (.int (.var 3)), (.int (.var 4)), (.int (.var 5)), (.int (.var 6)), (.int (.var 7))], [(.int (.var 18)), (.int (.var 19)), (.int (.var 20)), (.int (.var 21)), (.int (.var 22)), (.int (.var 23)), (.int (.var 24)), (.int (.var 25))]] (.both (.arr [[(.int (.var 8)), (.int (.var 9))], [(.int (.var 28)), (.int (.var 29))]] (.arr [[(.int (.var 11)), (.int (.var 12)), (.int (.var 13)), (.int (.var 14))], [(.int (.var 32)), (.int (.var 33)), (.int (.var 34)), (.int (.var 35))]] (.back 0 [(.cnt 23 (.var 38)), (.cnt 31 (.var 39)), (.cnt 61 (.var 40)), (.arr 3 (.var 36)), (.int (.var 37))]))) (.arr [[(.int (.var 11)), (.int (.var 12)), (.int (.var 13)), (.int (.var 14))], [(.int (.var 32)), (.int (.var 33)), (.int (.var 34)), (.int (.var 35))]] (.arr [[(.int (.var 8)), (.int (.var 9))], [(.int (.var 28)), (.int (.var 29))]] (.back 0 [(.cnt 23 (.var 38)), (.cnt 31 (.var 40)), (.cnt 61 (.var 39)), (.arr 3 (.var 36)), (.int (.var 37))]))))) (.both (.arr [[(.int (.var 8)), (.int (.var 9))], [(.int (.var 28)), (.int (.var 29))]] (.both (.arr [[(.int (.var 0)), (.int (.var 1)), (.int (.var 2)), (.int (.var 3)), (.int (.var 4)), (.int (.var 5)), (.int (.var 6)), (.int (.var 7))], [(.int (.var 18)), (.int (.var 19)), (.int (.var 20)), (.int (.var 21)), (.int (.var 22)), (.int (.var 23)), (.int (.var 24)), (.int (.var 25))]] (.arr [[(.int (.var 11)), (.int (.var 12)), (.int (.var 13)), (.int (.var 14))], [(.int (.var 32)), (.int (.var 33)), (.int (.var 34)), (.int (.var 35))]] (.back 0 [(.cnt 23 (.var 39)), (.cnt 31 (.var 38)), (.cnt 61 (.var 40)), (.arr 3 (.var 36)), (.int (.var 37))]))) (.arr [[(.int (.var 11)), (.int (.var 12)), (.int (.var 13)), (.int (.var 14))], [(.int (.var 32)), (.int (.var 33)), (.int (.var 34)), (.int (.var 35))]] (.arr [[(.int (.var 0)), (.int (.var 1)), (.int (.var 2)), (.int (.var 3)), (.int (.var 4)), (.int (.var 5)), (.int (.var 6)), (.int (.var 7))], [(.int (.var 18)), (.int (.var 19)), (.int (.var 20)), (.int (.var 21)), (.int (.var 22)), (.int (.var 23)), (.int (.var 24)), (.int (.var 25))]] (.back 0 [(.cnt 23 (.var 40)), (.cnt 31 (.var 38)), (.cnt 61 (.var 39)), (.arr 3 (.var 36)), (.int (.var 37))]))))) (.arr [[(.int (.var 11)), (.int (.var 12)), (.int (.var 13)), (.int (.var 14))], [(.int (.var 32)), (.int (.var 33)), (.int (.var 34)), (.int (.var 35))]] (.both (.arr [[(.int (.var 0)), (.int (.var 1)), (.int (.var 2)), (.int (.var 3)), (.int (.var 4)), (.int (.var 5)), (.int (.var 6)), (.int (.var 7))], [(.int (.var 18)), (.int (.var 19)), (.int (.var 20)), (.int (.var 21)), (.int (.var 22)), (.int (.var 23)), (.int (.var 24)), (.int (.var 25))]] (.arr [[(.int (.var 8)), (.int (.var 9))], [(.int (.var 28)), (.int (.var 29))]] (.back 0 [(.cnt 23 (.var 39)), (.cnt 31 (.var 40)), (.cnt 61 (.var 38)), (.arr 3 (.var 36)), (.int (.var 37))]))) (.arr [[(.int (.var 8)), (.int (.var 9))], [(.int (.var 28)), (.int (.var 29))]] (.arr [[(.int (.var 0)), (.int (.var 1)), (.int (.var 2)), (.int (.var 3)), (.int (.var 4)), (.int (.var 5)), (.int (.var 6)), (.int (.var 7))], [(.int (.var 18)), (.int (.var 19)), (.int (.var 20)), (.int (.var 21)), (.int (.var 22)), (.int (.var 23)), (.int (.var 24)), (.int (.var 25))]] (.back 0 [(.cnt 23 (.var 40)), (.cnt 31 (.var 39)), (.cnt 61 (.var 38)), (.arr 3 (.var 36)), (.int (.var 37))])))))))
def tlates_9 : Tree :=
  (.both (.arr [[(.int (.var 0)), (.int (.var 1)), (.int (.var 2)), (.int (.var 3)), (.int (.var 4)), (.int (.var 5)), (.int (.var 6)), (.int (.var 7))], [(.int (.var 18)), (.int (.var 19)), (.int (.var 20)), (.int (.var 21)), (.int (.var 22)), (.int (.var 23)), (.int (.var 24)), (.int (.var 25))]] (.both (.arr [[(.int (.var 8)), (.int (.var 9))], [(.int (.var 28)), (.int (.var 29))]] (.call 48 [(.arr 3 (.var 30)), (.int (.var 31))] tlates_4)) (.call 48 [(.arr 3 (.var 30)), (.int (.var 31))] tlates_5))) (.both (.arr [[(.int (.var 8)), (.int (.var 9))], [(.int (.var 28)), (.int (.var 29))]] (.both (.arr [[(.int (.var 0)), (.int (.var 1)), (.int (.var 2)), (.int (.var 3)), (.int (.var 4)), (.int (.var 5)), (.int (.var 6)), (.int (.var 7))], [(.int (.var 18)), (.int (.var 19)), (.int (.var 20)), (.int (.var 21)), (.int (.var 22)), (.int (.var 23)), (.int (.var 24)), (.int (.var 25))]] (.call 48 [(.arr 3 (.var 30)), (.int (.var 31))] tlates_6)) (.call 48 [(.arr 3 (.var 30)), (.int (.var 31))] tlates_7))) (.call 48 [(.arr 3 (.var 30)), (.int (.var 31))] tlates_8)))
def tlates_10 : Tree :=
  (.both (.arr [[(.int (.var 0)), (.int (.var 1)), (.int (.var 2)), (.int (.var 3)), (.int (.var 4)), (.int (.var 5)), (.int (.var 6)), (.int (.var 7))], [(.int (.var 18)), (.int (.var 19)), (.int (.var 20)), (.int (.var 21)), (.int (.var 22)), (.int (.var 23)), (.int (.var 24)), (.int (.var 25))]] (.call 20 [(.arr 3 (.var 26)), (.int (.var 27))] tlates_3)) (.call 20 [(.arr 3 (.var 26)), (.int (.var 27))] tlates_9))
def tlates_11 : Tree :=
  (.split (.cmp .ne (.var 57) (.var 59)) (.ret [(.bool (.lit false))]) (.split (.cmp .ne (.var 58) (.var 60)) (.ret [(.bool (.lit false))]) (.split (.cmp .ne (.var 61) (.var 64)) (.ret [(.bool (.lit false))]) (.split (.cmp .ne (.var 62) (.var 65)) (.ret [(.bool (.lit false))]) (.split (.cmp .ne (.var 63) (.var 66)) (.ret [(.bool (.lit false))]) (.back 1 [(.bool (.of (.var 46))), (.int (.add (.var 47) (.lit 1)))]))))))
def tlates_12 : Tree :=
  (.ob (.cmp .lt (.var 47) (.len (.var 45))) (.ob (.cmp .lt (.var 47) (.len (.var 19))) (.call 62 [(.arr 23 (.cell (.var 45) (.var 47) 0)), (.int (.cell (.var 19) (.var 47) 0)), (.int (.cell (.var 19) (.var 47) 1))] tlates_11)))
def tlates_13 : Tree :=
  (.ob (.cmp .lt (.var 47) (.len (.var 45))) (.ob (.cmp .lt (.var 47) (.len (.var 19))) (.call 51 [(.arr 23 (.cell (.var 45) (.var 47) 0)), (.int (.cell (.var 19) (.var 47) 0)), (.int (.cell (.var 19) (.var 47) 1))] tlates_12)))
def tlates_14 : Tree :=
  (.ob (.cmp .lt (.var 47) (.len (.var 45))) (.ob (.cmp .lt (.var 47) (.len (.var 20))) (.call 61 [(.arr 23 (.cell (.var 45) (.var 47) 0)), (.int (.cell (.var 20) (.var 47) 0)), (.int (.cell (.var 20) (.var 47) 1)), (.int (.cell (.var 20) (.var 47) 2)), (.int (.cell (.var 20) (.var 47) 3))] tlates_13)))
def tlates_15 : Tree :=
  (.split (.not (.of (.var 56))) (.ret [(.bool (.lit false))]) (.split (.not (.beq (.of (.var 53)) (.of (.var 55)))) (.ret [(.bool (.lit false))]) (.ob (.cmp .lt (.var 47) (.len (.var 45))) (.ob (.cmp .lt (.var 47) (.len (.var 20))) (.call 50 [(.arr 23 (.cell (.var 45) (.var 47) 0)), (.int (.cell (.var 20) (.var 47) 0)), (.int (.cell (.var 20) (.var 47) 1)), (.int (.cell (.var 20) (.var 47) 2)), (.int (.cell (.var 20) (.var 47) 3))] tlates_14)))))
def tlates_16 : Tree :=
  (.split (.cmp .ne (.var 48) (.var 50)) (.ret [(.bool (.lit false))]) (.split (.not (.beq (.of (.var 49)) (.of (.var 51)))) (.ret [(.bool (.lit false))]) (.call 57 [(.arr 40 (.var 52)), (.arr 40 (.var 54))] tlates_15)))
def tlates_17 : Tree :=
  (.ob (.cmp .lt (.var 47) (.len (.var 18))) (.ob (.cmp .lt (.var 47) (.len (.var 19))) (.call 60 [(.int (.cell (.var 18) (.var 47) 0)), (.int (.cell (.var 18) (.var 47) 1)), (.int (.cell (.var 18) (.var 47) 2)), (.int (.cell (.var 18) (.var 47) 3)), (.int (.cell (.var 18) (.var 47) 4)), (.int (.cell (.var 18) (.var 47) 5)), (.int (.cell (.var 18) (.var 47) 6)), (.int (.cell (.var 18) (.var 47) 7)), (.int (.cell (.var 19) (.var 47) 0)), (.int (.cell (.var 19) (.var 47) 1))] tlates_16)))
def tlates_18 : Tree :=
  (.ob (.cmp .lt (.var 47) (.len (.var 18))) (.ob (.cmp .lt (.var 47) (.len (.var 19))) (.call 59 [(.int (.cell (.var 18) (.var 47) 0)), (.int (.cell (.var 18) (.var 47) 1)), (.int (.cell (.var 18) (.var 47) 2)), (.int (.cell (.var 18) (.var 47) 3)), (.int (.cell (.var 18) (.var 47) 4)), (.int (.cell (.var 18) (.var 47) 5)), (.int (.cell (.var 18) (.var 47) 6)), (.int (.cell (.var 18) (.var 47) 7)), (.int (.cell (.var 19) (.var 47) 0)), (.int (.cell (.var 19) (.var 47) 1))] tlates_17)))
def tlates_19 : Tree :=
  (.ob (.cmp .lt (.var 47) (.len (.var 18))) (.ob (.cmp .lt (.var 47) (.len (.var 19))) (.call 58 [(.int (.cell (.var 18) (.var 47) 0)), (.int (.cell (.var 18) (.var 47) 1)), (.int (.cell (.var 18) (.var 47) 2)), (.int (.cell (.var 18) (.var 47) 3)), (.int (.cell (.var 18) (.var 47) 4)), (.int (.cell (.var 18) (.var 47) 5)), (.int (.cell (.var 18) (.var 47) 6)), (.int (.cell (.var 18) (.var 47) 7)), (.int (.cell (.var 19) (.var 47) 0)), (.int (.cell (.var 19) (.var 47) 1))] tlates_18)))
def tlates_20 : Tree :=
  (.arr [[(.int (.var 23)), (.int (.var 24)), (.int (.var 25)), (.int (.var 26)), (.int (.var 27)), (.int (.var 28)), (.int (.var 29)), (.int (.var 30))], [(.int (.var 33)), (.int (.var 34)), (.int (.var 35)), (.int (.var 36)), (.int (.var 37)), (.int (.var 38)), (.int (.var 39)), (.int (.var 40))]] (.dfn (.var 43) (.arr [[(.arr 23 (.var 10))], [(.arr 23 (.var 44))]] (.loop [.bool, .int] [(.bool (.lit false)), (.int (.lit 0))] (.split (.cmp .lt (.var 47) (.lit 2)) (.ob (.cmp .le (.lit 0) (.var 47)) (.ob (.cmp .lt (.var 47) (.len (.var 18))) (.ob (.cmp .lt (.var 47) (.len (.var 19))) (.call 49 [(.int (.cell (.var 18) (.var 47) 0)), (.int (.cell (.var 18) (.var 47) 1)), (.int (.cell (.var 18) (.var 47) 2)), (.int (.cell (.var 18) (.var 47) 3)), (.int (.cell (.var 18) (.var 47) 4)), (.int (.cell (.var 18) (.var 47) 5)), (.int (.cell (.var 18) (.var 47) 6)), (.int (.cell (.var 18) (.var 47) 7)), (.int (.cell (.var 19) (.var 47) 0)), (.int (.cell (.var 19) (.var 47) 1))] tlates_19)))) (.call 19 [] (.ret [(.bool (.of (.var 48)))])))))))
def tlates_21 : Tree :=
  (.join [(.vec 23), (.vec 31), (.vec 61), (.arr 3), .int] (.call 25 [(.arr 3 (.var 16)), (.int (.var 17))] tlates_10) (.call 25 [(.arr 3 (.var 21)), (.int (.var 22))] (.call 25 [(.arr 3 (.var 31)), (.int (.var 32))] tlates_20)))
def tlates : Tree :=
  (.split (.cmp .lt (.lit 6) (.len (.var 10))) (.call 19 [] (.ret [(.bool (.of (.var 16)))])) (.call 21 [(.arr 3 (.var 15))] tlates_21))
end Go.Proofs.Ytlbgcjpkegpmlaa
/- The samples that come as late as can be. -/
namespace Go.Proofs.Ytlbgcjpkegpmlaa
open Go.RowKit
set_option linter.unusedSimpArgs false
set_option linter.unusedVariables false

theorem latL_rg {x : SK} (hp : 1 ≤ x.pe) : ∀ {k : Nat} {f o p q O P Q : Int}, 0 ≤ f → f + k ≤ 60 → 0 ≤ p → p ≤ 60 → 0 ≤ q → q ≤ 10000 → latL x k f o p q = some (O, P, Q) → 0 ≤ P ∧ P ≤ 60 ∧ 0 ≤ Q ∧ Q ≤ 10000
  | 0, f, o, p, q, O, P, Q, hf, hk, p0, p1, q0, q1, h => by cases h; exact ⟨p0, p1, q0, q1⟩
  | k + 1, f, o, p, q, O, P, Q, hf, hk, p0, p1, q0, q1, h => by
    rw [latL] at h
    split at h
    · cases h
    · rename_i a ha
      have h1 := firA_rg hp hf ha
      split at h
      · cases h
      · split at h
        · exact latL_rg hp (by omega) (by omega) hf (by omega) h1.1 h1.2 h
        · exact latL_rg hp (by omega) (by omega) p0 p1 q0 q1 h
theorem latV_rg {x : SK} (hx : SKOk x) {o p q : Int} (h : latV x = some (o, p, q)) : 0 ≤ p ∧ p ≤ 60 ∧ 0 ≤ q ∧ q ≤ 10000 := by
  obtain ⟨hch, hso⟩ := sensE_iff.1 hx.1
  unfold SOk at hso
  exact latL_rg (k := x.pe.toNat) (by omega) (Int.le_refl 0) (by omega) (by omega) (by omega) (by omega) (by omega) h
theorem slowA_succ {x : SK} {p : Int} {n : Nat} : slowA x p (n + 1) = slowA x p n ++ [sampR x (p + (n : Int) * x.pe)] := by
  unfold slowA; rw [List.range_succ, List.map_append]; rfl
theorem slowB_succ {x : SK} {p q : Int} {n : Nat} : slowB x p q (n + 1) = slowB x p q n ++ [sampR x (p + (q + ((n : Int) + 1) * (x.lo + 1) - 1) * x.pe)] := by
  unfold slowB; rw [List.range_succ, List.map_append]; rfl
theorem slowA_len {x : SK} {p : Int} {n : Nat} : (slowA x p n).length = n := by simp [slowA]
theorem slowB_len {x : SK} {p q : Int} {n : Nat} : (slowB x p q n).length = n := by simp [slowB]
theorem latE_no {x : SK} {a : Int} {is : Bool} (h : [C.i a, .b is] = latE x) (hs : is = false) : slowV x = none := by
  subst hs
  unfold slowV
  unfold latE at h
  by_cases hx : SKOk x
  · rw [if_pos hx] at h ⊢
    cases hv : latV x with
    | none => rfl
    | some v => obtain ⟨o, p, q⟩ := v; rw [hv] at h; cases h
  · rw [if_neg hx]
theorem latE_yes {x : SK} {a : Int} {is : Bool} (h : [C.i a, .b is] = latE x) (hs : is = true) : SKOk x ∧ ∃ p q, latV x = some (a, p, q) := by
  subst hs
  unfold latE at h
  by_cases hx : SKOk x
  · rw [if_pos hx] at h
    cases hv : latV x with
    | none => rw [hv] at h; cases h
    | some v => obtain ⟨o, p, q⟩ := v; rw [hv] at h; cases h; exact ⟨hx, p, q, rfl⟩
  · rw [if_neg hx] at h; cases h
theorem slowV_yes {x : SK} {o p q : Int} (hx : SKOk x) (h : latV x = some (o, p, q)) : slowV x = if 200 < q + x.ho then none else some (slowA x p q.toNat ++ slowB x p q x.ho.toNat) := by
  unfold slowV; rw [if_pos hx, h]
theorem same_ok : tab2.ok 57 := by
  refine Tab.of_ct rfl rfl ⟨_, Try.func57, by decide, rfl⟩ ?_ ctF_det
  refine ct_ok (cx := csame) (Tab.cx_ok all_nil) Try.func57 (bds := []) (T := tsame) (by kernel_rfl) ?_
  unfold tsame
  simp only [VC, allC, List.map_cons, List.map_nil, List.length_cons, List.length_nil, List.getElem?_cons_zero, List.getElem?_cons_succ, List.cons.injEq, C.i.injEq, C.b.injEq, and_true, true_and, forall_const, kindsOf_nil, kindsOf_lf, kindsOf_agg, kindsOf_box, boxKinds_nil, boxKinds_lf, boxKinds_agg, boxKinds_box, List.append_nil, List.cons_append, List.nil_append, den_cmp_le, den_cmp_lt, den_cmp_eq, den_cmp_ne, den_cmp_le', den_cmp_lt', den_cmp_eq', den_cmp_ne', den_and, den_and', den_or, den_or', den_not, den_not', den_blit, den_of, ev_var, at_0, at_1, at_2, at_3, at_4, at_5, at_6, at_7, at_skip, c_int, c_bool, c_arr, c_cnt, c_vec, ev_nil, ev_join, ev_sub3, loc_s, int_i, bool_b, rows_s, cs_nil, cs_cons, E.den_lit, E.den_var, E.den_add, E.den_sub, E.den_mul, E.den_quo, E.den_rem, E.den_max, E.den_min, E.den_len, E.den_wr, E.den_cell, ctSame, ctF]
  intro v rows d _ hsm v' rows' d' _ hsm'
  have e1 : ∀ k o, ((C.s v rows).at k o).int = cell_ (rows.getD k []) o := fun _ _ => rfl
  have e2 : ∀ k o, ((C.s v' rows').at k o).int = cell_ (rows'.getD k []) o := fun _ _ => rfl
  simp only [e1, e2]
  refine ⟨bds_nil _, fun hne => ?_, fun he => ?_⟩
  · unfold sameSam; rw [decide_eq_false (by omega)]; rfl
  have hS : sameSam rows rows' = sameFrom rows rows' := by unfold sameSam; rw [decide_eq_true (by omega), Bool.true_and]
  refine ⟨fun xs => match xs with | [_, .i i] => 0 ≤ i ∧ i ≤ rows.length ∧ sameFrom rows rows' = sameFrom (rows.drop i.toNat) (rows'.drop i.toNat) | _ => False, fun xs => match xs with | [_, .i i] => ((rows.length : Int) - i).toNat | _ => 0, ⟨by omega, by omega, rfl⟩, ?_⟩
  rintro z i _ _ ⟨i0, i1, hI⟩
  refine ⟨fun hlt => ⟨i0, hlt, by omega, ?_⟩, fun hge => ?_⟩
  · rw [drop_getD (show i.toNat < rows.length by omega), drop_getD (show i.toNat < rows'.length by omega), sameFrom] at hI
    refine ⟨fun h => ?_, fun h => ⟨⟨by omega, by omega, ?_⟩, show ((rows.length : Int) - (i + 1)).toNat < ((rows.length : Int) - i).toNat by omega⟩⟩
    · rw [hS, hI, decide_eq_false fun h' => h h'.1 h'.2.1 h'.2.2]; rfl
    · rw [hI, decide_eq_true h, Bool.true_and, show (i + 1).toNat = i.toNat + 1 by omega]
  · rw [hS, hI, List.drop_eq_nil_of_le (by omega), sameFrom]
    all_goals simp
theorem sameFrom_refl : ∀ (l : List (List C)), sameFrom l l = true
  | [] => rfl
  | x :: l => by simp [sameFrom, sameFrom_refl l]
theorem sameSam_refl (l : List (List C)) : sameSam l l = true := by simp [sameSam, sameFrom_refl]
theorem rsample_ok : tab2.ok 89 := by
  refine Tab.of_ct rfl rfl ⟨_, Try.func89, by decide, rfl⟩ ?_ ctF_det
  refine ct_ok (cx := crsample) (Tab.cx_ok (all_cons (up_ok rvalue_ok) all_nil)) Try.func89 (bds := []) (T := trsample) (by kernel_rfl) ?_
  have h1 : crsample.ct 47 = some ctValue := rfl
  unfold trsample
  simp only [VC, allC, List.map_cons, List.map_nil, List.length_cons, List.length_nil, List.getElem?_cons_zero, List.getElem?_cons_succ, List.cons.injEq, C.i.injEq, C.b.injEq, and_true, true_and, forall_const, kindsOf_nil, kindsOf_lf, kindsOf_agg, kindsOf_box, boxKinds_nil, boxKinds_lf, boxKinds_agg, boxKinds_box, List.append_nil, List.cons_append, List.nil_append, den_cmp_le, den_cmp_lt, den_cmp_eq, den_cmp_ne, den_cmp_le', den_cmp_lt', den_cmp_eq', den_cmp_ne', den_and, den_and', den_or, den_or', den_not, den_not', den_blit, den_of, ev_var, at_0, at_1, at_2, at_3, at_4, at_5, at_6, at_7, at_skip, c_int, c_bool, c_arr, c_cnt, c_vec, ev_nil, ev_join, ev_sub3, loc_s, int_i, bool_b, rows_s, cs_nil, cs_cons, E.den_lit, E.den_var, E.den_add, E.den_sub, E.den_mul, E.den_quo, E.den_rem, E.den_max, E.den_min, E.den_len, E.den_wr, E.den_cell, h1, ctSample, ctValue, ctF, kickSh, sensSh, sampSh, skOf_mk, cell10]
  intro ch _ _ pe _ _ de _ _ no _ _ st _ _ lo _ _ li _ _ ho _ _ r _ _ g _ _ t _ _ hp
  obtain ⟨hch, hso⟩ := sensE_iff.1 hp.1
  simp only [] at hso
  unfold SOk at hso
  refine ⟨bds_nil _, by omega, by omega, ?_⟩
  rintro v _ _ rfl
  unfold sampR
  simp only [Int.zero_sub]
end Go.Proofs.Ytlbgcjpkegpmlaa
/- The samples that come as late as can be: both texts. -/
namespace Go.Proofs.Ytlbgcjpkegpmlaa
open Go.RowKit
set_option linter.unusedSimpArgs false
set_option linter.unusedVariables false

theorem slow_ok : tab2.ok 59 := by
  refine Tab.of_ct rfl rfl ⟨_, Try.func59, by decide, rfl⟩ ?_ (fun h => by cases h)
  refine ct_ok (cx := cslow) (Tab.cx_ok (all_cons (up_ok late_ok) (all_cons (up_ok latek_ok) (all_cons (up_ok value_ok) all_nil))) fxslow) Try.func59 (bds := []) (T := tslow) (by kernel_rfl) ?_
  have h1 : cslow.ct 49 = some ctLate := rfl
  have h2 : cslow.ct 79 = some ctLatek := rfl
  have h3 : cslow.ct 46 = some ctValue := rfl
  unfold tslow tslow_4
  simp only [VC, allC, List.map_cons, List.map_nil, List.length_cons, List.length_nil, List.getElem?_cons_zero, List.getElem?_cons_succ, List.cons.injEq, C.i.injEq, C.b.injEq, and_true, true_and, forall_const, kindsOf_nil, kindsOf_lf, kindsOf_agg, kindsOf_box, boxKinds_nil, boxKinds_lf, boxKinds_agg, boxKinds_box, List.append_nil, List.cons_append, List.nil_append, den_cmp_le, den_cmp_lt, den_cmp_eq, den_cmp_ne, den_cmp_le', den_cmp_lt', den_cmp_eq', den_cmp_ne', den_and, den_and', den_or, den_or', den_not, den_not', den_blit, den_of, ev_var, at_0, at_1, at_2, at_3, at_4, at_5, at_6, at_7, at_skip, c_int, c_bool, c_arr, c_cnt, c_vec, ev_nil, ev_join, ev_sub3, loc_s, int_i, bool_b, rows_s, cs_nil, cs_cons, E.den_lit, E.den_var, E.den_add, E.den_sub, E.den_mul, E.den_quo, E.den_rem, E.den_max, E.den_min, E.den_len, E.den_wr, E.den_cell, h1, h2, ctSlow, ctLate, ctLatek, ctF, kickSh, sensSh, skOf_mk]
  intro ch _ _ pe _ _ de _ _ no _ _ st _ _ lo _ _ li _ _ ho _ _ r _ _ g _ _
  refine ⟨bds_nil _, ?_⟩
  rintro a _ _ is hl
  refine ⟨fun h => ?_, fun h => ?_⟩
  · rw [latE_no hl h]; exact ⟨rfl, rfl⟩
  obtain ⟨hx, p, q, hv⟩ := latE_yes hl h
  refine ⟨hx, ?_⟩
  rintro o' _ _ p' _ _ q' _ _ t hlc
  rw [hv] at hlc
  cases hlc
  obtain ⟨p0, p1, q0, q1⟩ := latV_rg hx hv
  have hsv := slowV_yes hx hv
  obtain ⟨hch, hso⟩ := sensE_iff.1 hx.1
  have hk := hx.2
  simp only [] at hso hk
  unfold SOk at hso
  unfold tslow_3
  simp only [VC, allC, List.map_cons, List.map_nil, List.length_cons, List.length_nil, List.getElem?_cons_zero, List.getElem?_cons_succ, List.cons.injEq, C.i.injEq, C.b.injEq, and_true, true_and, forall_const, kindsOf_nil, kindsOf_lf, kindsOf_agg, kindsOf_box, boxKinds_nil, boxKinds_lf, boxKinds_agg, boxKinds_box, List.append_nil, List.cons_append, List.nil_append, den_cmp_le, den_cmp_lt, den_cmp_eq, den_cmp_ne, den_cmp_le', den_cmp_lt', den_cmp_eq', den_cmp_ne', den_and, den_and', den_or, den_or', den_not, den_not', den_blit, den_of, ev_var, at_0, at_1, at_2, at_3, at_4, at_5, at_6, at_7, at_skip, c_int, c_bool, c_arr, c_cnt, c_vec, ev_nil, ev_join, ev_sub3, loc_s, int_i, bool_b, rows_s, cs_nil, cs_cons, E.den_lit, E.den_var, E.den_add, E.den_sub, E.den_mul, E.den_quo, E.den_rem, E.den_max, E.den_min, E.den_len, E.den_wr, E.den_cell, h3, ctSlow, ctValue, ctF, kickSh, sensSh]
  have eA := fun n => @slowA_succ ⟨ch, pe, de, no, st, lo, li, ho, r, g⟩ p n
  have eB := fun n => @slowB_succ ⟨ch, pe, de, no, st, lo, li, ho, r, g⟩ p q n
  have eS : ∀ t, sampR ⟨ch, pe, de, no, st, lo, li, ho, r, g⟩ t = [.i 0, .i t, .i (valueV ch pe de no st lo li ho r g t (-no))] := fun _ => rfl
  simp only [eS] at eA eB
  have epe : (SK.mk ch pe de no st lo li ho r g).pe = pe := rfl
  generalize hX : SK.mk ch pe de no st lo li ho r g = X at *
  refine ⟨by omega, fun h => ?_, fun hle => ?_⟩
  · rw [hsv, if_pos (by rw [← hX]; exact h)]; exact ⟨rfl, rfl⟩
  rw [if_neg (by rw [← hX]; show ¬ 200 < q + ho; omega), show X.ho = ho by rw [← hX]] at hsv
  intro _
  refine ⟨fun xs => match xs with | [.i i, .s _ out] => 0 ≤ i ∧ i ≤ q ∧ out = slowA X p i.toNat | _ => False, fun xs => match xs with | [.i i, _] => (q - i).toNat | _ => 0, ⟨by omega, by omega, rfl⟩, ?_⟩
  rintro i _ _ v out d _ _ ⟨i0, i1, hout⟩
  have mi := mul_bd (a := i) (b := pe) (A := 200) (B := 60) (by omega) (by omega) (by omega) (by omega)
  have e1 := eA i.toNat
  rw [show ((i.toNat : Nat) : Int) = i by omega] at e1
  have l1 : out.length = i.toNat := by rw [hout, slowA_len]
  refine ⟨fun hlt => ?_, fun hge => ?_⟩
  · repeat (refine And.intro (by omega) ?_)
    rintro vv _ _ hvv
    rw [Int.zero_sub] at hvv
    unfold tslow_1
    simp only [VC, allC, List.map_cons, List.map_nil, List.length_cons, List.length_nil, List.getElem?_cons_zero, List.getElem?_cons_succ, List.cons.injEq, C.i.injEq, C.b.injEq, and_true, true_and, forall_const, kindsOf_nil, kindsOf_lf, kindsOf_agg, kindsOf_box, boxKinds_nil, boxKinds_lf, boxKinds_agg, boxKinds_box, List.append_nil, List.cons_append, List.nil_append, den_cmp_le, den_cmp_lt, den_cmp_eq, den_cmp_ne, den_cmp_le', den_cmp_lt', den_cmp_eq', den_cmp_ne', den_and, den_and', den_or, den_or', den_not, den_not', den_blit, den_of, ev_var, at_0, at_1, at_2, at_3, at_4, at_5, at_6, at_7, at_skip, c_int, c_bool, c_arr, c_cnt, c_vec, ev_nil, ev_join, ev_sub3, loc_s, int_i, bool_b, rows_s, cs_nil, cs_cons, E.den_lit, E.den_var, E.den_add, E.den_sub, E.den_mul, E.den_quo, E.den_rem, E.den_max, E.den_min, E.den_len, E.den_wr, E.den_cell]
    refine ⟨by omega, by rw [l1]; omega, ⟨by omega, by omega, ?_⟩, show (q - (i + 1)).toNat < (q - i).toNat by omega⟩
    rw [show (i + 1).toNat = i.toNat + 1 by omega, e1, hout, hvv]
  have hiq : i = q := by omega
  refine ⟨fun xs => match xs with | [.i j, .s _ out] => 0 ≤ j ∧ j ≤ ho ∧ out = slowA X p q.toNat ++ slowB X p q j.toNat | _ => False, fun xs => match xs with | [.i j, _] => (ho - j).toNat | _ => 0, ⟨by omega, by omega, by rw [hout, hiq]; simp [slowB]⟩, ?_⟩
  rintro j _ _ v2 out2 d2 _ _ ⟨j0, j1, hout2⟩
  have ml := mul_bd (a := j + 1) (b := lo + 1) (A := 9) (B := 6) (by omega) (by omega) (by omega) (by omega)
  have mp := mul_abs (a := q + (j + 1) * (lo + 1) - 1) (b := pe) (A := 300) (B := 60) (by omega) (by omega) (by omega) (by omega)
  have e2 := eB j.toNat
  rw [show ((j.toNat : Nat) : Int) = j by omega] at e2
  have l2 : out2.length = q.toNat + j.toNat := by rw [hout2, List.length_append, slowA_len, slowB_len]
  refine ⟨fun hlt => ?_, fun hge => ?_⟩
  · repeat (refine And.intro (by omega) ?_)
    rintro vv _ _ hvv
    rw [Int.zero_sub] at hvv
    unfold tslow_2
    simp only [VC, allC, List.map_cons, List.map_nil, List.length_cons, List.length_nil, List.getElem?_cons_zero, List.getElem?_cons_succ, List.cons.injEq, C.i.injEq, C.b.injEq, and_true, true_and, forall_const, kindsOf_nil, kindsOf_lf, kindsOf_agg, kindsOf_box, boxKinds_nil, boxKinds_lf, boxKinds_agg, boxKinds_box, List.append_nil, List.cons_append, List.nil_append, den_cmp_le, den_cmp_lt, den_cmp_eq, den_cmp_ne, den_cmp_le', den_cmp_lt', den_cmp_eq', den_cmp_ne', den_and, den_and', den_or, den_or', den_not, den_not', den_blit, den_of, ev_var, at_0, at_1, at_2, at_3, at_4, at_5, at_6, at_7, at_skip, c_int, c_bool, c_arr, c_cnt, c_vec, ev_nil, ev_join, ev_sub3, loc_s, int_i, bool_b, rows_s, cs_nil, cs_cons, E.den_lit, E.den_var, E.den_add, E.den_sub, E.den_mul, E.den_quo, E.den_rem, E.den_max, E.den_min, E.den_len, E.den_wr, E.den_cell]
    refine ⟨by omega, by rw [l2]; omega, ⟨by omega, by omega, ?_⟩, show (ho - (j + 1)).toNat < (ho - j).toNat by omega⟩
    rw [show (j + 1).toNat = j.toNat + 1 by omega, e2, hout2, hvv, List.append_assoc]
  · rw [hsv, show ho.toNat = j.toNat by omega]; exact ⟨hout2, rfl⟩
theorem rslow_ok : tab2.ok 60 := by
  refine Tab.of_ct rfl rfl ⟨_, Try.func60, by decide, rfl⟩ ?_ (fun h => by cases h)
  refine ct_ok (cx := crslow) (Tab.cx_ok (all_cons (up_ok rlate_ok) (all_cons (up_ok rworst_ok) (all_cons rsample_ok all_nil)))) Try.func60 (bds := []) (T := trslow) (by kernel_rfl) ?_
  have h1 : crslow.ct 58 = some ctLate := rfl
  have h2 : crslow.ct 87 = some ctWorst := rfl
  have h3 : crslow.ct 89 = some ctSample := rfl
  unfold trslow trslow_4
  simp only [VC, allC, List.map_cons, List.map_nil, List.length_cons, List.length_nil, List.getElem?_cons_zero, List.getElem?_cons_succ, List.cons.injEq, C.i.injEq, C.b.injEq, and_true, true_and, forall_const, kindsOf_nil, kindsOf_lf, kindsOf_agg, kindsOf_box, boxKinds_nil, boxKinds_lf, boxKinds_agg, boxKinds_box, List.append_nil, List.cons_append, List.nil_append, den_cmp_le, den_cmp_lt, den_cmp_eq, den_cmp_ne, den_cmp_le', den_cmp_lt', den_cmp_eq', den_cmp_ne', den_and, den_and', den_or, den_or', den_not, den_not', den_blit, den_of, ev_var, at_0, at_1, at_2, at_3, at_4, at_5, at_6, at_7, at_skip, c_int, c_bool, c_arr, c_cnt, c_vec, ev_nil, ev_join, ev_sub3, loc_s, int_i, bool_b, rows_s, cs_nil, cs_cons, E.den_lit, E.den_var, E.den_add, E.den_sub, E.den_mul, E.den_quo, E.den_rem, E.den_max, E.den_min, E.den_len, E.den_wr, E.den_cell, h1, h2, ctSlow, ctLate, ctWorst, ctF, kickSh, sensSh, skOf_mk]
  intro ch _ _ pe _ _ de _ _ no _ _ st _ _ lo _ _ li _ _ ho _ _ r _ _ g _ _
  refine ⟨bds_nil _, ?_⟩
  rintro a _ _ is hl
  refine ⟨fun h => ?_, fun h => ?_⟩
  · rw [latE_no hl h]; exact ⟨rfl, rfl⟩
  obtain ⟨hx, p, q, hv⟩ := latE_yes hl h
  refine ⟨hx, ?_⟩
  rintro o' _ _ p' _ _ q' _ _ t hlc
  rw [hv] at hlc
  cases hlc
  obtain ⟨p0, p1, q0, q1⟩ := latV_rg hx hv
  have hsv := slowV_yes hx hv
  obtain ⟨hch, hso⟩ := sensE_iff.1 hx.1
  have hk := hx.2
  simp only [] at hso hk
  unfold SOk at hso
  unfold trslow_3
  simp only [VC, allC, List.map_cons, List.map_nil, List.length_cons, List.length_nil, List.getElem?_cons_zero, List.getElem?_cons_succ, List.cons.injEq, C.i.injEq, C.b.injEq, and_true, true_and, forall_const, kindsOf_nil, kindsOf_lf, kindsOf_agg, kindsOf_box, boxKinds_nil, boxKinds_lf, boxKinds_agg, boxKinds_box, List.append_nil, List.cons_append, List.nil_append, den_cmp_le, den_cmp_lt, den_cmp_eq, den_cmp_ne, den_cmp_le', den_cmp_lt', den_cmp_eq', den_cmp_ne', den_and, den_and', den_or, den_or', den_not, den_not', den_blit, den_of, ev_var, at_0, at_1, at_2, at_3, at_4, at_5, at_6, at_7, at_skip, c_int, c_bool, c_arr, c_cnt, c_vec, ev_nil, ev_join, ev_sub3, loc_s, int_i, bool_b, rows_s, cs_nil, cs_cons, E.den_lit, E.den_var, E.den_add, E.den_sub, E.den_mul, E.den_quo, E.den_rem, E.den_max, E.den_min, E.den_len, E.den_wr, E.den_cell, h3, ctSlow, ctSample, ctF, kickSh, sensSh, sampSh, skOf_mk, cell10]
  have eA := fun n => @slowA_succ ⟨ch, pe, de, no, st, lo, li, ho, r, g⟩ p n
  have eB := fun n => @slowB_succ ⟨ch, pe, de, no, st, lo, li, ho, r, g⟩ p q n
  have epe : (SK.mk ch pe de no st lo li ho r g).pe = pe := rfl
  have elo : (SK.mk ch pe de no st lo li ho r g).lo = lo := rfl
  simp only [epe, elo] at eA eB
  generalize hX : SK.mk ch pe de no st lo li ho r g = X at *
  refine ⟨by omega, fun h => ?_, fun hle => ?_⟩
  · rw [hsv, if_pos (by rw [← hX]; exact h)]; exact ⟨rfl, rfl⟩
  rw [if_neg (by rw [← hX]; show ¬ 200 < q + ho; omega), show X.ho = ho by rw [← hX]] at hsv
  refine ⟨fun xs => match xs with | [.s _ out, .i i] => 0 ≤ i ∧ i ≤ q ∧ out = slowA X p i.toNat | _ => False, fun xs => match xs with | [_, .i i] => (q - i).toNat | _ => 0, ⟨by omega, by omega, rfl⟩, ?_⟩
  rintro v out d _ _ i _ _ ⟨i0, i1, hout⟩
  have mi := mul_bd (a := i) (b := pe) (A := 200) (B := 60) (by omega) (by omega) (by omega) (by omega)
  have e1 := eA i.toNat
  rw [show ((i.toNat : Nat) : Int) = i by omega] at e1
  have l1 : out.length = i.toNat := by rw [hout, slowA_len]
  refine ⟨fun hlt => ?_, fun hge => ?_⟩
  · repeat (refine And.intro (by omega) ?_)
    rintro y0 _ _ y1 _ _ y2 _ _ hvv
    unfold trslow_1
    simp only [VC, allC, List.map_cons, List.map_nil, List.length_cons, List.length_nil, List.getElem?_cons_zero, List.getElem?_cons_succ, List.cons.injEq, C.i.injEq, C.b.injEq, and_true, true_and, forall_const, kindsOf_nil, kindsOf_lf, kindsOf_agg, kindsOf_box, boxKinds_nil, boxKinds_lf, boxKinds_agg, boxKinds_box, List.append_nil, List.cons_append, List.nil_append, den_cmp_le, den_cmp_lt, den_cmp_eq, den_cmp_ne, den_cmp_le', den_cmp_lt', den_cmp_eq', den_cmp_ne', den_and, den_and', den_or, den_or', den_not, den_not', den_blit, den_of, ev_var, at_0, at_1, at_2, at_3, at_4, at_5, at_6, at_7, at_skip, c_int, c_bool, c_arr, c_cnt, c_vec, ev_nil, ev_join, ev_sub3, loc_s, int_i, bool_b, rows_s, cs_nil, cs_cons, E.den_lit, E.den_var, E.den_add, E.den_sub, E.den_mul, E.den_quo, E.den_rem, E.den_max, E.den_min, E.den_len, E.den_wr, E.den_cell]
    refine ⟨by rw [l1]; omega, ⟨by omega, by omega, ?_⟩, show (q - (i + 1)).toNat < (q - i).toNat by omega⟩
    rw [show (i + 1).toNat = i.toNat + 1 by omega, e1, hout, hvv]
  have hiq : i = q := by omega
  refine ⟨fun xs => match xs with | [.s _ out, .i j] => 1 ≤ j ∧ j ≤ ho + 1 ∧ out = slowA X p q.toNat ++ slowB X p q (j - 1).toNat | _ => False, fun xs => match xs with | [_, .i j] => (ho + 1 - j).toNat | _ => 0, ⟨by omega, by omega, by rw [hout, hiq]; simp [slowB]⟩, ?_⟩
  rintro v2 out2 d2 _ _ j _ _ ⟨j0, j1, hout2⟩
  have ml := mul_bd (a := j) (b := lo + 1) (A := 9) (B := 6) (by omega) (by omega) (by omega) (by omega)
  have mp := mul_abs (a := q + j * (lo + 1) - 1) (b := pe) (A := 300) (B := 60) (by omega) (by omega) (by omega) (by omega)
  have e2 := eB (j - 1).toNat
  rw [show (((j - 1).toNat : Nat) : Int) + 1 = j by omega] at e2
  have l2 : out2.length = q.toNat + (j - 1).toNat := by rw [hout2, List.length_append, slowA_len, slowB_len]
  refine ⟨fun hlt => ?_, fun hge => ?_⟩
  · repeat (refine And.intro (by omega) ?_)
    rintro y0 _ _ y1 _ _ y2 _ _ hvv
    unfold trslow_2
    simp only [VC, allC, List.map_cons, List.map_nil, List.length_cons, List.length_nil, List.getElem?_cons_zero, List.getElem?_cons_succ, List.cons.injEq, C.i.injEq, C.b.injEq, and_true, true_and, forall_const, kindsOf_nil, kindsOf_lf, kindsOf_agg, kindsOf_box, boxKinds_nil, boxKinds_lf, boxKinds_agg, boxKinds_box, List.append_nil, List.cons_append, List.nil_append, den_cmp_le, den_cmp_lt, den_cmp_eq, den_cmp_ne, den_cmp_le', den_cmp_lt', den_cmp_eq', den_cmp_ne', den_and, den_and', den_or, den_or', den_not, den_not', den_blit, den_of, ev_var, at_0, at_1, at_2, at_3, at_4, at_5, at_6, at_7, at_skip, c_int, c_bool, c_arr, c_cnt, c_vec, ev_nil, ev_join, ev_sub3, loc_s, int_i, bool_b, rows_s, cs_nil, cs_cons, E.den_lit, E.den_var, E.den_add, E.den_sub, E.den_mul, E.den_quo, E.den_rem, E.den_max, E.den_min, E.den_len, E.den_wr, E.den_cell]
    refine ⟨by rw [l2]; omega, by omega, by omega, ⟨by omega, by omega, ?_⟩, show (ho + 1 - (j + 1)).toNat < (ho + 1 - j).toNat by omega⟩
    rw [show (j + 1 - 1).toNat = (j - 1).toNat + 1 by omega, e2, hout2, hvv, List.append_assoc]
  · rw [hsv, show ho.toNat = (j - 1).toNat by omega]; exact ⟨hout2, rfl⟩
end Go.Proofs.Ytlbgcjpkegpmlaa
/- KickLates. -/
namespace Go.Proofs.Ytlbgcjpkegpmlaa
open Go.RowKit
set_option linter.unusedSimpArgs false
set_option linter.unusedVariables false

theorem slowIs_eq {o : Option (List (List C))} {r r' : List (List C)} {t t' : Bool} (h : slowIs o r t) (h' : slowIs o r' t') : r = r' ∧ t = t' := by
  cases o with
  | none => exact ⟨h.1.trans h'.1.symm, h.2.trans h'.2.symm⟩
  | some l => exact ⟨h.1.trans h'.1.symm, h.2.trans h'.2.symm⟩
theorem bne_self (t : Bool) : ¬ (t == t) = false := by cases t <;> decide
theorem lates_ok (awake_ok : tab2.ok 19) : CtOK Try.prog 13 (ctLaw [sensSh, kickSh, .lf (.arr 23), kicksSh, .lf (.arr 3)]) := by
  refine ct_ok (cx := clates) (Tab.cx_ok (all_cons (up_ok newring_ok) (all_cons (up_ok sensorof_ok) (all_cons (up_ok kickof_ok) (all_cons (up_ok kicksof_ok) (all_cons (up_ok late_ok) (all_cons (up_ok rlate_ok) (all_cons slow_ok (all_cons rslow_ok (all_cons same_ok (all_cons (up_ok latest_ok) (all_cons (up_ok rlatest_ok) (all_cons (up_ok caught_ok) (all_cons (up_ok rcaught_ok) (all_cons awake_ok all_nil))))))))))))))) Try.func13 (bds := []) (T := tlates) (by kernel_rfl) ?_
  have h1 : clates.ct 21 = some ctNewRing := rfl
  have h2 : clates.ct 48 = some ctKicksOf := rfl
  have h3 : clates.ct 25 = some ctSensorOf := rfl
  have h4 : clates.ct 20 = some ctKickOf := rfl
  have h5 : clates.ct 49 = some ctLate := rfl
  have h6 : clates.ct 58 = some ctLate := rfl
  have h7 : clates.ct 59 = some ctSlow := rfl
  have h8 : clates.ct 60 = some ctSlow := rfl
  have h9 : clates.ct 57 = some ctSame := rfl
  have h10 : clates.ct 50 = some ctLatest := rfl
  have h11 : clates.ct 61 = some ctLatest := rfl
  have h12 : clates.ct 51 = some ctCaught := rfl
  have h13 : clates.ct 62 = some ctCaught := rfl
  have h14 : clates.ct 19 = some ctAwake := rfl
  unfold tlates tlates_21
  simp (config := { maxSteps := 1000000 }) only [VC, allC, List.map_cons, List.map_nil, List.length_cons, List.length_nil, List.getElem?_cons_zero, List.getElem?_cons_succ, List.cons.injEq, C.i.injEq, C.b.injEq, and_true, true_and, forall_const, kindsOf_nil, kindsOf_lf, kindsOf_agg, kindsOf_box, boxKinds_nil, boxKinds_lf, boxKinds_agg, boxKinds_box, List.append_nil, List.cons_append, List.nil_append, den_cmp_le, den_cmp_lt, den_cmp_eq, den_cmp_ne, den_cmp_le', den_cmp_lt', den_cmp_eq', den_cmp_ne', den_and, den_and', den_or, den_or', den_not, den_not', den_blit, den_of, ev_var, at_0, at_1, at_2, at_3, at_4, at_5, at_6, at_7, at_skip, c_int, c_bool, c_arr, c_cnt, c_vec, ev_nil, ev_join, ev_sub3, loc_s, int_i, bool_b, rows_s, cs_nil, cs_cons, E.den_lit, E.den_var, E.den_add, E.den_sub, E.den_mul, E.den_quo, E.den_rem, E.den_max, E.den_min, E.den_len, E.den_wr, E.den_cell, h1, h3, h14, ctLaw, ctAwake, ctNewRing, ctSensorOf, atPre, ctF, kickSh, kicksSh, sensSh, ringSh]
  intro ch _ _ pe _ _ de _ _ no _ _ st _ _ lo _ _ li _ _ ho _ _ r _ _ g _ _ v l d hty hsm a _ _ b _ _ c _ _ e _ _ v1 nums d1 hty1 hsm1
  refine ⟨bds_nil _, fun h => ?_, fun h => ?_⟩
  · rintro t rfl; rfl
  rintro v0 rows0 d0 _ _ at0 _ _ ⟨hc, rfl⟩
  cases hc
  refine ⟨fun xs => match xs with | [.s _ a, .s _ b, .s _ c, .s _ _, .i x] => a.length = 2 ∧ b.length = 2 ∧ c.length = 2 ∧ 0 ≤ x ∧ x ≤ 100 | _ => False, ⟨by omega, ?_⟩, ?_⟩
  · rintro ch _ _ pe _ _ de _ _ no _ _ st _ _ lo _ _ li _ _ ho _ _ v0 rows0 d0 _ _ x _ _ ⟨sg, rfl, rfl, rfl⟩
    unfold tlates_10
    simp only [VC, allC, List.map_cons, List.map_nil, List.length_cons, List.length_nil, List.getElem?_cons_zero, List.getElem?_cons_succ, List.cons.injEq, C.i.injEq, C.b.injEq, and_true, true_and, forall_const, kindsOf_nil, kindsOf_lf, kindsOf_agg, kindsOf_box, boxKinds_nil, boxKinds_lf, boxKinds_agg, boxKinds_box, List.append_nil, List.cons_append, List.nil_append, den_cmp_le, den_cmp_lt, den_cmp_eq, den_cmp_ne, den_cmp_le', den_cmp_lt', den_cmp_eq', den_cmp_ne', den_and, den_and', den_or, den_or', den_not, den_not', den_blit, den_of, ev_var, at_0, at_1, at_2, at_3, at_4, at_5, at_6, at_7, at_skip, c_int, c_bool, c_arr, c_cnt, c_vec, ev_nil, ev_join, ev_sub3, loc_s, int_i, bool_b, rows_s, cs_nil, cs_cons, E.den_lit, E.den_var, E.den_add, E.den_sub, E.den_mul, E.den_quo, E.den_rem, E.den_max, E.den_min, E.den_len, E.den_wr, E.den_cell, h4, ctKickOf, atPre, ctF, kickSh, ringSh]
    refine ⟨fun _ => ⟨by omega, ?_⟩, ⟨by omega, ?_⟩⟩
    · rintro a1 _ _ b1 _ _ v0 rows0 d0 _ _ x _ _ ⟨_, _, _, _, rfl, rfl, rfl⟩
      unfold tlates_3
      simp only [VC, allC, List.map_cons, List.map_nil, List.length_cons, List.length_nil, List.getElem?_cons_zero, List.getElem?_cons_succ, List.cons.injEq, C.i.injEq, C.b.injEq, and_true, true_and, forall_const, kindsOf_nil, kindsOf_lf, kindsOf_agg, kindsOf_box, boxKinds_nil, boxKinds_lf, boxKinds_agg, boxKinds_box, List.append_nil, List.cons_append, List.nil_append, den_cmp_le, den_cmp_lt, den_cmp_eq, den_cmp_ne, den_cmp_le', den_cmp_lt', den_cmp_eq', den_cmp_ne', den_and, den_and', den_or, den_or', den_not, den_not', den_blit, den_of, ev_var, at_0, at_1, at_2, at_3, at_4, at_5, at_6, at_7, at_skip, c_int, c_bool, c_arr, c_cnt, c_vec, ev_nil, ev_join, ev_sub3, loc_s, int_i, bool_b, rows_s, cs_nil, cs_cons, E.den_lit, E.den_var, E.den_add, E.den_sub, E.den_mul, E.den_quo, E.den_rem, E.den_max, E.den_min, E.den_len, E.den_wr, E.den_cell, h2, ctKicksOf, atPre, kicksSh, ringSh]
      refine ⟨fun _ => ⟨by omega, ?_⟩, ⟨by omega, ?_⟩⟩
      · rintro a1 _ _ b1 _ _ a2 _ _ b2 _ _ v0 rows0 d0 _ _ x _ _ ⟨_, _, _, _, _, _, rfl, rfl, rfl⟩
        unfold tlates_1
        simp only [VC, allC, List.map_cons, List.map_nil, List.length_cons, List.length_nil, List.getElem?_cons_zero, List.getElem?_cons_succ, List.cons.injEq, C.i.injEq, C.b.injEq, and_true, true_and, forall_const, kindsOf_nil, kindsOf_lf, kindsOf_agg, kindsOf_box, boxKinds_nil, boxKinds_lf, boxKinds_agg, boxKinds_box, List.append_nil, List.cons_append, List.nil_append, den_cmp_le, den_cmp_lt, den_cmp_eq, den_cmp_ne, den_cmp_le', den_cmp_lt', den_cmp_eq', den_cmp_ne', den_and, den_and', den_or, den_or', den_not, den_not', den_blit, den_of, ev_var, at_0, at_1, at_2, at_3, at_4, at_5, at_6, at_7, at_skip, c_int, c_bool, c_arr, c_cnt, c_vec, ev_nil, ev_join, ev_sub3, loc_s, int_i, bool_b, rows_s, cs_nil, cs_cons, E.den_lit, E.den_var, E.den_add, E.den_sub, E.den_mul, E.den_quo, E.den_rem, E.den_max, E.den_min, E.den_len, E.den_wr, E.den_cell]
        omega
      · rintro a1 _ _ b1 _ _ a2 _ _ b2 _ _ v0 rows0 d0 _ _ x _ _ ⟨_, _, _, _, _, _, rfl, rfl, rfl⟩
        unfold tlates_2
        simp only [VC, allC, List.map_cons, List.map_nil, List.length_cons, List.length_nil, List.getElem?_cons_zero, List.getElem?_cons_succ, List.cons.injEq, C.i.injEq, C.b.injEq, and_true, true_and, forall_const, kindsOf_nil, kindsOf_lf, kindsOf_agg, kindsOf_box, boxKinds_nil, boxKinds_lf, boxKinds_agg, boxKinds_box, List.append_nil, List.cons_append, List.nil_append, den_cmp_le, den_cmp_lt, den_cmp_eq, den_cmp_ne, den_cmp_le', den_cmp_lt', den_cmp_eq', den_cmp_ne', den_and, den_and', den_or, den_or', den_not, den_not', den_blit, den_of, ev_var, at_0, at_1, at_2, at_3, at_4, at_5, at_6, at_7, at_skip, c_int, c_bool, c_arr, c_cnt, c_vec, ev_nil, ev_join, ev_sub3, loc_s, int_i, bool_b, rows_s, cs_nil, cs_cons, E.den_lit, E.den_var, E.den_add, E.den_sub, E.den_mul, E.den_quo, E.den_rem, E.den_max, E.den_min, E.den_len, E.den_wr, E.den_cell]
        omega
    · rintro a1 _ _ b1 _ _ v0 rows0 d0 _ _ x _ _ ⟨_, _, _, _, rfl, rfl, rfl⟩
      unfold tlates_9
      simp only [VC, allC, List.map_cons, List.map_nil, List.length_cons, List.length_nil, List.getElem?_cons_zero, List.getElem?_cons_succ, List.cons.injEq, C.i.injEq, C.b.injEq, and_true, true_and, forall_const, kindsOf_nil, kindsOf_lf, kindsOf_agg, kindsOf_box, boxKinds_nil, boxKinds_lf, boxKinds_agg, boxKinds_box, List.append_nil, List.cons_append, List.nil_append, den_cmp_le, den_cmp_lt, den_cmp_eq, den_cmp_ne, den_cmp_le', den_cmp_lt', den_cmp_eq', den_cmp_ne', den_and, den_and', den_or, den_or', den_not, den_not', den_blit, den_of, ev_var, at_0, at_1, at_2, at_3, at_4, at_5, at_6, at_7, at_skip, c_int, c_bool, c_arr, c_cnt, c_vec, ev_nil, ev_join, ev_sub3, loc_s, int_i, bool_b, rows_s, cs_nil, cs_cons, E.den_lit, E.den_var, E.den_add, E.den_sub, E.den_mul, E.den_quo, E.den_rem, E.den_max, E.den_min, E.den_len, E.den_wr, E.den_cell, h2, ctKicksOf, atPre, kicksSh, ringSh]
      refine ⟨fun _ => ⟨fun _ => ⟨by omega, ?_⟩, ⟨by omega, ?_⟩⟩, ⟨fun _ => ⟨fun _ => ⟨by omega, ?_⟩, ⟨by omega, ?_⟩⟩, ⟨by omega, ?_⟩⟩⟩
      all_goals rintro a1 _ _ b1 _ _ a2 _ _ b2 _ _ v0 rows0 d0 _ _ x _ _ ⟨_, _, _, _, _, _, rfl, rfl, rfl⟩
      · unfold tlates_4
        simp only [VC, allC, List.map_cons, List.map_nil, List.length_cons, List.length_nil, List.getElem?_cons_zero, List.getElem?_cons_succ, List.cons.injEq, C.i.injEq, C.b.injEq, and_true, true_and, forall_const, kindsOf_nil, kindsOf_lf, kindsOf_agg, kindsOf_box, boxKinds_nil, boxKinds_lf, boxKinds_agg, boxKinds_box, List.append_nil, List.cons_append, List.nil_append, den_cmp_le, den_cmp_lt, den_cmp_eq, den_cmp_ne, den_cmp_le', den_cmp_lt', den_cmp_eq', den_cmp_ne', den_and, den_and', den_or, den_or', den_not, den_not', den_blit, den_of, ev_var, at_0, at_1, at_2, at_3, at_4, at_5, at_6, at_7, at_skip, c_int, c_bool, c_arr, c_cnt, c_vec, ev_nil, ev_join, ev_sub3, loc_s, int_i, bool_b, rows_s, cs_nil, cs_cons, E.den_lit, E.den_var, E.den_add, E.den_sub, E.den_mul, E.den_quo, E.den_rem, E.den_max, E.den_min, E.den_len, E.den_wr, E.den_cell]
        omega
      · unfold tlates_5
        simp only [VC, allC, List.map_cons, List.map_nil, List.length_cons, List.length_nil, List.getElem?_cons_zero, List.getElem?_cons_succ, List.cons.injEq, C.i.injEq, C.b.injEq, and_true, true_and, forall_const, kindsOf_nil, kindsOf_lf, kindsOf_agg, kindsOf_box, boxKinds_nil, boxKinds_lf, boxKinds_agg, boxKinds_box, List.append_nil, List.cons_append, List.nil_append, den_cmp_le, den_cmp_lt, den_cmp_eq, den_cmp_ne, den_cmp_le', den_cmp_lt', den_cmp_eq', den_cmp_ne', den_and, den_and', den_or, den_or', den_not, den_not', den_blit, den_of, ev_var, at_0, at_1, at_2, at_3, at_4, at_5, at_6, at_7, at_skip, c_int, c_bool, c_arr, c_cnt, c_vec, ev_nil, ev_join, ev_sub3, loc_s, int_i, bool_b, rows_s, cs_nil, cs_cons, E.den_lit, E.den_var, E.den_add, E.den_sub, E.den_mul, E.den_quo, E.den_rem, E.den_max, E.den_min, E.den_len, E.den_wr, E.den_cell]
        omega
      · unfold tlates_6
        simp only [VC, allC, List.map_cons, List.map_nil, List.length_cons, List.length_nil, List.getElem?_cons_zero, List.getElem?_cons_succ, List.cons.injEq, C.i.injEq, C.b.injEq, and_true, true_and, forall_const, kindsOf_nil, kindsOf_lf, kindsOf_agg, kindsOf_box, boxKinds_nil, boxKinds_lf, boxKinds_agg, boxKinds_box, List.append_nil, List.cons_append, List.nil_append, den_cmp_le, den_cmp_lt, den_cmp_eq, den_cmp_ne, den_cmp_le', den_cmp_lt', den_cmp_eq', den_cmp_ne', den_and, den_and', den_or, den_or', den_not, den_not', den_blit, den_of, ev_var, at_0, at_1, at_2, at_3, at_4, at_5, at_6, at_7, at_skip, c_int, c_bool, c_arr, c_cnt, c_vec, ev_nil, ev_join, ev_sub3, loc_s, int_i, bool_b, rows_s, cs_nil, cs_cons, E.den_lit, E.den_var, E.den_add, E.den_sub, E.den_mul, E.den_quo, E.den_rem, E.den_max, E.den_min, E.den_len, E.den_wr, E.den_cell]
        omega
      · unfold tlates_7
        simp only [VC, allC, List.map_cons, List.map_nil, List.length_cons, List.length_nil, List.getElem?_cons_zero, List.getElem?_cons_succ, List.cons.injEq, C.i.injEq, C.b.injEq, and_true, true_and, forall_const, kindsOf_nil, kindsOf_lf, kindsOf_agg, kindsOf_box, boxKinds_nil, boxKinds_lf, boxKinds_agg, boxKinds_box, List.append_nil, List.cons_append, List.nil_append, den_cmp_le, den_cmp_lt, den_cmp_eq, den_cmp_ne, den_cmp_le', den_cmp_lt', den_cmp_eq', den_cmp_ne', den_and, den_and', den_or, den_or', den_not, den_not', den_blit, den_of, ev_var, at_0, at_1, at_2, at_3, at_4, at_5, at_6, at_7, at_skip, c_int, c_bool, c_arr, c_cnt, c_vec, ev_nil, ev_join, ev_sub3, loc_s, int_i, bool_b, rows_s, cs_nil, cs_cons, E.den_lit, E.den_var, E.den_add, E.den_sub, E.den_mul, E.den_quo, E.den_rem, E.den_max, E.den_min, E.den_len, E.den_wr, E.den_cell]
        omega
      · unfold tlates_8
        simp only [VC, allC, List.map_cons, List.map_nil, List.length_cons, List.length_nil, List.getElem?_cons_zero, List.getElem?_cons_succ, List.cons.injEq, C.i.injEq, C.b.injEq, and_true, true_and, forall_const, kindsOf_nil, kindsOf_lf, kindsOf_agg, kindsOf_box, boxKinds_nil, boxKinds_lf, boxKinds_agg, boxKinds_box, List.append_nil, List.cons_append, List.nil_append, den_cmp_le, den_cmp_lt, den_cmp_eq, den_cmp_ne, den_cmp_le', den_cmp_lt', den_cmp_eq', den_cmp_ne', den_and, den_and', den_or, den_or', den_not, den_not', den_blit, den_of, ev_var, at_0, at_1, at_2, at_3, at_4, at_5, at_6, at_7, at_skip, c_int, c_bool, c_arr, c_cnt, c_vec, ev_nil, ev_join, ev_sub3, loc_s, int_i, bool_b, rows_s, cs_nil, cs_cons, E.den_lit, E.den_var, E.den_add, E.den_sub, E.den_mul, E.den_quo, E.den_rem, E.den_max, E.den_min, E.den_len, E.den_wr, E.den_cell]
        omega
  rintro vs S d2 _ _ vk K d3 _ _ vx X d4 _ _ vr nums2 dr _ _ x _ _ ⟨l1, l2, l3, x0, x1⟩
  refine ⟨by omega, ?_⟩
  rintro q0 _ _ q1 _ _ q2 _ _ q3 _ _ q4 _ _ q5 _ _ q6 _ _ q7 _ _ v0 rows0 d0 _ _ at0 _ _ ⟨sg, rfl, rfl, rfl⟩
  refine ⟨by omega, ?_⟩
  rintro u0 _ _ u1 _ _ u2 _ _ u3 _ _ u4 _ _ u5 _ _ u6 _ _ u7 _ _ v0 rows0 d0 _ _ at0 _ _ ⟨sg', rfl, rfl, rfl⟩
  unfold tlates_20
  simp only [VC, allC, List.map_cons, List.map_nil, List.length_cons, List.length_nil, List.getElem?_cons_zero, List.getElem?_cons_succ, List.cons.injEq, C.i.injEq, C.b.injEq, and_true, true_and, forall_const, kindsOf_nil, kindsOf_lf, kindsOf_agg, kindsOf_box, boxKinds_nil, boxKinds_lf, boxKinds_agg, boxKinds_box, List.append_nil, List.cons_append, List.nil_append, den_cmp_le, den_cmp_lt, den_cmp_eq, den_cmp_ne, den_cmp_le', den_cmp_lt', den_cmp_eq', den_cmp_ne', den_and, den_and', den_or, den_or', den_not, den_not', den_blit, den_of, ev_var, at_0, at_1, at_2, at_3, at_4, at_5, at_6, at_7, at_skip, c_int, c_bool, c_arr, c_cnt, c_vec, ev_nil, ev_join, ev_sub3, loc_s, int_i, bool_b, rows_s, cs_nil, cs_cons, E.den_lit, E.den_var, E.den_add, E.den_sub, E.den_mul, E.den_quo, E.den_rem, E.den_max, E.den_min, E.den_len, E.den_wr, E.den_cell, h5, h14, ctLate, ctAwake, ctF, kickSh, sensSh, skOf_mk]
  intro vl vl2
  refine ⟨fun xs => match xs with | [_, .i n] => 0 ≤ n ∧ n ≤ 2 | _ => False, fun xs => match xs with | [_, .i n] => (2 - n).toNat | _ => 0, ⟨by omega, by omega⟩, ?_⟩
  rintro z n _ _ ⟨n0, n1⟩
  refine ⟨fun hlt => ⟨n0, by omega, by omega, ?_⟩, fun hge => ?_⟩
  rotate_left
  · rintro t ht; rw [ht]
  rintro a1 _ _ is ha
  unfold tlates_19
  simp only [VC, allC, List.map_cons, List.map_nil, List.length_cons, List.length_nil, List.getElem?_cons_zero, List.getElem?_cons_succ, List.cons.injEq, C.i.injEq, C.b.injEq, and_true, true_and, forall_const, kindsOf_nil, kindsOf_lf, kindsOf_agg, kindsOf_box, boxKinds_nil, boxKinds_lf, boxKinds_agg, boxKinds_box, List.append_nil, List.cons_append, List.nil_append, den_cmp_le, den_cmp_lt, den_cmp_eq, den_cmp_ne, den_cmp_le', den_cmp_lt', den_cmp_eq', den_cmp_ne', den_and, den_and', den_or, den_or', den_not, den_not', den_blit, den_of, ev_var, at_0, at_1, at_2, at_3, at_4, at_5, at_6, at_7, at_skip, c_int, c_bool, c_arr, c_cnt, c_vec, ev_nil, ev_join, ev_sub3, loc_s, int_i, bool_b, rows_s, cs_nil, cs_cons, E.den_lit, E.den_var, E.den_add, E.den_sub, E.den_mul, E.den_quo, E.den_rem, E.den_max, E.den_min, E.den_len, E.den_wr, E.den_cell, h6, ctLate, ctF, kickSh, sensSh, skOf_mk]
  refine ⟨by omega, by omega, ?_⟩
  rintro b1 _ _ was hb
  cases hb.trans ha.symm
  unfold tlates_18
  simp only [VC, allC, List.map_cons, List.map_nil, List.length_cons, List.length_nil, List.getElem?_cons_zero, List.getElem?_cons_succ, List.cons.injEq, C.i.injEq, C.b.injEq, and_true, true_and, forall_const, kindsOf_nil, kindsOf_lf, kindsOf_agg, kindsOf_box, boxKinds_nil, boxKinds_lf, boxKinds_agg, boxKinds_box, List.append_nil, List.cons_append, List.nil_append, den_cmp_le, den_cmp_lt, den_cmp_eq, den_cmp_ne, den_cmp_le', den_cmp_lt', den_cmp_eq', den_cmp_ne', den_and, den_and', den_or, den_or', den_not, den_not', den_blit, den_of, ev_var, at_0, at_1, at_2, at_3, at_4, at_5, at_6, at_7, at_skip, c_int, c_bool, c_arr, c_cnt, c_vec, ev_nil, ev_join, ev_sub3, loc_s, int_i, bool_b, rows_s, cs_nil, cs_cons, E.den_lit, E.den_var, E.den_add, E.den_sub, E.den_mul, E.den_quo, E.den_rem, E.den_max, E.den_min, E.den_len, E.den_wr, E.den_cell, h7, ctSlow, kickSh, sensSh, skOf_mk]
  refine ⟨by omega, by omega, ?_⟩
  rintro v3 c3 d5 _ _ t3 hc
  unfold tlates_17
  simp only [VC, allC, List.map_cons, List.map_nil, List.length_cons, List.length_nil, List.getElem?_cons_zero, List.getElem?_cons_succ, List.cons.injEq, C.i.injEq, C.b.injEq, and_true, true_and, forall_const, kindsOf_nil, kindsOf_lf, kindsOf_agg, kindsOf_box, boxKinds_nil, boxKinds_lf, boxKinds_agg, boxKinds_box, List.append_nil, List.cons_append, List.nil_append, den_cmp_le, den_cmp_lt, den_cmp_eq, den_cmp_ne, den_cmp_le', den_cmp_lt', den_cmp_eq', den_cmp_ne', den_and, den_and', den_or, den_or', den_not, den_not', den_blit, den_of, ev_var, at_0, at_1, at_2, at_3, at_4, at_5, at_6, at_7, at_skip, c_int, c_bool, c_arr, c_cnt, c_vec, ev_nil, ev_join, ev_sub3, loc_s, int_i, bool_b, rows_s, cs_nil, cs_cons, E.den_lit, E.den_var, E.den_add, E.den_sub, E.den_mul, E.den_quo, E.den_rem, E.den_max, E.den_min, E.den_len, E.den_wr, E.den_cell, h8, ctSlow, kickSh, sensSh, skOf_mk]
  refine ⟨by omega, by omega, ?_⟩
  rintro v4 c4 d6 _ _ t4 hd
  obtain ⟨rfl, rfl⟩ := slowIs_eq hc hd
  unfold tlates_16
  simp only [VC, allC, List.map_cons, List.map_nil, List.length_cons, List.length_nil, List.getElem?_cons_zero, List.getElem?_cons_succ, List.cons.injEq, C.i.injEq, C.b.injEq, and_true, true_and, forall_const, kindsOf_nil, kindsOf_lf, kindsOf_agg, kindsOf_box, boxKinds_nil, boxKinds_lf, boxKinds_agg, boxKinds_box, List.append_nil, List.cons_append, List.nil_append, den_cmp_le, den_cmp_lt, den_cmp_eq, den_cmp_ne, den_cmp_le', den_cmp_lt', den_cmp_eq', den_cmp_ne', den_and, den_and', den_or, den_or', den_not, den_not', den_blit, den_of, ev_var, at_0, at_1, at_2, at_3, at_4, at_5, at_6, at_7, at_skip, c_int, c_bool, c_arr, c_cnt, c_vec, ev_nil, ev_join, ev_sub3, loc_s, int_i, bool_b, rows_s, cs_nil, cs_cons, E.den_lit, E.den_var, E.den_add, E.den_sub, E.den_mul, E.den_quo, E.den_rem, E.den_max, E.den_min, E.den_len, E.den_wr, E.den_cell, h9, ctSame, ctF, sameSam_refl]
  refine ⟨fun h => absurd rfl h, ⟨fun h => absurd h (bne_self _), fun _ => ?_⟩⟩
  rintro t rfl
  unfold tlates_15
  simp only [VC, allC, List.map_cons, List.map_nil, List.length_cons, List.length_nil, List.getElem?_cons_zero, List.getElem?_cons_succ, List.cons.injEq, C.i.injEq, C.b.injEq, and_true, true_and, forall_const, kindsOf_nil, kindsOf_lf, kindsOf_agg, kindsOf_box, boxKinds_nil, boxKinds_lf, boxKinds_agg, boxKinds_box, List.append_nil, List.cons_append, List.nil_append, den_cmp_le, den_cmp_lt, den_cmp_eq, den_cmp_ne, den_cmp_le', den_cmp_lt', den_cmp_eq', den_cmp_ne', den_and, den_and', den_or, den_or', den_not, den_not', den_blit, den_of, ev_var, at_0, at_1, at_2, at_3, at_4, at_5, at_6, at_7, at_skip, c_int, c_bool, c_arr, c_cnt, c_vec, ev_nil, ev_join, ev_sub3, loc_s, int_i, bool_b, rows_s, cs_nil, cs_cons, E.den_lit, E.den_var, E.den_add, E.den_sub, E.den_mul, E.den_quo, E.den_rem, E.den_max, E.den_min, E.den_len, E.den_wr, E.den_cell, h10, ctLatest, ctF, kicksSh]
  refine ⟨fun h => (by cases h), ⟨fun h => absurd h (bne_self _), fun _ => ⟨by omega, by omega, ?_⟩⟩⟩
  rintro p1 _ _ g1 _ _ hp
  unfold tlates_14
  simp only [VC, allC, List.map_cons, List.map_nil, List.length_cons, List.length_nil, List.getElem?_cons_zero, List.getElem?_cons_succ, List.cons.injEq, C.i.injEq, C.b.injEq, and_true, true_and, forall_const, kindsOf_nil, kindsOf_lf, kindsOf_agg, kindsOf_box, boxKinds_nil, boxKinds_lf, boxKinds_agg, boxKinds_box, List.append_nil, List.cons_append, List.nil_append, den_cmp_le, den_cmp_lt, den_cmp_eq, den_cmp_ne, den_cmp_le', den_cmp_lt', den_cmp_eq', den_cmp_ne', den_and, den_and', den_or, den_or', den_not, den_not', den_blit, den_of, ev_var, at_0, at_1, at_2, at_3, at_4, at_5, at_6, at_7, at_skip, c_int, c_bool, c_arr, c_cnt, c_vec, ev_nil, ev_join, ev_sub3, loc_s, int_i, bool_b, rows_s, cs_nil, cs_cons, E.den_lit, E.den_var, E.den_add, E.den_sub, E.den_mul, E.den_quo, E.den_rem, E.den_max, E.den_min, E.den_len, E.den_wr, E.den_cell, h11, ctLatest, ctF, kicksSh]
  refine ⟨by omega, by omega, ?_⟩
  rintro p2 _ _ g2 _ _ hq
  cases hq.trans hp.symm
  unfold tlates_13
  simp only [VC, allC, List.map_cons, List.map_nil, List.length_cons, List.length_nil, List.getElem?_cons_zero, List.getElem?_cons_succ, List.cons.injEq, C.i.injEq, C.b.injEq, and_true, true_and, forall_const, kindsOf_nil, kindsOf_lf, kindsOf_agg, kindsOf_box, boxKinds_nil, boxKinds_lf, boxKinds_agg, boxKinds_box, List.append_nil, List.cons_append, List.nil_append, den_cmp_le, den_cmp_lt, den_cmp_eq, den_cmp_ne, den_cmp_le', den_cmp_lt', den_cmp_eq', den_cmp_ne', den_and, den_and', den_or, den_or', den_not, den_not', den_blit, den_of, ev_var, at_0, at_1, at_2, at_3, at_4, at_5, at_6, at_7, at_skip, c_int, c_bool, c_arr, c_cnt, c_vec, ev_nil, ev_join, ev_sub3, loc_s, int_i, bool_b, rows_s, cs_nil, cs_cons, E.den_lit, E.den_var, E.den_add, E.den_sub, E.den_mul, E.den_quo, E.den_rem, E.den_max, E.den_min, E.den_len, E.den_wr, E.den_cell, h12, ctCaught, ctF, kickSh]
  refine ⟨by omega, by omega, ?_⟩
  rintro t1 _ _ t2 _ _ t3 _ _ hp
  unfold tlates_12
  simp only [VC, allC, List.map_cons, List.map_nil, List.length_cons, List.length_nil, List.getElem?_cons_zero, List.getElem?_cons_succ, List.cons.injEq, C.i.injEq, C.b.injEq, and_true, true_and, forall_const, kindsOf_nil, kindsOf_lf, kindsOf_agg, kindsOf_box, boxKinds_nil, boxKinds_lf, boxKinds_agg, boxKinds_box, List.append_nil, List.cons_append, List.nil_append, den_cmp_le, den_cmp_lt, den_cmp_eq, den_cmp_ne, den_cmp_le', den_cmp_lt', den_cmp_eq', den_cmp_ne', den_and, den_and', den_or, den_or', den_not, den_not', den_blit, den_of, ev_var, at_0, at_1, at_2, at_3, at_4, at_5, at_6, at_7, at_skip, c_int, c_bool, c_arr, c_cnt, c_vec, ev_nil, ev_join, ev_sub3, loc_s, int_i, bool_b, rows_s, cs_nil, cs_cons, E.den_lit, E.den_var, E.den_add, E.den_sub, E.den_mul, E.den_quo, E.den_rem, E.den_max, E.den_min, E.den_len, E.den_wr, E.den_cell, h13, ctCaught, ctF, kickSh]
  refine ⟨by omega, by omega, ?_⟩
  rintro t4 _ _ t5 _ _ t6 _ _ hq
  cases hq.trans hp.symm
  unfold tlates_11
  simp only [VC, allC, List.map_cons, List.map_nil, List.length_cons, List.length_nil, List.getElem?_cons_zero, List.getElem?_cons_succ, List.cons.injEq, C.i.injEq, C.b.injEq, and_true, true_and, forall_const, kindsOf_nil, kindsOf_lf, kindsOf_agg, kindsOf_box, boxKinds_nil, boxKinds_lf, boxKinds_agg, boxKinds_box, List.append_nil, List.cons_append, List.nil_append, den_cmp_le, den_cmp_lt, den_cmp_eq, den_cmp_ne, den_cmp_le', den_cmp_lt', den_cmp_eq', den_cmp_ne', den_and, den_and', den_or, den_or', den_not, den_not', den_blit, den_of, ev_var, at_0, at_1, at_2, at_3, at_4, at_5, at_6, at_7, at_skip, c_int, c_bool, c_arr, c_cnt, c_vec, ev_nil, ev_join, ev_sub3, loc_s, int_i, bool_b, rows_s, cs_nil, cs_cons, E.den_lit, E.den_var, E.den_add, E.den_sub, E.den_mul, E.den_quo, E.den_rem, E.den_max, E.den_min, E.den_len, E.den_wr, E.den_cell]
  refine ⟨fun h => absurd rfl h, fun h => absurd rfl h, fun h => absurd rfl h, fun h => absurd rfl h, fun h => absurd rfl h, ⟨by omega, by omega⟩, ?_⟩
  show (2 - (n + 1)).toNat < (2 - n).toNat
  omega
end Go.Proofs.Ytlbgcjpkegpmlaa
/- A slice of integers among the arguments. -/
namespace Go.Proofs.Ytlbgcjpkegpmlaa
open Go.RowKit
theorem kinds_int : kinds Try.prog 3 = some [.int] := by kernel_rfl
theorem rep_nums {W : World} {A : Option Addr} {n c : Nat} (h : NumsAt W W.heap.size A n) : ∃ rows, LRep Try.prog W (fun _ _ => False) (.arr 3) (.slice A n c) (.s (.slice A n c) rows) := by
  obtain ⟨h1, h2⟩ := h
  by_cases hn : n = 0
  · subst hn
    refine ⟨[], fun m => ?_, rfl, .slice A 0 c, [], rfl, 1, fun _ _ => False, fun _ _ h => h.elim, [.int], kinds_int, A, c, rfl, fun h => absurd rfl h⟩
    cases m with
    | zero => trivial
    | succ m => exact ⟨by simp, fun r hr => by cases hr⟩
  · obtain ⟨d, o, rfl, hd, hx⟩ := h2 (by omega)
    let xs : Nat → Int := fun i => if h : i < n then (hx i h).choose else 0
    have hxs : ∀ i, i < n → W.cell? ⟨d, o + i, none⟩ = some (.int .i64 (xs i)) ∧ -9223372036854775808 ≤ xs i ∧ xs i ≤ 9223372036854775807 := fun i hi => by
      have := (hx i hi).choose_spec
      simp only [xs, dif_pos hi]; exact this
    let rows : List (List C) := (List.range n).map fun i => [.i (xs i)]
    have hlen : rows.length = n := by simp [rows]
    refine ⟨rows, fun m => ?_, rfl, .slice (some ⟨d, o, none⟩) n c, rows, rfl, 1, fun b _ => b < W.heap.size, fun b o h => ⟨h, fun h => h⟩, [.int], kinds_int, some ⟨d, o, none⟩, c, by rw [hlen], fun _ => ⟨d, o, rfl, fun i r hi => ?_⟩⟩
    · cases m with
      | zero => trivial
      | succ m =>
        refine ⟨by rw [hlen]; omega, fun r hr c hc => ?_⟩
        obtain ⟨i, hi, rfl⟩ := List.mem_map.1 hr
        rw [List.mem_singleton] at hc
        subst hc
        have := hxs i (List.mem_range.1 hi)
        cases m <;> exact ⟨this.2.1, this.2.2⟩
    · simp only [rows, List.getElem?_map, Option.map_eq_some_iff] at hi
      obtain ⟨k, hk, rfl⟩ := hi
      have hi' : i < n := by
        rcases Nat.lt_or_ge i n with h | h
        · exact h
        · rw [List.getElem?_eq_none (by simpa using h)] at hk; cases hk
      rw [List.getElem?_range hi'] at hk
      cases hk
      refine ⟨rfl, fun j k hj => ?_⟩
      match j, hj with
      | 0, hj =>
        cases hj
        refine ⟨hd, .int .i64 (xs i), .i (xs i), ?_, rfl, xs i, rfl, rfl⟩
        simpa using (hxs i hi').1
theorem rep_arr {W : World} {O : Nat → Nat → Prop} {ss : List Sh0} {vs : List Value} {cs : List C} {t : TypeId} {v : Value} {c : C} {old : Option Nat} (h : LRep Try.prog W O (.arr t) v c) (hr : Reps Try.prog W O old ss vs cs) :
    Reps Try.prog W O old (.lf (.arr t) :: ss) (v :: vs) (c :: cs) :=
  ⟨[_], _, rfl, ⟨_, rfl, h⟩, hr⟩
end Go.Proofs.Ytlbgcjpkegpmlaa
/- A slice of structs of integers among the arguments, opened. -/
namespace Go.Proofs.Ytlbgcjpkegpmlaa
open Go.ChangeShapes Go.WideShapes Go.RowKit Go.Deep
/-- n rows of m integers each, in blocks below b. -/
def RowsIn (w : World) (b : Nat) (A : Option Addr) (n m : Nat) : Prop :=
  n ≤ 9223372036854775807 ∧ (0 < n → ∃ d o, A = some ⟨d, o, none⟩ ∧ d < b ∧ ∀ i, i < n → ∀ j, j < m → ∃ x : Int, w.cell? ⟨d, o + (i * m + j), none⟩ = some (.int .i64 x) ∧ -9223372036854775808 ≤ x ∧ x ≤ 9223372036854775807)
section
variable {H : Type} {enc : TypeId × Value → H} {P : Program} {base : Nat} {spare : Nat → Bool} {held : Bool}
theorem open_rows {r : Reach} {b0 k : Nat} {t e : TypeId} {v : Value} {d : DataW H} {p : List MemPlace} {W : World} (hu : P.underlying t = some (.slice e)) (he : intsB P k e = true) (hc : 0 < P.cellsOf e)
    (hv : Value.okWide P W r b0 t v) (hx : DataW.Trod enc P W base spare held t v d p) :
    ∃ A n c, v = .slice A n c ∧ RowsIn W W.heap.size A n (P.cellsOf e) := by
  obtain ⟨A, n, c, rfl⟩ := okWide_slice hu hv
  refine ⟨A, n, c, rfl, ?_⟩
  obtain ⟨fuel, hf⟩ := hx
  rcases open_slice hu hf with ⟨hcs, _⟩ | ⟨a, len, cap, m, nn, D, Pl, hcs, hb, hl, hm, hmm, _, hx⟩
  · simp [Value.cells] at hcs
    obtain ⟨rfl, rfl, rfl⟩ := hcs
    exact ⟨by omega, fun h => absurd h (by omega)⟩
  · simp [Value.cells] at hcs
    obtain ⟨rfl, rfl, rfl⟩ := hcs
    have hlm : n ≤ m := by rw [hmm]; split <;> omega
    refine ⟨by unfold maxLen at hm; omega, fun hn => ?_⟩
    have each : ∀ i, i < n → ∀ j, j < P.cellsOf e → ∃ x : Int, W.cell? (a.add (i * P.cellsOf e + j)) = some (.int .i64 x) ∧ -9223372036854775808 ≤ x ∧ x ≤ 9223372036854775807 := by
      intro i hi j hj
      obtain ⟨cs', h1, h2⟩ := hx i (by omega)
      obtain ⟨_, hlen, hcell⟩ := World.cells?_some h1
      obtain ⟨_, hints⟩ := ints_of k e nn cs' _ he h2
      obtain ⟨x, hx1, hx2⟩ := hints j (by omega)
      refine ⟨x, ?_, wf_bd hx2⟩
      rw [← hx1, ← hcell j hj, add_add]
    obtain ⟨d, o, s⟩ := a
    obtain ⟨x0, h0, -⟩ := each 0 hn 0 hc
    have hs : s = none := by simpa [Addr.add] using World.cell?_spot h0
    subst hs
    refine ⟨d, o, rfl, ?_, fun i hi j hj => ?_⟩
    · have := World.block_lt_of_cell? _ _ h0
      simpa [Addr.add] using this
    · obtain ⟨x, h1, h2⟩ := each i hi j hj
      exact ⟨x, by rw [← Go.WideShapes.add_plain]; exact h1, h2⟩
end
theorem rep_rows {W : World} {A : Option Addr} {n c m : Nat} {te : TypeId} (hk : kinds Try.prog te = some (List.replicate m .int)) (h : RowsIn W W.heap.size A n m) :
    ∃ rows, LRep Try.prog W (fun _ _ => False) (.arr te) (.slice A n c) (.s (.slice A n c) rows) := by
  obtain ⟨h1, h2⟩ := h
  by_cases hn : n = 0
  · subst hn
    refine ⟨[], fun m => ?_, rfl, .slice A 0 c, [], rfl, 1, fun _ _ => False, fun _ _ h => h.elim, _, hk, A, c, rfl, fun h => absurd rfl h⟩
    cases m with
    | zero => trivial
    | succ m => exact ⟨by simp, fun r hr => by cases hr⟩
  · obtain ⟨d, o, rfl, hd, hx⟩ := h2 (by omega)
    let xs : Nat → Nat → Int := fun i j => if h : i < n ∧ j < m then (hx i h.1 j h.2).choose else 0
    have hxs : ∀ i j, i < n → j < m → W.cell? ⟨d, o + (i * m + j), none⟩ = some (.int .i64 (xs i j)) ∧ -9223372036854775808 ≤ xs i j ∧ xs i j ≤ 9223372036854775807 := fun i j hi hj => by
      have := (hx i hi j hj).choose_spec
      simp only [xs, dif_pos (And.intro hi hj)]; exact this
    let rows : List (List C) := (List.range n).map fun i => (List.range m).map fun j => .i (xs i j)
    have hlen : rows.length = n := by simp [rows]
    refine ⟨rows, fun q => ?_, rfl, .slice (some ⟨d, o, none⟩) n c, rows, rfl, 1, fun b _ => b < W.heap.size, fun b o h => ⟨h, fun h => h⟩, _, hk, some ⟨d, o, none⟩, c, by rw [hlen], fun _ => ⟨d, o, rfl, fun i r hi => ?_⟩⟩
    · cases q with
      | zero => trivial
      | succ q =>
        refine ⟨by rw [hlen]; omega, fun r hr c hc => ?_⟩
        obtain ⟨i, hi, rfl⟩ := List.mem_map.1 hr
        obtain ⟨j, hj, rfl⟩ := List.mem_map.1 hc
        have := hxs i j (List.mem_range.1 hi) (List.mem_range.1 hj)
        cases q <;> exact ⟨this.2.1, this.2.2⟩
    · simp only [rows, List.getElem?_map, Option.map_eq_some_iff] at hi
      obtain ⟨k, hk', rfl⟩ := hi
      have hi' : i < n := by
        rcases Nat.lt_or_ge i n with h | h
        · exact h
        · rw [List.getElem?_eq_none (by simpa using h)] at hk'; cases hk'
      rw [List.getElem?_range hi'] at hk'
      cases hk'
      refine ⟨by simp, fun j k hj => ?_⟩
      have hj' : j < m := by
        rcases Nat.lt_or_ge j m with h | h
        · exact h
        · rw [List.getElem?_eq_none (by simpa using h)] at hj; cases hj
      have hkk : k = .int := by
        have := List.mem_of_getElem? hj
        exact (List.mem_replicate.1 this).2
      subst hkk
      rw [List.length_replicate]
      exact ⟨hd, .int .i64 (xs i j), .i (xs i j), (hxs i j hi' hj').1, by simp [hj'], xs i j, rfl, rfl⟩
end Go.Proofs.Ytlbgcjpkegpmlaa
/- Plain definitions of what the functions of layer 6 compute. No program in sight. -/
namespace Go.Proofs.Ytlbgcjpkegpmlaa

def KickOK (r g : Int) : Prop := 0 ≤ r ∧ r ≤ 16777216 ∧ 0 ≤ g ∧ g ≤ 4096
instance (r g : Int) : Decidable (KickOK r g) := by unfold KickOK; exact inferInstance

structure Sen where
  ch : Int
  pe : Int
  de : Int
  no : Int
  st : Int
  lo : Int
  li : Int
  ho : Int

def KindOK (s : Sen) : Prop := s.ch = 1 ∨ s.ch = 2
def RangeOK (s : Sen) : Prop := 1 ≤ s.pe ∧ s.pe ≤ 60 ∧ 0 ≤ s.de ∧ s.de ≤ 600 ∧ 0 ≤ s.no ∧ s.no ≤ 15 ∧ 1 ≤ s.st ∧ s.st ≤ 1048576 ∧ 0 ≤ s.lo ∧ s.lo ≤ 5 ∧ 1 ≤ s.li ∧ s.li ≤ 1099511627776 ∧ 1 ≤ s.ho ∧ s.ho ≤ 8
def SenOK (s : Sen) : Prop := KindOK s ∧ RangeOK s
instance (s : Sen) : Decidable (KindOK s) := by unfold KindOK; exact inferInstance
instance (s : Sen) : Decidable (RangeOK s) := by unfold RangeOK; exact inferInstance
instance (s : Sen) : Decidable (SenOK s) := by unfold SenOK; exact inferInstance

def checkSensor (s : Sen) : Int := if KindOK s then (if RangeOK s then 0 else 2) else 4

/-- what flows n ticks after the beginning -/
def flowAt (r g n : Int) : Int := if n < 0 then 0 else r + n * g
/-- what has flowed in n ticks after the beginning -/
def gainAt (r g n : Int) : Int := if n < 0 then 0 else n * r + g * (n * (n - 1) / 2)
def flowF (r g n : Int) : Int := if KickOK r g ∧ n ≤ 20000 then flowAt r g n else 0
def gainF (r g n : Int) : Int := if KickOK r g ∧ n ≤ 20000 then gainAt r g n else 0
def saysAt (s : Sen) (r g n : Int) : Int := if s.ch = 2 then flowAt r g n else gainAt r g n
def valueF (s : Sen) (r g n e : Int) : Int := if SenOK s ∧ KickOK r g ∧ -s.no ≤ e ∧ e ≤ s.no ∧ n ≤ 20000 then saysAt s r g n + e * s.st else 0

theorem mul_one_le {a b : Int} (h0 : 1 ≤ a) (h1 : 1 ≤ b) : 1 ≤ a * b := by
  have := Int.mul_le_mul h0 h1 (by omega) (by omega)
  omega
theorem tri_bd (n : Int) (h0 : 0 ≤ n) (h1 : n ≤ 20000) : 0 ≤ n * (n - 1) ∧ n * (n - 1) ≤ 400000000 ∧ 0 ≤ n * (n - 1) / 2 ∧ n * (n - 1) / 2 ≤ 200000000 := by
  rcases Int.lt_or_le 0 n with h | h
  · have := mul_bd (a := n) (b := n - 1) (A := 20000) (B := 20000) h0 h1 (by omega) (by omega)
    omega
  · obtain rfl : n = 0 := by omega
    simp
theorem gain_bd {r g n : Int} (h : KickOK r g) (hn : n ≤ 20000) : 0 ≤ gainAt r g n ∧ gainAt r g n ≤ 1154744320000 := by
  obtain ⟨h1, h2, h3, h4⟩ := h
  unfold gainAt
  split
  · omega
  · obtain ⟨t1, t2, t3, t4⟩ := tri_bd n (by omega) hn
    obtain ⟨b1, b2⟩ := mul_bd (by omega : 0 ≤ n) hn h1 h2
    obtain ⟨b3, b4⟩ := mul_bd h3 h4 t3 t4
    omega
theorem flow_bd {r g n : Int} (h : KickOK r g) (hn : n ≤ 20000) : 0 ≤ flowAt r g n ∧ flowAt r g n ≤ 98697216 := by
  obtain ⟨h1, h2, h3, h4⟩ := h
  unfold flowAt
  split
  · omega
  · obtain ⟨b1, b2⟩ := mul_bd (by omega : 0 ≤ n) hn h3 h4
    omega
theorem says_bd {s : Sen} {r g n : Int} (h : KickOK r g) (hn : n ≤ 20000) : 0 ≤ saysAt s r g n ∧ saysAt s r g n ≤ 1154744320000 := by
  unfold saysAt
  split
  · have := flow_bd h hn; omega
  · exact gain_bd h hn

/-- The least number of a sample, from a on and within so many tries, that is at least the limit in spite of all noise. -/
def findA (s : Sen) (r g f : Int) : Nat → Nat → Option Nat
  | 0, _ => none
  | k + 1, a => if f + a * s.pe ≤ 10000 then (if s.li ≤ saysAt s r g (f + a * s.pe) - s.no * s.st then some a else findA s r g f k (a + 1)) else none
def firstA (s : Sen) (r g f : Int) : Option Nat := findA s r g f 10001 0
def alarmT (s : Sen) (f a : Int) : Int := f + (a + s.ho * (s.lo + 1) - 1) * s.pe + s.de
/-- The latest alarm over the phases from f on, so many of them. -/
def lateGo (s : Sen) (r g : Int) : Nat → Nat → Int × Int × Int → Option (Int × Int × Int)
  | 0, _, o => some o
  | k + 1, f, o => match firstA s r g f with
    | none => none
    | some a => if 10000 < alarmT s f a then none else lateGo s r g k (f + 1) (if o.1 < alarmT s f a then (alarmT s f a, (f : Int), (a : Int)) else o)
def lateF (s : Sen) (r g : Int) : Option (Int × Int × Int) := lateGo s r g s.pe.toNat 0 (-1, 0, 0)

end Go.Proofs.Ytlbgcjpkegpmlaa
/- Contracts of small functions: kick.within, moonpoolref06.between, CheckKick, flows and gains. -/
namespace Go.Proofs.Ytlbgcjpkegpmlaa
open Go.RowKit

/-- kick.within -/
theorem within_any (n lo hi : Int) (w : World) :
    Calls Try.prog 68 #[.int .i64 n, .int .i64 lo, .int .i64 hi] w fun e w' => e = .returned (.bool (decide (lo ≤ n ∧ n ≤ hi))) ∧ w = w' := by
  go_enter Try.func68, Try.ntmps68
  go_wp2
  all_goals go_ret
  all_goals (refine ⟨ret_bool ?_, rfl⟩; simp; omega)
/-- moonpoolref06.between -/
theorem between_any (n lo hi : Int) (w : World) :
    Calls Try.prog 69 #[.int .i64 n, .int .i64 lo, .int .i64 hi] w fun e w' => e = .returned (.bool (decide (lo ≤ n ∧ n ≤ hi))) ∧ w = w' := by
  go_enter Try.func69, Try.ntmps69
  go_wp2
  all_goals go_ret
  all_goals (refine ⟨ret_bool ?_, rfl⟩; simp; omega)
theorem within_yes (n lo hi : Int) (w : World) (h : lo ≤ n) (h' : n ≤ hi) :
    Calls Try.prog 68 #[.int .i64 n, .int .i64 lo, .int .i64 hi] w fun e w' => e = .returned (.bool true) ∧ w = w' :=
  (within_any n lo hi w).mono fun _ _ ⟨he, hw⟩ => ⟨he.trans (ret_bool (by simp [h, h'])), hw⟩
theorem within_no (n lo hi : Int) (w : World) (h : n < lo ∨ hi < n) :
    Calls Try.prog 68 #[.int .i64 n, .int .i64 lo, .int .i64 hi] w fun e w' => e = .returned (.bool false) ∧ w = w' :=
  (within_any n lo hi w).mono fun _ _ ⟨he, hw⟩ => ⟨he.trans (ret_bool (by simp; omega)), hw⟩
theorem between_yes (n lo hi : Int) (w : World) (h : lo ≤ n) (h' : n ≤ hi) :
    Calls Try.prog 69 #[.int .i64 n, .int .i64 lo, .int .i64 hi] w fun e w' => e = .returned (.bool true) ∧ w = w' :=
  (between_any n lo hi w).mono fun _ _ ⟨he, hw⟩ => ⟨he.trans (ret_bool (by simp [h, h'])), hw⟩
theorem between_no (n lo hi : Int) (w : World) (h : n < lo ∨ hi < n) :
    Calls Try.prog 69 #[.int .i64 n, .int .i64 lo, .int .i64 hi] w fun e w' => e = .returned (.bool false) ∧ w = w' :=
  (between_any n lo hi w).mono fun _ _ ⟨he, hw⟩ => ⟨he.trans (ret_bool (by simp; omega)), hw⟩



abbrev kickV (r g : Int) : Value := .agg #[.int .i64 r, .int .i64 g]
abbrev Sen.v (s : Sen) : Value := .agg #[.int .i64 s.ch, .int .i64 s.pe, .int .i64 s.de, .int .i64 s.no, .int .i64 s.st, .int .i64 s.lo, .int .i64 s.li, .int .i64 s.ho]

theorem notKick {r g : Int} (h : ¬ KickOK r g) : r < 0 ∨ (0 ≤ r ∧ 16777216 < r) ∨ (0 ≤ r ∧ r ≤ 16777216 ∧ g < 0) ∨ (0 ≤ r ∧ r ≤ 16777216 ∧ 0 ≤ g ∧ 4096 < g) := by unfold KickOK at h; omega
theorem checkKick_yes (r g : Int) (w : World) (h : KickOK r g) :
    Calls Try.prog 36 #[kickV r g] w fun e w' => e = .returned (.int .i64 0) ∧ Below w.heap.size w w' := by
  obtain ⟨h1, h2, h3, h4⟩ := h
  go_enter Try.func36, Try.ntmps36
  go_wp2
  all_goals go_returns
  all_goals (refine ⟨rfl, ?_⟩; go_grown)
theorem checkKick_no (r g : Int) (w : World) (h : ¬ KickOK r g) :
    Calls Try.prog 36 #[kickV r g] w fun e w' => e = .returned (.int .i64 2) ∧ Below w.heap.size w w' := by
  rcases notKick h with h1 | ⟨h1, h2⟩ | ⟨h1, h2, h3⟩ | ⟨h1, h2, h3, h4⟩
  all_goals
    clear h
    go_enter Try.func36, Try.ntmps36
    go_wp2
    go_returns
    refine ⟨rfl, ?_⟩
    go_grown
theorem rcheckKick_yes (r g : Int) (w : World) (h : KickOK r g) :
    Calls Try.prog 37 #[kickV r g] w fun e w' => e = .returned (.int .i64 0) ∧ Below w.heap.size w w' := by
  obtain ⟨h1, h2, h3, h4⟩ := h
  go_enter Try.func37, Try.ntmps37
  go_wp2
  all_goals go_returns
  all_goals (refine ⟨rfl, ?_⟩; go_grown)
theorem rcheckKick_no (r g : Int) (w : World) (h : ¬ KickOK r g) :
    Calls Try.prog 37 #[kickV r g] w fun e w' => e = .returned (.int .i64 2) ∧ Below w.heap.size w w' := by
  rcases notKick h with h1 | ⟨h1, h2⟩ | ⟨h1, h2, h3⟩ | ⟨h1, h2, h3, h4⟩
  all_goals
    clear h
    go_enter Try.func37, Try.ntmps37
    go_wp2_with (go_at_call 69; first | (refine (between_yes _ _ _ _ (by omega) (by omega)).mono ?_; rintro e w' ⟨rfl, rfl⟩) | (refine (between_no _ _ _ _ (by omega)).mono ?_; rintro e w' ⟨rfl, rfl⟩))
    go_returns
    refine ⟨rfl, ?_⟩
    go_grown

end Go.Proofs.Ytlbgcjpkegpmlaa
/- Contracts of CheckSensor, of the program and of the reference. -/
namespace Go.Proofs.Ytlbgcjpkegpmlaa
open Go.RowKit

theorem checkSensor_yes (s : Sen) (w : World) (h : SenOK s) :
    Calls Try.prog 40 #[s.v] w fun e w' => e = .returned (.int .i64 0) ∧ Below w.heap.size w w' := by
  obtain ⟨hk, h1, h2, h3, h4, h5, h6, h7, h8, h9, h10, h11, h12, h13, h14⟩ := h
  obtain ⟨ch, pe, de, no, st, lo, li, ho⟩ := s
  unfold KindOK at hk
  simp only at hk h1 h2 h3 h4 h5 h6 h7 h8 h9 h10 h11 h12 h13 h14
  rcases hk with rfl | rfl
  all_goals
    go_enter Try.func40, Try.ntmps40
    go_wp2_with (go_at_call 68; refine (within_yes _ _ _ _ (by omega) (by omega)).mono ?_; rintro e w' ⟨rfl, rfl⟩)
    all_goals go_returns
    all_goals (refine ⟨rfl, ?_⟩; go_grown)
theorem checkSensor_kind (s : Sen) (w : World) (h : ¬ KindOK s) :
    Calls Try.prog 40 #[s.v] w fun e w' => e = .returned (.int .i64 4) ∧ Below w.heap.size w w' := by
  obtain ⟨ch, pe, de, no, st, lo, li, ho⟩ := s
  unfold KindOK at h
  simp only at h
  have h1 : (ch != 1) = true := by rw [bne_iff_ne]; omega
  have h2 : (ch != 2) = true := by rw [bne_iff_ne]; omega
  clear h
  go_enter Try.func40, Try.ntmps40
  go_wp2
  all_goals go_returns
  all_goals (refine ⟨rfl, ?_⟩; go_grown)
theorem checkSensor_range (s : Sen) (w : World) (hk : KindOK s) (h : ¬ RangeOK s) :
    Calls Try.prog 40 #[s.v] w fun e w' => e = .returned (.int .i64 2) ∧ Below w.heap.size w w' := by
  obtain ⟨ch, pe, de, no, st, lo, li, ho⟩ := s
  have H := Lib.hid h
  clear h
  unfold KindOK at hk
  simp only at hk
  rcases hk with rfl | rfl
  all_goals
    go_enter Try.func40, Try.ntmps40
    go_wp2_with (go_at_call 68; refine (within_any _ _ _ _).mono ?_; rintro e w' ⟨rfl, rfl⟩)
    all_goals first
      | (exfalso; apply H.out; unfold RangeOK; (try simp at *); omega)
      | (go_returns; refine ⟨rfl, ?_⟩; go_grown)
theorem rcheckSensor_yes (s : Sen) (w : World) (h : SenOK s) :
    Calls Try.prog 41 #[s.v] w fun e w' => e = .returned (.int .i64 0) ∧ Below w.heap.size w w' := by
  obtain ⟨hk, h1, h2, h3, h4, h5, h6, h7, h8, h9, h10, h11, h12, h13, h14⟩ := h
  obtain ⟨ch, pe, de, no, st, lo, li, ho⟩ := s
  unfold KindOK at hk
  simp only at hk h1 h2 h3 h4 h5 h6 h7 h8 h9 h10 h11 h12 h13 h14
  rcases hk with rfl | rfl
  all_goals
    go_enter Try.func41, Try.ntmps41
    go_wp2_with (go_at_call 69; refine (between_yes _ _ _ _ (by omega) (by omega)).mono ?_; rintro e w' ⟨rfl, rfl⟩)
    all_goals go_returns
    all_goals (refine ⟨rfl, ?_⟩; go_grown)
theorem rcheckSensor_kind (s : Sen) (w : World) (h : ¬ KindOK s) :
    Calls Try.prog 41 #[s.v] w fun e w' => e = .returned (.int .i64 4) ∧ Below w.heap.size w w' := by
  obtain ⟨ch, pe, de, no, st, lo, li, ho⟩ := s
  unfold KindOK at h
  simp only at h
  have h1 : (ch != 1) = true := by rw [bne_iff_ne]; omega
  have h2 : (ch != 2) = true := by rw [bne_iff_ne]; omega
  clear h
  go_enter Try.func41, Try.ntmps41
  go_wp2
  all_goals go_returns
  all_goals (refine ⟨rfl, ?_⟩; go_grown)
theorem rcheckSensor_range (s : Sen) (w : World) (hk : KindOK s) (h : ¬ RangeOK s) :
    Calls Try.prog 41 #[s.v] w fun e w' => e = .returned (.int .i64 2) ∧ Below w.heap.size w w' := by
  obtain ⟨ch, pe, de, no, st, lo, li, ho⟩ := s
  have H := Lib.hid h
  clear h
  unfold KindOK at hk
  simp only at hk
  rcases hk with rfl | rfl
  all_goals
    go_enter Try.func41, Try.ntmps41
    go_wp2_with (go_at_call 69; refine (between_any _ _ _ _).mono ?_; rintro e w' ⟨rfl, rfl⟩)
    all_goals first
      | (exfalso; apply H.out; unfold RangeOK; (try simp at *); omega)
      | (go_returns; refine ⟨rfl, ?_⟩; go_grown)

end Go.Proofs.Ytlbgcjpkegpmlaa
/- Contracts of the flows and gains (kick.influx), of kick.Gain, kick.Flow and of the reference's Gain, Flow. -/
namespace Go.Proofs.Ytlbgcjpkegpmlaa
open Go.RowKit

theorem gain_any (r g n : Int) (w : World) (h : KickOK r g) (hn : n ≤ 20000) :
    Calls Try.prog 66 #[kickV r g, .int .i64 n] w fun e w' => e = .returned (.int .i64 (gainAt r g n)) ∧ Below w.heap.size w w' := by
  obtain ⟨h1, h2, h3, h4⟩ := h
  by_cases h0 : n < 0
  · have hv : gainAt r g n = 0 := by simp [gainAt, h0]
    rw [hv]
    clear hv
    go_enter Try.func66, Try.ntmps66
    go_wp2
    go_returns
    refine ⟨rfl, ?_⟩
    repeat' (first | with_reducible exact Below.refl _ _ | with_reducible refine bstep ?_ (by with_reducible assumption) | with_reducible refine balloc ?_ | with_reducible refine bdrew ?_ | with_reducible refine bdrewN ?_ _ | with_reducible refine bset ?_ (by go_size))
  · have hv : gainAt r g n = n * r + g * (n * (n - 1) / 2) := by simp [gainAt, h0]
    rw [hv]
    clear hv
    have hn0 : 0 ≤ n := by omega
    clear h0
    obtain ⟨t1, t2, t3, t4⟩ := tri_bd n hn0 hn
    obtain ⟨b1, b2⟩ := mul_bd hn0 hn h1 h2
    obtain ⟨b3, b4⟩ := mul_bd h3 h4 t3 t4
    go_enter Try.func66, Try.ntmps66
    go_wp2
    go_returns
    refine ⟨rfl, ?_⟩
    repeat' (first | with_reducible exact Below.refl _ _ | with_reducible refine bstep ?_ (by with_reducible assumption) | with_reducible refine balloc ?_ | with_reducible refine bdrew ?_ | with_reducible refine bdrewN ?_ _ | with_reducible refine bset ?_ (by go_size))
theorem flow_any (r g n : Int) (w : World) (h : KickOK r g) (hn : n ≤ 20000) :
    Calls Try.prog 67 #[kickV r g, .int .i64 n] w fun e w' => e = .returned (.int .i64 (flowAt r g n)) ∧ Below w.heap.size w w' := by
  obtain ⟨h1, h2, h3, h4⟩ := h
  by_cases h0 : n < 0
  · have hv : flowAt r g n = 0 := by simp [flowAt, h0]
    rw [hv]
    clear hv
    go_enter Try.func67, Try.ntmps67
    go_wp2
    go_returns
    refine ⟨rfl, ?_⟩
    repeat' (first | with_reducible exact Below.refl _ _ | with_reducible refine bstep ?_ (by with_reducible assumption) | with_reducible refine balloc ?_ | with_reducible refine bdrew ?_ | with_reducible refine bdrewN ?_ _ | with_reducible refine bset ?_ (by go_size))
  · have hv : flowAt r g n = r + n * g := by simp [flowAt, h0]
    rw [hv]
    clear hv
    have hn0 : 0 ≤ n := by omega
    clear h0
    obtain ⟨b3, b4⟩ := mul_bd hn0 hn h3 h4
    go_enter Try.func67, Try.ntmps67
    go_wp2
    go_returns
    refine ⟨rfl, ?_⟩
    repeat' (first | with_reducible exact Below.refl _ _ | with_reducible refine bstep ?_ (by with_reducible assumption) | with_reducible refine balloc ?_ | with_reducible refine bdrew ?_ | with_reducible refine bdrewN ?_ _ | with_reducible refine bset ?_ (by go_size))

theorem Gain_any (r g n : Int) (w : World) :
    Calls Try.prog 23 #[kickV r g, .int .i64 n] w fun e w' => e = .returned (.int .i64 (gainF r g n)) ∧ Below w.heap.size w w' := by
  by_cases hk : KickOK r g
  · by_cases hn : n ≤ 20000
    · have hv : gainF r g n = gainAt r g n := by simp [gainF, hk, hn]
      rw [hv]
      clear hv
      have HK := Lib.hid hk
      clear hk
      go_enter Try.func23, Try.ntmps23
      go_wp2_with (first
        | (go_at_call 36; refine (checkKick_yes _ _ _ HK.out).mono ?_; rintro e w1 ⟨rfl, hb⟩; obtain ⟨hc, hf⟩ := bcell hb)
        | (go_at_call 66; refine (gain_any _ _ _ _ HK.out hn).mono ?_; rintro e w2 ⟨rfl, hb2⟩))
      go_returns
      refine ⟨rfl, ?_⟩
      repeat' (first | with_reducible exact Below.refl _ _ | with_reducible refine bstep ?_ (by with_reducible assumption) | with_reducible refine balloc ?_ | with_reducible refine bdrew ?_ | with_reducible refine bdrewN ?_ _ | with_reducible refine bset ?_ (by go_size))
    · have hv : gainF r g n = 0 := by simp [gainF, hn]
      rw [hv]
      clear hv
      have HK := Lib.hid hk
      clear hk
      have hn' : 20000 < n := by omega
      clear hn
      go_enter Try.func23, Try.ntmps23
      go_wp2_with (first
        | (go_at_call 36; refine (checkKick_yes _ _ _ HK.out).mono ?_; rintro e w1 ⟨rfl, hb⟩; obtain ⟨hc, hf⟩ := bcell hb))
      go_returns
      refine ⟨rfl, ?_⟩
      repeat' (first | with_reducible exact Below.refl _ _ | with_reducible refine bstep ?_ (by with_reducible assumption) | with_reducible refine balloc ?_ | with_reducible refine bdrew ?_ | with_reducible refine bdrewN ?_ _ | with_reducible refine bset ?_ (by go_size))
  · have hv : gainF r g n = 0 := by simp [gainF, hk]
    rw [hv]
    clear hv
    have HK := Lib.hid hk
    clear hk
    go_enter Try.func23, Try.ntmps23
    go_wp2_with (first
      | (go_at_call 36; refine (checkKick_no _ _ _ HK.out).mono ?_; rintro e w1 ⟨rfl, hb⟩; obtain ⟨hc, hf⟩ := bcell hb))
    go_returns
    refine ⟨rfl, ?_⟩
    repeat' (first | with_reducible exact Below.refl _ _ | with_reducible refine bstep ?_ (by with_reducible assumption) | with_reducible refine balloc ?_ | with_reducible refine bdrew ?_ | with_reducible refine bdrewN ?_ _ | with_reducible refine bset ?_ (by go_size))

theorem Flow_any (r g n : Int) (w : World) :
    Calls Try.prog 24 #[kickV r g, .int .i64 n] w fun e w' => e = .returned (.int .i64 (flowF r g n)) ∧ Below w.heap.size w w' := by
  by_cases hk : KickOK r g
  · by_cases hn : n ≤ 20000
    · have hv : flowF r g n = flowAt r g n := by simp [flowF, hk, hn]
      rw [hv]
      clear hv
      have HK := Lib.hid hk
      clear hk
      go_enter Try.func24, Try.ntmps24
      go_wp2_with (first
        | (go_at_call 36; refine (checkKick_yes _ _ _ HK.out).mono ?_; rintro e w1 ⟨rfl, hb⟩; obtain ⟨hc, hf⟩ := bcell hb)
        | (go_at_call 67; refine (flow_any _ _ _ _ HK.out hn).mono ?_; rintro e w2 ⟨rfl, hb2⟩))
      go_returns
      refine ⟨rfl, ?_⟩
      repeat' (first | with_reducible exact Below.refl _ _ | with_reducible refine bstep ?_ (by with_reducible assumption) | with_reducible refine balloc ?_ | with_reducible refine bdrew ?_ | with_reducible refine bdrewN ?_ _ | with_reducible refine bset ?_ (by go_size))
    · have hv : flowF r g n = 0 := by simp [flowF, hn]
      rw [hv]
      clear hv
      have HK := Lib.hid hk
      clear hk
      have hn' : 20000 < n := by omega
      clear hn
      go_enter Try.func24, Try.ntmps24
      go_wp2_with (first
        | (go_at_call 36; refine (checkKick_yes _ _ _ HK.out).mono ?_; rintro e w1 ⟨rfl, hb⟩; obtain ⟨hc, hf⟩ := bcell hb))
      go_returns
      refine ⟨rfl, ?_⟩
      repeat' (first | with_reducible exact Below.refl _ _ | with_reducible refine bstep ?_ (by with_reducible assumption) | with_reducible refine balloc ?_ | with_reducible refine bdrew ?_ | with_reducible refine bdrewN ?_ _ | with_reducible refine bset ?_ (by go_size))
  · have hv : flowF r g n = 0 := by simp [flowF, hk]
    rw [hv]
    clear hv
    have HK := Lib.hid hk
    clear hk
    go_enter Try.func24, Try.ntmps24
    go_wp2_with (first
      | (go_at_call 36; refine (checkKick_no _ _ _ HK.out).mono ?_; rintro e w1 ⟨rfl, hb⟩; obtain ⟨hc, hf⟩ := bcell hb))
    go_returns
    refine ⟨rfl, ?_⟩
    repeat' (first | with_reducible exact Below.refl _ _ | with_reducible refine bstep ?_ (by with_reducible assumption) | with_reducible refine balloc ?_ | with_reducible refine bdrew ?_ | with_reducible refine bdrewN ?_ _ | with_reducible refine bset ?_ (by go_size))

end Go.Proofs.Ytlbgcjpkegpmlaa
/- The contract of kick.late: the search for the first sample that counts, for each phase. Printed by genD.py. -/
namespace Go.Proofs.Ytlbgcjpkegpmlaa
open Go.RowKit

def lateV (s : Sen) (r g : Int) : Value := match lateF s r g with
  | some (t, f, a) => .tuple #[.agg #[.int .i64 t, .int .i64 f, .int .i64 a], .bool true]
  | none => .tuple #[.agg #[.int .i64 0, .int .i64 0, .int .i64 0], .bool false]
theorem lateV_some {s : Sen} {r g t f a : Int} (h : lateF s r g = some (t, f, a)) : lateV s r g = .tuple #[.agg #[.int .i64 t, .int .i64 f, .int .i64 a], .bool true] := by simp [lateV, h]
theorem lateV_none {s : Sen} {r g : Int} (h : lateF s r g = none) : lateV s r g = .tuple #[.agg #[.int .i64 0, .int .i64 0, .int .i64 0], .bool false] := by simp [lateV, h]

def senCells (ch pe de no st lo li ho : Int) : Array Value := #[.int .i64 ch, .int .i64 pe, .int .i64 de, .int .i64 no, .int .i64 st, .int .i64 lo, .int .i64 li, .int .i64 ho]
def outCells (o : Int × Int × Int) : Array Value := #[.int .i64 o.1, .int .i64 o.2.1, .int .i64 o.2.2]
theorem sen_cells {w : World} {b : Nat} {ch pe de no st lo li ho : Int} (h : Blk w b 23 (senCells ch pe de no st lo li ho)) :
    w.cell? ⟨b, 1, none⟩ = some (.int .i64 pe) ∧ w.cell? ⟨b, 2, none⟩ = some (.int .i64 de) ∧ w.cell? ⟨b, 3, none⟩ = some (.int .i64 no) ∧ w.cell? ⟨b, 4, none⟩ = some (.int .i64 st) ∧ w.cell? ⟨b, 5, none⟩ = some (.int .i64 lo) ∧ w.cell? ⟨b, 6, none⟩ = some (.int .i64 li) ∧ w.cell? ⟨b, 7, none⟩ = some (.int .i64 ho) :=
  ⟨h.cell 1 rfl, h.cell 2 rfl, h.cell 3 rfl, h.cell 4 rfl, h.cell 5 rfl, h.cell 6 rfl, h.cell 7 rfl⟩
theorem out_cells {w : World} {b : Nat} {x y z : Int} (h : Blk w b 110 (outCells (x, y, z))) :
    w.cell? ⟨b, 0, none⟩ = some (.int .i64 x) ∧ w.cell? ⟨b, 1, none⟩ = some (.int .i64 y) ∧ w.cell? ⟨b, 2, none⟩ = some (.int .i64 z) ∧ w.frozen? ⟨b, 0, none⟩ = false ∧ w.frozen? ⟨b, 1, none⟩ = false ∧ w.frozen? ⟨b, 2, none⟩ = false :=
  ⟨h.cell 0 rfl, h.cell 1 rfl, h.cell 2 rfl, h.froz 0, h.froz 1, h.froz 2⟩
theorem out_put {w : World} {b : Nat} {o x : Int × Int × Int} (h : Blk w b 110 (outCells o)) :
    Blk (((w.setCell ⟨b, 0, none⟩ (.int .i64 x.1)).setCell ⟨b, 1, none⟩ (.int .i64 x.2.1)).setCell ⟨b, 2, none⟩ (.int .i64 x.2.2)) b 110 (outCells x) := by
  have := ((h.put 0 (.int .i64 x.1)).put 1 (.int .i64 x.2.1)).put 2 (.int .i64 x.2.2)
  simpa [outCells] using this

theorem out_far {w : World} {b c : Nat} {t : TypeId} {cs : Array Value} {x y z : Value} (h : Blk w b t cs) (hc : b ≠ c) :
    Blk (((w.setCell ⟨c, 0, none⟩ x).setCell ⟨c, 1, none⟩ y).setCell ⟨c, 2, none⟩ z) b t cs := ((h.far hc _).far hc _).far hc _
theorem out_below {w w1 : World} {c : Nat} {x y z : Value} (h : Below w.heap.size w w1) (hc : w.heap.size ≤ c) :
    Below w.heap.size w (((w1.setCell ⟨c, 0, none⟩ x).setCell ⟨c, 1, none⟩ y).setCell ⟨c, 2, none⟩ z) := ((h.setCell hc _).setCell hc _).setCell hc _

theorem says_pit (s : Sen) (r g : Int) (w : World) (h : s.ch = 1) :
    Calls Try.prog 77 #[s.v, kickV r g] w fun e w' => e = .returned (.func (Fn.func 66) #[kickV r g] #[]) ∧ Below w.heap.size w w' := by
  obtain ⟨ch, pe, de, no, st, lo, li, ho⟩ := s
  subst h
  go_enter Try.func77, Try.ntmps77
  go_wp2
  go_returns
  refine ⟨rfl, ?_⟩
  repeat' (first | with_reducible exact Below.refl _ _ | with_reducible refine bstep ?_ (by with_reducible assumption) | with_reducible refine balloc ?_ | with_reducible refine bdrew ?_ | with_reducible refine bdrewN ?_ _ | with_reducible refine bset ?_ (by go_size))
theorem says_flow (s : Sen) (r g : Int) (w : World) (h : s.ch = 2) :
    Calls Try.prog 77 #[s.v, kickV r g] w fun e w' => e = .returned (.func (Fn.func 67) #[kickV r g] #[]) ∧ Below w.heap.size w w' := by
  obtain ⟨ch, pe, de, no, st, lo, li, ho⟩ := s
  subst h
  go_enter Try.func77, Try.ntmps77
  go_wp2
  go_returns
  refine ⟨rfl, ?_⟩
  repeat' (first | with_reducible exact Below.refl _ _ | with_reducible refine bstep ?_ (by with_reducible assumption) | with_reducible refine balloc ?_ | with_reducible refine bdrew ?_ | with_reducible refine bdrewN ?_ _ | with_reducible refine bset ?_ (by go_size))


set_option maxHeartbeats 2000000 in
set_option maxRecDepth 100000 in
theorem late_pit (pe de no st lo li ho r g : Int) (w : World) (hs : RangeOK ⟨1, pe, de, no, st, lo, li, ho⟩) (hk : KickOK r g) :
    Calls Try.prog 79 #[.agg #[.int .i64 1, .int .i64 pe, .int .i64 de, .int .i64 no, .int .i64 st, .int .i64 lo, .int .i64 li, .int .i64 ho], kickV r g] w fun e w' => e = .returned (lateV ⟨1, pe, de, no, st, lo, li, ho⟩ r g) ∧ Below w.heap.size w w' := by
  obtain ⟨h1, h2, h3, h4, h5, h6, h7, h8, h9, h10, h11, h12, h13, h14⟩ := hs
  simp only at h1 h2 h3 h4 h5 h6 h7 h8 h9 h10 h11 h12 h13 h14
  obtain ⟨n1, n2⟩ := mul_bd h5 h6 (by omega : 0 ≤ st) h8
  obtain ⟨q1, q2⟩ := mul_bd (by omega : 0 ≤ ho) h14 (by omega : 0 ≤ lo + 1) (by omega : lo + 1 ≤ 6)
  have q0 := mul_one_le h13 (by omega : 1 ≤ lo + 1)
  have HK := Lib.hid hk
  clear hk
  go_enter Try.func79, Try.ntmps79
  go_wp2_with fail
  go_step3
  go_wp2_with (go_at_call 77; refine (says_pit ⟨1, pe, de, no, st, lo, li, ho⟩ r g _ rfl).mono ?_; rintro e w1 ⟨rfl, hb⟩)
  go_step3
  have B0 : Blk w1 w.heap.size 23 (senCells 1 pe de no st lo li ho) := ((((Blk.new w _ _).alloc _).alloc _).alloc _).below hb
  have B2 : Blk w1 (w.heap.size + 1 + 1) 110 (outCells (0, 0, 0)) := by
    have h := ((Blk.new ((w.alloc (.cells #[.int .i64 1, .int .i64 pe, .int .i64 de, .int .i64 no, .int .i64 st, .int .i64 lo, .int .i64 li, .int .i64 ho] 23)).alloc (.cells #[.int .i64 r, .int .i64 g] 31)) 110 (outCells (0, 0, 0))).alloc (.cells (outCells (-1, 0, 0)) 110)).below hb
    simpa using h
  have B3 : Blk w1 (w.heap.size + 1 + 1 + 1) 110 (outCells (-1, 0, 0)) := by
    have h := (Blk.new (((w.alloc (.cells #[.int .i64 1, .int .i64 pe, .int .i64 de, .int .i64 no, .int .i64 st, .int .i64 lo, .int .i64 li, .int .i64 ho] 23)).alloc (.cells #[.int .i64 r, .int .i64 g] 31)).alloc (.cells (outCells (0, 0, 0)) 110)) 110 (outCells (-1, 0, 0))).below hb
    simpa using h
  have hbw : Below w.heap.size w w1 := by
    repeat' (first | with_reducible exact Below.refl _ _ | with_reducible refine bstep ?_ (by with_reducible assumption) | with_reducible refine balloc ?_ | with_reducible refine bdrew ?_ | with_reducible refine bdrewN ?_ _ | with_reducible refine bset ?_ (by go_size))
  obtain ⟨c1, -⟩ := sen_cells B0
  clear hb
  go_wp2_with fail
  go_loopg [17] (pe.toNat) (fun k v17 wx => ∃ (f : Nat) (o : Int × Int × Int), k + f = pe.toNat ∧ v17 = .int .i64 f ∧ Hid (lateGo ⟨1, pe, de, no, st, lo, li, ho⟩ r g k f o = lateF ⟨1, pe, de, no, st, lo, li, ho⟩ r g) ∧
    Blk wx w.heap.size 23 (senCells 1 pe de no st lo li ho) ∧ Blk wx (w.heap.size + 1 + 1) 110 (outCells (0, 0, 0)) ∧ Blk wx (w.heap.size + 1 + 1 + 1) 110 (outCells o) ∧ Below w.heap.size w wx)
  case atStart => exact ⟨0, (-1, 0, 0), rfl, rfl, rfl, B0, B2, B3, hbw⟩
  case round =>
    clear c1 B0 B2 B3 hbw
    obtain ⟨f, ⟨oa, ob, oc⟩, hkf, rfl, HG, B0, B2, B3, hbw⟩ := hrel
    cases gk with
    | zero =>
      have hlt : ¬ ((f : Int) < pe) := by omega
      obtain ⟨k0, k1, k2, -⟩ := out_cells B3
      obtain ⟨e0, e1, e2, f0, f1, f2⟩ := out_cells B2
      have hz := B3.lt
      have HV := Lib.hid (lateV_some (show lateF ⟨1, pe, de, no, st, lo, li, ho⟩ r g = some (oa, ob, oc) from HG.out.symm))
      clear HG
      go_wp2_with fail
      refine bodyPost_ret (v := .tuple #[.agg #[.int .i64 oa, .int .i64 ob, .int .i64 oc], .bool true]) (by simp [results, Try.results79, go_sem, cell_put_same, e0, e1, e2]) rfl ?_
      refine ⟨by rw [HV.out], ?_⟩
      repeat' (first | with_reducible exact Below.refl _ _ | with_reducible refine bstep ?_ (by with_reducible assumption) | with_reducible refine balloc ?_ | with_reducible refine bdrew ?_ | with_reducible refine bdrewN ?_ _ | with_reducible refine bset ?_ (by go_size))
    | succ k =>
      have hlt : (f : Int) < pe := by omega
      go_wp2_with fail
      go_loopg [9] 10001 (fun j v9 wy => ∃ a : Nat, j + a = 10001 ∧ v9 = .int .i64 a ∧ Hid (findA ⟨1, pe, de, no, st, lo, li, ho⟩ r g f j a = firstA ⟨1, pe, de, no, st, lo, li, ho⟩ r g f) ∧
        Blk wy w.heap.size 23 (senCells 1 pe de no st lo li ho) ∧ Blk wy (w.heap.size + 1 + 1) 110 (outCells (0, 0, 0)) ∧ Blk wy (w.heap.size + 1 + 1 + 1) 110 (outCells (oa, ob, oc)) ∧ Below w.heap.size w wy)
      case atStart => exact ⟨0, rfl, rfl, rfl, B0, B2, B3, hbw⟩
      case round =>
        clear B0 B2 B3 hbw
        rename_i wo _ _ _ _ _ _ _
        obtain ⟨a, hja, rfl, HF, B0, B2, B3, hbw⟩ := hrel
        obtain ⟨s1, s2, s3, s4, s5, s6, s7⟩ := sen_cells B0
        obtain ⟨k0, k1, k2, g0, g1, g2⟩ := out_cells B3
        obtain ⟨e0, e1, e2, f0, f1, f2⟩ := out_cells B2
        have hz0 := B0.lt
        have hz := B3.lt
        obtain ⟨p1, p2⟩ := mul_bd (by omega : (0 : Int) ≤ a) (by omega : (a : Int) ≤ 10001) (by omega : 0 ≤ pe) h2
        by_cases hr : (f : Int) + a * pe ≤ 10000
        · have ha1 : (a : Int) * 1 ≤ a * pe := Int.mul_le_mul_of_nonneg_left h1 (by omega)
          have ha2 : (a : Int) ≤ 10000 := by omega
          clear ha1
          have hj : ∃ j', gk = j' + 1 := ⟨gk - 1, by omega⟩
          obtain ⟨j, rfl⟩ := hj
          have hgb := says_bd (s := ⟨1, pe, de, no, st, lo, li, ho⟩) (n := (f : Int) + a * pe) HK.out (by omega)
          have hsay : saysAt ⟨1, pe, de, no, st, lo, li, ho⟩ r g ((f : Int) + a * pe) = gainAt r g ((f : Int) + a * pe) := by simp [saysAt]
          rw [hsay] at hgb
          obtain ⟨hg1, hg2⟩ := hgb
          by_cases hv : li ≤ gainAt r g ((f : Int) + a * pe) - no * st
          · have hfa : firstA ⟨1, pe, de, no, st, lo, li, ho⟩ r g f = some a := by rw [← HF.out]; simp [findA, hr, hsay, hv]
            obtain ⟨m1, m2⟩ := mul_bd (by omega : (0 : Int) ≤ a + ho * (lo + 1) - 1) (by omega : (a : Int) + ho * (lo + 1) - 1 ≤ 10049) (by omega : 0 ≤ pe) h2
            by_cases ht : 10000 < (f : Int) + (a + ho * (lo + 1) - 1) * pe + de
            · have HV := Lib.hid (lateV_none (show lateF ⟨1, pe, de, no, st, lo, li, ho⟩ r g = none by rw [← HG.out]; simp [lateGo, hfa, alarmT, ht]))
              clear HG hfa HF
              go_wp2_with fail
              have hn2 : (f : Int) + a * pe ≤ 20000 := by omega
              have W3 : IntKind.i64.wrap (no * st) = no * st := IntWalk.i64_in _ (by omega)
              have W4 : IntKind.i64.wrap (gainAt r g ((f : Int) + a * pe) - no * st) = gainAt r g ((f : Int) + a * pe) - no * st := IntWalk.i64_in _ (by omega)
              have W1 : IntKind.i64.wrap ((a : Int) * pe) = (a : Int) * pe := IntWalk.i64_in _ (by omega)
              have W2 : IntKind.i64.wrap ((f : Int) + (a : Int) * pe) = (f : Int) + (a : Int) * pe := IntWalk.i64_in _ (by omega)
              go_region_held3 (fun w' => w'.cell? ⟨w.heap.size, 1, none⟩ = some (.int .i64 pe) ∧ w'.cell? ⟨w.heap.size, 3, none⟩ = some (.int .i64 no) ∧ w'.cell? ⟨w.heap.size, 4, none⟩ = some (.int .i64 st) ∧ w'.cell? ⟨w.heap.size, 6, none⟩ = some (.int .i64 li)) (first | exact ⟨s1, s3, s4, s6⟩ | exact ⟨(hc _ _ hz0).trans s1, (hc _ _ hz0).trans s3, (hc _ _ hz0).trans s4, (hc _ _ hz0).trans s6⟩) (first | (go_at_call 66; (with_reducible refine (gain_any r g ((f : Int) + a * pe) _ HK.out hn2).mono ?_); rintro e w2 ⟨rfl, hb⟩; obtain ⟨hc, hf⟩ := bcell hb))
              clear W1 W2 W3 W4
              have B0' := B0.drew.below hb
              have B2' := B2.drew.below hb
              have B3' := B3.drew.below hb
              have hbw' : Below w.heap.size w w2 := by
                repeat' (first | with_reducible exact Below.refl _ _ | with_reducible refine bstep ?_ (by with_reducible assumption) | with_reducible refine balloc ?_ | with_reducible refine bdrew ?_ | with_reducible refine bdrewN ?_ _ | with_reducible refine bset ?_ (by go_size))
              clear s1 s2 s3 s4 s5 s6 s7 k0 k1 k2 g0 g1 g2 e0 e1 e2 f0 f1 f2 hz0 hz B0 B2 B3 hbw hc hf hb
              obtain ⟨s1, s2, s3, s4, s5, s6, s7⟩ := sen_cells B0'
              obtain ⟨k0, k1, k2, g0, g1, g2⟩ := out_cells B3'
              obtain ⟨e0, e1, e2, f0, f1, f2⟩ := out_cells B2'
              have hz0 := B0'.lt
              have hz := B3'.lt
              go_wp2_with fail
              rw [Exit.noGoto_ret]
              refine bodyPost_ret (v := .tuple #[.agg #[.int .i64 0, .int .i64 0, .int .i64 0], .bool false]) (by simp [results, Try.results79, go_sem, cell_put_same, e0, e1, e2]) rfl ?_
              refine ⟨by rw [HV.out], ?_⟩
              repeat' (first | with_reducible exact Below.refl _ _ | with_reducible refine bstep ?_ (by with_reducible assumption) | with_reducible refine balloc ?_ | with_reducible refine bdrew ?_ | with_reducible refine bdrewN ?_ _ | with_reducible refine bset ?_ (by go_size))
            · by_cases hgt : oa < (f : Int) + (a + ho * (lo + 1) - 1) * pe + de
              · have HG2 : Hid (lateGo ⟨1, pe, de, no, st, lo, li, ho⟩ r g k (f + 1) ((f : Int) + (a + ho * (lo + 1) - 1) * pe + de, (f : Int), (a : Int)) = lateF ⟨1, pe, de, no, st, lo, li, ho⟩ r g) := by
                  show _ = _
                  rw [← HG.out]; simp [lateGo, hfa, alarmT, ht, hgt]
                clear HG hfa HF
                go_wp2_with fail
                have hn2 : (f : Int) + a * pe ≤ 20000 := by omega
                have W3 : IntKind.i64.wrap (no * st) = no * st := IntWalk.i64_in _ (by omega)
                have W4 : IntKind.i64.wrap (gainAt r g ((f : Int) + a * pe) - no * st) = gainAt r g ((f : Int) + a * pe) - no * st := IntWalk.i64_in _ (by omega)
                have W1 : IntKind.i64.wrap ((a : Int) * pe) = (a : Int) * pe := IntWalk.i64_in _ (by omega)
                have W2 : IntKind.i64.wrap ((f : Int) + (a : Int) * pe) = (f : Int) + (a : Int) * pe := IntWalk.i64_in _ (by omega)
                go_region_held3 (fun w' => w'.cell? ⟨w.heap.size, 1, none⟩ = some (.int .i64 pe) ∧ w'.cell? ⟨w.heap.size, 3, none⟩ = some (.int .i64 no) ∧ w'.cell? ⟨w.heap.size, 4, none⟩ = some (.int .i64 st) ∧ w'.cell? ⟨w.heap.size, 6, none⟩ = some (.int .i64 li)) (first | exact ⟨s1, s3, s4, s6⟩ | exact ⟨(hc _ _ hz0).trans s1, (hc _ _ hz0).trans s3, (hc _ _ hz0).trans s4, (hc _ _ hz0).trans s6⟩) (first | (go_at_call 66; (with_reducible refine (gain_any r g ((f : Int) + a * pe) _ HK.out hn2).mono ?_); rintro e w2 ⟨rfl, hb⟩; obtain ⟨hc, hf⟩ := bcell hb))
                clear W1 W2 W3 W4
                have B0' := B0.drew.below hb
                have B2' := B2.drew.below hb
                have B3' := B3.drew.below hb
                have hbw' : Below w.heap.size w w2 := by
                  repeat' (first | with_reducible exact Below.refl _ _ | with_reducible refine bstep ?_ (by with_reducible assumption) | with_reducible refine balloc ?_ | with_reducible refine bdrew ?_ | with_reducible refine bdrewN ?_ _ | with_reducible refine bset ?_ (by go_size))
                clear s1 s2 s3 s4 s5 s6 s7 k0 k1 k2 g0 g1 g2 e0 e1 e2 f0 f1 f2 hz0 hz B0 B2 B3 hbw hc hf hb
                obtain ⟨s1, s2, s3, s4, s5, s6, s7⟩ := sen_cells B0'
                obtain ⟨k0, k1, k2, g0, g1, g2⟩ := out_cells B3'
                obtain ⟨e0, e1, e2, f0, f1, f2⟩ := out_cells B2'
                have hz0 := B0'.lt
                have hz := B3'.lt
                go_wp2_with fail
                go_roundg k
                case measure => omega
                case rel => exact ⟨f + 1, ((f : Int) + (a + ho * (lo + 1) - 1) * pe + de, (f : Int), (a : Int)), by omega, by go_num, HG2, out_far B0' (by omega), out_far B2' (by omega), out_put (x := ((f : Int) + (a + ho * (lo + 1) - 1) * pe + de, (f : Int), (a : Int))) B3', out_below hbw' (by omega)⟩
              · have HG2 : Hid (lateGo ⟨1, pe, de, no, st, lo, li, ho⟩ r g k (f + 1) (oa, ob, oc) = lateF ⟨1, pe, de, no, st, lo, li, ho⟩ r g) := by
                  show _ = _
                  rw [← HG.out]; simp [lateGo, hfa, alarmT, ht, hgt]
                clear HG hfa HF
                go_wp2_with fail
                have hn2 : (f : Int) + a * pe ≤ 20000 := by omega
                have W3 : IntKind.i64.wrap (no * st) = no * st := IntWalk.i64_in _ (by omega)
                have W4 : IntKind.i64.wrap (gainAt r g ((f : Int) + a * pe) - no * st) = gainAt r g ((f : Int) + a * pe) - no * st := IntWalk.i64_in _ (by omega)
                have W1 : IntKind.i64.wrap ((a : Int) * pe) = (a : Int) * pe := IntWalk.i64_in _ (by omega)
                have W2 : IntKind.i64.wrap ((f : Int) + (a : Int) * pe) = (f : Int) + (a : Int) * pe := IntWalk.i64_in _ (by omega)
                go_region_held3 (fun w' => w'.cell? ⟨w.heap.size, 1, none⟩ = some (.int .i64 pe) ∧ w'.cell? ⟨w.heap.size, 3, none⟩ = some (.int .i64 no) ∧ w'.cell? ⟨w.heap.size, 4, none⟩ = some (.int .i64 st) ∧ w'.cell? ⟨w.heap.size, 6, none⟩ = some (.int .i64 li)) (first | exact ⟨s1, s3, s4, s6⟩ | exact ⟨(hc _ _ hz0).trans s1, (hc _ _ hz0).trans s3, (hc _ _ hz0).trans s4, (hc _ _ hz0).trans s6⟩) (first | (go_at_call 66; (with_reducible refine (gain_any r g ((f : Int) + a * pe) _ HK.out hn2).mono ?_); rintro e w2 ⟨rfl, hb⟩; obtain ⟨hc, hf⟩ := bcell hb))
                clear W1 W2 W3 W4
                have B0' := B0.drew.below hb
                have B2' := B2.drew.below hb
                have B3' := B3.drew.below hb
                have hbw' : Below w.heap.size w w2 := by
                  repeat' (first | with_reducible exact Below.refl _ _ | with_reducible refine bstep ?_ (by with_reducible assumption) | with_reducible refine balloc ?_ | with_reducible refine bdrew ?_ | with_reducible refine bdrewN ?_ _ | with_reducible refine bset ?_ (by go_size))
                clear s1 s2 s3 s4 s5 s6 s7 k0 k1 k2 g0 g1 g2 e0 e1 e2 f0 f1 f2 hz0 hz B0 B2 B3 hbw hc hf hb
                obtain ⟨s1, s2, s3, s4, s5, s6, s7⟩ := sen_cells B0'
                obtain ⟨k0, k1, k2, g0, g1, g2⟩ := out_cells B3'
                obtain ⟨e0, e1, e2, f0, f1, f2⟩ := out_cells B2'
                have hz0 := B0'.lt
                have hz := B3'.lt
                go_wp2_with fail
                go_roundg k
                case measure => omega
                case rel => exact ⟨f + 1, (oa, ob, oc), by omega, by go_num, HG2, B0', B2', B3', hbw'⟩
          · have HF2 : Hid (findA ⟨1, pe, de, no, st, lo, li, ho⟩ r g f j (a + 1) = firstA ⟨1, pe, de, no, st, lo, li, ho⟩ r g f) := by
              show _ = _
              rw [← HF.out]; simp [findA, hr, hsay, hv]
            clear HF
            go_wp2_with fail
            have hn2 : (f : Int) + a * pe ≤ 20000 := by omega
            have W3 : IntKind.i64.wrap (no * st) = no * st := IntWalk.i64_in _ (by omega)
            have W4 : IntKind.i64.wrap (gainAt r g ((f : Int) + a * pe) - no * st) = gainAt r g ((f : Int) + a * pe) - no * st := IntWalk.i64_in _ (by omega)
            have W1 : IntKind.i64.wrap ((a : Int) * pe) = (a : Int) * pe := IntWalk.i64_in _ (by omega)
            have W2 : IntKind.i64.wrap ((f : Int) + (a : Int) * pe) = (f : Int) + (a : Int) * pe := IntWalk.i64_in _ (by omega)
            go_region_held3 (fun w' => w'.cell? ⟨w.heap.size, 1, none⟩ = some (.int .i64 pe) ∧ w'.cell? ⟨w.heap.size, 3, none⟩ = some (.int .i64 no) ∧ w'.cell? ⟨w.heap.size, 4, none⟩ = some (.int .i64 st) ∧ w'.cell? ⟨w.heap.size, 6, none⟩ = some (.int .i64 li)) (first | exact ⟨s1, s3, s4, s6⟩ | exact ⟨(hc _ _ hz0).trans s1, (hc _ _ hz0).trans s3, (hc _ _ hz0).trans s4, (hc _ _ hz0).trans s6⟩) (first | (go_at_call 66; (with_reducible refine (gain_any r g ((f : Int) + a * pe) _ HK.out hn2).mono ?_); rintro e w2 ⟨rfl, hb⟩; obtain ⟨hc, hf⟩ := bcell hb))
            clear W1 W2 W3 W4
            have B0' := B0.drew.below hb
            have B2' := B2.drew.below hb
            have B3' := B3.drew.below hb
            have hbw' : Below w.heap.size w w2 := by
              repeat' (first | with_reducible exact Below.refl _ _ | with_reducible refine bstep ?_ (by with_reducible assumption) | with_reducible refine balloc ?_ | with_reducible refine bdrew ?_ | with_reducible refine bdrewN ?_ _ | with_reducible refine bset ?_ (by go_size))
            clear s1 s2 s3 s4 s5 s6 s7 k0 k1 k2 g0 g1 g2 e0 e1 e2 f0 f1 f2 hz0 hz B0 B2 B3 hbw hc hf hb
            obtain ⟨s1, s2, s3, s4, s5, s6, s7⟩ := sen_cells B0'
            obtain ⟨k0, k1, k2, g0, g1, g2⟩ := out_cells B3'
            obtain ⟨e0, e1, e2, f0, f1, f2⟩ := out_cells B2'
            have hz0 := B0'.lt
            have hz := B3'.lt
            go_wp2_with fail
            go_roundg j
            case measure => omega
            case rel => exact ⟨a + 1, by omega, by go_num, HF2, B0', B2', B3', hbw'⟩
        · have hfa : firstA ⟨1, pe, de, no, st, lo, li, ho⟩ r g f = none := by
            rw [← HF.out]
            cases gk <;> simp [findA, hr]
          have HV := Lib.hid (lateV_none (show lateF ⟨1, pe, de, no, st, lo, li, ho⟩ r g = none by rw [← HG.out]; simp [lateGo, hfa]))
          clear HG hfa HF
          go_wp2_with fail
          refine bodyPost_ret (v := .tuple #[.agg #[.int .i64 0, .int .i64 0, .int .i64 0], .bool false]) (by simp [results, Try.results79, go_sem, cell_put_same, e0, e1, e2]) rfl ?_
          refine ⟨by rw [HV.out], ?_⟩
          repeat' (first | with_reducible exact Below.refl _ _ | with_reducible refine bstep ?_ (by with_reducible assumption) | with_reducible refine balloc ?_ | with_reducible refine bdrew ?_ | with_reducible refine bdrewN ?_ _ | with_reducible refine bset ?_ (by go_size))

end Go.Proofs.Ytlbgcjpkegpmlaa
/- The contract of kick.late for the other channel, and of kick.Late. Printed by genD.py. -/
namespace Go.Proofs.Ytlbgcjpkegpmlaa
open Go.RowKit

set_option maxHeartbeats 2000000 in
set_option maxRecDepth 100000 in
theorem late_flow (pe de no st lo li ho r g : Int) (w : World) (hs : RangeOK ⟨2, pe, de, no, st, lo, li, ho⟩) (hk : KickOK r g) :
    Calls Try.prog 79 #[.agg #[.int .i64 2, .int .i64 pe, .int .i64 de, .int .i64 no, .int .i64 st, .int .i64 lo, .int .i64 li, .int .i64 ho], kickV r g] w fun e w' => e = .returned (lateV ⟨2, pe, de, no, st, lo, li, ho⟩ r g) ∧ Below w.heap.size w w' := by
  obtain ⟨h1, h2, h3, h4, h5, h6, h7, h8, h9, h10, h11, h12, h13, h14⟩ := hs
  simp only at h1 h2 h3 h4 h5 h6 h7 h8 h9 h10 h11 h12 h13 h14
  obtain ⟨n1, n2⟩ := mul_bd h5 h6 (by omega : 0 ≤ st) h8
  obtain ⟨q1, q2⟩ := mul_bd (by omega : 0 ≤ ho) h14 (by omega : 0 ≤ lo + 1) (by omega : lo + 1 ≤ 6)
  have q0 := mul_one_le h13 (by omega : 1 ≤ lo + 1)
  have HK := Lib.hid hk
  clear hk
  go_enter Try.func79, Try.ntmps79
  go_wp2_with fail
  go_step3
  go_wp2_with (go_at_call 77; refine (says_flow ⟨2, pe, de, no, st, lo, li, ho⟩ r g _ rfl).mono ?_; rintro e w1 ⟨rfl, hb⟩)
  go_step3
  have B0 : Blk w1 w.heap.size 23 (senCells 2 pe de no st lo li ho) := ((((Blk.new w _ _).alloc _).alloc _).alloc _).below hb
  have B2 : Blk w1 (w.heap.size + 1 + 1) 110 (outCells (0, 0, 0)) := by
    have h := ((Blk.new ((w.alloc (.cells #[.int .i64 2, .int .i64 pe, .int .i64 de, .int .i64 no, .int .i64 st, .int .i64 lo, .int .i64 li, .int .i64 ho] 23)).alloc (.cells #[.int .i64 r, .int .i64 g] 31)) 110 (outCells (0, 0, 0))).alloc (.cells (outCells (-1, 0, 0)) 110)).below hb
    simpa using h
  have B3 : Blk w1 (w.heap.size + 1 + 1 + 1) 110 (outCells (-1, 0, 0)) := by
    have h := (Blk.new (((w.alloc (.cells #[.int .i64 2, .int .i64 pe, .int .i64 de, .int .i64 no, .int .i64 st, .int .i64 lo, .int .i64 li, .int .i64 ho] 23)).alloc (.cells #[.int .i64 r, .int .i64 g] 31)).alloc (.cells (outCells (0, 0, 0)) 110)) 110 (outCells (-1, 0, 0))).below hb
    simpa using h
  have hbw : Below w.heap.size w w1 := by
    repeat' (first | with_reducible exact Below.refl _ _ | with_reducible refine bstep ?_ (by with_reducible assumption) | with_reducible refine balloc ?_ | with_reducible refine bdrew ?_ | with_reducible refine bdrewN ?_ _ | with_reducible refine bset ?_ (by go_size))
  obtain ⟨c1, -⟩ := sen_cells B0
  clear hb
  go_wp2_with fail
  go_loopg [17] (pe.toNat) (fun k v17 wx => ∃ (f : Nat) (o : Int × Int × Int), k + f = pe.toNat ∧ v17 = .int .i64 f ∧ Hid (lateGo ⟨2, pe, de, no, st, lo, li, ho⟩ r g k f o = lateF ⟨2, pe, de, no, st, lo, li, ho⟩ r g) ∧
    Blk wx w.heap.size 23 (senCells 2 pe de no st lo li ho) ∧ Blk wx (w.heap.size + 1 + 1) 110 (outCells (0, 0, 0)) ∧ Blk wx (w.heap.size + 1 + 1 + 1) 110 (outCells o) ∧ Below w.heap.size w wx)
  case atStart => exact ⟨0, (-1, 0, 0), rfl, rfl, rfl, B0, B2, B3, hbw⟩
  case round =>
    clear c1 B0 B2 B3 hbw
    obtain ⟨f, ⟨oa, ob, oc⟩, hkf, rfl, HG, B0, B2, B3, hbw⟩ := hrel
    cases gk with
    | zero =>
      have hlt : ¬ ((f : Int) < pe) := by omega
      obtain ⟨k0, k1, k2, -⟩ := out_cells B3
      obtain ⟨e0, e1, e2, f0, f1, f2⟩ := out_cells B2
      have hz := B3.lt
      have HV := Lib.hid (lateV_some (show lateF ⟨2, pe, de, no, st, lo, li, ho⟩ r g = some (oa, ob, oc) from HG.out.symm))
      clear HG
      go_wp2_with fail
      refine bodyPost_ret (v := .tuple #[.agg #[.int .i64 oa, .int .i64 ob, .int .i64 oc], .bool true]) (by simp [results, Try.results79, go_sem, cell_put_same, e0, e1, e2]) rfl ?_
      refine ⟨by rw [HV.out], ?_⟩
      repeat' (first | with_reducible exact Below.refl _ _ | with_reducible refine bstep ?_ (by with_reducible assumption) | with_reducible refine balloc ?_ | with_reducible refine bdrew ?_ | with_reducible refine bdrewN ?_ _ | with_reducible refine bset ?_ (by go_size))
    | succ k =>
      have hlt : (f : Int) < pe := by omega
      go_wp2_with fail
      go_loopg [9] 10001 (fun j v9 wy => ∃ a : Nat, j + a = 10001 ∧ v9 = .int .i64 a ∧ Hid (findA ⟨2, pe, de, no, st, lo, li, ho⟩ r g f j a = firstA ⟨2, pe, de, no, st, lo, li, ho⟩ r g f) ∧
        Blk wy w.heap.size 23 (senCells 2 pe de no st lo li ho) ∧ Blk wy (w.heap.size + 1 + 1) 110 (outCells (0, 0, 0)) ∧ Blk wy (w.heap.size + 1 + 1 + 1) 110 (outCells (oa, ob, oc)) ∧ Below w.heap.size w wy)
      case atStart => exact ⟨0, rfl, rfl, rfl, B0, B2, B3, hbw⟩
      case round =>
        clear B0 B2 B3 hbw
        rename_i wo _ _ _ _ _ _ _
        obtain ⟨a, hja, rfl, HF, B0, B2, B3, hbw⟩ := hrel
        obtain ⟨s1, s2, s3, s4, s5, s6, s7⟩ := sen_cells B0
        obtain ⟨k0, k1, k2, g0, g1, g2⟩ := out_cells B3
        obtain ⟨e0, e1, e2, f0, f1, f2⟩ := out_cells B2
        have hz0 := B0.lt
        have hz := B3.lt
        obtain ⟨p1, p2⟩ := mul_bd (by omega : (0 : Int) ≤ a) (by omega : (a : Int) ≤ 10001) (by omega : 0 ≤ pe) h2
        by_cases hr : (f : Int) + a * pe ≤ 10000
        · have ha1 : (a : Int) * 1 ≤ a * pe := Int.mul_le_mul_of_nonneg_left h1 (by omega)
          have ha2 : (a : Int) ≤ 10000 := by omega
          clear ha1
          have hj : ∃ j', gk = j' + 1 := ⟨gk - 1, by omega⟩
          obtain ⟨j, rfl⟩ := hj
          have hgb := says_bd (s := ⟨2, pe, de, no, st, lo, li, ho⟩) (n := (f : Int) + a * pe) HK.out (by omega)
          have hsay : saysAt ⟨2, pe, de, no, st, lo, li, ho⟩ r g ((f : Int) + a * pe) = flowAt r g ((f : Int) + a * pe) := by simp [saysAt]
          rw [hsay] at hgb
          obtain ⟨hg1, hg2⟩ := hgb
          by_cases hv : li ≤ flowAt r g ((f : Int) + a * pe) - no * st
          · have hfa : firstA ⟨2, pe, de, no, st, lo, li, ho⟩ r g f = some a := by rw [← HF.out]; simp [findA, hr, hsay, hv]
            obtain ⟨m1, m2⟩ := mul_bd (by omega : (0 : Int) ≤ a + ho * (lo + 1) - 1) (by omega : (a : Int) + ho * (lo + 1) - 1 ≤ 10049) (by omega : 0 ≤ pe) h2
            by_cases ht : 10000 < (f : Int) + (a + ho * (lo + 1) - 1) * pe + de
            · have HV := Lib.hid (lateV_none (show lateF ⟨2, pe, de, no, st, lo, li, ho⟩ r g = none by rw [← HG.out]; simp [lateGo, hfa, alarmT, ht]))
              clear HG hfa HF
              go_wp2_with fail
              have hn2 : (f : Int) + a * pe ≤ 20000 := by omega
              have W3 : IntKind.i64.wrap (no * st) = no * st := IntWalk.i64_in _ (by omega)
              have W4 : IntKind.i64.wrap (flowAt r g ((f : Int) + a * pe) - no * st) = flowAt r g ((f : Int) + a * pe) - no * st := IntWalk.i64_in _ (by omega)
              have W1 : IntKind.i64.wrap ((a : Int) * pe) = (a : Int) * pe := IntWalk.i64_in _ (by omega)
              have W2 : IntKind.i64.wrap ((f : Int) + (a : Int) * pe) = (f : Int) + (a : Int) * pe := IntWalk.i64_in _ (by omega)
              go_region_held3 (fun w' => w'.cell? ⟨w.heap.size, 1, none⟩ = some (.int .i64 pe) ∧ w'.cell? ⟨w.heap.size, 3, none⟩ = some (.int .i64 no) ∧ w'.cell? ⟨w.heap.size, 4, none⟩ = some (.int .i64 st) ∧ w'.cell? ⟨w.heap.size, 6, none⟩ = some (.int .i64 li)) (first | exact ⟨s1, s3, s4, s6⟩ | exact ⟨(hc _ _ hz0).trans s1, (hc _ _ hz0).trans s3, (hc _ _ hz0).trans s4, (hc _ _ hz0).trans s6⟩) (first | (go_at_call 67; (with_reducible refine (flow_any r g ((f : Int) + a * pe) _ HK.out hn2).mono ?_); rintro e w2 ⟨rfl, hb⟩; obtain ⟨hc, hf⟩ := bcell hb))
              clear W1 W2 W3 W4
              have B0' := B0.drew.below hb
              have B2' := B2.drew.below hb
              have B3' := B3.drew.below hb
              have hbw' : Below w.heap.size w w2 := by
                repeat' (first | with_reducible exact Below.refl _ _ | with_reducible refine bstep ?_ (by with_reducible assumption) | with_reducible refine balloc ?_ | with_reducible refine bdrew ?_ | with_reducible refine bdrewN ?_ _ | with_reducible refine bset ?_ (by go_size))
              clear s1 s2 s3 s4 s5 s6 s7 k0 k1 k2 g0 g1 g2 e0 e1 e2 f0 f1 f2 hz0 hz B0 B2 B3 hbw hc hf hb
              obtain ⟨s1, s2, s3, s4, s5, s6, s7⟩ := sen_cells B0'
              obtain ⟨k0, k1, k2, g0, g1, g2⟩ := out_cells B3'
              obtain ⟨e0, e1, e2, f0, f1, f2⟩ := out_cells B2'
              have hz0 := B0'.lt
              have hz := B3'.lt
              go_wp2_with fail
              rw [Exit.noGoto_ret]
              refine bodyPost_ret (v := .tuple #[.agg #[.int .i64 0, .int .i64 0, .int .i64 0], .bool false]) (by simp [results, Try.results79, go_sem, cell_put_same, e0, e1, e2]) rfl ?_
              refine ⟨by rw [HV.out], ?_⟩
              repeat' (first | with_reducible exact Below.refl _ _ | with_reducible refine bstep ?_ (by with_reducible assumption) | with_reducible refine balloc ?_ | with_reducible refine bdrew ?_ | with_reducible refine bdrewN ?_ _ | with_reducible refine bset ?_ (by go_size))
            · by_cases hgt : oa < (f : Int) + (a + ho * (lo + 1) - 1) * pe + de
              · have HG2 : Hid (lateGo ⟨2, pe, de, no, st, lo, li, ho⟩ r g k (f + 1) ((f : Int) + (a + ho * (lo + 1) - 1) * pe + de, (f : Int), (a : Int)) = lateF ⟨2, pe, de, no, st, lo, li, ho⟩ r g) := by
                  show _ = _
                  rw [← HG.out]; simp [lateGo, hfa, alarmT, ht, hgt]
                clear HG hfa HF
                go_wp2_with fail
                have hn2 : (f : Int) + a * pe ≤ 20000 := by omega
                have W3 : IntKind.i64.wrap (no * st) = no * st := IntWalk.i64_in _ (by omega)
                have W4 : IntKind.i64.wrap (flowAt r g ((f : Int) + a * pe) - no * st) = flowAt r g ((f : Int) + a * pe) - no * st := IntWalk.i64_in _ (by omega)
                have W1 : IntKind.i64.wrap ((a : Int) * pe) = (a : Int) * pe := IntWalk.i64_in _ (by omega)
                have W2 : IntKind.i64.wrap ((f : Int) + (a : Int) * pe) = (f : Int) + (a : Int) * pe := IntWalk.i64_in _ (by omega)
                go_region_held3 (fun w' => w'.cell? ⟨w.heap.size, 1, none⟩ = some (.int .i64 pe) ∧ w'.cell? ⟨w.heap.size, 3, none⟩ = some (.int .i64 no) ∧ w'.cell? ⟨w.heap.size, 4, none⟩ = some (.int .i64 st) ∧ w'.cell? ⟨w.heap.size, 6, none⟩ = some (.int .i64 li)) (first | exact ⟨s1, s3, s4, s6⟩ | exact ⟨(hc _ _ hz0).trans s1, (hc _ _ hz0).trans s3, (hc _ _ hz0).trans s4, (hc _ _ hz0).trans s6⟩) (first | (go_at_call 67; (with_reducible refine (flow_any r g ((f : Int) + a * pe) _ HK.out hn2).mono ?_); rintro e w2 ⟨rfl, hb⟩; obtain ⟨hc, hf⟩ := bcell hb))
                clear W1 W2 W3 W4
                have B0' := B0.drew.below hb
                have B2' := B2.drew.below hb
                have B3' := B3.drew.below hb
                have hbw' : Below w.heap.size w w2 := by
                  repeat' (first | with_reducible exact Below.refl _ _ | with_reducible refine bstep ?_ (by with_reducible assumption) | with_reducible refine balloc ?_ | with_reducible refine bdrew ?_ | with_reducible refine bdrewN ?_ _ | with_reducible refine bset ?_ (by go_size))
                clear s1 s2 s3 s4 s5 s6 s7 k0 k1 k2 g0 g1 g2 e0 e1 e2 f0 f1 f2 hz0 hz B0 B2 B3 hbw hc hf hb
                obtain ⟨s1, s2, s3, s4, s5, s6, s7⟩ := sen_cells B0'
                obtain ⟨k0, k1, k2, g0, g1, g2⟩ := out_cells B3'
                obtain ⟨e0, e1, e2, f0, f1, f2⟩ := out_cells B2'
                have hz0 := B0'.lt
                have hz := B3'.lt
                go_wp2_with fail
                go_roundg k
                case measure => omega
                case rel => exact ⟨f + 1, ((f : Int) + (a + ho * (lo + 1) - 1) * pe + de, (f : Int), (a : Int)), by omega, by go_num, HG2, out_far B0' (by omega), out_far B2' (by omega), out_put (x := ((f : Int) + (a + ho * (lo + 1) - 1) * pe + de, (f : Int), (a : Int))) B3', out_below hbw' (by omega)⟩
              · have HG2 : Hid (lateGo ⟨2, pe, de, no, st, lo, li, ho⟩ r g k (f + 1) (oa, ob, oc) = lateF ⟨2, pe, de, no, st, lo, li, ho⟩ r g) := by
                  show _ = _
                  rw [← HG.out]; simp [lateGo, hfa, alarmT, ht, hgt]
                clear HG hfa HF
                go_wp2_with fail
                have hn2 : (f : Int) + a * pe ≤ 20000 := by omega
                have W3 : IntKind.i64.wrap (no * st) = no * st := IntWalk.i64_in _ (by omega)
                have W4 : IntKind.i64.wrap (flowAt r g ((f : Int) + a * pe) - no * st) = flowAt r g ((f : Int) + a * pe) - no * st := IntWalk.i64_in _ (by omega)
                have W1 : IntKind.i64.wrap ((a : Int) * pe) = (a : Int) * pe := IntWalk.i64_in _ (by omega)
                have W2 : IntKind.i64.wrap ((f : Int) + (a : Int) * pe) = (f : Int) + (a : Int) * pe := IntWalk.i64_in _ (by omega)
                go_region_held3 (fun w' => w'.cell? ⟨w.heap.size, 1, none⟩ = some (.int .i64 pe) ∧ w'.cell? ⟨w.heap.size, 3, none⟩ = some (.int .i64 no) ∧ w'.cell? ⟨w.heap.size, 4, none⟩ = some (.int .i64 st) ∧ w'.cell? ⟨w.heap.size, 6, none⟩ = some (.int .i64 li)) (first | exact ⟨s1, s3, s4, s6⟩ | exact ⟨(hc _ _ hz0).trans s1, (hc _ _ hz0).trans s3, (hc _ _ hz0).trans s4, (hc _ _ hz0).trans s6⟩) (first | (go_at_call 67; (with_reducible refine (flow_any r g ((f : Int) + a * pe) _ HK.out hn2).mono ?_); rintro e w2 ⟨rfl, hb⟩; obtain ⟨hc, hf⟩ := bcell hb))
                clear W1 W2 W3 W4
                have B0' := B0.drew.below hb
                have B2' := B2.drew.below hb
                have B3' := B3.drew.below hb
                have hbw' : Below w.heap.size w w2 := by
                  repeat' (first | with_reducible exact Below.refl _ _ | with_reducible refine bstep ?_ (by with_reducible assumption) | with_reducible refine balloc ?_ | with_reducible refine bdrew ?_ | with_reducible refine bdrewN ?_ _ | with_reducible refine bset ?_ (by go_size))
                clear s1 s2 s3 s4 s5 s6 s7 k0 k1 k2 g0 g1 g2 e0 e1 e2 f0 f1 f2 hz0 hz B0 B2 B3 hbw hc hf hb
                obtain ⟨s1, s2, s3, s4, s5, s6, s7⟩ := sen_cells B0'
                obtain ⟨k0, k1, k2, g0, g1, g2⟩ := out_cells B3'
                obtain ⟨e0, e1, e2, f0, f1, f2⟩ := out_cells B2'
                have hz0 := B0'.lt
                have hz := B3'.lt
                go_wp2_with fail
                go_roundg k
                case measure => omega
                case rel => exact ⟨f + 1, (oa, ob, oc), by omega, by go_num, HG2, B0', B2', B3', hbw'⟩
          · have HF2 : Hid (findA ⟨2, pe, de, no, st, lo, li, ho⟩ r g f j (a + 1) = firstA ⟨2, pe, de, no, st, lo, li, ho⟩ r g f) := by
              show _ = _
              rw [← HF.out]; simp [findA, hr, hsay, hv]
            clear HF
            go_wp2_with fail
            have hn2 : (f : Int) + a * pe ≤ 20000 := by omega
            have W3 : IntKind.i64.wrap (no * st) = no * st := IntWalk.i64_in _ (by omega)
            have W4 : IntKind.i64.wrap (flowAt r g ((f : Int) + a * pe) - no * st) = flowAt r g ((f : Int) + a * pe) - no * st := IntWalk.i64_in _ (by omega)
            have W1 : IntKind.i64.wrap ((a : Int) * pe) = (a : Int) * pe := IntWalk.i64_in _ (by omega)
            have W2 : IntKind.i64.wrap ((f : Int) + (a : Int) * pe) = (f : Int) + (a : Int) * pe := IntWalk.i64_in _ (by omega)
            go_region_held3 (fun w' => w'.cell? ⟨w.heap.size, 1, none⟩ = some (.int .i64 pe) ∧ w'.cell? ⟨w.heap.size, 3, none⟩ = some (.int .i64 no) ∧ w'.cell? ⟨w.heap.size, 4, none⟩ = some (.int .i64 st) ∧ w'.cell? ⟨w.heap.size, 6, none⟩ = some (.int .i64 li)) (first | exact ⟨s1, s3, s4, s6⟩ | exact ⟨(hc _ _ hz0).trans s1, (hc _ _ hz0).trans s3, (hc _ _ hz0).trans s4, (hc _ _ hz0).trans s6⟩) (first | (go_at_call 67; (with_reducible refine (flow_any r g ((f : Int) + a * pe) _ HK.out hn2).mono ?_); rintro e w2 ⟨rfl, hb⟩; obtain ⟨hc, hf⟩ := bcell hb))
            clear W1 W2 W3 W4
            have B0' := B0.drew.below hb
            have B2' := B2.drew.below hb
            have B3' := B3.drew.below hb
            have hbw' : Below w.heap.size w w2 := by
              repeat' (first | with_reducible exact Below.refl _ _ | with_reducible refine bstep ?_ (by with_reducible assumption) | with_reducible refine balloc ?_ | with_reducible refine bdrew ?_ | with_reducible refine bdrewN ?_ _ | with_reducible refine bset ?_ (by go_size))
            clear s1 s2 s3 s4 s5 s6 s7 k0 k1 k2 g0 g1 g2 e0 e1 e2 f0 f1 f2 hz0 hz B0 B2 B3 hbw hc hf hb
            obtain ⟨s1, s2, s3, s4, s5, s6, s7⟩ := sen_cells B0'
            obtain ⟨k0, k1, k2, g0, g1, g2⟩ := out_cells B3'
            obtain ⟨e0, e1, e2, f0, f1, f2⟩ := out_cells B2'
            have hz0 := B0'.lt
            have hz := B3'.lt
            go_wp2_with fail
            go_roundg j
            case measure => omega
            case rel => exact ⟨a + 1, by omega, by go_num, HF2, B0', B2', B3', hbw'⟩
        · have hfa : firstA ⟨2, pe, de, no, st, lo, li, ho⟩ r g f = none := by
            rw [← HF.out]
            cases gk <;> simp [findA, hr]
          have HV := Lib.hid (lateV_none (show lateF ⟨2, pe, de, no, st, lo, li, ho⟩ r g = none by rw [← HG.out]; simp [lateGo, hfa]))
          clear HG hfa HF
          go_wp2_with fail
          refine bodyPost_ret (v := .tuple #[.agg #[.int .i64 0, .int .i64 0, .int .i64 0], .bool false]) (by simp [results, Try.results79, go_sem, cell_put_same, e0, e1, e2]) rfl ?_
          refine ⟨by rw [HV.out], ?_⟩
          repeat' (first | with_reducible exact Below.refl _ _ | with_reducible refine bstep ?_ (by with_reducible assumption) | with_reducible refine balloc ?_ | with_reducible refine bdrew ?_ | with_reducible refine bdrewN ?_ _ | with_reducible refine bset ?_ (by go_size))

theorem late_any (s : Sen) (r g : Int) (w : World) (hs : SenOK s) (hk : KickOK r g) :
    Calls Try.prog 79 #[s.v, kickV r g] w fun e w' => e = .returned (lateV s r g) ∧ Below w.heap.size w w' := by
  obtain ⟨ch, pe, de, no, st, lo, li, ho⟩ := s
  obtain ⟨hkind, hr⟩ := hs
  rcases hkind with rfl | rfl
  · exact late_pit _ _ _ _ _ _ _ _ _ w hr hk
  · exact late_flow _ _ _ _ _ _ _ _ _ w hr hk

end Go.Proofs.Ytlbgcjpkegpmlaa
/- The contract of kick.Late. -/
namespace Go.Proofs.Ytlbgcjpkegpmlaa
open Go.RowKit

/-- What Late returns, of the program and of the reference. -/
def lateR (s : Sen) (r g : Int) : Int × Bool := if SenOK s ∧ KickOK r g then (match lateF s r g with | some (t, _, _) => (t, true) | none => (0, false)) else (0, false)
def lateRV (s : Sen) (r g : Int) : Value := .tuple #[.int .i64 (lateR s r g).1, .bool (lateR s r g).2]

theorem notSen {s : Sen} (h : ¬ SenOK s) : (¬ KindOK s) ∨ (KindOK s ∧ ¬ RangeOK s) := by
  unfold SenOK at h
  by_cases hk : KindOK s
  · exact .inr ⟨hk, fun hr => h ⟨hk, hr⟩⟩
  · exact .inl hk

theorem Late_any (s : Sen) (r g : Int) (w : World) :
    Calls Try.prog 49 #[s.v, kickV r g] w fun e w' => e = .returned (lateRV s r g) ∧ Below w.heap.size w w' := by
  by_cases hs : SenOK s
  · have HS := Lib.hid hs
    clear hs
    by_cases hk : KickOK r g
    · have HK := Lib.hid hk
      clear hk
      rcases hl : lateF s r g with _ | ⟨t, f, a⟩
      · have hv : lateRV s r g = .tuple #[.int .i64 0, .bool false] := by simp [lateRV, lateR, hl]
        have hV := Lib.hid (lateV_none hl)
        rw [hv]
        clear hv hl
        go_enter Try.func49, Try.ntmps49
        go_wp2_with (first
          | (go_at_call 40; refine (checkSensor_yes s _ HS.out).mono ?_; rintro e w1 ⟨rfl, hb⟩; obtain ⟨hc, hf⟩ := bcell hb; have hz0 : w.heap.size < w1.heap.size := (by have := hb.size; simp at this; omega); have hz1 : w.heap.size + 1 < w1.heap.size := (by have := hb.size; simp at this; omega))
          | (go_at_call 36; refine (checkKick_yes _ _ _ HK.out).mono ?_; rintro e w2 ⟨rfl, hb2⟩; obtain ⟨hc2, hf2⟩ := bcell hb2)
          | (go_at_call 79; refine (late_any s r g _ HS.out HK.out).mono ?_; rw [hV.out]; rintro e w3 ⟨rfl, hb3⟩))
        go_ret2
        refine ⟨rfl, ?_⟩
        repeat' (first | with_reducible exact Below.refl _ _ | with_reducible refine bstep ?_ (by with_reducible assumption) | with_reducible refine balloc ?_ | with_reducible refine bdrew ?_ | with_reducible refine bdrewN ?_ _ | with_reducible refine bset ?_ (by go_size))
      · have hv : lateRV s r g = .tuple #[.int .i64 t, .bool true] := by simp [lateRV, lateR, hl, HS.out, HK.out]
        have hV := Lib.hid (lateV_some hl)
        rw [hv]
        clear hv hl
        go_enter Try.func49, Try.ntmps49
        go_wp2_with (first
          | (go_at_call 40; refine (checkSensor_yes s _ HS.out).mono ?_; rintro e w1 ⟨rfl, hb⟩; obtain ⟨hc, hf⟩ := bcell hb; have hz0 : w.heap.size < w1.heap.size := (by have := hb.size; simp at this; omega); have hz1 : w.heap.size + 1 < w1.heap.size := (by have := hb.size; simp at this; omega))
          | (go_at_call 36; refine (checkKick_yes _ _ _ HK.out).mono ?_; rintro e w2 ⟨rfl, hb2⟩; obtain ⟨hc2, hf2⟩ := bcell hb2)
          | (go_at_call 79; refine (late_any s r g _ HS.out HK.out).mono ?_; rw [hV.out]; rintro e w3 ⟨rfl, hb3⟩))
        go_ret2
        refine ⟨rfl, ?_⟩
        repeat' (first | with_reducible exact Below.refl _ _ | with_reducible refine bstep ?_ (by with_reducible assumption) | with_reducible refine balloc ?_ | with_reducible refine bdrew ?_ | with_reducible refine bdrewN ?_ _ | with_reducible refine bset ?_ (by go_size))
    · have hv : lateRV s r g = .tuple #[.int .i64 0, .bool false] := by simp [lateRV, lateR, hk]
      rw [hv]
      clear hv
      have HK := Lib.hid hk
      clear hk
      go_enter Try.func49, Try.ntmps49
      go_wp2_with (first
        | (go_at_call 40; refine (checkSensor_yes s _ HS.out).mono ?_; rintro e w1 ⟨rfl, hb⟩; obtain ⟨hc, hf⟩ := bcell hb; have hz0 : w.heap.size < w1.heap.size := (by have := hb.size; simp at this; omega); have hz1 : w.heap.size + 1 < w1.heap.size := (by have := hb.size; simp at this; omega))
        | (go_at_call 36; refine (checkKick_no _ _ _ HK.out).mono ?_; rintro e w2 ⟨rfl, hb2⟩; obtain ⟨hc2, hf2⟩ := bcell hb2))
      go_ret2
      refine ⟨rfl, ?_⟩
      repeat' (first | with_reducible exact Below.refl _ _ | with_reducible refine bstep ?_ (by with_reducible assumption) | with_reducible refine balloc ?_ | with_reducible refine bdrew ?_ | with_reducible refine bdrewN ?_ _ | with_reducible refine bset ?_ (by go_size))
  · have hv : lateRV s r g = .tuple #[.int .i64 0, .bool false] := by simp [lateRV, lateR, hs]
    rw [hv]
    clear hv
    rcases notSen hs with hq | ⟨hq, hq2⟩
    · have HQ := Lib.hid hq
      clear hq hs
      go_enter Try.func49, Try.ntmps49
      go_wp2_with (go_at_call 40; refine (checkSensor_kind s _ HQ.out).mono ?_; rintro e w1 ⟨rfl, hb⟩; obtain ⟨hc, hf⟩ := bcell hb)
      go_ret2
      refine ⟨rfl, ?_⟩
      repeat' (first | with_reducible exact Below.refl _ _ | with_reducible refine bstep ?_ (by with_reducible assumption) | with_reducible refine balloc ?_ | with_reducible refine bdrew ?_ | with_reducible refine bdrewN ?_ _ | with_reducible refine bset ?_ (by go_size))
    · have HQ := Lib.hid hq
      have HQ2 := Lib.hid hq2
      clear hq hq2 hs
      go_enter Try.func49, Try.ntmps49
      go_wp2_with (go_at_call 40; refine (checkSensor_range s _ HQ.out HQ2.out).mono ?_; rintro e w1 ⟨rfl, hb⟩; obtain ⟨hc, hf⟩ := bcell hb)
      go_ret2
      refine ⟨rfl, ?_⟩
      repeat' (first | with_reducible exact Below.refl _ _ | with_reducible refine bstep ?_ (by with_reducible assumption) | with_reducible refine balloc ?_ | with_reducible refine bdrew ?_ | with_reducible refine bdrewN ?_ _ | with_reducible refine bset ?_ (by go_size))
end Go.Proofs.Ytlbgcjpkegpmlaa
/- What False computes: plain definitions, and that no number grows too great. -/
namespace Go.Proofs.Ytlbgcjpkegpmlaa

def sumTo (F : Nat → Int) : Nat → Int
  | 0 => 0
  | m + 1 => sumTo F m + F m
/-- How many of the errors x, x + 1, .. (so many) are high. -/
def highGo (st li : Int) : Nat → Int → Int → Int
  | 0, _, hi => hi
  | k + 1, x, hi => highGo st li k (x + 1) (if li ≤ x * st then hi + 1 else hi)
def highF (s : Sen) : Int := highGo s.st s.li (2 * s.no + 1).toNat (-s.no) 0
def stepRow (n h : Int) (ho : Nat) (R : Nat → Int) : Nat → Int := fun j => if j = 0 then sumTo (fun k => R k * (n - h)) ho else if j < ho then R (j - 1) * h else 0
def falseGo (n h : Int) (ho : Nat) : Nat → (Nat → Int) → Int → Int → Int × Int
  | 0, _, al, all => (al, all)
  | d + 1, R, al, all => falseGo n h ho d (stepRow n h ho R) (al * n + R (ho - 1) * h) (all * n)
def row0 : Nat → Int := fun j => if j = 0 then 1 else 0
def falseP (s : Sen) (draws : Nat) : Int × Int := falseGo (2 * s.no + 1) (highF s) s.ho.toNat draws row0 0 1
def falseF (s : Sen) (draws : Int) : Int × Int × Int :=
  if SenOK s then (if 1 ≤ draws ∧ draws ≤ 12 then ((falseP s draws.toNat).1, (falseP s draws.toNat).2, 0) else (0, 0, 2)) else (0, 0, checkSensor s)

theorem highGo_bd (st li : Int) (k : Nat) : ∀ x hi : Int, hi ≤ highGo st li k x hi ∧ highGo st li k x hi ≤ hi + k := by
  induction k with
  | zero => intro x hi; simp [highGo]
  | succ k ih =>
    intro x hi
    unfold highGo
    have h1 := ih (x + 1) (if li ≤ x * st then hi + 1 else hi)
    revert h1
    split <;> intro h1 <;> omega
theorem high_bd {s : Sen} (h : RangeOK s) : 0 ≤ highF s ∧ highF s ≤ 2 * s.no + 1 := by
  obtain ⟨h1, h2, h3, h4, h5, h6, -⟩ := h
  have := highGo_bd s.st s.li (2 * s.no + 1).toNat (-s.no) 0
  unfold highF
  omega

theorem sumTo_mul (F : Nat → Int) (c : Int) (m : Nat) : sumTo (fun k => F k * c) m = sumTo F m * c := by
  induction m with
  | zero => simp [sumTo]
  | succ m ih => simp [sumTo, ih, Int.add_mul]
theorem sumTo_nonneg {F : Nat → Int} (h : ∀ k, 0 ≤ F k) (m : Nat) : 0 ≤ sumTo F m := by
  induction m with
  | zero => simp [sumTo]
  | succ m ih => have := h m; simp [sumTo]; omega
theorem sumTo_mono {F : Nat → Int} (h : ∀ k, 0 ≤ F k) {m m' : Nat} (hm : m ≤ m') : sumTo F m ≤ sumTo F m' := by
  induction m' with
  | zero => obtain rfl : m = 0 := by omega
            exact Int.le_refl _
  | succ k ih =>
    by_cases e : m = k + 1
    · rw [e]; exact Int.le_refl _
    · have := ih (by omega)
      have h2 := h k
      simp [sumTo]; omega
theorem le_sumTo {F : Nat → Int} (h : ∀ k, 0 ≤ F k) {j m : Nat} (hj : j < m) : F j ≤ sumTo F m := by
  have h1 := sumTo_mono h (show j + 1 ≤ m from hj)
  have h2 := sumTo_nonneg h j
  simp [sumTo] at h1
  omega
theorem sumTo_congr {F G : Nat → Int} {m : Nat} (h : ∀ k, k < m → F k = G k) : sumTo F m = sumTo G m := by
  induction m with
  | zero => rfl
  | succ m ih => simp [sumTo, ih fun k hk => h k (by omega), h m (by omega)]
/-- the sum of a row that was moved by one -/
theorem sumTo_shift (R : Nat → Int) (a : Int) (h : Int) (m : Nat) : sumTo (fun j => if j = 0 then a else if j < m + 1 then R (j - 1) * h else 0) (m + 1) = a + sumTo R m * h := by
  have key : ∀ k, k ≤ m → sumTo (fun j => if j = 0 then a else if j < m + 1 then R (j - 1) * h else 0) (k + 1) = a + sumTo R k * h := by
    intro k
    induction k with
    | zero => intro _; simp [sumTo]
    | succ k ih =>
      intro hk
      rw [sumTo, ih (by omega)]
      simp [sumTo, Int.add_mul, show k < m from by omega]
      omega
  exact key m (Nat.le_refl _)

/-- What holds of the rows, of the alarms and of all, before each draw. -/
structure Rows9 (n h : Int) (ho i : Nat) (R : Nat → Int) (al all : Int) : Prop where
  pos : ∀ k, 0 ≤ R k
  al0 : 0 ≤ al
  one : 1 ≤ all
  sum : sumTo R ho + al = all
  pow : all ≤ n ^ i
theorem Rows9.start (n h : Int) (ho : Nat) (hh : 1 ≤ ho) : Rows9 n h ho 0 row0 0 1 := by
  refine ⟨fun k => by unfold row0; split <;> omega, by omega, by omega, ?_, by simp⟩
  have : ∀ m, sumTo row0 (m + 1) = 1 := by
    intro m
    induction m with
    | zero => simp [sumTo, row0]
    | succ m ih => rw [sumTo, ih]; simp [row0]
  obtain ⟨m, rfl⟩ : ∃ m, ho = m + 1 := ⟨ho - 1, by omega⟩
  rw [this]
  rfl
theorem Rows9.step {n h : Int} {ho i : Nat} {R : Nat → Int} {al all : Int} (hr : Rows9 n h ho i R al all) (hh : 1 ≤ ho) (h0 : 0 ≤ h) (h1 : h ≤ n) (hn : 1 ≤ n) :
    Rows9 n h ho (i + 1) (stepRow n h ho R) (al * n + R (ho - 1) * h) (all * n) := by
  obtain ⟨m, rfl⟩ : ∃ m, ho = m + 1 := ⟨ho - 1, by omega⟩
  refine ⟨fun k => ?_, ?_, ?_, ?_, ?_⟩
  · unfold stepRow
    split
    · rw [sumTo_mul]; exact Int.mul_nonneg (sumTo_nonneg hr.pos _) (by omega)
    · split
      · exact Int.mul_nonneg (hr.pos _) h0
      · omega
  · have h2 := Int.mul_nonneg hr.al0 (show 0 ≤ n from by omega)
    have h3 := Int.mul_nonneg (hr.pos (m + 1 - 1)) h0
    omega
  · exact mul_one_le hr.one hn
  · have hs : stepRow n h (m + 1) R = fun j => if j = 0 then sumTo (fun k => R k * (n - h)) (m + 1) else if j < m + 1 then R (j - 1) * h else 0 := rfl
    rw [hs, sumTo_shift, sumTo_mul]
    have e := hr.sum
    rw [← e]
    simp only [sumTo, Nat.add_sub_cancel, Int.add_mul, Int.mul_sub]
    omega
  · rw [Int.pow_succ]
    exact Int.mul_le_mul_of_nonneg_right hr.pow (by omega)
theorem pow_mono {a b : Int} (h : 0 ≤ a) (hab : a ≤ b) (i : Nat) : a ^ i ≤ b ^ i ∧ 0 ≤ a ^ i := by
  induction i with
  | zero => simp
  | succ i ih =>
    rw [Int.pow_succ, Int.pow_succ]
    exact ⟨Int.mul_le_mul ih.1 hab h (Int.le_trans ih.2 ih.1), Int.mul_nonneg ih.2 h⟩
theorem pow31 (i : Nat) (h : i ≤ 11) : (31 : Int) ^ i ≤ 25408476896404831 := by
  have : i = 0 ∨ i = 1 ∨ i = 2 ∨ i = 3 ∨ i = 4 ∨ i = 5 ∨ i = 6 ∨ i = 7 ∨ i = 8 ∨ i = 9 ∨ i = 10 ∨ i = 11 := by omega
  rcases this with rfl | rfl | rfl | rfl | rfl | rfl | rfl | rfl | rfl | rfl | rfl | rfl <;> decide
theorem Rows9.small {n h : Int} {ho i : Nat} {R : Nat → Int} {al all : Int} (hr : Rows9 n h ho i R al all) (hn : 0 ≤ n) (h31 : n ≤ 31) (hi : i ≤ 11) :
    all ≤ 25408476896404831 ∧ al ≤ 25408476896404831 ∧ sumTo R ho ≤ 25408476896404831 ∧ ∀ k, k < ho → R k ≤ 25408476896404831 := by
  have h1 := pow31 i hi
  have h2 := (pow_mono hn h31 i).1
  have h3 := hr.pow
  have h4 := hr.sum
  have h5 := hr.al0
  have h6 := sumTo_nonneg hr.pos ho
  refine ⟨by omega, by omega, by omega, fun k hk => ?_⟩
  have := le_sumTo hr.pos hk
  omega
/-- A row in the making: so many of the old one's cells are through. -/
def partRow (n h : Int) (R : Nat → Int) (m : Nat) : Nat → Int := fun j => if j = 0 then sumTo (fun k => R k * (n - h)) m else if j < m + 1 then R (j - 1) * h else 0
theorem partRow_zero (n h : Int) (R : Nat → Int) (j : Nat) : partRow n h R 0 j = 0 := by
  unfold partRow
  split
  · rfl
  · split
    · omega
    · rfl
theorem partRow_succ (n h : Int) (R : Nat → Int) (m j : Nat) :
    (if j = m + 1 then R m * h else if j = 0 then sumTo (fun k => R k * (n - h)) m + R m * (n - h) else partRow n h R m j) = partRow n h R (m + 1) j := by
  unfold partRow
  by_cases h0 : j = 0
  · subst h0; simp [sumTo]
  · by_cases h1 : j = m + 1
    · subst h1; simp
    · by_cases h2 : j < m + 1
      · simp [h0, h1, h2, show j < m + 1 + 1 from by omega]
      · simp [h0, h1, h2, show ¬ j < m + 1 + 1 from by omega]
theorem partRow_full (n h : Int) (R : Nat → Int) (ho j : Nat) (hj : j < ho) : partRow n h R ho j = stepRow n h ho R j := by
  unfold partRow stepRow
  by_cases h0 : j = 0
  · simp [h0]
  · simp [h0, hj, show j < ho + 1 from by omega]
theorem partRow_step (n h : Int) (R : Nat → Int) (ho j : Nat) (hh : 1 ≤ ho) : (if j = ho then 0 else partRow n h R ho j) = stepRow n h ho R j := by
  unfold partRow stepRow
  by_cases h0 : j = 0
  · subst h0; simp [show ¬ 0 = ho from by omega]
  · by_cases h1 : j = ho
    · subst h1; simp [h0]
    · by_cases h2 : j < ho
      · simp [h0, h1, h2, show j < ho + 1 from by omega]
      · simp [h0, h1, h2, show ¬ j < ho + 1 from by omega]
end Go.Proofs.Ytlbgcjpkegpmlaa
